/- The walk of slices.DeleteFunc over numbers, in a row of its own: what is left stands at the row's head. -/
import Derived.Test.YtgbmebnfbhdpiaaRefB
import Derived.Lib.SliceRun
set_option linter.unusedSimpArgs false
set_option linter.unusedVariables false
namespace Go.Proofs.Ytgbmebnfbhdpiaa
open Go.RowKit Go.Proofs.YtgbmebnfbhdpiaaW.PrintWords Go.Proofs.YtgbmebnfbhdpiaaW.PrintLast

/-- All but one. -/
def del (a : Int) (l : List Int) : List Int := l.filter fun x => x != a
theorem del_len (a : Int) (l : List Int) : (del a l).length ≤ l.length := List.length_filter_le _ _
theorem mem_del {a x : Int} {l : List Int} : x ∈ del a l ↔ x ∈ l ∧ x ≠ a := by simp [del]
theorem del_snoc (a x : Int) (l : List Int) : del a (l ++ [x]) = if x = a then del a l else del a l ++ [x] := by
  unfold del
  rw [List.filter_append]
  by_cases c : x = a
  · simp [c]
  · simp [c]
theorem del_all {a : Int} {l : List Int} (h : ∀ x ∈ l, x ≠ a) : del a l = l := by
  unfold del
  rw [List.filter_eq_self]
  intro x hx; simpa using h x hx
theorem take_succ {l : List Int} {j : Nat} (h : j < l.length) : l.take (j + 1) = l.take j ++ [l.getD j 0] := by
  rw [List.take_succ_eq_append_getElem h]
  simp [List.getD_eq_getElem?_getD, List.getElem?_eq_getElem h]
theorem idx_cases (p : Int → Bool) : ∀ (xs : List Int) (i : Int), (idx p xs i = -1 ∧ ∀ x ∈ xs, p x = false) ∨ ∃ k : Nat, k < xs.length ∧ idx p xs i = i + k ∧ p (xs.getD k 0) = true ∧ ∀ j, j < k → p (xs.getD j 0) = false
  | [], i => .inl ⟨rfl, fun x hx => by simp at hx⟩
  | x :: xs, i => by
    unfold idx
    by_cases h : p x = true
    · right; refine ⟨0, by simp, by rw [if_pos h]; simp, by simpa using h, fun j hj => absurd hj (Nat.not_lt_zero _)⟩
    · rw [if_neg h]
      rw [Bool.not_eq_true] at h
      rcases idx_cases p xs (i + 1) with ⟨e, hh⟩ | ⟨k, h1, h2, h3, h4⟩
      · left; exact ⟨e, fun y hy => by rcases List.mem_cons.1 hy with c | c; exact c ▸ h; exact hh y c⟩
      · right
        refine ⟨k + 1, by simpa using h1, by rw [h2]; omega, by simpa using h3, fun j hj => ?_⟩
        cases j with
        | zero => simpa using h
        | succ j => simpa using h4 j (by omega)
/-- Cells of a row are turned behind its head. -/
theorem R_setCells (g n c base : Nat) (ok : Nat → Prop) : ∀ (m o : Nat) (w : World) (L : List Int), Kd.R (Kd.int .i64) 3 w base ok (.slice (some ⟨g, 0, none⟩) n c) L →
    ∃ L', (∀ k, k ≤ o → L'.take k = L.take k) ∧ Kd.R (Kd.int .i64) 3 (w.setCells g o (List.replicate m (.int .i64 0))) base ok (.slice (some ⟨g, 0, none⟩) n c) L' ∧ w.grownBy (w.setCells g o (List.replicate m (.int .i64 0))) (some g)
  | 0, o, w, L, h => ⟨L, fun _ _ => rfl, h, World.grownBy.refl _ _⟩
  | m + 1, o, w, L, h => by
    have h1 := Kd.R_putg h (o : Int) (0 : Int)
    rw [Int.toNat_natCast] at h1
    obtain ⟨L', e1, e2, e3⟩ := R_setCells g n c base ok m (o + 1) _ _ h1.1
    refine ⟨L', fun k hk => ?_, e2, h1.2.trans e3⟩
    rw [e1 k (by omega), List.take_set_of_le (by omega)]

set_option maxHeartbeats 400000 in
theorem f33_any (x a : Int) (p : Addr) (w : World) (hp : w.cell? p = some (.int .i64 a)) :
    Calls Try.prog 33 #[.int .i64 x, .pointer (some p)] w fun e w' => e = .returned (.bool (x == a)) ∧ w' = w := by
  go_enter Try.func33, Try.ntmps33
  go_wp2
  go_ret
  exact ⟨rfl, rfl⟩
theorem cf33 (args : Array Value) (w : World) : (callFunc 33 args).run Try.prog w = .ok (.enter 33 args) w := callFunc_some Try.func33 (by kernel_rfl) (by kernel_rfl) args w
theorem run_clear23 (w : World) (ty : TypeId) (g o n c : Nat) (hn : 0 < n) (hc : ∀ j, j < n → (w.cell? ⟨g, o + j, none⟩).isSome = true) (hf : ∀ j, j < n → w.frozen? ⟨g, o + j, none⟩ = false) :
    (Builtin.clear_ #[23] ty #[.slice (some ⟨g, o, none⟩) n c]).run Try.prog w = .ok (.tuple #[]) (w.setCells g o (List.replicate n (.int .i64 0))) :=
  Go.Lib.run_clear_slice w 23 3 ty (.int .i64 0) Try.underlying23 (fun w => by kernel_rfl) rfl rfl g o n c hn hc hf

set_option maxRecDepth 100000 in
set_option maxHeartbeats 2000000 in
theorem f34_any (A : Option Addr) (n c : Nat) (xs : List Int) (pb : Nat) (a : Int) (base : Nat) (ok : Nat → Prop) (w : World) (hx : Kd.R (Kd.int .i64) 3 w base ok (.slice A n c) xs) (hn : xs.length = n) (hp : w.cell? ⟨pb, 0, none⟩ = some (.int .i64 a)) (hpb : pb < base) (hl : n ≤ 65536) :
    Calls Try.prog 34 #[.slice A n c, .func (.func 33) #[] #[.pointer (some ⟨pb, 0, none⟩)]] w fun e w' => e = .returned (.slice A (del a xs).length c) ∧ Kd.R (Kd.int .i64) 3 w' base ok (.slice A (del a xs).length c) (del a xs) ∧ w.grownBy w' (Value.slice A n c).ownBlock := by
  subst hn
  have HX := Aside0.mk hx
  have hcl := hx
  rcases idx_cases (fun x => x == a) xs 0 with ⟨e1, e2⟩ | ⟨k, k1, k2, k3, k4⟩
  · have HE : Aside0 (del a xs = xs) := ⟨del_all (fun x h => by simpa using e2 x h)⟩
    have hh := f57_any 33 #[.pointer (some ⟨pb, 0, none⟩)] (fun x => x == a) A c xs w (Kd.R_reads' hx).2.2 cf33 (fun x => f33_any x a _ w hp)
    rw [e1] at hh
    have HH := Aside0.mk hh
    clear hh e1 e2 hcl hx
    go_enter Try.func34, Try.ntmps34
    go_wp2_with (go_at_call 57; refine HH.out.mono ?_; rintro e w' ⟨rfl, rfl⟩)
    go_ret
    rw [HE.out]
    exact ⟨rfl, HX.out, World.grownBy.refl _ _⟩
  have hcx : xs.length ≤ c := by
    obtain ⟨A', c', e, h, _⟩ := Kd.R_reads hx
    injection e with e1 e2 e3
    omega
  obtain ⟨g, cap, hvs, hbg, hgl, cells, hgc⟩ := Kd.R_form hx (by omega)
  have hv1 := (Value.slice.inj hvs).1
  subst hv1
  have hh := f57_any 33 #[.pointer (some ⟨pb, 0, none⟩)] (fun x => x == a) (some ⟨g, 0, none⟩) c xs w (Kd.R_reads' hx).2.2 cf33 (fun x => f33_any x a _ w hp)
  rw [k2, Int.zero_add] at hh
  have HH := Aside0.mk hh
  have HP := Aside0.mk hp
  have hxa : xs.getD k 0 = a := by simpa using k3
  have HI0 : Aside0 (xs.take k = del a (xs.take (k + 1)) ∧ xs.drop (k + 1) = xs.drop (k + 1)) := ⟨by
    rw [take_succ k1, del_snoc, if_pos hxa]
    refine (del_all fun x hx => ?_).symm
    obtain ⟨j, hj, rfl⟩ := List.getElem_of_mem hx
    rw [List.length_take] at hj
    have := k4 j (by omega)
    rw [List.getD_eq_getElem?_getD, List.getElem?_eq_getElem (by omega)] at this
    simpa using this, rfl⟩
  have hne : ((k : Int) == -1) = false := beq_eq_false_iff_ne.2 (by omega)
  have hgp : g ≠ pb := by omega
  have hcf := cf33
  clear hh hvs hgc cells hgl hbg cap hx hcl hp k2 k3 k4 hxa
  go_enter Try.func34, Try.ntmps34
  go_wp2_with (go_at_call 57; refine HH.out.mono ?_; rintro e w' ⟨rfl, rfl⟩)
  obtain ⟨wo, hwo⟩ : ∃ wo : World, wo = w' := ⟨_, rfl⟩
  subst hwo
  go_loopw [5, 6] (fun v5 v6 wr => ∃ (i j : Int) (L : List Int), v5 = .int .i64 i ∧ v6 = .int .i64 j ∧ 0 ≤ i ∧ i < j ∧ j ≤ xs.length ∧ Aside0 (L.take i.toNat = del a (xs.take j.toNat) ∧ L.drop j.toNat = xs.drop j.toNat) ∧ Aside0 (Kd.R (Kd.int .i64) 3 wr base ok (.slice (some ⟨g, 0, none⟩) xs.length c) L) ∧ Aside0 (wo.grownBy wr (some g))) (fun _ v6 _ => xs.length - (intOf v6).toNat)
  case atStart => exact ⟨k, k + 1, xs, rfl, rfl, by omega, by omega, by omega, ⟨by rw [show ((k : Int) + 1).toNat = k + 1 from by omega, Int.toNat_natCast]; exact ⟨HI0.out.1, rfl⟩⟩, HX, ⟨World.grownBy.refl _ _⟩⟩
  case round =>
    obtain ⟨i, j, L, rfl, rfl, hi0, hij, hj1, HI, HR, HG⟩ := hrel
    have hLl : L.length = xs.length := (Kd.R_reads' HR.out).1.symm
    by_cases hjl : j < xs.length
    case pos =>
      obtain ⟨hjc, _⟩ := R_celln 0 HR.out j (by omega) hjl
      obtain ⟨hic, hif⟩ := R_celln 0 HR.out i hi0 (by omega)
      have hpc : wr.cell? ⟨pb, 0, none⟩ = some (.int .i64 a) := HG.out.cell HP.out (by simp; exact fun e => hgp e.symm)
      have hx : rdOf 0 L j = xs.getD j.toNat 0 := by
        unfold rdOf
        have := congrArg (fun l => l[0]?) HI.out.2
        simp only [List.getElem?_drop, Nat.add_zero] at this
        rw [List.getD_eq_getElem?_getD, List.getD_eq_getElem?_getD, this]
      have hts := take_succ (l := xs) (j := j.toNat) (by omega)
      obtain ⟨x, hxe⟩ : ∃ x, x = rdOf 0 L j := ⟨_, rfl⟩
      rw [← hxe] at hjc hx
      rw [← hx] at hts
      have HTS := Aside0.mk hts
      clear hxe hx hts
      have hdrop : ∀ M : List Int, M.length = L.length → (∀ t, j.toNat < t → M[t]? = L[t]?) → M.drop (j + 1).toNat = xs.drop (j + 1).toNat := fun M hM h => by
        have h2 := congrArg (fun l => l.drop 1) HI.out.2
        simp only [List.drop_drop] at h2
        rw [show (j + 1).toNat = j.toNat + 1 from by omega, ← h2]
        apply List.ext_getElem?
        intro t
        rw [List.getElem?_drop, List.getElem?_drop]
        exact h _ (by omega)
      have HDROP := Aside0.mk hdrop
      have HLL := Aside0.mk hLl
      clear hdrop hLl
      go_wp2_with fail
      refine (f33_any x a _ _ hpc).mono ?_
      rintro e w' ⟨rfl, rfl⟩
      by_cases hxa : x = a
      · have hb : (x == a) = true := by simp [hxa]
        rw [hb]
        have HXA := Aside0.mk hxa
        clear hxa hb
        go_wp2_with fail
        go_roundw
        case rel => exact ⟨i, j + 1, L, rfl, rfl, hi0, by omega, by omega, ⟨by rw [show (j + 1).toNat = j.toNat + 1 from by omega, HTS.out, del_snoc, if_pos HXA.out]; exact HI.out.1, HDROP.out L rfl (fun _ _ => rfl)⟩, HR, HG⟩
        case measure => simp [intOf]; omega
      · have hb : (x == a) = false := by simp [hxa]
        rw [hb]
        have HXA := Aside0.mk hxa
        have HR2 := Aside0.mk (Kd.R_putg HR.out i x)
        clear hxa hb
        go_wp2_with fail
        go_roundw
        case rel =>
          refine ⟨i + 1, j + 1, L.set i.toNat x, rfl, rfl, by omega, by omega, by omega, ⟨?_, HDROP.out _ (by simp) (fun t ht => by rw [List.getElem?_set, if_neg (by omega)])⟩, ⟨HR2.out.1⟩, ⟨HG.out.trans HR2.out.2⟩⟩
          rw [show (j + 1).toNat = j.toNat + 1 from by omega, HTS.out, del_snoc, if_neg HXA.out, ← HI.out.1, show (i + 1).toNat = i.toNat + 1 from by omega]
          rw [List.take_succ_eq_append_getElem (by rw [List.length_set]; have := HLL.out; omega), List.take_set_of_le (Nat.le_refl _)]
          simp
        case measure => simp [intOf]; omega
    case neg =>
      have hje : j.toNat = xs.length := by omega
      have hte : L.take i.toNat = del a xs := by rw [HI.out.1, hje, List.take_length]
      have hil : i.toNat = (del a xs).length := by rw [← hte, List.length_take]; omega
      have hclr := fun ty => run_clear23 wr ty g i.toNat (xs.length - i.toNat) (c - i.toNat) (by omega)
        (fun t ht => by
          have := (R_celln 0 HR.out ((i.toNat + t : Nat) : Int) (by omega) (by omega)).1
          rw [Int.toNat_natCast] at this
          rw [this]; rfl)
        (fun t ht => by
          have := (R_celln 0 HR.out ((i.toNat + t : Nat) : Int) (by omega) (by omega)).2
          rw [Int.toNat_natCast] at this
          exact this)
      obtain ⟨L', e1, e2, e3⟩ := R_setCells g xs.length c base ok (xs.length - i.toNat) i.toNat wr L HR.out
      have e4 := Kd.R_take e2 (m := i.toNat) (by rw [← (Kd.R_reads' e2).1]; omega)
      rw [e1 _ (Nat.le_refl _), hte] at e4
      have HF := Aside0.mk (And.intro hil (And.intro e4 (HG.out.trans e3)))
      clear e1 e2 e3 e4 hte hje hil
      have hic : i ≤ (c : Int) := by omega
      go_wp2_with fail
      go_ret
      refine ⟨by rw [← HF.out.1]; first | rfl | simp, by rw [← HF.out.1]; exact HF.out.2.1, HF.out.2.2⟩
end Go.Proofs.Ytgbmebnfbhdpiaa
