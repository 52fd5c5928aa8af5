/- The row of the law DomHeap, out of its walk: for every graph and every number it answers true, and the graph reads as it did. No condition. -/
import Derived.Test.YtgbmebnfbhdpiaaRefB
import Derived.Lib.SliceRun
import Derived.Test.YtgbmebnfbhdpiaaCloneG
import Derived.Test.YtgbmebnfbhdpiaaRetM
import Derived.Test.YtgbmebnfbhdpiaaGrA
import Derived.Test.YtgbmebnfbhdpiaaWTab
import Derived.StillTailTactics
import Derived.Test.YtgbmebnfbhdpiaaRefC
import Derived.Test.YtgbmebnfbhdpiaaEqB
import Derived.Test.YtgbmebnfbhdpiaaOfX
import Derived.Test.YtgbmebnfbhdpiaaBegunF
import Derived.Test.YtgbmebnfbhdpiaaLawOf
set_option linter.unusedSimpArgs false
set_option linter.unusedVariables false
namespace Go.Proofs.Ytgbmebnfbhdpiaa
open Go.RowKit Go.Proofs.YtgbmebnfbhdpiaaW.PrintWords Go.Proofs.YtgbmebnfbhdpiaaW.PrintLast

/-- All but one. -/
def del (a : Int) (l : List Int) : List Int := l.filter fun x => x != a
theorem del_len (a : Int) (l : List Int) : (del a l).length ≤ l.length := List.length_filter_le _ _
theorem mem_del {a x : Int} {l : List Int} : x ∈ del a l ↔ x ∈ l ∧ x ≠ a := by simp [del]
theorem del_snoc (a x : Int) (l : List Int) : del a (l ++ [x]) = if x = a then del a l else del a l ++ [x] := by
  unfold del
  rw [List.filter_append]
  by_cases c : x = a
  · simp [c]
  · simp [c]
theorem del_all {a : Int} {l : List Int} (h : ∀ x ∈ l, x ≠ a) : del a l = l := by
  unfold del
  rw [List.filter_eq_self]
  intro x hx; simpa using h x hx
theorem take_succ {l : List Int} {j : Nat} (h : j < l.length) : l.take (j + 1) = l.take j ++ [l.getD j 0] := by
  rw [List.take_succ_eq_append_getElem h]
  simp [List.getD_eq_getElem?_getD, List.getElem?_eq_getElem h]
theorem idx_cases (p : Int → Bool) : ∀ (xs : List Int) (i : Int), (idx p xs i = -1 ∧ ∀ x ∈ xs, p x = false) ∨ ∃ k : Nat, k < xs.length ∧ idx p xs i = i + k ∧ p (xs.getD k 0) = true ∧ ∀ j, j < k → p (xs.getD j 0) = false
  | [], i => .inl ⟨rfl, fun x hx => by simp at hx⟩
  | x :: xs, i => by
    unfold idx
    by_cases h : p x = true
    · right; refine ⟨0, by simp, by rw [if_pos h]; simp, by simpa using h, fun j hj => absurd hj (Nat.not_lt_zero _)⟩
    · rw [if_neg h]
      rw [Bool.not_eq_true] at h
      rcases idx_cases p xs (i + 1) with ⟨e, hh⟩ | ⟨k, h1, h2, h3, h4⟩
      · left; exact ⟨e, fun y hy => by rcases List.mem_cons.1 hy with c | c; exact c ▸ h; exact hh y c⟩
      · right
        refine ⟨k + 1, by simpa using h1, by rw [h2]; omega, by simpa using h3, fun j hj => ?_⟩
        cases j with
        | zero => simpa using h
        | succ j => simpa using h4 j (by omega)
/-- Cells of a row are turned behind its head. -/
theorem R_setCells (g n c base : Nat) (ok : Nat → Prop) : ∀ (m o : Nat) (w : World) (L : List Int), Kd.R (Kd.int .i64) 3 w base ok (.slice (some ⟨g, 0, none⟩) n c) L →
    ∃ L', (∀ k, k ≤ o → L'.take k = L.take k) ∧ Kd.R (Kd.int .i64) 3 (w.setCells g o (List.replicate m (.int .i64 0))) base ok (.slice (some ⟨g, 0, none⟩) n c) L' ∧ w.grownBy (w.setCells g o (List.replicate m (.int .i64 0))) (some g)
  | 0, o, w, L, h => ⟨L, fun _ _ => rfl, h, World.grownBy.refl _ _⟩
  | m + 1, o, w, L, h => by
    have h1 := Kd.R_putg h (o : Int) (0 : Int)
    rw [Int.toNat_natCast] at h1
    obtain ⟨L', e1, e2, e3⟩ := R_setCells g n c base ok m (o + 1) _ _ h1.1
    refine ⟨L', fun k hk => ?_, e2, h1.2.trans e3⟩
    rw [e1 k (by omega), List.take_set_of_le (by omega)]

set_option maxHeartbeats 400000 in
theorem f33_any (x a : Int) (p : Addr) (w : World) (hp : w.cell? p = some (.int .i64 a)) :
    Calls Try.prog 33 #[.int .i64 x, .pointer (some p)] w fun e w' => e = .returned (.bool (x == a)) ∧ w' = w := by
  go_enter Try.func33, Try.ntmps33
  go_wp2
  go_ret
  exact ⟨rfl, rfl⟩
theorem cf33 (args : Array Value) (w : World) : (callFunc 33 args).run Try.prog w = .ok (.enter 33 args) w := callFunc_some Try.func33 (by kernel_rfl) (by kernel_rfl) args w
theorem run_clear23 (w : World) (ty : TypeId) (g o n c : Nat) (hn : 0 < n) (hc : ∀ j, j < n → (w.cell? ⟨g, o + j, none⟩).isSome = true) (hf : ∀ j, j < n → w.frozen? ⟨g, o + j, none⟩ = false) :
    (Builtin.clear_ #[23] ty #[.slice (some ⟨g, o, none⟩) n c]).run Try.prog w = .ok (.tuple #[]) (w.setCells g o (List.replicate n (.int .i64 0))) :=
  Go.Lib.run_clear_slice w 23 3 ty (.int .i64 0) Try.underlying23 (fun w => by kernel_rfl) rfl rfl g o n c hn hc hf

set_option maxRecDepth 100000 in
set_option maxHeartbeats 2000000 in
theorem f34_any (A : Option Addr) (n c : Nat) (xs : List Int) (pb : Nat) (a : Int) (base : Nat) (ok : Nat → Prop) (w : World) (hx : Kd.R (Kd.int .i64) 3 w base ok (.slice A n c) xs) (hn : xs.length = n) (hp : w.cell? ⟨pb, 0, none⟩ = some (.int .i64 a)) (hpb : pb < base) (hl : n ≤ 65536) :
    Calls Try.prog 34 #[.slice A n c, .func (.func 33) #[] #[.pointer (some ⟨pb, 0, none⟩)]] w fun e w' => e = .returned (.slice A (del a xs).length c) ∧ Kd.R (Kd.int .i64) 3 w' base ok (.slice A (del a xs).length c) (del a xs) ∧ w.grownBy w' (Value.slice A n c).ownBlock := by
  subst hn
  have HX := Aside0.mk hx
  have hcl := hx
  rcases idx_cases (fun x => x == a) xs 0 with ⟨e1, e2⟩ | ⟨k, k1, k2, k3, k4⟩
  · have HE : Aside0 (del a xs = xs) := ⟨del_all (fun x h => by simpa using e2 x h)⟩
    have hh := f57_any 33 #[.pointer (some ⟨pb, 0, none⟩)] (fun x => x == a) A c xs w (Kd.R_reads' hx).2.2 cf33 (fun x => f33_any x a _ w hp)
    rw [e1] at hh
    have HH := Aside0.mk hh
    clear hh e1 e2 hcl hx
    go_enter Try.func34, Try.ntmps34
    go_wp2_with (go_at_call 57; refine HH.out.mono ?_; rintro e w' ⟨rfl, rfl⟩)
    go_ret
    rw [HE.out]
    exact ⟨rfl, HX.out, World.grownBy.refl _ _⟩
  have hcx : xs.length ≤ c := by
    obtain ⟨A', c', e, h, _⟩ := Kd.R_reads hx
    injection e with e1 e2 e3
    omega
  obtain ⟨g, cap, hvs, hbg, hgl, cells, hgc⟩ := Kd.R_form hx (by omega)
  have hv1 := (Value.slice.inj hvs).1
  subst hv1
  have hh := f57_any 33 #[.pointer (some ⟨pb, 0, none⟩)] (fun x => x == a) (some ⟨g, 0, none⟩) c xs w (Kd.R_reads' hx).2.2 cf33 (fun x => f33_any x a _ w hp)
  rw [k2, Int.zero_add] at hh
  have HH := Aside0.mk hh
  have HP := Aside0.mk hp
  have hxa : xs.getD k 0 = a := by simpa using k3
  have HI0 : Aside0 (xs.take k = del a (xs.take (k + 1)) ∧ xs.drop (k + 1) = xs.drop (k + 1)) := ⟨by
    rw [take_succ k1, del_snoc, if_pos hxa]
    refine (del_all fun x hx => ?_).symm
    obtain ⟨j, hj, rfl⟩ := List.getElem_of_mem hx
    rw [List.length_take] at hj
    have := k4 j (by omega)
    rw [List.getD_eq_getElem?_getD, List.getElem?_eq_getElem (by omega)] at this
    simpa using this, rfl⟩
  have hne : ((k : Int) == -1) = false := beq_eq_false_iff_ne.2 (by omega)
  have hgp : g ≠ pb := by omega
  have hcf := cf33
  clear hh hvs hgc cells hgl hbg cap hx hcl hp k2 k3 k4 hxa
  go_enter Try.func34, Try.ntmps34
  go_wp2_with (go_at_call 57; refine HH.out.mono ?_; rintro e w' ⟨rfl, rfl⟩)
  obtain ⟨wo, hwo⟩ : ∃ wo : World, wo = w' := ⟨_, rfl⟩
  subst hwo
  go_loopw [5, 6] (fun v5 v6 wr => ∃ (i j : Int) (L : List Int), v5 = .int .i64 i ∧ v6 = .int .i64 j ∧ 0 ≤ i ∧ i < j ∧ j ≤ xs.length ∧ Aside0 (L.take i.toNat = del a (xs.take j.toNat) ∧ L.drop j.toNat = xs.drop j.toNat) ∧ Aside0 (Kd.R (Kd.int .i64) 3 wr base ok (.slice (some ⟨g, 0, none⟩) xs.length c) L) ∧ Aside0 (wo.grownBy wr (some g))) (fun _ v6 _ => xs.length - (intOf v6).toNat)
  case atStart => exact ⟨k, k + 1, xs, rfl, rfl, by omega, by omega, by omega, ⟨by rw [show ((k : Int) + 1).toNat = k + 1 from by omega, Int.toNat_natCast]; exact ⟨HI0.out.1, rfl⟩⟩, HX, ⟨World.grownBy.refl _ _⟩⟩
  case round =>
    obtain ⟨i, j, L, rfl, rfl, hi0, hij, hj1, HI, HR, HG⟩ := hrel
    have hLl : L.length = xs.length := (Kd.R_reads' HR.out).1.symm
    by_cases hjl : j < xs.length
    case pos =>
      obtain ⟨hjc, _⟩ := R_celln 0 HR.out j (by omega) hjl
      obtain ⟨hic, hif⟩ := R_celln 0 HR.out i hi0 (by omega)
      have hpc : wr.cell? ⟨pb, 0, none⟩ = some (.int .i64 a) := HG.out.cell HP.out (by simp; exact fun e => hgp e.symm)
      have hx : rdOf 0 L j = xs.getD j.toNat 0 := by
        unfold rdOf
        have := congrArg (fun l => l[0]?) HI.out.2
        simp only [List.getElem?_drop, Nat.add_zero] at this
        rw [List.getD_eq_getElem?_getD, List.getD_eq_getElem?_getD, this]
      have hts := take_succ (l := xs) (j := j.toNat) (by omega)
      obtain ⟨x, hxe⟩ : ∃ x, x = rdOf 0 L j := ⟨_, rfl⟩
      rw [← hxe] at hjc hx
      rw [← hx] at hts
      have HTS := Aside0.mk hts
      clear hxe hx hts
      have hdrop : ∀ M : List Int, M.length = L.length → (∀ t, j.toNat < t → M[t]? = L[t]?) → M.drop (j + 1).toNat = xs.drop (j + 1).toNat := fun M hM h => by
        have h2 := congrArg (fun l => l.drop 1) HI.out.2
        simp only [List.drop_drop] at h2
        rw [show (j + 1).toNat = j.toNat + 1 from by omega, ← h2]
        apply List.ext_getElem?
        intro t
        rw [List.getElem?_drop, List.getElem?_drop]
        exact h _ (by omega)
      have HDROP := Aside0.mk hdrop
      have HLL := Aside0.mk hLl
      clear hdrop hLl
      go_wp2_with fail
      refine (f33_any x a _ _ hpc).mono ?_
      rintro e w' ⟨rfl, rfl⟩
      by_cases hxa : x = a
      · have hb : (x == a) = true := by simp [hxa]
        rw [hb]
        have HXA := Aside0.mk hxa
        clear hxa hb
        go_wp2_with fail
        go_roundw
        case rel => exact ⟨i, j + 1, L, rfl, rfl, hi0, by omega, by omega, ⟨by rw [show (j + 1).toNat = j.toNat + 1 from by omega, HTS.out, del_snoc, if_pos HXA.out]; exact HI.out.1, HDROP.out L rfl (fun _ _ => rfl)⟩, HR, HG⟩
        case measure => simp [intOf]; omega
      · have hb : (x == a) = false := by simp [hxa]
        rw [hb]
        have HXA := Aside0.mk hxa
        have HR2 := Aside0.mk (Kd.R_putg HR.out i x)
        clear hxa hb
        go_wp2_with fail
        go_roundw
        case rel =>
          refine ⟨i + 1, j + 1, L.set i.toNat x, rfl, rfl, by omega, by omega, by omega, ⟨?_, HDROP.out _ (by simp) (fun t ht => by rw [List.getElem?_set, if_neg (by omega)])⟩, ⟨HR2.out.1⟩, ⟨HG.out.trans HR2.out.2⟩⟩
          rw [show (j + 1).toNat = j.toNat + 1 from by omega, HTS.out, del_snoc, if_neg HXA.out, ← HI.out.1, show (i + 1).toNat = i.toNat + 1 from by omega]
          rw [List.take_succ_eq_append_getElem (by rw [List.length_set]; have := HLL.out; omega), List.take_set_of_le (Nat.le_refl _)]
          simp
        case measure => simp [intOf]; omega
    case neg =>
      have hje : j.toNat = xs.length := by omega
      have hte : L.take i.toNat = del a xs := by rw [HI.out.1, hje, List.take_length]
      have hil : i.toNat = (del a xs).length := by rw [← hte, List.length_take]; omega
      have hclr := fun ty => run_clear23 wr ty g i.toNat (xs.length - i.toNat) (c - i.toNat) (by omega)
        (fun t ht => by
          have := (R_celln 0 HR.out ((i.toNat + t : Nat) : Int) (by omega) (by omega)).1
          rw [Int.toNat_natCast] at this
          rw [this]; rfl)
        (fun t ht => by
          have := (R_celln 0 HR.out ((i.toNat + t : Nat) : Int) (by omega) (by omega)).2
          rw [Int.toNat_natCast] at this
          exact this)
      obtain ⟨L', e1, e2, e3⟩ := R_setCells g xs.length c base ok (xs.length - i.toNat) i.toNat wr L HR.out
      have e4 := Kd.R_take e2 (m := i.toNat) (by rw [← (Kd.R_reads' e2).1]; omega)
      rw [e1 _ (Nat.le_refl _), hte] at e4
      have HF := Aside0.mk (And.intro hil (And.intro e4 (HG.out.trans e3)))
      clear e1 e2 e3 e4 hte hje hil
      have hic : i ≤ (c : Int) := by omega
      go_wp2_with fail
      go_ret
      refine ⟨by rw [← HF.out.1]; first | rfl | simp, by rw [← HF.out.1]; exact HF.out.2.1, HF.out.2.2⟩
end Go.Proofs.Ytgbmebnfbhdpiaa
namespace Go.Proofs.Ytgbmebnfbhdpiaa
open Go.RowKit Go.Proofs.YtgbmebnfbhdpiaaW.PrintWords Go.Proofs.YtgbmebnfbhdpiaaW.PrintLast

/-- Nothing goes on to the node. -/
def lessN (a : Int) (nx : List (List Int)) : List (List Int) := nx.map (del a)
theorem lessN_len (a : Int) (nx : List (List Int)) : (lessN a nx).length = nx.length := by simp [lessN]
theorem lessN_get (a : Int) (nx : List (List Int)) (k : Nat) : (lessN a nx).getD k [] = del a (nx.getD k []) := by
  unfold lessN
  rw [List.getD_eq_getElem?_getD, List.getElem?_map, List.getD_eq_getElem?_getD]
  cases nx[k]? <;> rfl
theorem succs_less (a : Int) (nx : List (List Int)) (x : Int) : succs (lessN a nx) x = del a (succs nx x) := lessN_get a nx x.toNat
theorem reach_less {nx : List (List Int)} {st : List Int} (hg : Good nx st) (a x : Int) : Reach (lessN a nx) (del a st) (-1) x ↔ Reach nx st a x := by
  constructor
  · intro h
    induction h with
    | start h _ => exact .start (mem_del.1 h).1 (mem_del.1 h).2
    | step _ h _ ih => rw [succs_less] at h; exact .step ih (mem_del.1 h).1 (mem_del.1 h).2
  · intro h
    induction h with
    | start h hb => exact .start (mem_del.2 ⟨h, hb⟩) (by have := hg.starts _ h; omega)
    | step hx h hb ih => exact .step ih (by rw [succs_less]; exact mem_del.2 ⟨h, hb⟩) (by have := hg.next _ _ h; omega)
theorem reachB_less {nx : List (List Int)} {st : List Int} (hg : Good nx st) (a : Int) : reachB (lessN a nx) (del a st) (-1) = reachB nx st a :=
  eq_reachB (by rw [reachB_len, lessN_len]) fun x h0 h1 => by
    rw [rdOf_reachB _ _ _ x h0 (by rw [lessN_len]; exact h1), reach_less hg]
theorem sumLen_less (a : Int) : ∀ nx : List (List Int), sumLen (lessN a nx) ≤ sumLen nx
  | [] => Nat.le_refl _
  | l :: nx => by
    have h1 := sumLen_less a nx
    have h2 := del_len a l
    simp only [lessN, sumLen, List.map_cons, List.sum_cons] at *
    omega
theorem netOk_less {nx : List (List Int)} {st : List Int} (h : netOk nx st = true) (a : Int) : netOk (lessN a nx) (del a st) = true := by
  have hg := good_of_ok h
  have hs : st.length + sumLen nx ≤ 65536 := by
    unfold netOk at h
    simp only [Bool.and_eq_true, decide_eq_true_eq, Bool.not_eq_true'] at h
    exact h.1.1.2
  have h1 := del_len a st
  have h2 := sumLen_less a nx
  refine ok_of (by rw [lessN_len]; have := hg.len; omega) (by omega) (fun k hk => ?_) ?_
  · rw [lessN_get, lessN_len, List.any_eq_false]
    intro y hy
    have := hg.next k y (mem_del.1 hy).1
    simp [wrongB]; omega
  · rw [lessN_len, List.any_eq_false]
    intro y hy
    have := hg.starts y (mem_del.1 hy).1
    simp [wrongB]; omega
/-- The first i rows are done. -/
def rowsAt (a : Int) (nx : List (List Int)) (i : Nat) : List (List Int) := (nx.take i).map (del a) ++ nx.drop i
theorem rowsAt_len (a : Int) (nx : List (List Int)) (i : Nat) (h : i ≤ nx.length) : (rowsAt a nx i).length = nx.length := by
  unfold rowsAt; rw [List.length_append, List.length_map, List.length_take, List.length_drop]; omega
theorem rowsAt_zero (a : Int) (nx : List (List Int)) : rowsAt a nx 0 = nx := by simp [rowsAt]
theorem rowsAt_end (a : Int) (nx : List (List Int)) : rowsAt a nx nx.length = lessN a nx := by simp [rowsAt, lessN]
theorem rowsAt_at (a : Int) (nx : List (List Int)) (i : Nat) (h : i < nx.length) : (rowsAt a nx i).getD i [] = nx.getD i [] := by
  unfold rowsAt
  rw [List.getD_eq_getElem?_getD, List.getElem?_append_right (by rw [List.length_map, List.length_take]; omega), List.length_map, List.length_take, List.getElem?_drop, List.getD_eq_getElem?_getD]
  congr 2; omega
theorem rowsAt_succ (a : Int) (nx : List (List Int)) (i : Nat) (h : i < nx.length) : (rowsAt a nx i).set i (del a (nx.getD i [])) = rowsAt a nx (i + 1) := by
  unfold rowsAt
  rw [List.set_append_right _ _ (by rw [List.length_map, List.length_take]; omega), List.length_map, List.length_take, show i - min i nx.length = 0 from by omega]
  rw [List.drop_eq_getElem_cons h, List.set_cons_zero, List.take_succ_eq_append_getElem h, List.map_append, List.append_assoc]
  simp [List.getD_eq_getElem?_getD, List.getElem?_eq_getElem h]

section
variable {w0 w : World} {ob : Nat} {vn vs : Value} {H : List Hdr} {rows : List (List Int)} {st : List Int} {O : Nat → Nat}
/-- The copy in a new box. -/
theorem CloSt.rebox (h : CloSt w0 w ob vn vs H rows st O) : CloSt w0 (w.alloc (.cells #[vn, vs] 25)) w.heap.size vn vs H rows st O := by
  have h1 := h.step ((Below.refl _ _).alloc (Nat.le_refl _) (.cells #[vn, vs] 25))
  exact ⟨h1.below, blk_new _ _, h1.heads, h1.len, h1.rows, h1.start, h.below.size⟩
/-- Fewer starts. -/
theorem CloSt.delStart {w1 : World} {vs' : Value} {st' : List Int} (h : CloSt w0 w ob vn vs H rows st O) (hr : Kd.R (Kd.int .i64) 3 w1 w0.heap.size (fun z => O z = 1) vs' st') (hg : w.grownBy w1 vs.ownBlock) :
    w1.heap[ob]? = some (.cells #[vn, vs] 25 (0, 0)) ∧ CloSt w0 (w1.setCell ⟨ob, 1, none⟩ vs') ob vn vs' H rows st' O := by
  have hob := blk_grown h.obk hg (Kd.R_ne h.start h.obk (by decide))
  refine ⟨hob, (h.below.grown hg h.below.size (fun k e => Kd.R_base h.start k e)).setCell h.oge _, blk_put hob 1 vs' rfl, Kd.R_set (Kd.R_over' h.heads (Kd.R_typed h.start) (by decide) hg) hob (by decide) _ _, h.len, fun i hd hi => ⟨(h.rows i hd hi).1, ?_⟩, Kd.R_set hr hob (by decide) _ _, h.oge⟩
  exact Kd.R_set (R_grownO (h.rows i hd hi).2 (fun k hk => h.start.1 k hk) (by omega) hg) hob (by decide) _ _
/-- A shorter row. -/
theorem CloSt.delRow {w1 : World} {g n cap i k : Nat} {hd : Hdr} {l' : List Int} (h : CloSt w0 w ob (.slice (some ⟨g, 0, none⟩) n cap) vs H rows st O) (hi : H[i]? = some hd) (hk : k = l'.length)
    (hr : Kd.R (Kd.int .i64) 3 w1 w0.heap.size (fun z => O z = i + 2) (encH (hd.1, k, hd.2.2)) l') (hg : w.grownBy w1 (encH hd).ownBlock) :
    w1.heap[ob]? = some (.cells #[.slice (some ⟨g, 0, none⟩) n cap, vs] 25 (0, 0)) ∧ (w1.cell? ⟨g, i, none⟩ = some (encH hd) ∧ w1.frozen? ⟨g, i, none⟩ = false) ∧
      CloSt w0 (w1.setCell ⟨g, i, none⟩ (encH (hd.1, k, hd.2.2))) ob (.slice (some ⟨g, 0, none⟩) n cap) vs (H.set i (hd.1, k, hd.2.2)) (rows.set i l') st O := by
  have hil := (List.getElem?_eq_some_iff.1 hi).1
  have hrow := (h.rows i hd hi).2
  have hob := blk_grown h.obk hg (Kd.R_ne hrow h.obk (by decide))
  have hh := Kd.R_over' h.heads (Kd.R_typed hrow) (by decide) hg
  obtain ⟨g', cap', hvs, hbg, hgl, cells, hgc⟩ := Kd.R_form hh (by omega)
  have hv1 := (Value.slice.inj hvs).1
  have hgg : g = g' := by injection hv1 with e; injection e
  subst hgg
  have hn : n = H.length := (Kd.R_reads' hh).1
  have hc := Kd.R_celln hd hh (i : Int) (by omega) (by omega)
  have hhd : rdOf hd H (i : Int) = hd := by unfold rdOf; rw [Int.toNat_natCast, List.getD_eq_getElem?_getD, hi]; rfl
  rw [hhd, Int.toNat_natCast] at hc
  have hp := Kd.R_putn hh (i : Int) (hd.1, k, hd.2.2)
  rw [Int.toNat_natCast] at hp
  refine ⟨hob, hc, (h.below.grown hg h.below.size (fun k e => Kd.R_base hrow k e)).setCell hbg _, blk_far hob (blk_ne hob hgc (by decide)) _, hp, by rw [List.length_set, List.length_set]; exact h.len, fun j hd' hj => ?_, Kd.R_set (R_grownO h.start (fun k hk => hrow.1 k hk) (by omega) hg) hgc (by decide) _ _, h.oge⟩
  rw [List.getElem?_set] at hj
  by_cases c : i = j
  · rw [if_pos c, if_pos hil] at hj
    cases hj
    subst c
    have e : (rows.set i l').getD i [] = l' := by rw [List.getD_eq_getElem?_getD, List.getElem?_set, if_pos rfl, if_pos (by rw [← h.len]; exact hil)]; rfl
    rw [e]
    exact ⟨hk, Kd.R_set hr hgc (by decide) _ _⟩
  · rw [if_neg c] at hj
    have e : (rows.set i l').getD j [] = rows.getD j [] := by rw [List.getD_eq_getElem?_getD, List.getElem?_set, if_neg c, List.getD_eq_getElem?_getD]
    rw [e]
    exact ⟨(h.rows j hd' hj).1, Kd.R_set (R_grownO (h.rows j hd' hj).2 (fun k hk => hrow.1 k hk) (by omega) hg) hgc (by decide) _ _⟩
end
end Go.Proofs.Ytgbmebnfbhdpiaa
namespace Go.Proofs.Ytgbmebnfbhdpiaa
open Go.RowKit Go.Proofs.YtgbmebnfbhdpiaaW.PrintWords Go.Proofs.YtgbmebnfbhdpiaaW.PrintLast

/-! ### one step of marking -/
/-- What is marked; has something come? -/
abbrev MS := List Bool × Bool
def mark1 (s : MS) (p : Int) : MS := if 0 ≤ p ∧ p < s.1.length ∧ rdOf false s.1 p = false then (s.1.set p.toNat true, true) else s
def markL (ps : List Int) (s : MS) : MS := ps.foldl mark1 s
def node1 (i : Int) (x : GN) (s : MS) : MS := if rdOf false s.1 i = true ∧ x.1 = 1 then markL x.2.1 s else s
def moreL (ns : List GN) : Nat → MS → MS
  | 0, s => s
  | k + 1, s => node1 k (ns.getD k noN) (moreL ns k s)
structure Ext (s s' : MS) : Prop where
  len : s'.1.length = s.1.length
  mono : ∀ x : Int, 0 ≤ x → rdOf false s.1 x = true → rdOf false s'.1 x = true
  same : s' = s ∨ (s'.2 = true ∧ s.1.count true < s'.1.count true)
theorem Ext.refl (s : MS) : Ext s s := ⟨rfl, fun _ _ h => h, .inl rfl⟩
theorem Ext.trans {a b c : MS} (h : Ext a b) (k : Ext b c) : Ext a c := by
  refine ⟨k.len.trans h.len, fun x h0 hx => k.mono x h0 (h.mono x h0 hx), ?_⟩
  rcases k.same with e | ⟨e1, e2⟩
  · rw [e]; exact h.same
  · rcases h.same with e | ⟨e3, e4⟩
    · rw [e] at e2; exact .inr ⟨e1, e2⟩
    · exact .inr ⟨e1, Nat.lt_trans e4 e2⟩
theorem mark1_ext (s : MS) (p : Int) : Ext s (mark1 s p) := by
  unfold mark1
  by_cases c : 0 ≤ p ∧ p < s.1.length ∧ rdOf false s.1 p = false
  · rw [if_pos c]
    obtain ⟨c0, c1, c2⟩ := c
    refine ⟨by simp, fun x h0 hx => (rdOf_set s.1 p x c0 c1 h0).2 (.inr hx), .inr ⟨rfl, ?_⟩⟩
    have := count_set_true s.1 p.toNat (by omega) c2
    show _ < (s.1.set p.toNat true).count true
    omega
  · rw [if_neg c]; exact Ext.refl s
theorem markL_ext : ∀ (ps : List Int) (s : MS), Ext s (markL ps s)
  | [], s => Ext.refl s
  | p :: ps, s => (mark1_ext s p).trans (markL_ext ps (mark1 s p))
theorem node1_ext (i : Int) (x : GN) (s : MS) : Ext s (node1 i x s) := by
  unfold node1; split
  · exact markL_ext _ _
  · exact Ext.refl s
theorem moreL_ext (ns : List GN) : ∀ (k : Nat) (s : MS), Ext s (moreL ns k s)
  | 0, s => Ext.refl s
  | k + 1, s => (moreL_ext ns k s).trans (node1_ext _ _ _)
theorem Ext.still {s s' : MS} (h : Ext s s') (hf : s'.2 = false) : s' = s := by
  rcases h.same with e | ⟨e, _⟩
  · exact e
  · rw [e] at hf; cases hf
theorem mark1_still {s : MS} {p : Int} (h : (mark1 s p).2 = false) (h0 : 0 ≤ p) (h1 : p < s.1.length) : rdOf false s.1 p = true := by
  by_cases c : rdOf false s.1 p = true
  · exact c
  · rw [Bool.not_eq_true] at c
    unfold mark1 at h
    rw [if_pos ⟨h0, h1, c⟩] at h; cases h
theorem markL_still : ∀ (ps : List Int) (s : MS), (markL ps s).2 = false → ∀ p ∈ ps, 0 ≤ p → p < s.1.length → rdOf false s.1 p = true
  | [], s, _, p, hp, _, _ => by simp at hp
  | q :: ps, s, h, p, hp, h0, h1 => by
    have e1 : (markL ps (mark1 s q)).2 = false := h
    have e2 := (markL_ext ps (mark1 s q)).still e1
    have e3 : (mark1 s q).2 = false := by rw [← e2]; exact e1
    have e4 := (mark1_ext s q).still e3
    rcases List.mem_cons.1 hp with e | e
    · subst e; exact mark1_still e3 h0 h1
    · rw [e4] at e1
      exact markL_still ps s e1 p e h0 h1
theorem moreL_still (ns : List GN) : ∀ (k : Nat) (s : MS), (moreL ns k s).2 = false → ∀ i : Nat, i < k → rdOf false s.1 (i : Int) = true → (ns.getD i noN).1 = 1 → ∀ p ∈ (ns.getD i noN).2.1, 0 ≤ p → p < s.1.length → rdOf false s.1 p = true
  | 0, s, _, i, hi, _, _, p, _, _, _ => absurd hi (Nat.not_lt_zero _)
  | k + 1, s, h, i, hi, hs, hk, p, hp, h0, h1 => by
    have e1 : (node1 k (ns.getD k noN) (moreL ns k s)).2 = false := h
    have e2 := (node1_ext k (ns.getD k noN) (moreL ns k s)).still e1
    have e3 : (moreL ns k s).2 = false := by rw [← e2]; exact e1
    by_cases c : i < k
    · exact moreL_still ns k s e3 i c hs hk p hp h0 h1
    · obtain rfl : i = k := by omega
      have e4 := (moreL_ext ns i s).still e3
      rw [e4] at e1
      unfold node1 at e1
      rw [if_pos ⟨hs, hk⟩] at e1
      exact markL_still _ s e1 p hp h0 h1
theorem mark1_sound {S : Int → Prop} {s : MS} {p : Int} (hp : 0 ≤ p → S p) (h : ∀ x : Int, 0 ≤ x → rdOf false s.1 x = true → S x) : ∀ x : Int, 0 ≤ x → rdOf false (mark1 s p).1 x = true → S x := by
  intro x h0 hx
  unfold mark1 at hx
  by_cases c : 0 ≤ p ∧ p < s.1.length ∧ rdOf false s.1 p = false
  · rw [if_pos c] at hx
    rcases (rdOf_set s.1 p x c.1 c.2.1 h0).1 hx with e | e
    · subst e; exact hp c.1
    · exact h x h0 e
  · rw [if_neg c] at hx; exact h x h0 hx
theorem markL_sound {S : Int → Prop} : ∀ (ps : List Int) (s : MS), (∀ p ∈ ps, 0 ≤ p → S p) → (∀ x : Int, 0 ≤ x → rdOf false s.1 x = true → S x) → ∀ x : Int, 0 ≤ x → rdOf false (markL ps s).1 x = true → S x
  | [], s, _, h => h
  | p :: ps, s, hp, h => markL_sound ps (mark1 s p) (fun q hq => hp q (List.mem_cons_of_mem _ hq)) (mark1_sound (hp p List.mem_cons_self) h)
theorem moreL_sound {S : Int → Prop} (ns : List GN) : ∀ (k : Nat) (s : MS), (∀ i : Nat, i < k → S (i : Int) → (ns.getD i noN).1 = 1 → ∀ p ∈ (ns.getD i noN).2.1, 0 ≤ p → S p) →
    (∀ x : Int, 0 ≤ x → rdOf false s.1 x = true → S x) → ∀ x : Int, 0 ≤ x → rdOf false (moreL ns k s).1 x = true → S x
  | 0, s, _, h => h
  | k + 1, s, hS, h => by
    have ih := moreL_sound ns k s (fun i hi => hS i (by omega)) h
    show ∀ x : Int, 0 ≤ x → rdOf false (node1 k (ns.getD k noN) (moreL ns k s)).1 x = true → S x
    unfold node1
    by_cases c : rdOf false (moreL ns k s).1 (k : Int) = true ∧ (ns.getD k noN).1 = 1
    · rw [if_pos c]
      exact markL_sound _ _ (fun p hp h0 => hS k (by omega) (ih k (by omega) c.1) c.2 p hp h0) ih
    · rw [if_neg c]; exact ih
theorem markL_snoc (ps : List Int) (s : MS) (j : Int) (h0 : 0 ≤ j) (h1 : j < ps.length) : markL (ps.take (j + 1).toNat) s = mark1 (markL (ps.take j.toNat) s) (rd ps j) := by
  unfold markL
  rw [show (j + 1).toNat = j.toNat + 1 from by omega, List.take_succ_eq_append_getElem (by omega : j.toNat < ps.length), List.foldl_append]
  simp [rd, List.getD_eq_getElem?_getD, List.getElem?_eq_getElem (by omega : j.toNat < ps.length)]

/-! ### what is reached in a graph -/
theorem ofN_pairless {ns : List GN} {rs : List GR} (hg : graphE ns rs = 0) (h0 : ns.length ≤ 60) (h1 : rs.length ≤ 60) : netOk (ofN ns) (ofS rs) = true := by
  have hnod := graph_nodes hg
  have hroot : ∀ x ∈ ofS rs, 0 ≤ x ∧ x < ns.length := fun x hx => by
    obtain ⟨r, hr, rfl⟩ := List.mem_map.1 hx
    obtain ⟨j, hj, rfl⟩ := List.getElem_of_mem hr
    by_cases c : rootBad ns.length rs (j : Int) = true
    · rw [graph_root (by omega) (by omega) c] at hg; cases hg
    · rw [Bool.not_eq_true] at c
      unfold rootBad at c
      rw [Int.toNat_natCast, List.getD_eq_getElem?_getD, List.getElem?_eq_getElem hj, Option.getD_some] at c
      simp only [Bool.or_eq_false_iff, decide_eq_false_iff_not] at c
      omega
  have hsum : ∀ l : List GN, (∀ x ∈ l, x.2.1.length ≤ 126) → sumLen (ofN l) ≤ l.length * 126 := by
    intro l
    induction l with
    | nil => intro _; simp [ofN, sumLen]
    | cons x l ih =>
      intro h
      have a := ih (fun y hy => h y (List.mem_cons_of_mem _ hy))
      have b := h x List.mem_cons_self
      have c := goesTo_len x
      simp only [ofN, sumLen, List.map_cons, List.sum_cons, List.length_cons] at *
      omega
  have hs := hsum ns (fun x hx => by
    obtain ⟨j, hj, rfl⟩ := List.getElem_of_mem hx
    have := hnod j hj
    rw [List.getD_eq_getElem?_getD, List.getElem?_eq_getElem hj, Option.getD_some] at this
    exact node_ptrs this)
  refine ok_of (by rw [ofN_len]; omega) (by rw [ofS_len]; omega) (fun k hk => ?_) ?_
  · rw [ofN_len] at hk
    rw [ofN_get ns k hk, ofN_len, List.any_eq_false]
    intro y hy
    have hn := hnod k hk
    unfold nodeOk at hn
    simp only [Bool.and_eq_true, Bool.not_eq_true', List.any_eq_false] at hn
    unfold goesTo at hy
    split at hy
    · rw [List.mem_filter, decide_eq_true_eq] at hy
      have h3 := hn.2 y hy.1
      simp [wrongP] at h3
      simp [wrongB]; omega
    · simp at hy
  · rw [ofN_len, List.any_eq_false]
    intro y hy
    have := hroot y hy
    simp [wrongB]; omega
/-- What is known while it is marked. -/
structure Marked (ns : List GN) (rs : List GR) (k : Nat) (s : List Bool) : Prop where
  len : s.length = ns.length
  snd : ∀ x : Int, 0 ≤ x → rdOf false s x = true → Reach (ofN ns) (ofS rs) (-1) x
  has : ∀ j : Nat, j < k → rdOf false s (rs.getD j noR).2 = true
section
variable {ns : List GN} {rs : List GR} {k : Nat} {s : List Bool}
theorem marked_start (ns : List GN) (rs : List GR) : Marked ns rs 0 (List.replicate ns.length false) :=
  ⟨by simp, fun x _ h => by rw [rdOf_none] at h; exact absurd h (by decide), fun j hj => absurd hj (Nat.not_lt_zero _)⟩
theorem root_in (hn : netOk (ofN ns) (ofS rs) = true) {j : Nat} (hj : j < rs.length) : (rs.getD j noR).2 ∈ ofS rs ∧ 0 ≤ (rs.getD j noR).2 ∧ (rs.getD j noR).2 < ns.length := by
  have hm : (rs.getD j noR).2 ∈ ofS rs := by
    rw [List.getD_eq_getElem?_getD, List.getElem?_eq_getElem hj]
    exact List.mem_map.2 ⟨_, List.getElem_mem hj, rfl⟩
  have := (good_of_ok hn).starts _ hm
  rw [ofN_len] at this
  exact ⟨hm, this⟩
theorem Marked.root (hn : netOk (ofN ns) (ofS rs) = true) (h : Marked ns rs k s) (hk : k < rs.length) : Marked ns rs (k + 1) (s.set (rs.getD k noR).2.toNat true) := by
  obtain ⟨h0, h1, h2⟩ := root_in hn hk
  have hl := h.len
  refine ⟨by rw [List.length_set]; exact h.len, fun x hx0 hx => ?_, fun j hj => ?_⟩
  · rcases (rdOf_set s _ x h1 (by omega) hx0).1 hx with e | e
    · subst e; exact .start h0 (by omega)
    · exact h.snd x hx0 e
  · have hj2 := root_in hn (by omega : j < rs.length)
    rw [rdOf_set s _ _ h1 (by omega) hj2.2.1]
    by_cases c : j < k
    · exact .inr (h.has j c)
    · obtain rfl : j = k := by omega
      exact .inl rfl
theorem Marked.more (h : Marked ns rs k s) (n : Nat) (hn : n ≤ ns.length) : Marked ns rs k (moreL ns n (s, false)).1 := by
  have he := moreL_ext ns n (s, false)
  refine ⟨he.len.trans h.len, moreL_sound ns n (s, false) (fun i hi hS hk p hp h0 => .step hS ?_ (by omega)) h.snd, fun j hj => ?_⟩
  · unfold succs
    rw [Int.toNat_natCast, ofN_get ns i (by omega), goesTo, if_pos hk, List.mem_filter]
    exact ⟨hp, by simpa using h0⟩
  · by_cases c : 0 ≤ (rs.getD j noR).2
    · exact he.mono _ c (h.has j hj)
    · have h2 := h.has j hj
      have e0 : (rs.getD j noR).2.toNat = (0 : Int).toNat := by omega
      have e1 : rdOf false (moreL ns n (s, false)).1 (rs.getD j noR).2 = rdOf false (moreL ns n (s, false)).1 0 := by unfold rdOf; rw [e0]
      have e2 : rdOf false s (rs.getD j noR).2 = rdOf false s 0 := by unfold rdOf; rw [e0]
      rw [e1]; rw [e2] at h2
      exact he.mono 0 (by omega) h2
theorem Marked.fin (hn : netOk (ofN ns) (ofS rs) = true) (h : Marked ns rs rs.length s) (hf : (moreL ns ns.length (s, false)).2 = false) : s = reachB (ofN ns) (ofS rs) (-1) := by
  have hg := good_of_ok hn
  refine eq_reachB (by rw [ofN_len]; exact h.len) fun x h0 h1 => ⟨h.snd x h0, fun hx => ?_⟩
  clear h0 h1
  induction hx with
  | start hx _ =>
    obtain ⟨r, hr, rfl⟩ := List.mem_map.1 hx
    obtain ⟨j, hj, rfl⟩ := List.getElem_of_mem hr
    have := h.has j hj
    rwa [List.getD_eq_getElem?_getD, List.getElem?_eq_getElem hj, Option.getD_some] at this
  | @step x y hx hy hb ih =>
    have hl := hx.lt hg
    rw [ofN_len] at hl
    have hyl := hg.next _ y hy
    rw [ofN_len] at hyl
    unfold succs at hy
    rw [ofN_get ns x.toNat (by omega), goesTo] at hy
    split at hy
    · rename_i hk
      rw [List.mem_filter] at hy
      refine moreL_still ns ns.length (s, false) hf x.toNat (by omega) ?_ hk y hy.1 hyl.1 (by have := h.len; simp only []; omega)
      rw [Int.toNat_of_nonneg hl.1]; exact ih
    · simp at hy
end
end Go.Proofs.Ytgbmebnfbhdpiaa
namespace Go.Proofs.Ytgbmebnfbhdpiaa
open Go.RowKit Go.Proofs.YtgbmebnfbhdpiaaW.PrintWords Go.Proofs.YtgbmebnfbhdpiaaW.PrintLast

theorem f39_any (k : Int) (AP : Option Addr) (ps : List Int) (cp : Nat) (AD : Option Addr) (ds : List Int) (cd : Nat) (w : World) :
    Calls Try.prog 39 #[.agg #[.int .i64 k, .slice AP ps.length cp, .slice AD ds.length cd]] w fun e w' => e = .returned (.bool (k == 3)) ∧ Below w.heap.size w w' := by
  have HB0 : Aside0 (Below w.heap.size w (w.alloc (.cells #[.int .i64 k, .slice AP ps.length cp, .slice AD ds.length cd] 61))) := ⟨(Below.refl _ _).alloc (Nat.le_refl _) _⟩
  have hk0 := blk_new w (.cells #[.int .i64 k, .slice AP ps.length cp, .slice AD ds.length cd] 61)
  have h0 := (blk_cell hk0 0).trans (show _ = some (Value.int .i64 k) from rfl)
  clear hk0
  go_enter Try.func39, Try.ntmps39
  go_wp2_with fail
  go_ret
  exact ⟨rfl, HB0.out⟩
theorem cf39 (args : Array Value) (w : World) : (callFunc 39 args).run Try.prog w = .ok (.enter 39 args) w := callFunc_some Try.func39 (by kernel_rfl) (by kernel_rfl) args w

set_option maxRecDepth 100000 in
set_option maxHeartbeats 2000000 in
theorem f61_pair (A : Option Addr) (c : Nat) (ns : List GN) (w : World) (hx : Kd.C kN w A ns.length ns) :
    Calls Try.prog 61 #[.slice A ns.length c, .func (.func 39) #[] #[]] w (IdxPost (ns.any fun x => x.1 == 3) w) := by
  have HX := Aside0.mk hx
  have hL0 : ns.length ≤ 9223372036854775807 := hx.2.1
  have hcf := cf39
  clear hx
  go_enter Try.func61, Try.ntmps61
  go_wp2_with fail
  obtain ⟨wo, rfl⟩ : ∃ wo : World, wo = w := ⟨_, rfl⟩
  go_loopw [8] (fun v8 wr => ∃ i : Int, v8 = .int .i64 i ∧ 0 ≤ i ∧ i ≤ ns.length ∧ Aside0 (∀ j : Int, 0 ≤ j → j < i → ((ns.getD j.toNat noN).1 == 3) = false) ∧ Aside0 (Below wo.heap.size wo wr)) (fun v _ => ns.length - (intOf v).toNat)
  case atStart => exact ⟨0, rfl, by omega, by omega, ⟨fun j h0 h1 => by omega⟩, ⟨Below.refl _ _⟩⟩
  case round =>
    obtain ⟨i, rfl, h0, h1, HP, HB⟩ := hrel
    by_cases hil : i < ns.length
    case neg =>
      go_wp2_with fail
      go_ret
      refine ⟨-1, rfl, ?_, HB.out⟩
      rw [anyN_none (p := fun x : GN => x.1 == 3) (fun j j0 j1 => HP.out j j0 (by omega))]
      exact ⟨fun h => absurd h (by decide), fun h => by cases h⟩
    obtain ⟨ad, k, AP, ps, cp, AD, ds, cd, e, HXE, hc0, hc1, hc2, hpp⟩ := at_node (Kd.C_below HX.out HB.out) i h0 hil
    cases e
    clear hpp
    go_wp2_with fail
    refine (f39_any k AP ps cp AD ds cd _).mono ?_
    rintro e w1 ⟨rfl, hb⟩
    have HB1 := Aside0.mk (below_trans HB.out hb)
    clear hb
    by_cases hn : (k == 3) = true
    · rw [hn]
      have HN : Aside0 (((ns.getD i.toNat noN).1 == 3) = true) := ⟨by rw [← HXE.out, hn]⟩
      clear hn
      go_wp2_with fail
      go_ret
      refine ⟨i, rfl, ?_, HB1.out⟩
      rw [anyN_at (p := fun x : GN => x.1 == 3) h0 hil HN.out]
      exact ⟨fun _ => rfl, fun _ => h0⟩
    · rw [Bool.not_eq_true] at hn
      rw [hn]
      have HN : Aside0 (((ns.getD i.toNat noN).1 == 3) = false) := ⟨by rw [← HXE.out, hn]⟩
      clear hn
      go_wp2_with fail
      go_roundw
      case rel => exact ⟨i + 1, rfl, by omega, by omega, ⟨fun j j0 j1 => by
        by_cases h : j < i
        · exact HP.out j j0 h
        · obtain rfl : j = i := by omega
          exact HN.out⟩, HB1⟩
      case measure => simp [intOf]; omega
set_option maxRecDepth 100000 in
set_option maxHeartbeats 1000000 in
theorem f38_pair (A : Option Addr) (c : Nat) (ns : List GN) (w : World) (hx : Kd.C kN w A ns.length ns) :
    Calls Try.prog 38 #[.slice A ns.length c, .func (.func 39) #[] #[]] w fun e w' => e = .returned (.bool (ns.any fun x => x.1 == 3)) ∧ Below w.heap.size w w' := by
  have HX := Aside0.mk hx
  clear hx
  go_enter Try.func38, Try.ntmps38
  go_wp2_with (go_at_call 61; refine (f61_pair A c ns w HX.out).mono ?_; rintro e w1 ⟨r, rfl, hr, hb⟩)
  go_ret
  refine ⟨ret_bool ?_, hb⟩
  rw [Bool.eq_iff_iff, decide_eq_true_eq]
  exact hr

set_option maxRecDepth 100000 in
set_option maxHeartbeats 2000000 in
/-- Of a node that is no pair. -/
theorem f73_any (k : Int) (AP : Option Addr) (ps : List Int) (cp : Nat) (AD : Option Addr) (ds : List Int) (cd : Nat) (v : Value) (hk : ¬ k = 3) (w : World) :
    Calls Try.prog 73 #[.agg #[.int .i64 k, .slice AP ps.length cp, .slice AD ds.length cd], v] w fun e w' => e = .returned (.bool (k == 1)) ∧ Below w.heap.size w w' := by
  have HB0 : Aside0 (Below w.heap.size w (w.alloc (.cells #[.int .i64 k, .slice AP ps.length cp, .slice AD ds.length cd] 61))) := ⟨(Below.refl _ _).alloc (Nat.le_refl _) _⟩
  have hk0 := blk_new w (.cells #[.int .i64 k, .slice AP ps.length cp, .slice AD ds.length cd] 61)
  have h0 := (blk_cell hk0 0).trans (show _ = some (Value.int .i64 k) from rfl)
  have hb3 : (k == 3) = false := beq_eq_false_iff_ne.2 hk
  clear hk0 hk
  by_cases h1 : (k == 1) = true
  · rw [h1]
    go_enter Try.func73, Try.ntmps73
    go_wp2_with fail
    go_ret
    exact ⟨rfl, HB0.out⟩
  · rw [Bool.not_eq_true] at h1
    rw [h1]
    go_enter Try.func73, Try.ntmps73
    go_wp2_with fail
    go_ret
    exact ⟨rfl, HB0.out⟩
end Go.Proofs.Ytgbmebnfbhdpiaa
namespace Go.Proofs.Ytgbmebnfbhdpiaa
open Go.RowKit Go.Proofs.YtgbmebnfbhdpiaaW.PrintWords Go.Proofs.YtgbmebnfbhdpiaaW.PrintLast

/-- The memory while it is marked: the graph's box, the marks. -/
structure MkSt (w0 wo wr : World) (gb : Nat) (gcs : Array Value) (v : Value) (s : List Bool) : Prop where
  below : Below w0.heap.size w0 wr
  gbox : wr.heap[gb]? = some (.cells gcs 58 (0, 0))
  seen : Kd.R Kd.bool 4 wr w0.heap.size (fun _ => True) v s
  grown : wo.grownBy wr v.ownBlock
section
variable {w0 wo wr : World} {gb : Nat} {gcs : Array Value} {v : Value} {s : List Bool}
theorem MkSt.step {w1 : World} (h : MkSt w0 wo wr gb gcs v s) (hb : Below wr.heap.size wr w1) : MkSt w0 wo w1 gb gcs v s :=
  ⟨below_trans h.below hb, blk_below h.gbox hb, Kd.R_below h.seen hb, h.grown.trans (grown_of_below hb _)⟩
theorem MkSt.put {g n cap : Nat} (h : MkSt w0 wo wr gb gcs (.slice (some ⟨g, 0, none⟩) n cap) s) (x : Int) (h0 : 0 < n) :
    MkSt w0 wo (wr.setCell ⟨g, x.toNat, none⟩ (.bool true)) gb gcs (.slice (some ⟨g, 0, none⟩) n cap) (s.set x.toNat true) := by
  have hn := (Kd.R_reads' h.seen).1
  obtain ⟨g', cap', he, hbg, hgl, cells, hgc⟩ := Kd.R_form h.seen (by omega)
  have : g = g' := by injection he with he _ _; injection he with he; injection he
  subst this
  have hp := Kd.R_putg h.seen x true
  exact ⟨h.below.setCell hbg _, blk_far h.gbox (blk_ne h.gbox hgc (by decide)) _, hp.1, h.grown.trans hp.2⟩
end

set_option maxRecDepth 100000 in
set_option maxHeartbeats 4000000 in
theorem f63_any (A0 : Option Addr) (c0 : Nat) (A1 : Option Addr) (n1 c1 : Nat) (ns : List GN) (B : Option Addr) (kB : Nat) (s : List Bool) (w0 w : World) (hn : Kd.C kN w0 A0 ns.length ns) (hb : Below w0.heap.size w0 w)
    (hs : Kd.R Kd.bool 4 w w0.heap.size (fun _ => True) (.slice B ns.length kB) s) (hl : ns.length ≤ 60) (hnp : ∀ i : Nat, i < ns.length → (ns.getD i noN).1 ≠ 3) :
    Calls Try.prog 63 #[.agg #[.slice A0 ns.length c0, .slice A1 n1 c1], .slice B ns.length kB] w fun e w' => e = .returned (.bool (moreL ns ns.length (s, false)).2) ∧ Below w0.heap.size w0 w' ∧
      Kd.R Kd.bool 4 w' w0.heap.size (fun _ => True) (.slice B ns.length kB) (moreL ns ns.length (s, false)).1 ∧ w.grownBy w' (Value.slice B ns.length kB).ownBlock := by
  have HN := Aside0.mk hn
  have HNP := Aside0.mk hnp
  have HM0 : Aside0 (MkSt w0 w (w.alloc (.cells #[.slice A0 ns.length c0, .slice A1 n1 c1] 58)) w.heap.size #[.slice A0 ns.length c0, .slice A1 n1 c1] (.slice B ns.length kB) (moreL ns 0 (s, false)).1) := ⟨⟨below_alloc hb _, blk_new _ _, Kd.R_alloc hs _, grown_of_below ((Below.refl _ _).alloc (Nat.le_refl _) _) _⟩⟩
  clear hn hb hs hnp
  go_enter Try.func63, Try.ntmps63
  go_wp2_with fail
  generalize (w.alloc (.cells #[.slice A0 ns.length c0, .slice A1 n1 c1] 58)) = wo at HM0 ⊢
  go_loopw [5, 6] (fun v5 v6 wr => ∃ (i : Int) (b : Bool) (t : List Bool), v5 = .bool b ∧ v6 = .int .i64 i ∧ 0 ≤ i ∧ i ≤ ns.length ∧ Aside0 (moreL ns i.toNat (s, false) = (t, b)) ∧ Aside0 (MkSt w0 w wr w.heap.size #[.slice A0 ns.length c0, .slice A1 n1 c1] (.slice B ns.length kB) t)) (fun _ v6 _ => ns.length - (intOf v6).toNat)
  case atStart => exact ⟨0, false, s, rfl, rfl, by omega, by omega, ⟨rfl⟩, HM0⟩
  case round =>
    clear HM0
    obtain ⟨i, b, t, rfl, rfl, hi0, hi1, HT, HM⟩ := hrel
    obtain ⟨hg0, hg1⟩ := box2 HM.out.gbox
    by_cases hil : i < ns.length
    case neg =>
      have HE : Aside0 (moreL ns ns.length (s, false) = (t, b)) := ⟨by rw [← HT.out, show i.toNat = ns.length from by omega]⟩
      go_wp2_with fail
      go_ret
      rw [HE.out]
      exact ⟨rfl, HM.out.below, HM.out.seen, HM.out.grown⟩
    have hts := (Kd.R_reads' HM.out.seen).1
    obtain ⟨ad, k, AP, ps, cp, AD, ds, cd, e, HXE, hd0, hd1, hd2, hpp⟩ := at_node HN.out i hi0 hil
    cases e
    have hc0 := (HM.out.below.cell (World.block_lt_of_cell? _ _ hd0)).trans hd0
    have hc1 := (HM.out.below.cell (World.block_lt_of_cell? _ _ hd1)).trans hd1
    have hc2 := (HM.out.below.cell (World.block_lt_of_cell? _ _ hd2)).trans hd2
    have HPP := Aside0.mk hpp
    have hL1 : ps.length ≤ 9223372036854775807 := hpp.2.1
    have hk3 : ¬ k = 3 := by
      have := HNP.out i.toNat (by omega)
      rw [← HXE.out] at this
      exact this
    obtain ⟨g, cap, hvs, hbg, hgl, cells, hgc⟩ := Kd.R_form HM.out.seen (by omega)
    have hv1 := (Value.slice.inj hvs).1
    subst hv1
    have HB1 : Aside0 (Below wr.heap.size wr (wr.alloc (.cells #[.int .i64 k, .slice AP ps.length cp, .slice AD ds.length cd] 61))) := ⟨below_alloc (Below.refl _ _) _⟩
    have HK1 : Aside0 ((wr.alloc (.cells #[.int .i64 k, .slice AP ps.length cp, .slice AD ds.length cd] 61)).heap[wr.heap.size]? = some (.cells #[.int .i64 k, .slice AP ps.length cp, .slice AD ds.length cd] 61 (0, 0))) := ⟨blk_new _ _⟩
    have HM1 := Aside0.mk (HM.out.step HB1.out)
    obtain ⟨hxc, hxf⟩ := R_celln false HM1.out.seen i hi0 hil
    clear hpp hvs cells hgc hgl hbg hts hd0 hd1 hd2
    have HSUC : Aside0 (∀ m : MS, node1 i (ns.getD i.toNat noN) (t, b) = m → moreL ns (i + 1).toNat (s, false) = m) := ⟨fun m hm => by
      rw [show (i + 1).toNat = i.toNat + 1 from by omega]
      show node1 ((i.toNat : Nat) : Int) _ (moreL ns i.toNat (s, false)) = m
      rw [HT.out, Int.toNat_of_nonneg hi0, hm]⟩
    by_cases hse : rdOf false t i = true
    case neg =>
      have HE := Aside0.mk (HSUC.out (t, b) (by unfold node1; rw [if_neg (fun h => hse h.1)]))
      rw [Bool.not_eq_true] at hse
      rw [hse] at hxc
      clear hse
      go_wp2_with fail
      go_roundw
      case rel => exact ⟨i + 1, b, t, rfl, rfl, by omega, by omega, HE, HM1⟩
      case measure => simp [intOf]; omega
    rw [hse] at hxc
    have HSE := Aside0.mk hse
    clear hse
    go_wp2_with fail
    refine (f73_any k AP ps cp AD ds cd _ hk3 _).mono ?_
    rintro e w1 ⟨rfl, hb⟩
    have HM2 := Aside0.mk (HM1.out.step hb)
    have HK2 := Aside0.mk (blk_below HK1.out hb)
    clear hb
    by_cases hk1 : k = 1
    case neg =>
      have HE := Aside0.mk (HSUC.out (t, b) (by unfold node1; rw [← HXE.out, if_neg (fun h => hk1 h.2)]))
      rw [show (k == 1) = false from beq_eq_false_iff_ne.2 hk1]
      clear hk1
      go_wp2_with fail
      go_roundw
      case rel => exact ⟨i + 1, b, t, rfl, rfl, by omega, by omega, HE, HM2⟩
      case measure => simp [intOf]; omega
    rw [show (k == 1) = true from by rw [hk1]; rfl]
    have HSUC2 : Aside0 (moreL ns (i + 1).toNat (s, false) = markL ps (t, b)) := ⟨HSUC.out _ (by unfold node1; rw [← HXE.out, if_pos ⟨HSE.out, hk1⟩])⟩
    obtain ⟨nb, hnb⟩ : ∃ nb, nb = wr.heap.size := ⟨_, rfl⟩
    rw [← hnb] at HK2 ⊢
    clear hnb hk1 hxc hxf hc0 hc1 hc2 HSUC HSE HM1 HM HB1 HK1 hg0 hg1
    go_wp2_with fail
    go_loopw [5, 8] (fun v5 v8 wq => ∃ (j : Int) (b' : Bool) (t' : List Bool), v5 = .bool b' ∧ v8 = .int .i64 j ∧ 0 ≤ j ∧ j ≤ ps.length ∧ Aside0 (markL (ps.take j.toNat) (t, b) = (t', b')) ∧ Aside0 (MkSt w0 w wq w.heap.size #[.slice (some ad) ns.length c0, .slice A1 n1 c1] (.slice (some ⟨g, 0, none⟩) ns.length kB) t') ∧ Aside0 (wq.heap[nb]? = some (.cells #[.int .i64 k, .slice AP ps.length cp, .slice AD ds.length cd] 61 (0, 0)))) (fun _ v8 _ => ps.length - (intOf v8).toNat)
    case atStart => exact ⟨0, b, t, rfl, rfl, by omega, by omega, ⟨rfl⟩, HM2, HK2⟩
    case round =>
      obtain ⟨j, b', t', rfl, rfl, hj0, hj1, HT', HM', HK'⟩ := hrel
      have hp1 := (blk_cell HK'.out 1).trans (show _ = some (Value.slice AP ps.length cp) from rfl)
      by_cases hjl : j < ps.length
      case neg =>
        have HE : Aside0 (moreL ns (i + 1).toNat (s, false) = (t', b')) := ⟨by rw [HSUC2.out, ← HT'.out, List.take_of_length_le (by omega)]⟩
        go_wp2_with fail
        go_roundw
        case rel => exact ⟨i + 1, b', t', rfl, rfl, by omega, by omega, HE, HM'⟩
        case measure => simp [intOf]; omega
      have htl : t'.length = ns.length := (Kd.R_reads' HM'.out.seen).1.symm
      obtain ⟨ad2, e, hc⟩ := Kd.at_int (Kd.C_below HPP.out HM'.out.below) j hj0 hjl
      cases e
      have hsnoc := markL_snoc ps (t, b) j hj0 hjl
      rw [HT'.out] at hsnoc
      obtain ⟨x, hx⟩ : ∃ x, x = rd ps j := ⟨_, rfl⟩
      rw [← hx] at hsnoc hc
      have HS := Aside0.mk hsnoc
      clear hsnoc hx
      by_cases hx0 : x ≥ 0
      case neg =>
        have HE : Aside0 (markL (ps.take (j + 1).toNat) (t, b) = (t', b')) := ⟨by rw [HS.out]; unfold mark1; rw [if_neg (fun h => hx0 h.1)]⟩
        clear htl
        go_wp2_with fail
        go_roundw
        case rel => exact ⟨j + 1, b', t', rfl, rfl, by omega, by omega, HE, HM', HK'⟩
        case measure => simp [intOf]; omega
      by_cases hx1 : x < ns.length
      case neg =>
        have HE : Aside0 (markL (ps.take (j + 1).toNat) (t, b) = (t', b')) := ⟨by rw [HS.out]; unfold mark1; rw [if_neg (fun h => hx1 (by rw [← htl]; exact h.2.1))]⟩
        clear htl
        go_wp2_with fail
        go_roundw
        case rel => exact ⟨j + 1, b', t', rfl, rfl, by omega, by omega, HE, HM', HK'⟩
        case measure => simp [intOf]; omega
      obtain ⟨hyc, hyf⟩ := R_celln false HM'.out.seen x hx0 hx1
      by_cases hse : rdOf false t' x = true
      case pos =>
        have HE : Aside0 (markL (ps.take (j + 1).toNat) (t, b) = (t', b')) := ⟨by rw [HS.out]; unfold mark1; rw [if_neg (fun h => by rw [hse] at h; exact absurd h.2.2 (by decide))]⟩
        rw [hse] at hyc
        clear htl hse
        go_wp2_with fail
        go_roundw
        case rel => exact ⟨j + 1, b', t', rfl, rfl, by omega, by omega, HE, HM', HK'⟩
        case measure => simp [intOf]; omega
      rw [Bool.not_eq_true] at hse
      have HE : Aside0 (markL (ps.take (j + 1).toNat) (t, b) = (t'.set x.toNat true, true)) := ⟨by rw [HS.out]; unfold mark1; rw [if_pos ⟨hx0, by show x < (t'.length : Int); omega, hse⟩]⟩
      obtain ⟨g', cap', hvs, _, _, cells, hgc⟩ := Kd.R_form HM'.out.seen (by omega)
      have hgg : g = g' := by injection hvs with e _ _; injection e with e; injection e
      subst hgg
      have hft := blk_ne HK'.out hgc (by decide)
      rw [hse] at hyc
      have HP := Aside0.mk (HM'.out.put x (by omega))
      have HKP := Aside0.mk (blk_far (p := ⟨g, x.toNat, none⟩) HK'.out hft (.bool true))
      clear htl hse hft hvs hgc cells
      go_wp2_with fail
      go_roundw
      case rel => exact ⟨j + 1, true, _, rfl, rfl, by omega, by omega, HE, HP, HKP⟩
      case measure => simp [intOf]; omega
end Go.Proofs.Ytgbmebnfbhdpiaa
namespace Go.Proofs.Ytgbmebnfbhdpiaa
open Go.RowKit Go.Proofs.YtgbmebnfbhdpiaaW.PrintWords Go.Proofs.YtgbmebnfbhdpiaaW.PrintLast

open Classical in
/-- How many are marked in a row. -/
noncomputable def marks (w : World) (A : Option Addr) (n : Nat) : Nat := match A with
  | none => 0
  | some a => (List.range n).countP fun i => decide (w.cell? (a.add i) = some (.bool true))
theorem count_range : ∀ t : List Bool, t.count true = (List.range t.length).countP fun i => t.getD i false
  | [] => rfl
  | b :: t => by
    have := count_range t
    rw [List.length_cons, List.range_succ_eq_map, List.countP_cons, List.countP_map, List.count_cons, this]
    congr 1
    · simp
theorem marks_of {w : World} {A : Option Addr} {n : Nat} {t : List Bool} (h : Kd.C Kd.bool w A n t) : marks w A n = t.count true := by
  obtain ⟨hl, _, hc⟩ := h
  subst hl
  rcases Nat.eq_zero_or_pos t.length with h0 | h0
  · have : t = [] := List.eq_nil_of_length_eq_zero h0
    subst this
    cases A <;> rfl
  obtain ⟨a, rfl, hd⟩ := hc h0
  rw [count_range]
  unfold marks
  refine List.countP_congr fun i hi => ?_
  have hi' : i < t.length := List.mem_range.1 hi
  obtain ⟨cs, e1, e2, e3⟩ := hd i t[i] (List.getElem?_eq_getElem hi')
  have e2' : cs = [.bool t[i]] := e2
  subst e2'
  have := e3 0 _ rfl
  have e1 : (Kd.bool).sz = 1 := rfl
  rw [e1, Nat.mul_one, Nat.add_zero] at this
  rw [this, List.getD_eq_getElem?_getD, List.getElem?_eq_getElem hi']
  simp

set_option maxRecDepth 100000 in
set_option maxHeartbeats 4000000 in
theorem f43_of (h37 : SpecCheck 37) (A0 : Option Addr) (c0 : Nat) (A1 : Option Addr) (c1 : Nat) (ns : List GN) (rs : List GR) (w : World) (hn : GraphC w A0 c0 A1 c1 ns rs) (hl0 : ns.length ≤ 60) (hl1 : rs.length ≤ 60)
    (hg : graphE ns rs = 0) (hnp : ∀ i : Nat, i < ns.length → (ns.getD i noN).1 ≠ 3) :
    Calls Try.prog 43 #[.agg #[.slice A0 ns.length c0, .slice A1 rs.length c1]] w fun e w' => ∃ B k, e = .returned (.tuple #[.slice B ns.length k, .int .i64 0]) ∧
      Kd.R Kd.bool 4 w' w.heap.size (fun _ => True) (.slice B ns.length k) (reachB (ofN ns) (ofS rs) (-1)) ∧ Below w.heap.size w w' := by
  have HN := Aside0.mk hn
  have HNP := Aside0.mk hnp
  have HG := Aside0.mk hg
  have HOK := Aside0.mk (ofN_pairless hg hl0 hl1)
  have H37 := Aside0.mk h37
  clear hn hnp hg h37
  have HB0 : Aside0 (Below w.heap.size w (w.alloc (.cells #[.slice A0 ns.length c0, .slice A1 rs.length c1] 58))) := ⟨(Below.refl _ _).alloc (Nat.le_refl _) _⟩
  have HK0 : Aside0 ((w.alloc (.cells #[.slice A0 ns.length c0, .slice A1 rs.length c1] 58)).heap[w.heap.size]? = some (.cells #[.slice A0 ns.length c0, .slice A1 rs.length c1] 58 (0, 0))) := ⟨blk_new _ _⟩
  go_enter Try.func43, Try.ntmps43
  go_wp2_with fail
  generalize (w.alloc (.cells #[.slice A0 ns.length c0, .slice A1 rs.length c1] 58)) = wo at HB0 HK0 ⊢
  refine (H37.out A0 c0 A1 c1 ns rs _ (HN.out.below HB0.out) hl0 hl1).mono ?_
  rintro e w1 ⟨rfl, hb⟩
  rw [HG.out]
  have HB1 := Aside0.mk (below_trans HB0.out hb)
  have HK1 := Aside0.mk (blk_below HK0.out hb)
  obtain ⟨hg0, hg1⟩ := box2 HK1.out
  clear hb HB0 HK0
  go_wp2_with ((with_reducible refine gate_dst (N := 15) rfl ?_); go_loud (refine Kd.R_make Kd.bool (w0 := w) w.heap.size 4 rfl (N := 15) rfl 43 _ _ rfl (ns.length : Int) rfl rfl Try.underlying43 (.bool false) 1 info4 rfl (by decide) (by omega) false (ok := fun _ => True) (okp := fun _ => True) rfl (fun _ hk => hk) trivial (by omega) (by omega) HB1.out HB1.out.size ?_; intro v15 w2 ho hb hgr hnew; clear hnew; obtain ⟨B, kB, e15⟩ := Kd.R_slice ho; rw [List.length_replicate, Int.toNat_natCast] at e15; subst e15; rw [Int.toNat_natCast] at ho; have HM0 : Aside0 (MkSt w w2 w2 w.heap.size #[.slice A0 ns.length c0, .slice A1 rs.length c1] (.slice B ns.length kB) (List.replicate ns.length false)) := ⟨⟨hb, blk_grown HK1.out hgr (by simp), ho, World.grownBy.refl _ _⟩⟩; clear ho hb hgr))
  clear hg0 hg1 HB1 HK1
  go_loopw [6] (fun v6 wr => ∃ (i : Int) (t : List Bool), v6 = .int .i64 i ∧ 0 ≤ i ∧ i ≤ rs.length ∧ Aside0 (Marked ns rs i.toNat t) ∧ Aside0 (MkSt w w2 wr w.heap.size #[.slice A0 ns.length c0, .slice A1 rs.length c1] (.slice B ns.length kB) t)) (fun v _ => rs.length - (intOf v).toNat)
  case atStart => exact ⟨0, _, rfl, by omega, by omega, ⟨marked_start ns rs⟩, HM0⟩
  case round =>
    clear HM0
    obtain ⟨i, t, rfl, hi0, hi1, HT, HM⟩ := hrel
    obtain ⟨hg0, hg1⟩ := box2 HM.out.gbox
    by_cases hil : i < rs.length
    case pos =>
      obtain ⟨ad, sn, x, e, HXE, hc0, hc1⟩ := at_root (Kd.C_below HN.out.roots HM.out.below) i hi0 hil
      cases e
      have hrt := root_in HOK.out (j := i.toNat) (by omega)
      have hmk := HT.out.root HOK.out (by omega)
      rw [← HXE.out] at hrt hmk
      obtain ⟨_, hx0, hx1⟩ := hrt
      simp only at hx0 hx1 hmk
      have HMK := Aside0.mk hmk
      have htl : ns.length = t.length := (Kd.R_reads' HM.out.seen).1
      obtain ⟨g, cap, hvs, hbg, hgl, cells, hgc⟩ := Kd.R_form HM.out.seen (by omega)
      have hv1 := (Value.slice.inj hvs).1
      subst hv1
      obtain ⟨hyc, hyf⟩ := R_celln false HM.out.seen x hx0 hx1
      have HM2 := Aside0.mk (HM.out.put x (by omega))
      clear hmk htl hvs cells hgc hgl hbg
      go_wp2_with fail
      go_roundw
      case rel => exact ⟨i + 1, _, rfl, by omega, by omega, ⟨by rw [show (i + 1).toNat = i.toNat + 1 from by omega]; exact HMK.out⟩, HM2⟩
      case measure => simp [intOf]; omega
    have HT2 : Aside0 (Marked ns rs rs.length t) := ⟨by have := HT.out; rwa [show i.toNat = rs.length from by omega] at this⟩
    clear HT
    go_wp2_with fail
    clear hg0 hg1
    go_loopw [] (fun wr => ∃ (t : List Bool), Aside0 (Marked ns rs rs.length t) ∧ Aside0 (MkSt w w2 wr w.heap.size #[.slice A0 ns.length c0, .slice A1 rs.length c1] (.slice B ns.length kB) t)) (fun wr => ns.length - marks wr B ns.length)
    case atStart => exact ⟨_, HT2, HM⟩
    case round =>
      clear HT2 HM
      obtain ⟨t, HT, HM⟩ := hrel
      obtain ⟨hg0, hg1⟩ := box2 HM.out.gbox
      have hmk0 := marks_of (Kd.R_reads' HM.out.seen).2.2
      have HMK := Aside0.mk hmk0
      clear hmk0
      go_wp2_with fail
      refine (f63_any A0 c0 A1 rs.length c1 ns B kB t w _ HN.out.nodes HM.out.below HM.out.seen hl0 HNP.out).mono ?_
      rintro e w3 ⟨rfl, hb, hr, hgr⟩
      have HM3 : Aside0 (MkSt w w2 w3 w.heap.size #[.slice A0 ns.length c0, .slice A1 rs.length c1] (.slice B ns.length kB) (moreL ns ns.length (t, false)).1) := ⟨⟨hb, blk_grown HM.out.gbox hgr (Kd.R_ne HM.out.seen HM.out.gbox (by decide)), hr, HM.out.grown.trans hgr⟩⟩
      have HT3 := Aside0.mk (HT.out.more ns.length (Nat.le_refl _))
      clear hb hr hgr hg0 hg1
      by_cases hf : (moreL ns ns.length (t, false)).2 = true
      case neg =>
        rw [Bool.not_eq_true] at hf
        have HE := Aside0.mk (HT.out.fin HOK.out hf)
        have hst := (moreL_ext ns ns.length (t, false)).still hf
        rw [hst] at HM3
        rw [hf]
        clear hf hst
        go_wp2_with fail
        go_ret2
        refine ⟨B, kB, rfl, ?_, HM3.out.below⟩
        rw [← HE.out]
        exact HM3.out.seen
      rw [hf]
      have hcnt : (marks wr B ns.length) < marks w3 B ns.length ∧ marks w3 B ns.length ≤ ns.length := by
        have h3 := marks_of (Kd.R_reads' HM3.out.seen).2.2
        have hl3 := (Kd.R_reads' HM3.out.seen).1
        have hl := (Kd.R_reads' HM.out.seen).1
        have h4 : (moreL ns ns.length (t, false)).1.count true ≤ (moreL ns ns.length (t, false)).1.length := List.count_le_length
        have h1 := HMK.out
        rw [← hl] at h1
        rw [← hl3] at h3 h4
        rcases (moreL_ext ns ns.length (t, false)).same with e | ⟨_, e⟩
        · rw [e] at hf; cases hf
        · have e' : t.count true < (moreL ns ns.length (t, false)).1.count true := e
          omega
      have HC := Aside0.mk hcnt
      clear hf hcnt
      go_wp2_with fail
      go_roundw
      case rel => exact ⟨_, HT3, HM3⟩
      case measure => have := HC.out; omega
end Go.Proofs.Ytgbmebnfbhdpiaa
namespace Go.Proofs.Ytgbmebnfbhdpiaa
open Go.RowKit Go.Proofs.YtgbmebnfbhdpiaaW.PrintWords Go.Proofs.YtgbmebnfbhdpiaaW.PrintLast

theorem f42_any (s : ByteArray) (x a : Int) (p : Addr) (w : World) (hp : w.cell? p = some (.int .i64 a)) :
    Calls Try.prog 42 #[.agg #[.string s, .int .i64 x], .pointer (some p)] w fun e w' => e = .returned (.bool (x == a)) ∧ Below w.heap.size w w' := by
  have HB0 : Aside0 (Below w.heap.size w (w.alloc (.cells #[.string s, .int .i64 x] 71))) := ⟨(Below.refl _ _).alloc (Nat.le_refl _) _⟩
  have hk0 := blk_new w (.cells #[.string s, .int .i64 x] 71)
  have h0 := (blk_cell hk0 0).trans (show _ = some (Value.string s) from rfl)
  have h1 := (blk_cell hk0 1).trans (show _ = some (Value.int .i64 x) from rfl)
  have hpb := World.block_lt_of_cell? w _ hp
  have hm' := (HB0.out.cell hpb).trans hp
  clear hk0
  go_enter Try.func42, Try.ntmps42
  go_wp2_with fail
  go_ret
  exact ⟨rfl, HB0.out⟩
theorem cf42 (args : Array Value) (w : World) : (callFunc 42 args).run Try.prog w = .ok (.enter 42 args) w := callFunc_some Try.func42 (by kernel_rfl) (by kernel_rfl) args w

/-- The first root that names the node, or none. -/
def FirstOf (a : Int) (rs : List GR) (r : Int) : Prop := (r = -1 ∧ ∀ j : Nat, j < rs.length → ¬ (rs.getD j noR).2 = a) ∨ (0 ≤ r ∧ r < rs.length ∧ (rs.getD r.toNat noR).2 = a ∧ ∀ j : Nat, j < r.toNat → ¬ (rs.getD j noR).2 = a)
set_option maxRecDepth 100000 in
set_option maxHeartbeats 2000000 in
theorem f62_any (A : Option Addr) (c : Nat) (rs : List GR) (a : Int) (pb : Addr) (w : World) (hx : Kd.C kR w A rs.length rs) (hm : w.cell? pb = some (.int .i64 a)) :
    Calls Try.prog 62 #[.slice A rs.length c, .func (.func 42) #[] #[.pointer (some pb)]] w fun e w' => ∃ r, e = .returned (.int .i64 r) ∧ FirstOf a rs r ∧ Below w.heap.size w w' := by
  have HX := Aside0.mk hx
  have HM := Aside0.mk hm
  have hpb := World.block_lt_of_cell? w _ hm
  have hL0 : rs.length ≤ 9223372036854775807 := hx.2.1
  have hcf := cf42
  clear hx hm
  go_enter Try.func62, Try.ntmps62
  go_wp2_with fail
  obtain ⟨wo, rfl⟩ : ∃ wo : World, wo = w := ⟨_, rfl⟩
  go_loopw [8] (fun v8 wr => ∃ i : Int, v8 = .int .i64 i ∧ 0 ≤ i ∧ i ≤ rs.length ∧ Aside0 (∀ j : Nat, j < i.toNat → ¬ (rs.getD j noR).2 = a) ∧ Aside0 (Below wo.heap.size wo wr)) (fun v _ => rs.length - (intOf v).toNat)
  case atStart => exact ⟨0, rfl, by omega, by omega, ⟨fun j h1 => absurd h1 (Nat.not_lt_zero _)⟩, ⟨Below.refl _ _⟩⟩
  case round =>
    obtain ⟨i, rfl, h0, h1, HP, HB⟩ := hrel
    by_cases hil : i < rs.length
    case neg =>
      go_wp2_with fail
      go_ret
      exact ⟨-1, rfl, .inl ⟨rfl, fun j hj => HP.out j (by omega)⟩, HB.out⟩
    obtain ⟨ad, sn, x, e, HXE, hc0, hc1⟩ := at_root (Kd.C_below HX.out HB.out) i h0 hil
    cases e
    have hmc := (HB.out.cell hpb).trans HM.out
    go_wp2_with fail
    refine (f42_any sn x a pb _ hmc).mono ?_
    rintro e w1 ⟨rfl, hb⟩
    have HB1 := Aside0.mk (below_trans HB.out hb)
    clear hb
    by_cases hn : x = a
    · rw [show (x == a) = true from by simp [hn]]
      have HN : Aside0 ((rs.getD i.toNat noR).2 = a) := ⟨by rw [← HXE.out]; exact hn⟩
      clear hn
      go_wp2_with fail
      go_ret
      exact ⟨i, rfl, .inr ⟨h0, hil, HN.out, HP.out⟩, HB1.out⟩
    · rw [show (x == a) = false from by simp [hn]]
      have HN : Aside0 (¬ (rs.getD i.toNat noR).2 = a) := ⟨by rw [← HXE.out]; exact hn⟩
      clear hn
      go_wp2_with fail
      go_roundw
      case rel => exact ⟨i + 1, rfl, by omega, by omega, ⟨fun j j1 => by
        by_cases h : j < i.toNat
        · exact HP.out j h
        · obtain rfl : j = i.toNat := by omega
          exact HN.out⟩, HB1⟩
      case measure => simp [intOf]; omega
/-- All roots but those of one node. -/
def delR (a : Int) (l : List GR) : List GR := l.filter fun r => r.2 != a
theorem delR_len (a : Int) (l : List GR) : (delR a l).length ≤ l.length := List.length_filter_le _ _
theorem delR_snoc (a : Int) (x : GR) (l : List GR) : delR a (l ++ [x]) = if x.2 = a then delR a l else delR a l ++ [x] := by
  unfold delR
  rw [List.filter_append]
  by_cases c : x.2 = a
  · simp [c]
  · simp [c]
theorem delR_all {a : Int} {l : List GR} (h : ∀ x ∈ l, x.2 ≠ a) : delR a l = l := by
  unfold delR
  rw [List.filter_eq_self]
  intro x hx; simpa using h x hx
theorem takeR_succ {l : List GR} {j : Nat} (h : j < l.length) : l.take (j + 1) = l.take j ++ [l.getD j noR] := by
  rw [List.take_succ_eq_append_getElem h]
  simp [List.getD_eq_getElem?_getD, List.getElem?_eq_getElem h]
theorem add0 (g k : Nat) : (⟨g, 0, none⟩ : Addr).add k = ⟨g, k, none⟩ := by
  unfold Addr.add
  by_cases h : k = 0
  · rw [if_pos h, h]
  · rw [if_neg h]; simp

/-- Cells that a cleared row of roots holds. -/
def ZR : List Value → Prop
  | [] => True
  | a :: b :: Z => a = .string ByteArray.empty ∧ b = .int .i64 0 ∧ ZR Z
  | [_] => False
theorem kR_M {w : World} {b : Nat} {ok : Nat → Prop} (x : GR) : kR.M w b ok x [.string x.1, .int .i64 x.2] := ⟨[_], [_], rfl, rfl, rfl⟩
theorem R_cells2 {w : World} {base g n c : Nat} {ok : Nat → Prop} {L : List GR} (h : Kd.R kR 71 w base ok (.slice (some ⟨g, 0, none⟩) n c) L) (i : Nat) (hi : i < n) :
    w.cell? ⟨g, i * 2, none⟩ = some (.string (L.getD i noR).1) ∧ w.cell? ⟨g, i * 2 + 1, none⟩ = some (.int .i64 (L.getD i noR).2) := by
  obtain ⟨ad, s, x, e, HX, h0, h1⟩ := at_root (w := w) (A := some ⟨g, 0, none⟩) (n := n) (rs := L) (by have := Kd.R_reads' h; rw [this.1]; exact this.2.2) (i : Int) (by omega) (by omega)
  cases e
  have := HX.out
  rw [Int.toNat_natCast] at this h0 h1
  rw [← this]
  rw [add0] at h0 h1
  exact ⟨h0, h1⟩
theorem R_putR {w : World} {base g n c : Nat} {ok : Nat → Prop} {L : List GR} (h : Kd.R kR 71 w base ok (.slice (some ⟨g, 0, none⟩) n c) L) (i : Nat) (hi : i < n) (x : GR) :
    Kd.R kR 71 (w.setCells g (i * 2) [.string x.1, .int .i64 x.2]) base ok (.slice (some ⟨g, 0, none⟩) n c) (L.set i x) ∧ w.grownBy (w.setCells g (i * 2) [.string x.1, .int .i64 x.2]) (some g) := by
  obtain ⟨h0, h1⟩ := R_cells2 h i hi
  have := Kd.R_seg (okp := fun _ => False) (c := [.string (L.getD i noR).1, .int .i64 (L.getD i noR).2]) (seg := [.string x.1, .int .i64 x.2]) (j := 0) (x' := x) h (i : Int) (by omega) (by omega) rfl (fun j u hj => by
    rw [Int.toNat_natCast]
    match j, hj with
    | 0, hj => cases hj; exact h0
    | 1, hj => cases hj; exact h1) (by show 0 + 2 ≤ 2; omega) (kR_M x) (fun _ hk => hk.elim)
  rw [Int.toNat_natCast] at this
  exact this
theorem R_clearR (g n c base : Nat) (ok : Nat → Prop) : ∀ (m o : Nat) (Z : List Value) (w : World) (L : List GR), Z.length = m * 2 → ZR Z → o + m ≤ n → Kd.R kR 71 w base ok (.slice (some ⟨g, 0, none⟩) n c) L →
    ∃ L', (∀ k, k ≤ o → L'.take k = L.take k) ∧ Kd.R kR 71 (w.setCells g (o * 2) Z) base ok (.slice (some ⟨g, 0, none⟩) n c) L' ∧ w.grownBy (w.setCells g (o * 2) Z) (some g)
  | 0, o, [], w, L, _, _, _, h => ⟨L, fun _ _ => rfl, h, World.grownBy.refl _ _⟩
  | 0, o, _ :: _, w, L, e, _, _, h => by simp at e
  | m + 1, o, [], w, L, e, _, _, h => by simp at e
  | m + 1, o, [_], w, L, e, hz, _, h => hz.elim
  | m + 1, o, x :: y :: Z, w, L, e, ⟨hx, hy, hz⟩, ho, h => by
    subst hx hy
    have h1 := R_putR h o (by omega) (ByteArray.empty, 0)
    obtain ⟨L', e1, e2, e3⟩ := R_clearR g n c base ok m (o + 1) Z _ _ (by simp at e; omega) hz (by omega) h1.1
    refine ⟨L', fun k hk => ?_, ?_, ?_⟩
    · rw [e1 k (by omega), List.take_set_of_le (by omega)]
    · rw [show (o + 1) * 2 = o * 2 + 1 + 1 from by omega] at e2; exact e2
    · rw [show (o + 1) * 2 = o * 2 + 1 + 1 from by omega] at e3; exact h1.2.trans e3
theorem ZR_of : ∀ (m : Nat) (Z : List Value), Z.length = m * 2 → (∀ (i : Nat) (u : Value), Z[i]? = some u → u = if i % 2 = 0 then .string ByteArray.empty else .int .i64 0) → ZR Z
  | 0, [], _, _ => trivial
  | 0, _ :: _, e, _ => by simp at e
  | m + 1, [], e, _ => trivial
  | m + 1, [_], e, _ => by simp at e; omega
  | m + 1, x :: y :: Z, e, h => ⟨h 0 x rfl, h 1 y rfl, ZR_of m Z (by simp at e; omega) (fun i u hu => by
    have := h (i + 2) u (by simpa using hu)
    rw [show (i + 2) % 2 = i % 2 from by omega] at this; exact this)⟩
theorem zr_zero (n : Nat) : (Builtin.zeroCells #[.string ByteArray.empty, .int .i64 0] n).toList.length = n * 2 ∧ ZR (Builtin.zeroCells #[.string ByteArray.empty, .int .i64 0] n).toList := by
  have hl : (Builtin.zeroCells #[.string ByteArray.empty, .int .i64 0] n).toList.length = n * 2 := by simp [Builtin.zeroCells]
  refine ⟨hl, ZR_of n _ hl fun i u hu => ?_⟩
  simp only [Builtin.zeroCells, Array.getElem?_toList, Array.getElem?_map] at hu
  obtain ⟨q, hq, rfl⟩ := Option.map_eq_some_iff.1 hu
  have : q = i := by
    obtain ⟨hlt, e⟩ := Array.getElem?_eq_some_iff.1 hq
    simpa using e.symm
  subst this
  rcases Nat.mod_two_eq_zero_or_one q with c | c
  · simp [c]
  · simp [c]
theorem ZR_one : ∀ (Z : List Value), ZR Z → ∀ u ∈ Z, u.oneCell' = true
  | [], _, u, hu => by simp at hu
  | [_], h, _, _ => h.elim
  | x :: y :: Z, ⟨hx, hy, hz⟩, u, hu => by
    rcases List.mem_cons.1 hu with e | e
    · subst e; subst hx; rfl
    · rcases List.mem_cons.1 e with e | e
      · subst e; subst hy; rfl
      · exact ZR_one Z hz u e
theorem run_clear56 (w : World) (ty : TypeId) (g o n c : Nat) (hn : 0 < n) (hc : ∀ j, j < n * 2 → (w.cell? ⟨g, o + j, none⟩).isSome = true) (hf : ∀ j, j < n * 2 → w.frozen? ⟨g, o + j, none⟩ = false) :
    (Builtin.clear_ #[56] ty #[.slice (some ⟨g, o, none⟩) n c]).run Try.prog w = .ok (.tuple #[]) (w.setCells g o (Builtin.zeroCells #[.string ByteArray.empty, .int .i64 0] n).toList) := by
  obtain ⟨hl, hz⟩ := zr_zero n
  have hst := run_storeCells_cells (P := Try.prog) g o (Builtin.zeroCells #[.string ByteArray.empty, .int .i64 0] n).toList 0 w (by simpa [hl] using hc) (by simpa [hl] using hf) (ZR_one _ hz)
  simp only [Nat.add_zero] at hst
  obtain ⟨m, rfl⟩ : ∃ m, n = m + 1 := ⟨n - 1, by omega⟩
  have hv : (zeroValue 71).run Try.prog w = .ok (.agg #[.string ByteArray.empty, .int .i64 0]) w := by kernel_rfl
  simp [Builtin.clear_, run_underlying Try.underlying56, hv, Value.cells, hst]
end Go.Proofs.Ytgbmebnfbhdpiaa
namespace Go.Proofs.Ytgbmebnfbhdpiaa
open Go.RowKit Go.Proofs.YtgbmebnfbhdpiaaW.PrintWords Go.Proofs.YtgbmebnfbhdpiaaW.PrintLast

set_option maxRecDepth 100000 in
set_option maxHeartbeats 4000000 in
theorem f41_any (A : Option Addr) (n c : Nat) (xs : List GR) (pb : Nat) (a : Int) (base : Nat) (ok : Nat → Prop) (w : World) (hx : Kd.R kR 71 w base ok (.slice A n c) xs) (hn : xs.length = n) (hp : w.cell? ⟨pb, 0, none⟩ = some (.int .i64 a)) (hpb : pb < base) (hl : n ≤ 65536) :
    Calls Try.prog 41 #[.slice A n c, .func (.func 42) #[] #[.pointer (some ⟨pb, 0, none⟩)]] w fun e w' => e = .returned (.slice A (delR a xs).length c) ∧ Kd.R kR 71 w' base ok (.slice A (delR a xs).length c) (delR a xs) ∧ w.grownBy w' (Value.slice A n c).ownBlock := by
  subst hn
  have HX := Aside0.mk hx
  have hcl := hx
  have hh := f62_any A c xs a ⟨pb, 0, none⟩ w (Kd.R_reads' hx).2.2 hp
  have HH := Aside0.mk hh
  have HP := Aside0.mk hp
  clear hh hp
  have hcx : xs.length ≤ c := (Kd.R_reads' hx).2.1
  clear hx hcl
  go_enter Try.func41, Try.ntmps41
  go_wp2_with fail
  refine HH.out.mono ?_
  rintro e wo ⟨r, rfl, hfst, hb⟩
  have HB := Aside0.mk hb
  have HX1 := Aside0.mk (Kd.R_below HX.out hb)
  have HP1 := Aside0.mk ((hb.cell (World.block_lt_of_cell? _ _ HP.out)).trans HP.out)
  clear hb
  rcases hfst with ⟨rfl, e2⟩ | ⟨hr0, hr1, hr2, hr3⟩
  · have HE : Aside0 (delR a xs = xs) := ⟨delR_all (fun x h => by
      obtain ⟨j, hj, rfl⟩ := List.getElem_of_mem h
      have := e2 j hj
      rwa [List.getD_eq_getElem?_getD, List.getElem?_eq_getElem hj, Option.getD_some] at this)⟩
    clear e2
    go_wp2_with fail
    go_ret
    rw [HE.out]
    exact ⟨rfl, HX1.out, grown_of_below HB.out _⟩
  obtain ⟨k, hk⟩ : ∃ k : Nat, r = k := ⟨r.toNat, by omega⟩
  subst hk
  have k1 : k < xs.length := by omega
  rw [Int.toNat_natCast] at hr2 hr3
  obtain ⟨g, cap, hvs, hbg, hgl, cells, hgc⟩ := Kd.R_form HX1.out (by omega)
  have hv1 := (Value.slice.inj hvs).1
  subst hv1
  have HI0 : Aside0 (xs.take k = delR a (xs.take (k + 1)) ∧ xs.drop (k + 1) = xs.drop (k + 1)) := ⟨by
    rw [takeR_succ k1, delR_snoc, if_pos hr2]
    refine (delR_all fun x hx => ?_).symm
    obtain ⟨j, hj, rfl⟩ := List.getElem_of_mem hx
    rw [List.length_take] at hj
    have := hr3 j (by omega)
    rw [List.getD_eq_getElem?_getD, List.getElem?_eq_getElem (by omega)] at this
    simpa using this, rfl⟩
  have hne : ((k : Int) == -1) = false := beq_eq_false_iff_ne.2 (by omega)
  have hgp : g ≠ pb := by omega
  have hcf := cf42
  clear hvs hgc cells hgl hbg cap hr0 hr1 hr2 hr3
  go_wp2_with fail
  obtain ⟨wi, hwi⟩ : ∃ wi : World, wi = wo := ⟨_, rfl⟩
  subst hwi
  go_loopw [5, 6] (fun v5 v6 wr => ∃ (i j : Int) (L : List GR), v5 = .int .i64 i ∧ v6 = .int .i64 j ∧ 0 ≤ i ∧ i < j ∧ j ≤ xs.length ∧ Aside0 (L.take i.toNat = delR a (xs.take j.toNat) ∧ L.drop j.toNat = xs.drop j.toNat) ∧ Aside0 (Kd.R kR 71 wr base ok (.slice (some ⟨g, 0, none⟩) xs.length c) L) ∧ Aside0 (wi.grownBy wr (some g))) (fun _ v6 _ => xs.length - (intOf v6).toNat)
  case atStart => exact ⟨k, k + 1, xs, rfl, rfl, by omega, by omega, by omega, ⟨by rw [show ((k : Int) + 1).toNat = k + 1 from by omega, Int.toNat_natCast]; exact ⟨HI0.out.1, rfl⟩⟩, HX1, ⟨World.grownBy.refl _ _⟩⟩
  case round =>
    obtain ⟨i, j, L, rfl, rfl, hi0, hij, hj1, HI, HR, HG⟩ := hrel
    have hLl : L.length = xs.length := (Kd.R_reads' HR.out).1.symm
    by_cases hjl : j < xs.length
    case pos =>
      obtain ⟨hjc, hjd⟩ := R_cells2 HR.out j.toNat (by omega)
      have hpc : wr.cell? ⟨pb, 0, none⟩ = some (.int .i64 a) := HG.out.cell HP1.out (by simp; exact fun e => hgp e.symm)
      have hx : L.getD j.toNat noR = xs.getD j.toNat noR := by
        have := congrArg (fun l => l[0]?) HI.out.2
        simp only [List.getElem?_drop, Nat.add_zero] at this
        rw [List.getD_eq_getElem?_getD, List.getD_eq_getElem?_getD, this]
      have hts := takeR_succ (l := xs) (j := j.toNat) (by omega)
      obtain ⟨⟨sn, x⟩, hxe⟩ : ∃ x, x = L.getD j.toNat noR := ⟨_, rfl⟩
      rw [← hxe] at hjc hjd hx
      rw [← hx] at hts
      have HTS := Aside0.mk hts
      simp only at hjc hjd
      clear hxe hx hts
      have hdrop : ∀ M : List GR, M.length = L.length → (∀ t, j.toNat < t → M[t]? = L[t]?) → M.drop (j + 1).toNat = xs.drop (j + 1).toNat := fun M hM h => by
        have h2 := congrArg (fun l => l.drop 1) HI.out.2
        simp only [List.drop_drop] at h2
        rw [show (j + 1).toNat = j.toNat + 1 from by omega, ← h2]
        apply List.ext_getElem?
        intro t
        rw [List.getElem?_drop, List.getElem?_drop]
        exact h _ (by omega)
      have HDROP := Aside0.mk hdrop
      have HLL := Aside0.mk hLl
      have hja : (⟨g, 0, none⟩ : Addr).add (j.toNat * 2) = ⟨g, j.toNat * 2, none⟩ := add0 _ _
      have hia : (⟨g, 0, none⟩ : Addr).add (i.toNat * 2) = ⟨g, i.toNat * 2, none⟩ := add0 _ _
      have HB1 : Aside0 (Below wr.heap.size wr (wr.alloc (.cells #[.string sn, .int .i64 x] 71))) := ⟨below_alloc (Below.refl _ _) _⟩
      have HK1 : Aside0 ((wr.alloc (.cells #[.string sn, .int .i64 x] 71)).heap[wr.heap.size]? = some (.cells #[.string sn, .int .i64 x] 71 (0, 0))) := ⟨blk_new _ _⟩
      have hpc1 := (HB1.out.cell (World.block_lt_of_cell? _ _ hpc)).trans hpc
      have HPC := Aside0.mk hpc1
      clear hdrop hLl hpc1
      go_wp2_with fail
      refine (f42_any sn x a ⟨pb, 0, none⟩ _ HPC.out).mono ?_
      rintro e w1 ⟨rfl, hb⟩
      have HB2 := Aside0.mk (below_trans HB1.out hb)
      have hk2 := blk_below HK1.out hb
      have hb0 := (blk_cell hk2 0).trans (show _ = some (Value.string sn) from rfl)
      have hb1 := (blk_cell hk2 1).trans (show _ = some (Value.int .i64 x) from rfl)
      have HR2 := Aside0.mk (Kd.R_below HR.out HB2.out)
      have HG2 := Aside0.mk (HG.out.trans (grown_of_below HB2.out (some g)))
      clear hb hk2 HPC HK1 HB1 hjc hjd hpc
      by_cases hxa : x = a
      · rw [show (x == a) = true from by simp [hxa]]
        have HXA := Aside0.mk hxa
        clear hxa hb0 hb1
        go_wp2_with fail
        go_roundw
        case rel => exact ⟨i, j + 1, L, rfl, rfl, hi0, by omega, by omega, ⟨by rw [show (j + 1).toNat = j.toNat + 1 from by omega, HTS.out, delR_snoc, if_pos HXA.out]; exact HI.out.1, HDROP.out L rfl (fun _ _ => rfl)⟩, HR2, HG2⟩
        case measure => simp [intOf]; omega
      · rw [show (x == a) = false from by simp [hxa]]
        have HXA := Aside0.mk hxa
        have HR3 := Aside0.mk (R_putR HR2.out i.toNat (by omega) (sn, x))
        obtain ⟨hic, hid⟩ := R_cells2 HR2.out i.toNat (by omega)
        obtain ⟨g', cap', hvs, _, _, cells, hgc⟩ := Kd.R_form HR2.out (by have := HLL.out; omega)
        have hgg : g = g' := by injection hvs with e _ _; injection e with e; injection e
        subst hgg
        have hf0 := blk_frozen hgc (i.toNat * 2)
        have hf1 := blk_frozen hgc (i.toNat * 2 + 1)
        clear hxa hvs hgc cells
        go_wp2_with fail
        go_roundw
        case rel =>
          refine ⟨i + 1, j + 1, L.set i.toNat (sn, x), rfl, rfl, by omega, by omega, by omega, ⟨?_, HDROP.out _ (by simp) (fun t ht => by rw [List.getElem?_set, if_neg (by omega)])⟩, ⟨HR3.out.1⟩, ⟨HG2.out.trans HR3.out.2⟩⟩
          rw [show (j + 1).toNat = j.toNat + 1 from by omega, HTS.out, delR_snoc, if_neg HXA.out, ← HI.out.1, show (i + 1).toNat = i.toNat + 1 from by omega]
          rw [List.take_succ_eq_append_getElem (by rw [List.length_set]; have := HLL.out; omega), List.take_set_of_le (Nat.le_refl _)]
          simp
        case measure => simp [intOf]; omega
    case neg =>
      have hje : j.toNat = xs.length := by omega
      have hte : L.take i.toNat = delR a xs := by rw [HI.out.1, hje, List.take_length]
      have hil : i.toNat = (delR a xs).length := by rw [← hte, List.length_take]; omega
      have hZ := zr_zero (xs.length - i.toNat)
      obtain ⟨g', cap', hvs, _, _, cells, hgc⟩ := Kd.R_form HR.out (by omega)
      have hgg : g = g' := by injection hvs with e _ _; injection e with e; injection e
      subst hgg
      have hclr := fun ty => run_clear56 wr ty g (i.toNat * 2) (xs.length - i.toNat) (c - i.toNat) (by omega)
        (fun t ht => by
          obtain ⟨h0, h1⟩ := R_cells2 HR.out (i.toNat + t / 2) (by omega)
          rcases Nat.mod_two_eq_zero_or_one t with e | e
          · rw [show i.toNat * 2 + t = (i.toNat + t / 2) * 2 from by omega, h0]; rfl
          · rw [show i.toNat * 2 + t = (i.toNat + t / 2) * 2 + 1 from by omega, h1]; rfl)
        (fun t ht => blk_frozen hgc _)
      obtain ⟨L', e1, e2, e3⟩ := R_clearR g xs.length c base ok (xs.length - i.toNat) i.toNat _ wr L hZ.1 hZ.2 (by omega) HR.out
      have e4 := Kd.R_take e2 (m := i.toNat) (by rw [← (Kd.R_reads' e2).1]; omega)
      rw [e1 _ (Nat.le_refl _), hte] at e4
      have HF := Aside0.mk (And.intro hil (And.intro e4 (HG.out.trans e3)))
      have hic : i ≤ (c : Int) := by omega
      clear e1 e2 e3 e4 hte hje hil hZ hvs hgc cells hLl
      go_wp2_with fail
      go_ret
      refine ⟨by rw [← HF.out.1]; first | rfl | simp, by rw [← HF.out.1]; exact HF.out.2.1, (grown_of_below HB.out _).trans HF.out.2.2⟩
end Go.Proofs.Ytgbmebnfbhdpiaa
namespace Go.Proofs.Ytgbmebnfbhdpiaa
open Go.RowKit Go.Proofs.YtgbmebnfbhdpiaaW.PrintWords Go.Proofs.YtgbmebnfbhdpiaaW.PrintLast

/-- A node's own cells: its kind, where its pointers lie, where its bytes. -/
abbrev GH := Int × (Hdr × Hdr)
abbrev kGH : Kd GH := Kd.pair (Kd.int .i64) (Kd.pair KdH KdH)
theorem kGH_M {w : World} {b : Nat} {ok : Nat → Prop} (h : GH) : kGH.M w b ok h [.int .i64 h.1, encH h.2.1, encH h.2.2] := ⟨[_], [_, _], rfl, rfl, [_], [_], rfl, rfl, rfl⟩
/-- The copy while it grows. -/
structure GcSt (w0 w : World) (ob : Nat) (vn vr : Value) (H : List GH) (ns : List GN) (rs : List GR) (O : Nat → Nat) : Prop where
  below : Below w0.heap.size w0 w
  obk : w.heap[ob]? = some (.cells #[vn, vr] 58 (0, 0))
  heads : kGH.R 61 w w0.heap.size (fun _ => True) vn H
  len : H.length = ns.length
  kinds : ∀ (i : Nat) (h : GH), H[i]? = some h → h.1 = (ns.getD i noN).1
  ptrs : ∀ (i : Nat) (h : GH), H[i]? = some h → h.2.1.2.1 = (ns.getD i noN).2.1.length ∧ Kd.R (Kd.int .i64) 3 w w0.heap.size (fun z => O z = i + 2) (encH h.2.1) (ns.getD i noN).2.1
  data : ∀ (i : Nat) (h : GH), H[i]? = some h → h.2.2.2.1 = (ns.getD i noN).2.2.length ∧ Kd.R (Kd.int .u8) 5 w w0.heap.size (fun _ => True) (encH h.2.2) (ns.getD i noN).2.2
  roots : Kd.R kR 71 w w0.heap.size (fun _ => True) vr rs
  oge : w0.heap.size ≤ ob
section
variable {w0 w : World} {ob : Nat} {vn vr : Value} {H : List GH} {ns : List GN} {rs : List GR} {O : Nat → Nat}
theorem GcSt.step {w1 : World} (h : GcSt w0 w ob vn vr H ns rs O) (hb : Below w.heap.size w w1) : GcSt w0 w1 ob vn vr H ns rs O :=
  ⟨h.below.trans (hb.mono h.below.size), blk_below h.obk hb, Kd.R_below h.heads hb, h.len, h.kinds, fun i hd hi => ⟨(h.ptrs i hd hi).1, Kd.R_below (h.ptrs i hd hi).2 hb⟩, fun i hd hi => ⟨(h.data i hd hi).1, Kd.R_below (h.data i hd hi).2 hb⟩, Kd.R_below h.roots hb, h.oge⟩
theorem GcSt.drew (h : GcSt w0 w ob vn vr H ns rs O) : GcSt w0 w.drew ob vn vr H ns rs O := h.step (below_drew (Below.refl _ _))
/-- Behind the copies of one more node's rows (their blocks lie from b on), before the heads are told of it. -/
theorem GcSt.more {w1 w2 : World} {v2 : Value} {k : Int} {A : Option Addr} {n c : Nat} {ps : List Int} {A' : Option Addr} {n' c' : Nat} {ds : List Int} {j : Nat} (h : GcSt w0 w ob vn vr H ns rs O) (hj : j = ns.length) (hb1 : Below w.heap.size w w1)
    (hl : Kd.R (Kd.int .i64) 3 w1 w.heap.size (fun _ => True) (encH (A, n, c)) ps) (hn : n = ps.length) (hd : Kd.R (Kd.int .u8) 5 w1 w.heap.size (fun _ => True) (encH (A', n', c')) ds) (hn' : n' = ds.length)
    (ho : kGH.R 61 w2 w0.heap.size (fun _ => True) v2 (H ++ [(k, (A, n, c), (A', n', c'))])) (hb : Below w0.heap.size w0 w2) (hg : w1.grownBy w2 vn.ownBlock) :
    w2.heap[ob]? = some (.cells #[vn, vr] 58 (0, 0)) ∧ GcSt w0 (w2.setCell ⟨ob, 0, none⟩ v2) ob v2 vr (H ++ [(k, (A, n, c), (A', n', c'))]) (ns ++ [(k, (ps, ds))]) rs (ownTo O w.heap.size (j + 2)) := by
  have h1 := h.step hb1
  have hob := blk_grown h1.obk hg (Kd.R_ne h1.heads h1.obk (by decide))
  have hto : ∀ {i : Nat} {v : Value} {xs : List Int}, i ≠ j + 2 → Kd.R (Kd.int .i64) 3 w w0.heap.size (fun z => O z = i) v xs → Kd.R (Kd.int .i64) 3 (w2.setCell ⟨ob, 0, none⟩ v2) w0.heap.size (fun z => ownTo O w.heap.size (j + 2) z = i) v xs := fun {i v xs} hne hr =>
    Kd.R_set (Kd.R_over' (Kd.R_below (R_ownTo (Nat.le_refl _) hr) hb1) (Kd.R_typed h1.heads) (by decide) hg) hob (by decide) _ _
  have hcase : ∀ (i : Nat) (hd' : GH), (H ++ [(k, (A, n, c), (A', n', c'))])[i]? = some hd' → (H[i]? = some hd' ∧ i < ns.length ∧ (ns ++ [(k, (ps, ds))]).getD i noN = ns.getD i noN) ∨ (i = ns.length ∧ hd' = (k, (A, n, c), (A', n', c')) ∧ (ns ++ [(k, (ps, ds))]).getD i noN = (k, (ps, ds))) := by
    intro i hd' hi
    have hlt := (List.getElem?_eq_some_iff.1 hi).1
    rw [List.length_append, List.length_singleton] at hlt
    by_cases cc : i < H.length
    · rw [List.getElem?_append_left cc] at hi
      refine .inl ⟨hi, by rw [← h.len]; exact cc, ?_⟩
      rw [List.getD_eq_getElem?_getD, List.getElem?_append_left (by rw [← h.len]; exact cc), ← List.getD_eq_getElem?_getD]
    · obtain rfl : i = H.length := by omega
      rw [List.getElem?_append_right (Nat.le_refl _), Nat.sub_self] at hi
      simp only [List.getElem?_cons_zero, Option.some.injEq] at hi
      refine .inr ⟨h.len, hi.symm, ?_⟩
      rw [h.len, List.getD_eq_getElem?_getD, List.getElem?_append_right (Nat.le_refl _), Nat.sub_self]; rfl
  refine ⟨hob, hb.setCell h.oge _, blk_put hob 0 v2 rfl, Kd.R_set ho hob (by decide) _ _, by simp [h.len], fun i hd' hi => ?_, fun i hd' hi => ?_, fun i hd' hi => ?_, ?_, h.oge⟩
  · rcases hcase i hd' hi with ⟨a, _, b⟩ | ⟨_, a, b⟩
    · rw [b]; exact h.kinds i hd' a
    · rw [b, a]
  · rcases hcase i hd' hi with ⟨a, a', b⟩ | ⟨a', a, b⟩
    · rw [b]; exact ⟨(h.ptrs i hd' a).1, hto (by omega) (h.ptrs i hd' a).2⟩
    · rw [b, a]
      refine ⟨hn, ?_⟩
      have h3 : Kd.R (Kd.int .i64) 3 w1 w.heap.size (fun z => ownTo O w.heap.size (j + 2) z = i + 2) (encH (A, n, c)) ps := Kd.R_mono (Kd.R_bound hl) (fun k hk => by
        unfold ownTo; rw [if_pos hk.2.1, hj, a'])
      exact Kd.R_set (Kd.R_over' (Kd.R_lower h3 h.below.size) (Kd.R_typed h1.heads) (by decide) hg) hob (by decide) _ _
  · rcases hcase i hd' hi with ⟨a, a', b⟩ | ⟨a', a, b⟩
    · rw [b]; exact ⟨(h.data i hd' a).1, Kd.R_set (Kd.R_over' (h1.data i hd' a).2 (Kd.R_typed h1.heads) (by decide) hg) hob (by decide) _ _⟩
    · rw [b, a]
      exact ⟨hn', Kd.R_set (Kd.R_over' (Kd.R_lower hd h.below.size) (Kd.R_typed h1.heads) (by decide) hg) hob (by decide) _ _⟩
  · exact Kd.R_set (Kd.R_over' h1.roots (Kd.R_typed h1.heads) (by decide) hg) hob (by decide) _ _
theorem GcSt.setC {rb : Nat} {cells : Array Value} (h : GcSt w0 w ob vn vr H ns rs O) (hb : w.heap[rb]? = some (.cells cells 58 (0, 0))) (hne : ob ≠ rb) (hge : w0.heap.size ≤ rb) (j : Nat) (u : Value) : GcSt w0 (w.setCell ⟨rb, j, none⟩ u) ob vn vr H ns rs O :=
  ⟨h.below.setCell hge _, blk_far h.obk hne _, Kd.R_set h.heads hb (by decide) _ _, h.len, h.kinds, fun i hd hi => ⟨(h.ptrs i hd hi).1, Kd.R_set (h.ptrs i hd hi).2 hb (by decide) _ _⟩, fun i hd hi => ⟨(h.data i hd hi).1, Kd.R_set (h.data i hd hi).2 hb (by decide) _ _⟩, Kd.R_set h.roots hb (by decide) _ _, h.oge⟩
/-- The copy as it is read. -/
theorem GcSt.graph (h : GcSt w0 w ob vn vr H ns rs O) : ∃ A c A' c', vn = .slice A ns.length c ∧ vr = .slice A' rs.length c' ∧ GraphC w A c A' c' ns rs := by
  obtain ⟨A, c, e, hc, h1⟩ := Kd.R_reads h.heads
  obtain ⟨A', c', e', hc', h2⟩ := Kd.R_reads h.roots
  refine ⟨A, c, A', c', by rw [← h.len]; exact e, e', ⟨?_, by rw [← h.len]; exact hc, h2, hc'⟩⟩
  obtain ⟨_, h4, h5⟩ := h1
  refine ⟨rfl, by rw [← h.len]; exact h4, fun hp => ?_⟩
  obtain ⟨a, ea, h6⟩ := h5 (by rw [h.len]; exact hp)
  refine ⟨a, ea, fun j p hj => ?_⟩
  have hjl := (List.getElem?_eq_some_iff.1 hj).1
  obtain ⟨hd, hhd⟩ : ∃ hd, H[j]? = some hd := ⟨_, List.getElem?_eq_getElem (by rw [h.len]; exact hjl)⟩
  obtain ⟨cs, e1, e2, e3⟩ := h6 j hd hhd
  have hp : ns.getD j noN = p := by rw [List.getD_eq_getElem?_getD, hj]; rfl
  have e0 := h.kinds j hd hhd
  obtain ⟨e4, e5⟩ := h.ptrs j hd hhd
  obtain ⟨e6, e7⟩ := h.data j hd hhd
  rw [hp] at e0 e4 e5 e6 e7
  obtain ⟨A2, k2, e8, h7, h8⟩ := Kd.R_reads e5
  obtain ⟨A3, k3, e9, h9, h10⟩ := Kd.R_reads e7
  obtain ⟨x0, x1, rfl, hx0, ⟨x2, x3, rfl, hx2, hx3⟩⟩ := e2
  have hx0' : x0 = [.int .i64 hd.1] := hx0
  have hx2' : x2 = [encH hd.2.1] := hx2
  have hx3' : x3 = [encH hd.2.2] := hx3
  subst hx0' hx2' hx3'
  refine ⟨_, rfl, ⟨[.int .i64 hd.1], [encH hd.2.1, encH hd.2.2], rfl, ?_, [encH hd.2.1], [encH hd.2.2], rfl, ⟨A2, k2, by rw [e8], h7, h8⟩, ⟨A3, k3, by rw [e9], h9, h10⟩⟩, fun i u hu => e3 i u hu⟩
  show [Value.int .i64 hd.1] = [Value.int .i64 p.1]
  rw [e0]
/-- The copy in a new box. -/
theorem GcSt.rebox (h : GcSt w0 w ob vn vr H ns rs O) : GcSt w0 (w.alloc (.cells #[vn, vr] 58)) w.heap.size vn vr H ns rs O := by
  have h1 := h.step ((Below.refl _ _).alloc (Nat.le_refl _) (.cells #[vn, vr] 58))
  exact ⟨h1.below, blk_new _ _, h1.heads, h1.len, h1.kinds, h1.ptrs, h1.data, h1.roots, h.below.size⟩
/-- Fewer roots. -/
theorem GcSt.delRoots {w1 : World} {vr' : Value} {rs' : List GR} (h : GcSt w0 w ob vn vr H ns rs O) (hr : Kd.R kR 71 w1 w0.heap.size (fun _ => True) vr' rs') (hg : w.grownBy w1 vr.ownBlock) :
    w1.heap[ob]? = some (.cells #[vn, vr] 58 (0, 0)) ∧ GcSt w0 (w1.setCell ⟨ob, 1, none⟩ vr') ob vn vr' H ns rs' O := by
  have hob := blk_grown h.obk hg (Kd.R_ne h.roots h.obk (by decide))
  have hto := Kd.R_typed h.roots
  refine ⟨hob, (h.below.grown hg h.below.size (fun k e => Kd.R_base h.roots k e)).setCell h.oge _, blk_put hob 1 vr' rfl, Kd.R_set (Kd.R_over' h.heads hto (by decide) hg) hob (by decide) _ _, h.len, h.kinds, fun i hd hi => ⟨(h.ptrs i hd hi).1, ?_⟩, fun i hd hi => ⟨(h.data i hd hi).1, ?_⟩, Kd.R_set hr hob (by decide) _ _, h.oge⟩
  · exact Kd.R_set (Kd.R_over' (h.ptrs i hd hi).2 hto (by decide) hg) hob (by decide) _ _
  · exact Kd.R_set (Kd.R_over' (h.data i hd hi).2 hto (by decide) hg) hob (by decide) _ _
/-- A pointer of one node is turned. -/
theorem GcSt.putPtr {g n cap i : Nat} {k : Int} {hd : Hdr} (h : GcSt w0 w ob vn vr H ns rs O) {x : GN} (hi : H[i]? = some (k, ((some ⟨g, 0, none⟩, n, cap), hd))) (hx : ns.getD i noN = x) (j : Int) (hj0 : 0 ≤ j) (hj1 : j < n) (p : Int) :
    (w.cell? ⟨g, j.toNat, none⟩ = some (.int .i64 (rd x.2.1 j)) ∧ w.frozen? ⟨g, j.toNat, none⟩ = false) ∧ GcSt w0 (w.setCell ⟨g, j.toNat, none⟩ (.int .i64 p)) ob vn vr H (ns.set i (x.1, (x.2.1.set j.toNat p, x.2.2))) rs O := by
  subst hx
  have hil := (List.getElem?_eq_some_iff.1 hi).1
  obtain ⟨hl, hrow⟩ := h.ptrs i _ hi
  simp only at hl
  have hrow' : Kd.R (Kd.int .i64) 3 w w0.heap.size (fun z => O z = i + 2) (.slice (some ⟨g, 0, none⟩) n cap) (ns.getD i noN).2.1 := hrow
  have hc := R_celln 0 hrow' j hj0 hj1
  have hpu := Kd.R_putg hrow' j p
  obtain ⟨g', cap', hvs, hbg, hgl, cells, hgc⟩ := Kd.R_form hrow' (by omega)
  have hgg : g = g' := by injection hvs with e _ _; injection e with e; injection e
  subst hgg
  have hgo : O g = i + 2 := hrow'.1 g rfl
  have hset : ∀ (q : Nat), q ≠ i → (ns.set i ((ns.getD i noN).1, ((ns.getD i noN).2.1.set j.toNat p, (ns.getD i noN).2.2))).getD q noN = ns.getD q noN := fun q hq => by
    rw [List.getD_eq_getElem?_getD, List.getElem?_set, if_neg (fun e => hq e.symm), List.getD_eq_getElem?_getD]
  have hat : (ns.set i ((ns.getD i noN).1, ((ns.getD i noN).2.1.set j.toNat p, (ns.getD i noN).2.2))).getD i noN = ((ns.getD i noN).1, ((ns.getD i noN).2.1.set j.toNat p, (ns.getD i noN).2.2)) := by
    rw [List.getD_eq_getElem?_getD, List.getElem?_set, if_pos rfl, if_pos (by rw [← h.len]; exact hil)]; rfl
  refine ⟨hc, h.below.setCell hbg _, blk_far h.obk (blk_ne h.obk hgc (by decide)) _, Kd.R_set h.heads hgc (by decide) _ _, by rw [List.length_set]; exact h.len, fun q hq hhq => ?_, fun q hq hhq => ?_, fun q hq hhq => ?_, Kd.R_set h.roots hgc (by decide) _ _, h.oge⟩
  · by_cases c : q = i
    · subst c; rw [hat]; exact h.kinds q hq hhq
    · rw [hset q c]; exact h.kinds q hq hhq
  · by_cases c : q = i
    · subst c
      rw [hat]
      rw [hi] at hhq
      cases hhq
      exact ⟨by simp only [List.length_set]; exact hl, hpu.1⟩
    · rw [hset q c]
      exact ⟨(h.ptrs q hq hhq).1, Kd.R_far (p := ⟨g, j.toNat, none⟩) (h.ptrs q hq hhq).2 (fun z hz e => c (by subst e; omega)) _⟩
  · have hdr := h.data q hq hhq
    have h2 := Kd.R_set hdr.2 hgc (by decide) j.toNat (.int .i64 p)
    by_cases c : q = i
    · subst c; rw [hat]; exact ⟨hdr.1, h2⟩
    · rw [hset q c]; exact ⟨hdr.1, h2⟩
end
end Go.Proofs.Ytgbmebnfbhdpiaa
namespace Go.Proofs.Ytgbmebnfbhdpiaa
open Go.RowKit Go.Proofs.YtgbmebnfbhdpiaaW.PrintWords Go.Proofs.YtgbmebnfbhdpiaaW.PrintLast

theorem info61 : (Try.prog.info? 61).map (fun i => (i.zero, i.size, i.bytes)) = some (some (.agg #[.int .i64 0, .slice none 0 0, .slice none 0 0]), 3, 56) := by kernel_rfl
theorem info5 : (Try.prog.info? 5).map (fun i => (i.zero, i.size, i.bytes)) = some (some (.int .u8 0), 1, 1) := by kernel_rfl
theorem info71 : (Try.prog.info? 71).map (fun i => (i.zero, i.size, i.bytes)) = some (some (.agg #[.string ByteArray.empty, .int .i64 0]), 2, 24) := by kernel_rfl
/-- What the clone hands back. -/
structure GCloned (w0 w : World) (ob : Nat) (vn vr : Value) (ns : List GN) (rs : List GR) : Prop where
  st : ∃ (H : List GH) (O : Nat → Nat), GcSt w0 w ob vn vr H ns rs O

theorem at_nodeD {w : World} {A : Option Addr} {n : Nat} {ns : List GN} (h : Kd.C kN w A n ns) (i : Int) (h0 : 0 ≤ i) (h1 : i < n) :
    ∃ ad k AP ps cp AD ds cd, A = some ad ∧ Aside0 ((k, (ps, ds)) = ns.getD i.toNat noN) ∧ w.cell? (ad.add (i.toNat * 3)) = some (.int .i64 k) ∧ w.cell? ⟨(ad.add (i.toNat * 3)).block, (ad.add (i.toNat * 3)).off + 1, none⟩ = some (.slice AP (ps : List Int).length cp) ∧
      w.cell? ⟨(ad.add (i.toNat * 3)).block, (ad.add (i.toNat * 3)).off + 2, none⟩ = some (.slice AD (ds : List Int).length cd) ∧ Kd.C (Kd.int .i64) w AP ps.length ps ∧ Kd.C (Kd.int .u8) w AD ds.length ds := by
  obtain ⟨ad, cs, e, hl, hk, hcell⟩ := Kd.C_get h noN i h0 h1
  obtain ⟨⟨k, ps, ds⟩, hx⟩ : ∃ x, x = ns.getD i.toNat noN := ⟨_, rfl⟩
  rw [← hx] at hk
  obtain ⟨a0, a1, rfl, ha0, ⟨b0, b1, rfl, ⟨AP, cp, rfl, hcp, hrp⟩, ⟨AD, cd, rfl, hcd, hrd⟩⟩⟩ := hk
  have ha : a0 = [.int .i64 k] := ha0
  subst ha
  exact ⟨ad, k, AP, ps, cp, AD, ds, cd, e, ⟨hx⟩, hcell 0 _ rfl, by rw [add_field _ _ 1 (by decide)]; exact hcell 1 _ rfl, by rw [add_field _ _ 2 (by decide)]; exact hcell 2 _ rfl, hrp, hrd⟩

/-- A store that comes last. -/
theorem store_ {P : Program} {ops : Array Oper} {Q : Exit → Act → World → Prop} {md : Region.Mode} {S : World → Prop} {ds : List Nat} {i : Nat} {oi : Oper} {fuel : Nat} {l : Array Bool} {a : Act} {w w1 : World} (l' : Array Bool) (hi : ops[i]? = some oi) (hN : oi.dst = none) (hc : readyB md ops l l' i = true) (hd : i ∈ ds)
    (hw : Region.wanted oi (yielded ops a.tmps) = true) (hrun : (execOp a.eval oi).run P w = .ok .skip w1) (h : wpAnyLast P md ops Q S ds fuel l' a w1) : wpAnyLast P md ops Q S ds (fuel + 1) l a w :=
  last_ l' hi hN hc hd (fun K hK => skip_ hw hN hrun (hK.out _ _ h))
def tT_40_6 : Bool × List (List Nat × List Nat) := (true, [([], []), ([0], [0]), ([], []), ([2], [2]), ([], []), ([4], [4]), ([5], [5]), ([], []), ([7], [7]), ([8, 6], [8]), ([3, 6, 9], [3, 6, 9]), ([10], [10]), ([1, 11, 9], [1, 11]), ([0, 1, 2, 3, 4, 5, 6, 7, 8, 9, 10, 11, 12], []), ([13, 12, 12, 0, 1, 2, 3, 4, 5, 6, 7, 8, 9, 10, 11, 12], [12, 13])])
def tB_40_6 : List Nat := [0, 1, 0, 4, 0, 16, 48, 0, 128, 496, 1020, 2044, 4095, 8191, 16383]
theorem tab_40_6 : rtab .any (opsOf Try.f40 6) = tT_40_6 := by kernel_rfl
theorem bits_40_6 : waitsOk tT_40_6.2 tB_40_6 = true := by kernel_rfl
set_option maxRecDepth 100000 in
set_option maxHeartbeats 8000000 in
theorem f40_any (A0 : Option Addr) (c0 : Nat) (A1 : Option Addr) (c1 : Nat) (ns : List GN) (rs : List GR) (w : World) (hn : GraphC w A0 c0 A1 c1 ns rs) (hl0 : ns.length ≤ 60) (hl1 : rs.length ≤ 60) (hp : ∀ i : Nat, i < ns.length → (ns.getD i noN).2.1.length ≤ 126 ∧ (ns.getD i noN).2.2.length ≤ 2048) :
    Calls Try.prog 40 #[.agg #[.slice A0 ns.length c0, .slice A1 rs.length c1]] w fun e w' => ∃ ob vn vr, e = .returned (.agg #[vn, vr]) ∧ GCloned w w' ob vn vr ns rs := by
  have HN := Aside0.mk hn
  have HP := Aside0.mk hp
  clear hn hp
  have HG0 : Aside0 ((((w.alloc (.cells #[.slice A0 ns.length c0, .slice A1 rs.length c1] 58)).alloc (.cells #[.slice none 0 0, .slice none 0 0] 58)).alloc (.cells #[.slice none 0 0, .slice none 0 0] 58)).heap[w.heap.size]? = some (.cells #[.slice A0 ns.length c0, .slice A1 rs.length c1] 58 (0, 0))) := ⟨blk_alloc (blk_alloc (blk_new _ _) _) _⟩
  have HR0 : Aside0 ((((w.alloc (.cells #[.slice A0 ns.length c0, .slice A1 rs.length c1] 58)).alloc (.cells #[.slice none 0 0, .slice none 0 0] 58)).alloc (.cells #[.slice none 0 0, .slice none 0 0] 58)).heap[w.heap.size + 1]? = some (.cells #[.slice none 0 0, .slice none 0 0] 58 (0, 0))) := ⟨blk_alloc (by
    have := blk_new (w.alloc (.cells #[.slice A0 ns.length c0, .slice A1 rs.length c1] 58)) (.cells #[.slice none 0 0, .slice none 0 0] 58)
    simpa using this) _⟩
  have HC0 : Aside0 (GcSt w (((w.alloc (.cells #[.slice A0 ns.length c0, .slice A1 rs.length c1] 58)).alloc (.cells #[.slice none 0 0, .slice none 0 0] 58)).alloc (.cells #[.slice none 0 0, .slice none 0 0] 58)) (w.heap.size + 2) (.slice none 0 0) (.slice none 0 0) [] (ns.take (0 : Int).toNat) [] (fun _ => 1)) := ⟨⟨below_alloc (below_alloc (below_alloc (Below.refl _ _) _) _) _, (by
    have := blk_new ((w.alloc (.cells #[.slice A0 ns.length c0, .slice A1 rs.length c1] 58)).alloc (.cells #[.slice none 0 0, .slice none 0 0] 58)) (.cells #[.slice none 0 0, .slice none 0 0] 58)
    simpa using this), Kd.R_nil _ _ _ _ _, rfl, fun i h hi => by simp at hi, fun i h hi => by simp at hi, fun i h hi => by simp at hi, Kd.R_nil _ _ _ _ _, by omega⟩⟩
  go_enter Try.func40, Try.ntmps40
  go_wp2_with fail
  generalize (((w.alloc (.cells #[.slice A0 ns.length c0, .slice A1 rs.length c1] 58)).alloc (.cells #[.slice none 0 0, .slice none 0 0] 58)).alloc (.cells #[.slice none 0 0, .slice none 0 0] 58)) = wo at HC0 HG0 HR0 ⊢
  obtain ⟨ob, hobe⟩ : ∃ ob, ob = w.heap.size + 2 := ⟨_, rfl⟩
  rw [show w.heap.size + 1 + 1 = w.heap.size + 2 from rfl, ← hobe]
  rw [← hobe] at HC0
  have hob1 : w.heap.size + 1 < ob := by omega
  clear hobe
  go_loopw [4] (fun v4 wr => ∃ (i : Int) (vn : Value) (H : List GH) (O : Nat → Nat), v4 = .int .i64 i ∧ 0 ≤ i ∧ i ≤ ns.length ∧ Aside0 (GcSt w wr (ob) vn (.slice none 0 0) H (ns.take i.toNat) [] O) ∧ Aside0 (wr.heap[w.heap.size]? = some (.cells #[.slice A0 ns.length c0, .slice A1 rs.length c1] 58 (0, 0))) ∧ Aside0 (wr.heap[w.heap.size + 1]? = some (.cells #[.slice none 0 0, .slice none 0 0] 58 (0, 0)))) (fun v _ => ns.length - (intOf v).toNat)
  case atStart => exact ⟨0, _, [], _, rfl, by omega, by omega, HC0, HG0, HR0⟩
  case round =>
    clear HC0 HG0 HR0
    obtain ⟨i, vn, H, O, rfl, hi0, hi1, HC, HG, HR⟩ := hrel
    obtain ⟨hg0, hg1⟩ := box2 HG.out
    by_cases hil : i < ns.length
    case neg =>
      have hie : ns.take i.toNat = ns := List.take_of_length_le (by omega)
      have hcc := HC.out
      rw [hie] at hcc
      have HCC := Aside0.mk hcc
      clear hie hcc HC
      obtain ⟨AN, kN, eN⟩ := Kd.R_slice HCC.out.heads
      subst eN
      go_wp2_with (at_builtin; go_loud (refine Kd.R_append_rows kR (Rr := kR.K wr) (w0 := wr) wr.heap.size rfl (.const (.slice none 0 0)) (.tmp 33) 56 71 (.agg #[.string ByteArray.empty, .int .i64 0]) 24 rfl Try.underlying56 info71 rfl (by decide) (by decide) (.slice none 0 0) [] rs A1 rs.length c1 (fun _ => True) (fun _ => False) rfl rfl (Kd.R_nil _ _ _ _ _) (Kd.C_below HN.out.roots HCC.out.below) (fun _ _ h => h) (fun _ hk => hk.elim) (fun _ _ => trivial) (Below.refl _ _) (Nat.le_refl _) (by simp; omega) ?_; intro v1 w1 ho hb hg hat; rw [List.nil_append] at ho; obtain ⟨AR, kA, eR⟩ := Kd.R_slice ho; subst eR; have HD := Aside0.mk (HCC.out.delRoots (Kd.R_lower ho HCC.out.below.size) hg); have HR1 := Aside0.mk (blk_grown HR.out hg (by simp [Value.ownBlock])); have hoc := (box2 HD.out.1).2; have hof := blk_frozen HD.out.1 1; obtain ⟨hq0, hq1⟩ := box2 HD.out.2.obk; have HR2 := Aside0.mk (blk_far (p := ⟨ob, 1, none⟩) HR1.out (show w.heap.size + 1 ≠ ob from by omega) (.slice AR rs.length kA)); obtain ⟨hr0, hr1⟩ := box2 HR2.out; have hf0 := blk_frozen HR2.out 0; have hb1 := blk_put HR2.out 0 (.slice AN H.length kN) rfl; have hr2 := (box2 hb1).2; have hf2 := blk_frozen hb1 1; have hb2 := blk_put hb1 1 (.slice AR rs.length kA) rfl; have HB2 := Aside0.mk hb2; have HC2 := Aside0.mk ((HD.out.2.setC HR2.out (by omega) (by omega) 0 (.slice AN H.length kN)).setC hb1 (by omega) (by omega) 1 (.slice AR rs.length kA)); clear ho hb hg hat hb1 hb2))
      refine bodyPost_ret (results_cell_row rfl _ _ (w.heap.size + 1) 58 #[.slice AN H.length kN, .slice AR rs.length kA] (0, 0) _ rfl HB2.out Try.underlying58 rfl (by kernel_rfl)) rfl ?_
      exact ⟨_, _, _, rfl, ⟨⟨_, _, HC2.out⟩⟩⟩
    obtain ⟨ad, k, AP, ps, cp, AD, ds, cd, e, HXE, hd0, hd1, hd2, hpp, hpd⟩ := at_nodeD HN.out.nodes i hi0 hil
    cases e
    have hc0 := (HC.out.below.cell (World.block_lt_of_cell? _ _ hd0)).trans hd0
    have hc1 := (HC.out.below.cell (World.block_lt_of_cell? _ _ hd1)).trans hd1
    have hc2 := (HC.out.below.cell (World.block_lt_of_cell? _ _ hd2)).trans hd2
    have HPP := Aside0.mk hpp
    have HPD := Aside0.mk hpd
    have hlen : ps.length ≤ 126 ∧ ds.length ≤ 2048 := by
      have := HP.out i.toNat (by omega)
      rw [← HXE.out] at this
      exact this
    obtain ⟨hl4, hl5⟩ := hlen
    have hsn : ns.take (i + 1).toNat = ns.take i.toNat ++ [(k, (ps, ds))] := by
      rw [show (i + 1).toNat = i.toNat + 1 from by omega, List.take_succ_eq_append_getElem (by omega), HXE.out]
      simp [List.getD_eq_getElem?_getD, List.getElem?_eq_getElem (by omega : i.toNat < ns.length)]
    have HSN := Aside0.mk hsn
    have hHl : H.length ≤ 60 := by rw [HC.out.len, List.length_take]; omega
    have HTL : Aside0 (i.toNat = (ns.take i.toNat).length) := ⟨by rw [List.length_take]; omega⟩
    have HB1 : Aside0 (Below wr.heap.size wr (wr.alloc (.cells #[.int .i64 k, .slice AP ps.length cp, .slice AD ds.length cd] 61)).drew) := ⟨below_drew (below_alloc (Below.refl _ _) _)⟩
    have HK0 : Aside0 ((wr.alloc (.cells #[.int .i64 k, .slice AP ps.length cp, .slice AD ds.length cd] 61)).drew.heap[wr.heap.size]? = some (.cells #[.int .i64 k, .slice AP ps.length cp, .slice AD ds.length cd] 61 (0, 0))) := ⟨blk_new wr (.cells #[.int .i64 k, .slice AP ps.length cp, .slice AD ds.length cd] 61)⟩
    have HC1 := Aside0.mk (HC.out.step HB1.out)
    have HG1 := Aside0.mk (blk_below HG.out HB1.out)
    have HR1 := Aside0.mk (blk_below HR.out HB1.out)
    have HNE : Aside0 (some wr.heap.size ≠ vn.ownBlock) := ⟨Kd.R_ne_new HC.out.heads 0⟩
    clear hsn hpp hpd hd0 hd1 hd2
    go_wp2_with fail
    clear HC HG HR HB1 hc0 hc1 hc2 hg0 hg1
    have ho0 := (box2 HC1.out.obk).1
    have hk0 := (blk_cell HK0.out 0).trans (show _ = some (Value.int .i64 k) from rfl)
    have hk1 := (blk_cell HK0.out 1).trans (show _ = some (Value.slice AP ps.length cp) from rfl)
    have hk2 := (blk_cell HK0.out 2).trans (show _ = some (Value.slice AD ds.length cd) from rfl)
    generalize wr.heap.size = nb at HK0 HNE hk0 hk1 hk2 ⊢
    refine start_ (n := 15) (S := fun w' => w'.cell? ⟨ob, 0, none⟩ = some vn ∧ w'.cell? ⟨nb, 0, none⟩ = some (.int .i64 k) ∧ w'.cell? ⟨nb, 1, none⟩ = some (.slice AP ps.length cp) ∧ w'.cell? ⟨nb, 2, none⟩ = some (.slice AD ds.length cd)) (ds := [14]) #[false, false, false, false, false, false, false, false, false, false, false, false, false, false, false] (by kernel_rfl) rfl rfl ⟨ho0, hk0, hk1, hk2⟩ (fun hHeld => ?_)
    refine with_tabW tab_40_6 bits_40_6 (fun HT_ HW_ => ?_)
    generalize (wr.alloc (.cells #[.int .i64 k, .slice AP ps.length cp, .slice AD ds.length cd] 61)).drew = wd at HC1 HK0 HG1 HR1 ho0 hk0 hk1 hk2 hHeld ⊢
    refine pure_ (i := 0) (N := some 18) (v := ?_) (a' := ?_) #[true, false, false, false, false, false, false, false, false, false, false, false, false, false, false] rfl rfl (any_of HT_.out (by kernel_rfl)) (fun _ _ _ h => h) (Or.inl ⟨by rfl, ?_⟩) ?_ ?_
    rotate_left
    · intro w'
      go_simp
      with_reducible rfl
    rotate_left
    · simp only [Act.put, List.setIfInBounds_toArray, List.set_cons_zero, List.set_cons_succ, i64_w, i32_w]
      rfl
    refine pure_ (i := 2) (N := some 20) (v := ?_) (a' := ?_) #[true, false, true, false, false, false, false, false, false, false, false, false, false, false, false] rfl rfl (any_of HT_.out (by kernel_rfl)) (fun _ _ _ h => h) (Or.inl ⟨by rfl, ?_⟩) ?_ ?_
    rotate_left
    · intro w'
      go_simp
      with_reducible rfl
    rotate_left
    · simp only [Act.put, List.setIfInBounds_toArray, List.set_cons_zero, List.set_cons_succ, i64_w, i32_w]
      rfl
    refine pure_ (i := 4) (N := some 22) (v := ?_) (a' := ?_) #[true, false, true, false, true, false, false, false, false, false, false, false, false, false, false] rfl rfl (any_of HT_.out (by kernel_rfl)) (fun _ _ _ h => h) (Or.inl ⟨by rfl, ?_⟩) ?_ ?_
    rotate_left
    · intro w'
      go_simp
      with_reducible rfl
    rotate_left
    · simp only [Act.put, List.setIfInBounds_toArray, List.set_cons_zero, List.set_cons_succ, i64_w, i32_w]
      rfl
    refine pure_ (i := 7) (N := some 25) (v := ?_) (a' := ?_) #[true, false, true, false, true, false, false, true, false, false, false, false, false, false, false] rfl rfl (any_of HT_.out (by kernel_rfl)) (fun _ _ _ h => h) (Or.inl ⟨by rfl, ?_⟩) ?_ ?_
    rotate_left
    · intro w'
      go_simp
      with_reducible rfl
    rotate_left
    · simp only [Act.put, List.setIfInBounds_toArray, List.set_cons_zero, List.set_cons_succ, i64_w, i32_w]
      rfl
    refine take_ (i := 1) (N := some 19) (v := ?_) (a' := ?_) #[true, true, true, false, true, false, false, true, false, false, false, false, false, false, false] rfl rfl (take_ofW HT_.out HW_.out (by kernel_rfl)) (fun _ _ _ h => h) (Or.inl ⟨by rfl, ?_⟩) hHeld ?_ ?_
    rotate_left
    · rintro w' ⟨s0, s1, s2, s3⟩
      go_simp
      with_reducible rfl
    rotate_left
    · simp only [Act.put, List.setIfInBounds_toArray, List.set_cons_zero, List.set_cons_succ, i64_w, i32_w]
      rfl
    refine take_ (i := 3) (N := some 21) (v := ?_) (a' := ?_) #[true, true, true, true, true, false, false, true, false, false, false, false, false, false, false] rfl rfl (take_ofW HT_.out HW_.out (by kernel_rfl)) (fun _ _ _ h => h) (Or.inl ⟨by rfl, ?_⟩) hHeld ?_ ?_
    rotate_left
    · rintro w' ⟨s0, s1, s2, s3⟩
      go_simp
      with_reducible rfl
    rotate_left
    · simp only [Act.put, List.setIfInBounds_toArray, List.set_cons_zero, List.set_cons_succ, i64_w, i32_w]
      rfl
    refine take_ (i := 5) (N := some 23) (v := ?_) (a' := ?_) #[true, true, true, true, true, true, false, true, false, false, false, false, false, false, false] rfl rfl (take_ofW HT_.out HW_.out (by kernel_rfl)) (fun _ _ _ h => h) (Or.inl ⟨by rfl, ?_⟩) hHeld ?_ ?_
    rotate_left
    · rintro w' ⟨s0, s1, s2, s3⟩
      go_simp
      with_reducible rfl
    rotate_left
    · simp only [Act.put, List.setIfInBounds_toArray, List.set_cons_zero, List.set_cons_succ, i64_w, i32_w]
      rfl
    refine take_ (i := 8) (N := some 26) (v := ?_) (a' := ?_) #[true, true, true, true, true, true, false, true, true, false, false, false, false, false, false] rfl rfl (take_ofW HT_.out HW_.out (by kernel_rfl)) (fun _ _ _ h => h) (Or.inl ⟨by rfl, ?_⟩) hHeld ?_ ?_
    rotate_left
    · rintro w' ⟨s0, s1, s2, s3⟩
      go_simp
      with_reducible rfl
    rotate_left
    · simp only [Act.put, List.setIfInBounds_toArray, List.set_cons_zero, List.set_cons_succ, i64_w, i32_w]
      rfl
    refine one_ (i := 6) (N := some 24) #[true, true, true, true, true, true, true, true, true, false, false, false, false, false, false] rfl rfl (one_of HT_.out (by kernel_rfl)) (by decide) (fun K hK => ?_)
    refine Kd.R_append_rows_step (Kd.int .i64) (Rr := (Kd.int .i64).K wd) (w0 := wd) wd.heap.size (by rfl) (.const (.slice none 0 0)) (.tmp 23) 23 3 (.int .i64 0) 8 rfl Try.underlying23 info3 rfl (by decide) (by decide) (.slice none 0 0) [] ps AP ps.length cp (fun _ => True) (fun _ => False) (by rfl) (by rfl) (Kd.R_nil _ _ _ _ _) ?aR (fun _ _ h => h) (fun _ hk => hk.elim) (fun _ _ => trivial) (Below.refl _ _) (Nat.le_refl _) ?aL ?_
    case aR => exact Kd.C_below HPP.out HC1.out.below
    case aL => simp; omega
    intro v1 w3 ho hb hg hat
    rw [List.nil_append] at ho
    obtain ⟨A3, k3, e3⟩ := Kd.R_slice ho
    subst e3
    have HL3 := Aside0.mk ho
    have HB3 := Aside0.mk hb
    clear ho hb hg hat
    refine hK.out _ _ ?_ ?_
    · exact ⟨(box2 (blk_below HC1.out.obk HB3.out)).1, (blk_cell (blk_below HK0.out HB3.out) 0).trans (show _ = some (Value.int .i64 k) from rfl), (blk_cell (blk_below HK0.out HB3.out) 1).trans (show _ = some (Value.slice AP ps.length cp) from rfl), (blk_cell (blk_below HK0.out HB3.out) 2).trans (show _ = some (Value.slice AD ds.length cd) from rfl)⟩
    clear hK K
    intro hHeld
    refine one_ (i := 9) (N := some 27) #[true, true, true, true, true, true, true, true, true, true, false, false, false, false, false] rfl rfl (one_of HT_.out (by kernel_rfl)) (by decide) (fun K hK => ?_)
    refine Kd.R_append_rows_step (Kd.int .u8) (Rr := (Kd.int .u8).K w3) (w0 := w3) w3.heap.size (by rfl) (.const (.slice none 0 0)) (.tmp 26) 59 5 (.int .u8 0) 1 rfl Try.underlying59 info5 rfl (by decide) (by decide) (.slice none 0 0) [] ds AD ds.length cd (fun _ => True) (fun _ => False) (by rfl) (by rfl) (Kd.R_nil _ _ _ _ _) ?aR (fun _ _ h => h) (fun _ hk => hk.elim) (fun _ _ => trivial) (Below.refl _ _) (Nat.le_refl _) ?aL ?_
    case aR => exact Kd.C_below HPD.out (HC1.out.step HB3.out).below
    case aL => simp; omega
    intro v1 w4 ho hb hg hat
    rw [List.nil_append] at ho
    obtain ⟨A4, k4, e4⟩ := Kd.R_slice ho
    subst e4
    have HB4 := Aside0.mk (HB3.out.trans (hb.mono HB3.out.size))
    have HL4 := Aside0.mk (Kd.R_below HL3.out hb)
    have HD4 := Aside0.mk (Kd.R_lower ho HB3.out.size)
    clear ho hb hg hat HL3 HB3
    refine hK.out _ _ ?_ ?_
    · exact ⟨(box2 (blk_below HC1.out.obk HB4.out)).1, (blk_cell (blk_below HK0.out HB4.out) 0).trans (show _ = some (Value.int .i64 k) from rfl), (blk_cell (blk_below HK0.out HB4.out) 1).trans (show _ = some (Value.slice AP ps.length cp) from rfl), (blk_cell (blk_below HK0.out HB4.out) 2).trans (show _ = some (Value.slice AD ds.length cd) from rfl)⟩
    clear hK K
    intro hHeld
    refine pure_ (i := 10) (N := some 28) (v := ?_) (a' := ?_) #[true, true, true, true, true, true, true, true, true, true, true, false, false, false, false] rfl rfl (any_of HT_.out (by kernel_rfl)) (fun _ _ _ h => h) (Or.inl ⟨by rfl, ?_⟩) ?_ ?_
    rotate_left
    · intro w'
      go_simp
      with_reducible rfl
    rotate_left
    · simp only [Act.put, List.setIfInBounds_toArray, List.set_cons_zero, List.set_cons_succ, i64_w, i32_w]
      rfl
    refine one_ (i := 11) (N := some 29) #[true, true, true, true, true, true, true, true, true, true, true, true, false, false, false] rfl rfl (one_of HT_.out (by kernel_rfl)) (by decide) (fun K hK => ?_)
    refine event_step (w1 := ?_) (v := ?_) (by rfl) ?_ ?_
    rotate_left 2
    · go_simp
      constructor <;> rfl
    refine hK.out _ _ ?_ ?_
    · exact ⟨(box2 (blk_alloc (blk_below HC1.out.obk HB4.out) _)).1, (blk_cell (blk_alloc (blk_below HK0.out HB4.out) _) 0).trans (show _ = some (Value.int .i64 k) from rfl), (blk_cell (blk_alloc (blk_below HK0.out HB4.out) _) 1).trans (show _ = some (Value.slice AP ps.length cp) from rfl), (blk_cell (blk_alloc (blk_below HK0.out HB4.out) _) 2).trans (show _ = some (Value.slice AD ds.length cd) from rfl)⟩
    clear hK K
    intro hHeld
    refine one_ (i := 12) (N := some 30) #[true, true, true, true, true, true, true, true, true, true, true, true, true, false, false] rfl rfl (one_of HT_.out (by kernel_rfl)) (by decide) (fun K hK => ?_)
    refine Kd.R_append_step kGH (w0 := w) w.heap.size (by rfl) (.tmp 19) (.tmp 29) 55 61 (.agg #[.int .i64 0, .slice none 0 0, .slice none 0 0]) 56 rfl Try.underlying55 info61 rfl (by decide) (by omega) vn H (k, (A3, ps.length, k3), (A4, ds.length, k4)) [.int .i64 k, .slice A3 ps.length k3, .slice A4 ds.length k4] (fun _ => True) (fun _ => False) (by rfl) (by rfl) ?aP (fun _ hk => hk.elim) (fun _ _ => trivial) ?aO ?aB ?aS ?aL ?_
    case aP => exact kGH_M (k, (A3, ps.length, k3), (A4, ds.length, k4))
    case aO => exact (HC1.out.step HB4.out).heads
    case aB => exact (HC1.out.step HB4.out).below
    case aS => exact (HC1.out.step HB4.out).below.size
    case aL => omega
    intro v1 w5 ho hb hg hat
    obtain ⟨A5, k5, e5⟩ := Kd.R_slice ho
    rw [List.length_append, List.length_singleton] at e5
    subst e5
    have H1 := Aside0.mk (HC1.out.more (j := i.toNat) HTL.out HB4.out HL4.out rfl HD4.out rfl ho hb hg)
    have HG5 := Aside0.mk (blk_grown (blk_below HG1.out HB4.out) hg (Kd.R_ne (HC1.out.step HB4.out).heads (blk_below HG1.out HB4.out) (by decide)))
    have HR5 := Aside0.mk (blk_grown (blk_below HR1.out HB4.out) hg (Kd.R_ne (HC1.out.step HB4.out).heads (blk_below HR1.out HB4.out) (by decide)))
    have hoc1 := (box2 H1.out.1).1
    have hof1 := blk_frozen H1.out.1 0
    have HK5 := Aside0.mk (blk_grown (blk_below HK0.out HB4.out) hg HNE.out)
    clear ho hb hg hat
    refine hK.out _ _ ?_ ?_
    · exact ⟨hoc1, (blk_cell HK5.out 0).trans (show _ = some (Value.int .i64 k) from rfl), (blk_cell HK5.out 1).trans (show _ = some (Value.slice AP ps.length cp) from rfl), (blk_cell HK5.out 2).trans (show _ = some (Value.slice AD ds.length cd) from rfl)⟩
    clear hK K
    intro hHeld
    refine pure_ (i := 13) (N := some 31) (v := ?_) (a' := ?_) #[true, true, true, true, true, true, true, true, true, true, true, true, true, true, false] rfl rfl (any_of HT_.out (by kernel_rfl)) (fun _ _ _ h => h) (Or.inl ⟨by rfl, ?_⟩) ?_ ?_
    rotate_left
    · intro w'
      go_simp
      with_reducible rfl
    rotate_left
    · simp only [Act.put, List.setIfInBounds_toArray, List.set_cons_zero, List.set_cons_succ, i64_w, i32_w]
      rfl
    refine store_ (i := 14) (w1 := ?_) #[true, true, true, true, true, true, true, true, true, true, true, true, true, true, true] rfl rfl (one_of HT_.out (by kernel_rfl)) (by decide) (by rfl) ?_ ?_
    rotate_left
    · go_simp
      rfl
    refine done_ (done_of HT_.out (by kernel_rfl)) ?_
    go_wp2_with fail
    go_roundw
    case rel => exact ⟨i + 1, _, _, _, rfl, by omega, by omega, ⟨by rw [HSN.out]; exact H1.out.2⟩, ⟨blk_far HG5.out (show w.heap.size ≠ ob from by omega) _⟩, ⟨blk_far HR5.out (show w.heap.size + 1 ≠ ob from by omega) _⟩⟩
    case measure => simp [intOf]; omega
end Go.Proofs.Ytgbmebnfbhdpiaa
namespace Go.Proofs.Ytgbmebnfbhdpiaa
open Go.RowKit Go.Proofs.YtgbmebnfbhdpiaaW.PrintWords Go.Proofs.YtgbmebnfbhdpiaaW.PrintLast

/-- A pointer at the node names none any more. -/
def turn (a p : Int) : Int := if p = a then -1 else p
def lessX (a : Int) (x : GN) : GN := (x.1, (x.2.1.map (turn a), x.2.2))
def lessG (a : Int) (ns : List GN) : List GN := ns.map (lessX a)
theorem lessG_len (a : Int) (ns : List GN) : (lessG a ns).length = ns.length := by simp [lessG]
theorem lessG_get (a : Int) (ns : List GN) (i : Nat) : (lessG a ns).getD i noN = lessX a (ns.getD i noN) := by
  unfold lessG
  rw [List.getD_eq_getElem?_getD, List.getD_eq_getElem?_getD, List.getElem?_map]
  cases ns[i]? <;> rfl
theorem goesTo_less {a : Int} (h0 : 0 ≤ a) (x : GN) : goesTo (lessX a x) = del a (goesTo x) := by
  unfold goesTo lessX del
  simp only
  by_cases h : x.1 = 1
  · rw [if_pos h, if_pos h]
    induction x.2.1 with
    | nil => rfl
    | cons p l ih =>
      rw [List.map_cons]
      by_cases c : p = a
      · subst c
        have : turn p p = -1 := if_pos rfl
        rw [this, List.filter_cons_of_neg (by decide), ih, List.filter_cons_of_pos (by simpa using h0), List.filter_cons_of_neg (by simp)]
      · have : turn a p = p := if_neg c
        rw [this]
        by_cases d : p ≥ 0
        · rw [List.filter_cons_of_pos (by simpa using d), List.filter_cons_of_pos (by simpa using d), List.filter_cons_of_pos (by simpa using c), ih]
        · rw [List.filter_cons_of_neg (by simpa using d), List.filter_cons_of_neg (by simpa using d), ih]
  · rw [if_neg h, if_neg h]; rfl
theorem ofN_less {a : Int} (h0 : 0 ≤ a) (ns : List GN) : ofN (lessG a ns) = lessN a (ofN ns) := by
  unfold ofN lessG lessN
  rw [List.map_map, List.map_map]
  exact List.map_congr_left fun x _ => goesTo_less h0 x
theorem ofS_less (a : Int) (rs : List GR) : ofS (delR a rs) = del a (ofS rs) := by
  unfold ofS delR del
  induction rs with
  | nil => rfl
  | cons r l ih =>
    by_cases c : r.2 = a
    · rw [List.filter_cons_of_neg (by simpa using c), ih, List.map_cons, List.filter_cons_of_neg (by simpa using c)]
    · rw [List.filter_cons_of_pos (by simpa using c), List.map_cons, ih, List.map_cons, List.filter_cons_of_pos (by simpa using c)]
theorem nodeOk_less {m a : Int} {x : GN} (hm : 0 ≤ m) (h : nodeOk m x = true) : nodeOk m (lessX a x) = true := by
  unfold nodeOk lessX at *
  simp only [List.length_map, Bool.and_eq_true, Bool.not_eq_true', List.any_eq_false] at h ⊢
  refine ⟨h.1, fun p hp => ?_⟩
  obtain ⟨q, hq, rfl⟩ := List.mem_map.1 hp
  by_cases c : q = a
  · have : turn a q = -1 := if_pos c
    rw [this]; unfold wrongP; simp; omega
  · have : turn a q = q := if_neg c
    rw [this]; exact h.2 q hq
theorem bytes_trans {x y z : List UInt8} (h : Op.bytesLess x y = true) (k : Op.bytesLess y z = true) : Op.bytesLess x z = true := by
  induction x generalizing y z with
  | nil =>
    cases y with
    | nil => cases h
    | cons b y => cases z with
      | nil => cases k
      | cons c z => rfl
  | cons a x ih =>
    cases y with
    | nil => cases h
    | cons b y => cases z with
      | nil => cases k
      | cons c z =>
        simp only [Op.bytesLess, Bool.or_eq_true, Bool.and_eq_true, decide_eq_true_eq, beq_iff_eq] at h k ⊢
        rcases h with h | ⟨h, h'⟩
        · rcases k with k | ⟨k, k'⟩
          · exact .inl (UInt8.lt_trans h k)
          · exact .inl (k ▸ h)
        · rcases k with k | ⟨k, k'⟩
          · exact .inl (h ▸ k)
          · exact .inr ⟨h.trans k, ih h' k'⟩
def ltR (r r' : GR) : Prop := Op.bytesLess r.1.toList r'.1.toList = true
theorem chain_all : ∀ (rs : List GR), (∀ i : Nat, i + 1 < rs.length → ltR (rs.getD i noR) (rs.getD (i + 1) noR)) → rs.Pairwise ltR
  | [], _ => List.Pairwise.nil
  | r :: rs, h => by
    have hp := chain_all rs (fun i hi => h (i + 1) (by simpa using hi))
    refine List.Pairwise.cons (fun x hx => ?_) hp
    cases rs with
    | nil => simp at hx
    | cons y rs =>
      have h0 : ltR r y := h 0 (by simp)
      rcases List.mem_cons.1 hx with e | e
      · rw [e]; exact h0
      · exact bytes_trans h0 ((List.pairwise_cons.1 hp).1 x e)
theorem chain_of {rs : List GR} (h : rs.Pairwise ltR) (i : Nat) (hi : i + 1 < rs.length) : ltR (rs.getD i noR) (rs.getD (i + 1) noR) := by
  rw [List.getD_eq_getElem?_getD, List.getD_eq_getElem?_getD, List.getElem?_eq_getElem (by omega), List.getElem?_eq_getElem hi]
  exact List.pairwise_iff_getElem.1 h i (i + 1) (by omega) hi (by omega)
/-- A root that may be. -/
theorem root_is {ns : List GN} {rs : List GR} (h : graphE ns rs = 0) {i : Nat} (hi : i < rs.length) : rootBad ns.length rs i = false := by
  by_cases c : rootBad ns.length rs i = true
  · have := graph_root (ns := ns) (by omega) (by omega : (i : Int) < rs.length) c
    rw [this] at h; cases h
  · simpa using c
theorem root_parts {m : Int} {rs : List GR} {i : Nat} (h : rootBad m rs i = false) : nameE (rs.getD i noR).1 = 0 ∧ (0 < i → ltR (rs.getD (i - 1) noR) (rs.getD i noR)) ∧ 0 ≤ (rs.getD i noR).2 ∧ (rs.getD i noR).2 < m := by
  unfold rootBad at h
  rw [show ((i : Int) - 1).toNat = i - 1 from by omega, Int.toNat_natCast] at h
  simp only [Bool.or_eq_false_iff, bne_eq_false_iff_eq, Bool.and_eq_false_iff, decide_eq_false_iff_not, Bool.not_eq_false'] at h
  obtain ⟨⟨⟨h1, h2⟩, h3⟩, h4⟩ := h
  refine ⟨h1, fun hi => ?_, by omega, by omega⟩
  rcases h2 with h2 | h2
  · omega
  · exact h2
theorem graph_less {ns : List GN} {rs : List GR} {a : Int} (h : graphE ns rs = 0) : graphE (lessG a ns) (delR a rs) = 0 := by
  have hp : rs.Pairwise ltR := chain_all rs fun i hi => by
    have := (root_parts (root_is h hi)).2.1 (by omega)
    simpa using this
  have hq : (delR a rs).Pairwise ltR := List.Pairwise.sublist List.filter_sublist hp
  refine graph_all ?_ fun j j0 j1 => ?_
  · rw [lessG_len, List.any_eq_false]
    intro x hx
    obtain ⟨y, hy, rfl⟩ := List.mem_map.1 hx
    obtain ⟨i, hi, rfl⟩ := List.mem_iff_getElem.1 hy
    have := graph_nodes h i hi
    rw [List.getD_eq_getElem?_getD, List.getElem?_eq_getElem hi, Option.getD_some] at this
    rw [nodeOk_less (by omega) this]; decide
  · obtain ⟨i, rfl⟩ : ∃ i : Nat, j = i := ⟨j.toNat, by omega⟩
    have hi : i < (delR a rs).length := by omega
    have hmem : (delR a rs).getD i noR ∈ rs := by
      have : (delR a rs).getD i noR ∈ delR a rs := by
        rw [List.getD_eq_getElem?_getD, List.getElem?_eq_getElem hi]; exact List.getElem_mem hi
      exact (List.mem_filter.1 this).1
    obtain ⟨q, hq1, hq2⟩ := List.mem_iff_getElem.1 hmem
    have hr := root_parts (root_is h hq1)
    rw [List.getD_eq_getElem?_getD, List.getElem?_eq_getElem hq1] at hr
    simp only [Option.getD_some] at hr
    rw [hq2] at hr
    obtain ⟨s, x⟩ : ∃ s : GR, s = (delR a rs).getD i noR := ⟨_, rfl⟩
    rw [lessG_len]
    refine bad_not (s := ((delR a rs).getD i noR).1) (x := ((delR a rs).getD i noR).2) (by rw [Int.toNat_natCast]) hr.1 (fun hi0 => ?_) (by omega) (by omega)
    have := chain_of hq (i - 1) (by omega)
    rw [show i - 1 + 1 = i from by omega] at this
    rw [show ((i : Int) - 1).toNat = i - 1 from by omega]
    exact this
theorem lessG_kind (a : Int) (ns : List GN) (i : Nat) : ((lessG a ns).getD i noN).1 = (ns.getD i noN).1 := by rw [lessG_get]; rfl
/-! The copy while pointers are turned: nodes before i are done, of node i the pointers before j. -/
def turnTo (a : Int) (l : List Int) (j : Nat) : List Int := (l.take j).map (turn a) ++ l.drop j
theorem turnTo_zero (a : Int) (l : List Int) : turnTo a l 0 = l := by simp [turnTo]
theorem turnTo_end (a : Int) (l : List Int) : turnTo a l l.length = l.map (turn a) := by simp [turnTo]
theorem turnTo_len (a : Int) (l : List Int) (j : Nat) : (turnTo a l j).length = l.length := by
  simp only [turnTo, List.length_append, List.length_map, List.length_take, List.length_drop]; omega
theorem turnTo_at (a : Int) (l : List Int) (j : Nat) (h : j < l.length) : (turnTo a l j).getD j 0 = l.getD j 0 := by
  unfold turnTo
  rw [List.getD_eq_getElem?_getD, List.getElem?_append_right (by simp; omega), List.length_map, List.length_take, Nat.min_eq_left (by omega), Nat.sub_self, List.getElem?_drop, Nat.add_zero, ← List.getD_eq_getElem?_getD]
theorem turnTo_succ (a : Int) (l : List Int) (j : Nat) (h : j < l.length) : turnTo a l (j + 1) = (turnTo a l j).set j (turn a (l.getD j 0)) := by
  unfold turnTo
  rw [List.take_succ_eq_append_getElem h, List.drop_eq_getElem_cons h]
  rw [List.set_append_right _ _ (by simp; omega)]
  simp only [List.length_map, List.length_take, Nat.min_eq_left (Nat.le_of_lt h), Nat.sub_self, List.set_cons_zero, List.map_append, List.append_assoc, List.map_cons, List.map_nil, List.cons_append, List.nil_append]
  rw [List.getD_eq_getElem?_getD, List.getElem?_eq_getElem h]; rfl
theorem turnTo_same (a : Int) (l : List Int) (j : Nat) (h : j < l.length) (hn : l.getD j 0 ≠ a) : turnTo a l (j + 1) = turnTo a l j := by
  rw [turnTo_succ a l j h]
  have e : turn a (l.getD j 0) = l.getD j 0 := if_neg hn
  rw [e]
  have hj : j < (turnTo a l j).length := by rw [turnTo_len]; exact h
  have e2 : (turnTo a l j)[j] = l.getD j 0 := by
    rw [← turnTo_at a l j h, List.getD_eq_getElem?_getD, List.getElem?_eq_getElem hj]; rfl
  rw [← e2, List.set_getElem_self]
def nodesAt (a : Int) (ns : List GN) (i : Nat) : List GN := (ns.take i).map (lessX a) ++ ns.drop i
theorem nodesAt_zero (a : Int) (ns : List GN) : nodesAt a ns 0 = ns := by simp [nodesAt]
theorem nodesAt_end (a : Int) (ns : List GN) : nodesAt a ns ns.length = lessG a ns := by simp [nodesAt, lessG]
theorem nodesAt_len (a : Int) (ns : List GN) (i : Nat) : (nodesAt a ns i).length = ns.length := by
  simp only [nodesAt, List.length_append, List.length_map, List.length_take, List.length_drop]; omega
theorem nodesAt_at (a : Int) (ns : List GN) (i : Nat) (h : i < ns.length) : (nodesAt a ns i).getD i noN = ns.getD i noN := by
  unfold nodesAt
  rw [List.getD_eq_getElem?_getD, List.getElem?_append_right (by simp; omega), List.length_map, List.length_take, Nat.min_eq_left (by omega), Nat.sub_self, List.getElem?_drop, Nat.add_zero, ← List.getD_eq_getElem?_getD]
theorem nodesAt_succ (a : Int) (ns : List GN) (i : Nat) (h : i < ns.length) : nodesAt a ns (i + 1) = (nodesAt a ns i).set i (lessX a (ns.getD i noN)) := by
  unfold nodesAt
  rw [List.take_succ_eq_append_getElem h, List.drop_eq_getElem_cons h]
  rw [List.set_append_right _ _ (by simp; omega)]
  simp only [List.length_map, List.length_take, Nat.min_eq_left (Nat.le_of_lt h), Nat.sub_self, List.set_cons_zero, List.map_append, List.append_assoc, List.map_cons, List.map_nil, List.cons_append, List.nil_append]
  rw [List.getD_eq_getElem?_getD, List.getElem?_eq_getElem h]; rfl
end Go.Proofs.Ytgbmebnfbhdpiaa
namespace Go.Proofs.Ytgbmebnfbhdpiaa
open Go.RowKit Go.Proofs.YtgbmebnfbhdpiaaW.PrintWords Go.Proofs.YtgbmebnfbhdpiaaW.PrintLast

theorem wrap_byte {m : Int} (h0 : 0 ≤ m) (h1 : m ≤ 255) : wrap64 m = m := by
  unfold wrap64
  omega
theorem node_bytes {m : Int} {x : GN} (h : nodeOk m x = true) : x.2.2.length ≤ 2048 := by
  unfold nodeOk shapeOk at h
  simp only [Bool.and_eq_true, decide_eq_true_eq] at h
  omega
theorem no_pair {ns : List GN} (h : (ns.any fun x => x.1 == 3) = false) : ∀ i : Nat, i < ns.length → (ns.getD i noN).1 ≠ 3 := fun i hi e => by
  rw [List.any_eq_false] at h
  refine h (ns.getD i noN) ?_ (by simpa using e)
  rw [List.getD_eq_getElem?_getD, List.getElem?_eq_getElem hi]
  exact List.getElem_mem hi
/-- The head of a node's copy: where its pointers lie. -/
theorem at_head {w : World} {base : Nat} {ok : Nat → Prop} {A : Option Addr} {n c : Nat} {H : List GH} (h : kGH.R 61 w base ok (.slice A n c) H) (i : Int) (h0 : 0 ≤ i) (h1 : i < n) :
    ∃ ad k A' n' c' hd, A = some ad ∧ H[i.toNat]? = some (k, ((A', n', c'), hd)) ∧ w.cell? ⟨(ad.add (i.toNat * 3)).block, (ad.add (i.toNat * 3)).off + 1, none⟩ = some (.slice A' n' c') := by
  obtain ⟨hl, _, hC⟩ := Kd.R_reads' h
  subst hl
  obtain ⟨ad, cs, e, hl, hk, hcell⟩ := Kd.C_get hC (0, ((none, 0, 0), (none, 0, 0))) i h0 h1
  obtain ⟨⟨k, ⟨A', n', c'⟩, hd⟩, hx⟩ : ∃ x, x = H.getD i.toNat (0, ((none, 0, 0), (none, 0, 0))) := ⟨_, rfl⟩
  rw [← hx] at hk
  obtain ⟨a0, a1, rfl, ha0, ⟨b0, b1, rfl, hb0, hb1⟩⟩ := hk
  have ha : a0 = [.int .i64 k] := ha0
  have hb : b0 = [.slice A' n' c'] := hb0
  subst ha hb
  refine ⟨ad, k, A', n', c', hd, e, ?_, by rw [add_field _ _ 1 (by decide)]; exact hcell 1 _ rfl⟩
  rw [hx, List.getD_eq_getElem?_getD, List.getElem?_eq_getElem (by omega : i.toNat < H.length)]; rfl
/-- What is known of the world while the answers are compared. -/
structure HeSt (w cur : World) (cs : Array Value) (xb : Nat) (ms : Array Value) (pb : Nat) (a : Int) (AX AY : Option Addr) (n : Nat) (X Y : List Bool) : Prop where
  below : Below w.heap.size w cur
  box : cur.heap[w.heap.size]? = some (.cells cs 58 (0, 0))
  nbx : cur.heap[xb]? = some (.cells ms 25 (0, 0))
  abx : cur.heap[pb]? = some (.cells #[.int .i64 a] 3 (0, 0))
  cx : Kd.C Kd.bool cur AX n X
  cy : Kd.C Kd.bool cur AY n Y
theorem HeSt.step {w cur w2 : World} {cs ms : Array Value} {xb pb n : Nat} {a : Int} {AX AY : Option Addr} {X Y : List Bool} (h : HeSt w cur cs xb ms pb a AX AY n X Y) (hb : Below cur.heap.size cur w2) : HeSt w w2 cs xb ms pb a AX AY n X Y :=
  ⟨below_trans h.below hb, blk_below h.box hb, blk_below h.nbx hb, blk_below h.abx hb, Kd.C_below h.cx hb, Kd.C_below h.cy hb⟩

structure HeLp (w cur : World) (cs : Array Value) (xb : Nat) (A : Option Addr) (c : Nat) (A' : Option Addr) (c' : Nat) (nx : List (List Int)) (sr : List Int) (pb : Nat) (a : Int) (AX AY : Option Addr) (n : Nat) (X Y : List Bool) : Prop where
  st : HeSt w cur cs xb #[.slice A nx.length c, .slice A' sr.length c'] pb a AX AY n X Y
  net : NetC cur A c A' c' nx sr
theorem HeLp.step {w cur w2 : World} {cs : Array Value} {xb pb n c c' : Nat} {A A' : Option Addr} {nx : List (List Int)} {sr : List Int} {a : Int} {AX AY : Option Addr} {X Y : List Bool} (h : HeLp w cur cs xb A c A' c' nx sr pb a AX AY n X Y) (hb : Below cur.heap.size cur w2) : HeLp w w2 cs xb A c A' c' nx sr pb a AX AY n X Y :=
  ⟨h.st.step hb, h.net.below hb⟩
set_option maxRecDepth 100000 in
set_option maxHeartbeats 8000000 in
theorem f10_of (h58 : SpecCheck 58) (h37 : SpecCheck 37) (A0 : Option Addr) (c0 : Nat) (A1 : Option Addr) (c1 : Nat) (ns : List GN) (rs : List GR) (m : Int) (w : World) (hn : GraphC w A0 c0 A1 c1 ns rs) (hm0 : 0 ≤ m) (hm1 : m ≤ 255) :
    Calls Try.prog 10 #[.agg #[.slice A0 ns.length c0, .slice A1 rs.length c1], .int .u8 m] w fun e w' => e = .returned (.bool true) ∧ Below w.heap.size w w' := by
  have HN := Aside0.mk hn
  have H58 := Aside0.mk h58
  have H37 := Aside0.mk h37
  have hL0 : ns.length ≤ 9223372036854775807 := hn.nodes.2.1
  have hL1 : rs.length ≤ 9223372036854775807 := hn.roots.2.1
  clear hn h58 h37
  go_enter Try.func10, Try.ntmps10
  go_wp2_with fail
  refine (f11_any _).mono ?_
  rintro e w1 ⟨rfl, hb⟩
  obtain ⟨hbk, hz, hb1⟩ := boxed hb
  obtain ⟨hg0, hg1⟩ := box2 hbk
  have HB1 := Aside0.mk hb1
  have HG1 := Aside0.mk hbk
  clear hb hb1 hbk
  by_cases h30 : (ns.length : Int) > 30
  · have h30b : decide ((ns.length : Int) > 30) = true := decide_eq_true h30
    go_wp2_with fail
    refine (f11_any _).mono ?_
    rintro e w9 ⟨rfl, hb9⟩
    have HB9 := Aside0.mk (below_trans HB1.out hb9)
    clear hb9
    go_wp2_with fail
    go_ret
    exact ⟨rfl, HB9.out⟩
  have h30b : decide ((ns.length : Int) > 30) = false := decide_eq_false h30
  by_cases h0 : (ns.length : Int) = 0
  · have h0b : ((ns.length : Int) == 0) = true := by simpa using h0
    clear h0
    go_wp2_with fail
    refine (f11_any _).mono ?_
    rintro e w9 ⟨rfl, hb9⟩
    have HB9 := Aside0.mk (below_trans HB1.out hb9)
    clear hb9
    go_wp2_with fail
    go_ret
    exact ⟨rfl, HB9.out⟩
  have h0b : ((ns.length : Int) == 0) = false := by simpa using h0
  by_cases h60 : (rs.length : Int) > 60
  · have h60b : decide ((rs.length : Int) > 60) = true := decide_eq_true h60
    go_wp2_with fail
    refine (f11_any _).mono ?_
    rintro e w9 ⟨rfl, hb9⟩
    have HB9 := Aside0.mk (below_trans HB1.out hb9)
    clear hb9
    go_wp2_with fail
    go_ret
    exact ⟨rfl, HB9.out⟩
  have h60b : decide ((rs.length : Int) > 60) = false := decide_eq_false h60
  have hs60 : ns.length ≤ 60 := by omega
  have ht60 : rs.length ≤ 60 := by omega
  go_wp2_with fail
  refine (H37.out _ c0 A1 c1 ns rs _ (HN.out.below HB1.out) hs60 ht60).mono ?_
  rintro e w2 ⟨rfl, hb⟩
  have HB2 := Aside0.mk (below_trans HB1.out hb)
  have HG2 := Aside0.mk (blk_below HG1.out hb)
  clear hb hg0 hg1 HB1 HG1
  obtain ⟨hg0, hg1⟩ := box2 HG2.out
  rcases graphE_cases ns rs with hge | hge
  case inr =>
    rw [hge]
    clear hge
    go_wp2_with fail
    refine (f11_any _).mono ?_
    rintro e w9 ⟨rfl, hb9⟩
    have HB9 := Aside0.mk (below_trans HB2.out hb9)
    clear hb9
    go_wp2_with fail
    go_ret
    exact ⟨rfl, HB9.out⟩
  rw [hge]
  have HGE := Aside0.mk hge
  have HOK := Aside0.mk (ofN_pairless hge hs60 ht60)
  clear hge h30b h0b h60b
  go_wp2_with fail
  refine (f35_of H58.out _ c0 A1 c1 ns rs _ (HN.out.below HB2.out) hs60 ht60).mono ?_
  rintro e w3 ⟨A, c, A', c', nx, st, rfl, hnet, hb, hnx, hst⟩
  have HB3 : Aside0 (Below w.heap.size w (w3.alloc (.cells #[.slice A nx.length c, .slice A' st.length c'] 25))) := ⟨(below_trans HB2.out hb).alloc (below_trans HB2.out hb).size _⟩
  have HG3 := Aside0.mk (blk_alloc (blk_below HG2.out hb) (.cells #[.slice A nx.length c, .slice A' st.length c'] 25))
  have HX3 := Aside0.mk (blk_new w3 (.cells #[.slice A nx.length c, .slice A' st.length c'] 25))
  have HN3 := Aside0.mk (hnet.below ((Below.refl _ _).alloc (Nat.le_refl _) (.cells #[.slice A nx.length c, .slice A' st.length c'] 25)))
  clear hb hnet hg0 hg1 HB2 HG2
  obtain ⟨hg0, hg1⟩ := box2 HG3.out
  cases hp : ns.any (fun x => x.1 == 3)
  case true =>
    rw [of_pair HGE.out hp]
    have HP := Aside0.mk hp
    clear hp hnx hst
    go_wp2_with fail
    refine (f38_pair _ c0 ns _ (Kd.C_below HN.out.nodes HB3.out)).mono ?_
    rintro e w4 ⟨rfl, hb⟩
    have HB4 := Aside0.mk (below_trans HB3.out hb)
    clear hb
    rw [HP.out]
    go_wp2_with fail
    go_ret
    exact ⟨rfl, HB4.out⟩
  rw [of_ok HGE.out hp] at hnx hst ⊢
  rw [if_pos rfl] at hnx hst
  subst hnx hst
  have HNP := Aside0.mk (no_pair hp)
  have HHP : Aside0 (∀ i : Nat, i < ns.length → (ns.getD i noN).2.1.length ≤ 126 ∧ (ns.getD i noN).2.2.length ≤ 2048) := ⟨fun i hi => ⟨node_ptrs (graph_nodes HGE.out i hi), node_bytes (graph_nodes HGE.out i hi)⟩⟩
  clear hp
  have hwr : wrap64 m = m := wrap_byte hm0 hm1
  have HG4 := Aside0.mk (blk_alloc HG3.out (.cells #[.int .i64 (m % (ns.length : Int))] 3))
  have HX4 := Aside0.mk (blk_alloc HX3.out (.cells #[.int .i64 (m % (ns.length : Int))] 3))
  have HP4 := Aside0.mk (blk_new (w3.alloc (.cells #[.slice A (ofN ns).length c, .slice A' (ofS rs).length c'] 25)) (.cells #[.int .i64 (m % (ns.length : Int))] 3))
  have HB4 : Aside0 (Below w.heap.size w ((w3.alloc (.cells #[.slice A (ofN ns).length c, .slice A' (ofS rs).length c'] 25)).alloc (.cells #[.int .i64 (m % (ns.length : Int))] 3))) := ⟨HB3.out.alloc HB3.out.size _⟩
  have HN4 := Aside0.mk (HN3.out.below ((Below.refl _ _).alloc (Nat.le_refl _) (.cells #[.int .i64 (m % (ns.length : Int))] 3)))
  obtain ⟨hg2, hg3⟩ := box2 HG4.out
  go_wp2_with fail
  obtain ⟨xb, hxb⟩ : ∃ xb, xb = w3.heap.size := ⟨_, rfl⟩
  obtain ⟨pb, hpbe⟩ : ∃ pb, pb = w3.heap.size + 1 := ⟨_, rfl⟩
  obtain ⟨a, hae⟩ : ∃ a : Int, a = m % (ns.length : Int) := ⟨_, rfl⟩
  have ha0 : 0 ≤ a := by rw [hae]; exact Int.emod_nonneg _ h0
  have ha1 : a < ns.length := by rw [hae]; exact Int.emod_lt_of_pos _ (by omega)
  have HP5 : Aside0 (((w3.alloc (.cells #[.slice A (ofN ns).length c, .slice A' (ofS rs).length c'] 25)).alloc (.cells #[.int .i64 (m % (ns.length : Int))] 3)).heap[w3.heap.size + 1]? = some (.cells #[.int .i64 (m % (ns.length : Int))] 3 (0, 0))) := ⟨by have := HP4.out; simpa using this⟩
  rw [← hpbe, ← hxb]
  rw [← hxb] at HX4
  rw [← hpbe] at HP5
  rw [← hae] at HX4 HP5 HB4 HN4 HG4 ⊢
  have hpbl : pb < ((w3.alloc (.cells #[.slice A (ofN ns).length c, .slice A' (ofS rs).length c'] 25)).alloc (.cells #[.int .i64 a] 3)).heap.size := by rw [hpbe]; simp
  generalize ((w3.alloc (.cells #[.slice A (ofN ns).length c, .slice A' (ofS rs).length c'] 25)).alloc (.cells #[.int .i64 a] 3)) = wc at HX4 HP5 HB4 HN4 HG4 hpbl ⊢
  clear hpbe hxb hae HG3 HX3 HB3 HN3 HP4 hg0 hg1 hg2 hg3 hwr
  refine (f40_any _ c0 A1 c1 ns rs _ (HN.out.below HB4.out) hs60 ht60 HHP.out).mono ?_
  rintro e w5 ⟨ob, vn, vr, rfl, hcl⟩
  obtain ⟨HH, OO, hcs⟩ := hcl.st
  obtain ⟨AN, cap, hvn⟩ := Kd.R_slice hcs.heads
  rw [hcs.len] at hvn
  subst hvn
  obtain ⟨A3, c3, e3⟩ := Kd.R_slice hcs.roots
  subst e3
  have HRE := Aside0.mk hcs.rebox
  clear hcl hcs
  go_wp2_with fail
  obtain ⟨lb, hlb⟩ : ∃ lb, lb = w5.heap.size := ⟨_, rfl⟩
  rw [← hlb] at HRE ⊢
  generalize (w5.alloc (.cells #[.slice AN ns.length cap, .slice A3 rs.length c3] 58)) = w6 at HRE ⊢
  clear hlb
  have hp6 := (blk_cell (blk_below HP5.out HRE.out.below) 0).trans (show _ = some (Value.int .i64 a) from rfl)
  refine (f41_any A3 rs.length c3 rs pb a wc.heap.size (fun _ => True) _ HRE.out.roots rfl hp6 hpbl (by omega)).mono ?_
  rintro e w7 ⟨rfl, hr, hg⟩
  obtain ⟨hob, hcs⟩ := HRE.out.delRoots hr hg
  have HC7 := Aside0.mk hcs
  obtain ⟨ho0, ho1⟩ := box2 hob
  have hof := blk_frozen hob 1
  obtain ⟨hl0, hl1⟩ := box2 hcs.obk
  clear hr hg hob hcs HRE hp6
  go_wp2_with fail
  generalize (w7.setCell ⟨lb, 1, none⟩ (.slice A3 (delR a rs).length c3)) = w8 at HC7 hl0 hl1 ⊢
  have HC8 : Aside0 (GcSt wc w8 lb (.slice AN ns.length cap) (.slice A3 (delR a rs).length c3) HH (nodesAt a ns (0 : Int).toNat) (delR a rs) OO) := ⟨by rw [show (0 : Int).toNat = 0 from rfl, nodesAt_zero]; exact HC7.out⟩
  clear HC7 hl0 hl1 ho0 ho1 hof
  go_loopw [70] (fun v70 wr => ∃ i : Int, v70 = .int .i64 i ∧ 0 ≤ i ∧ i ≤ ns.length ∧ Aside0 (GcSt wc wr lb (.slice AN ns.length cap) (.slice A3 (delR a rs).length c3) HH (nodesAt a ns i.toNat) (delR a rs) OO)) (fun v _ => ns.length - (intOf v).toNat)
  case atStart => exact ⟨0, rfl, by omega, by omega, HC8⟩
  case round =>
    clear HC8
    obtain ⟨i, rfl, hi0, hi1, HC⟩ := hrel
    obtain ⟨hl0, hl1⟩ := box2 HC.out.obk
    by_cases hil : i < ns.length
    case pos =>
      obtain ⟨ad, k, AP, n', cp, hd, e, hH, hc1⟩ := at_head HC.out.heads i hi0 hil
      cases e
      obtain ⟨hn', hrow⟩ := HC.out.ptrs i.toNat _ hH
      rw [nodesAt_at a ns i.toNat (by omega)] at hn' hrow
      obtain ⟨x, hx⟩ : ∃ x, x = ns.getD i.toNat noN := ⟨_, rfl⟩
      rw [← hx] at hn' hrow
      have HH' := Aside0.mk hH
      have HX := Aside0.mk hx
      have hnl : n' ≤ 126 := by
        have := (HHP.out i.toNat (by omega)).1
        rw [← hx] at this
        have e : n' = x.2.1.length := hn'
        omega
      have hnx : n' = x.2.1.length := hn'
      have HCI : Aside0 (GcSt wc wr lb (.slice (some ad) ns.length cap) (.slice A3 (delR a rs).length c3) HH ((nodesAt a ns i.toNat).set i.toNat (x.1, (turnTo a x.2.1 (0 : Int).toNat, x.2.2))) (delR a rs) OO) := ⟨by
        have : (nodesAt a ns i.toNat).set i.toNat (x.1, (turnTo a x.2.1 (0 : Int).toNat, x.2.2)) = nodesAt a ns i.toNat := by
          rw [show (0 : Int).toNat = 0 from rfl, turnTo_zero]
          have e : (x.1, (x.2.1, x.2.2)) = (nodesAt a ns i.toNat).getD i.toNat noN := by rw [nodesAt_at a ns i.toNat (by omega), ← hx]
          have hlt : i.toNat < (nodesAt a ns i.toNat).length := by rw [nodesAt_len]; omega
          rw [e, List.getD_eq_getElem?_getD, List.getElem?_eq_getElem hlt, Option.getD_some, List.set_getElem_self]
        rw [this]; exact HC.out⟩
      clear hn' hrow hH hx
      go_wp2_with fail
      clear HC hl0 hl1 hc1
      go_loopw [80] (fun v80 wr => ∃ j : Int, v80 = .int .i64 j ∧ 0 ≤ j ∧ j ≤ n' ∧ Aside0 (GcSt wc wr lb (.slice (some ad) ns.length cap) (.slice A3 (delR a rs).length c3) HH ((nodesAt a ns i.toNat).set i.toNat (x.1, (turnTo a x.2.1 j.toNat, x.2.2))) (delR a rs) OO)) (fun v _ => n' - (intOf v).toNat)
      case atStart => exact ⟨0, rfl, by omega, by omega, HCI⟩
      case round =>
        clear HCI
        obtain ⟨j, rfl, hj0, hj1, HC⟩ := hrel
        by_cases hjl : j < n'
        case neg =>
          have HC2 : Aside0 (GcSt wc wr lb (.slice (some ad) ns.length cap) (.slice A3 (delR a rs).length c3) HH (nodesAt a ns (i + 1).toNat) (delR a rs) OO) := ⟨by
            rw [show (i + 1).toNat = i.toNat + 1 from by omega, nodesAt_succ a ns i.toNat (by omega), ← HX.out]
            have h := HC.out
            rw [show j.toNat = x.2.1.length from by omega, turnTo_end] at h
            exact h⟩
          go_wp2_with fail
          go_roundw
          case rel => exact ⟨i + 1, rfl, by omega, by omega, HC2⟩
          case measure => simp [intOf]; omega
        have hpos : 0 < n' := by omega
        have hiH : ((nodesAt a ns i.toNat).set i.toNat (x.1, (turnTo a x.2.1 j.toNat, x.2.2))).getD i.toNat noN = (x.1, (turnTo a x.2.1 j.toNat, x.2.2)) := by
          rw [List.getD_eq_getElem?_getD, List.getElem?_set, if_pos rfl, if_pos (by rw [nodesAt_len]; omega)]; rfl
        obtain ⟨g, hAP⟩ : ∃ g, AP = some ⟨g, 0, none⟩ := by
          have h := (HC.out.ptrs i.toNat _ HH'.out).2
          rw [hiH] at h
          obtain ⟨g, _, he, _⟩ := Kd.R_form h (by show 0 < (turnTo a x.2.1 j.toNat).length; rw [turnTo_len]; omega)
          exact ⟨g, (Value.slice.inj he).1⟩
        subst hAP
        obtain ⟨⟨hcj, hfj⟩, hput⟩ := HC.out.putPtr HH'.out hiH j hj0 (by omega) (-1)
        have hrdj : rd (turnTo a x.2.1 j.toNat) j = rd x.2.1 j := by
          unfold rd; exact turnTo_at a x.2.1 j.toNat (by omega)
        rw [hrdj] at hcj
        obtain ⟨p, hpe⟩ : ∃ p, p = rd x.2.1 j := ⟨_, rfl⟩
        rw [← hpe] at hcj
        have HPE := Aside0.mk hpe
        have hpa := (blk_cell (blk_below HP5.out HC.out.below) 0).trans (show _ = some (Value.int .i64 a) from rfl)
        obtain ⟨hl0, hl1⟩ := box2 HC.out.obk
        obtain ⟨ad', k', AP', n'', cp', hd', e, hH2, hc1⟩ := at_head HC.out.heads i hi0 (by omega)
        cases e
        rw [HH'.out] at hH2
        simp only [Option.some.injEq, Prod.mk.injEq] at hH2
        obtain ⟨rfl, ⟨rfl, rfl, rfl⟩, rfl⟩ := hH2
        clear hrdj hpe
        by_cases hpa' : p = a
        · have hpb' : (p == a) = true := by simpa using hpa'
          have HC2 : Aside0 (GcSt wc (wr.setCell ⟨g, j.toNat, none⟩ (.int .i64 (-1))) lb (.slice (some ad) ns.length cap) (.slice A3 (delR a rs).length c3) HH ((nodesAt a ns i.toNat).set i.toNat (x.1, (turnTo a x.2.1 (j + 1).toNat, x.2.2))) (delR a rs) OO) := ⟨by
            have h := hput
            rw [List.set_set] at h
            have e2 : turnTo a x.2.1 (j + 1).toNat = (turnTo a x.2.1 j.toNat).set j.toNat (-1) := by
              rw [show (j + 1).toNat = j.toNat + 1 from by omega, turnTo_succ a x.2.1 j.toNat (by omega)]
              have e3 : turn a (x.2.1.getD j.toNat 0) = -1 := if_pos (by rw [← hpa', HPE.out]; rfl)
              rw [e3]
            rw [e2]
            exact h⟩
          clear hput hiH
          go_wp2_with fail
          go_roundw
          case rel => exact ⟨j + 1, rfl, by omega, by omega, HC2⟩
          case measure => simp [intOf]; omega
        · have hpb' : (p == a) = false := by simpa using hpa'
          have HC2 : Aside0 (GcSt wc wr lb (.slice (some ad) ns.length cap) (.slice A3 (delR a rs).length c3) HH ((nodesAt a ns i.toNat).set i.toNat (x.1, (turnTo a x.2.1 (j + 1).toNat, x.2.2))) (delR a rs) OO) := ⟨by
            rw [show (j + 1).toNat = j.toNat + 1 from by omega, turnTo_same a x.2.1 j.toNat (by omega) (by
              intro e; exact hpa' (by rw [HPE.out]; exact e))]
            exact HC.out⟩
          clear hput hiH
          go_wp2_with fail
          go_roundw
          case rel => exact ⟨j + 1, rfl, by omega, by omega, HC2⟩
          case measure => simp [intOf]; omega
    have HC2 := HC.out
    rw [show i.toNat = ns.length from by omega, nodesAt_end] at HC2
    obtain ⟨A4, c4, A5, c5, e4, e5, hgr⟩ := HC2.graph
    have e41 := (Value.slice.inj e4).1
    have e43 := (Value.slice.inj e4).2.2
    have e51 := (Value.slice.inj e5).1
    have e53 := (Value.slice.inj e5).2.2
    subst e41 e43 e51 e53
    have HNL := Aside0.mk hgr
    have HLB := Aside0.mk HC2.obk
    have HBX := Aside0.mk (blk_below HG4.out HC2.below)
    have HXX := Aside0.mk (blk_below HX4.out HC2.below)
    have HPX := Aside0.mk (blk_below HP5.out HC2.below)
    have HBR := Aside0.mk (below_trans HB4.out HC2.below)
    have HNX := Aside0.mk (HN4.out.below HC2.below)
    clear HC HC2 hgr e4 e5 hl0 hl1
    obtain ⟨hn0, hn1⟩ := box2 HBX.out
    go_wp2_with fail
    refine (f43_of H37.out _ c0 A1 c1 ns rs _ (HN.out.below HBR.out) hs60 ht60 HGE.out HNP.out).mono ?_
    rintro e w10 ⟨BX, kX, rfl, hr, hb⟩
    have hcx := (Kd.R_reads' hr).2.2
    rw [reachB_len, ofN_len] at hcx
    have HCX := Aside0.mk hcx
    have HNL2 := Aside0.mk (HNL.out.below hb)
    have HLB2 := Aside0.mk (blk_below HLB.out hb)
    have HBX2 := Aside0.mk (blk_below HBX.out hb)
    have HXX2 := Aside0.mk (blk_below HXX.out hb)
    have HPX2 := Aside0.mk (blk_below HPX.out hb)
    have HBR2 := Aside0.mk (below_trans HBR.out hb)
    have HNX2 := Aside0.mk (HNX.out.below hb)
    clear hr hcx hb HNL HLB HBX HXX HPX HBR HNX hn0 hn1
    obtain ⟨hl0, hl1⟩ := box2 HLB2.out
    go_wp2_with fail
    refine (show Calls Try.prog 43 #[.agg #[.slice AN ns.length cap, .slice A3 (delR a rs).length c3]] w10 fun e w' => ∃ B k, e = .returned (.tuple #[.slice B ns.length k, .int .i64 0]) ∧
        Kd.R Kd.bool 4 w' w10.heap.size (fun _ => True) (.slice B ns.length k) (reachB (ofN ns) (ofS rs) a) ∧ Below w10.heap.size w10 w' from by
      have h := f43_of H37.out AN cap A3 c3 (lessG a ns) (delR a rs) w10 HNL2.out (by rw [lessG_len]; exact hs60) (Nat.le_trans (delR_len a rs) ht60) (graph_less HGE.out) (fun i hi => by rw [lessG_kind]; exact HNP.out i (by rw [lessG_len] at hi; exact hi))
      rw [lessG_len, ofN_less ha0, ofS_less, reachB_less (good_of_ok HOK.out)] at h
      exact h).mono ?_
    rintro e w11 ⟨BY, kY, rfl, hr, hb⟩
    have hcy := (Kd.R_reads' hr).2.2
    rw [reachB_len, ofN_len] at hcy
    have HCY := Aside0.mk hcy
    have HCX2 := Aside0.mk (Kd.C_below HCX.out hb)
    have HBX3 := Aside0.mk (blk_below HBX2.out hb)
    have HXX3 := Aside0.mk (blk_below HXX2.out hb)
    have HPX3 := Aside0.mk (blk_below HPX2.out hb)
    have HBR3 := Aside0.mk (below_trans HBR2.out hb)
    have HNX3 := Aside0.mk (HNX2.out.below hb)
    clear hr hcy hb HNL2 HLB2 HBX2 HXX2 HPX2 HBR2 HNX2 HCX hl0 hl1
    obtain ⟨hx0, hx1⟩ := box2 HXX3.out
    go_wp2_with fail
    refine (f22_any A c A' c' (ofN ns) (ofS rs) _ HNX3.out).mono ?_
    rintro e w12 ⟨vz, rfl, hr, hb⟩
    rw [reachA_ok HOK.out] at hr
    rw [checkE_ok HOK.out]
    obtain ⟨BZ, kZ, eZ⟩ := Kd.R_slice hr
    rw [reachB_len, ofN_len] at eZ
    subst eZ
    have HCZ := Aside0.mk (Kd.R_reads' hr).2.2
    have HS : Aside0 (HeSt w w12 #[.slice A0 ns.length c0, .slice A1 rs.length c1] xb #[.slice A (ofN ns).length c, .slice A' (ofS rs).length c'] pb a BX BY ns.length (reachB (ofN ns) (ofS rs) (-1)) (reachB (ofN ns) (ofS rs) a)) := ⟨⟨below_trans HBR3.out hb, blk_below HBX3.out hb, blk_below HXX3.out hb, blk_below HPX3.out hb, Kd.C_below HCX2.out hb, Kd.C_below HCY.out hb⟩⟩
    have HNX4 := Aside0.mk (HNX3.out.below hb)
    clear hr hb HBX3 HXX3 HPX3 HBR3 HNX3 HCX2 HCY hx0 hx1
    have hll : ((ns.length : Int) != ns.length) = false := by simp
    go_wp2_with fail
    refine (show Calls Try.prog 30 #[.slice BX ns.length kX, .slice BZ ns.length kZ] w12 fun e w' => e = .returned (.bool true) ∧ Below w12.heap.size w12 w' from by
      have h := f30_any BX kX BZ kZ (reachB (ofN ns) (ofS rs) (-1)) (reachB (ofN ns) (ofS rs) (-1)) w12 (by rw [reachB_len, ofN_len]; exact HS.out.cx) HCZ.out
      rw [show decide (reachB (ofN ns) (ofS rs) (-1) = reachB (ofN ns) (ofS rs) (-1)) = true from decide_eq_true rfl, reachB_len, ofN_len] at h
      exact h).mono ?_
    rintro e w13 ⟨rfl, hb⟩
    have HS2 := Aside0.mk (HS.out.step hb)
    have HNZ := Aside0.mk (HNX4.out.below hb)
    clear hb HS HCZ HNX4
    obtain ⟨X, hX⟩ : ∃ X, X = reachB (ofN ns) (ofS rs) (-1) := ⟨_, rfl⟩
    obtain ⟨Y, hY⟩ : ∃ Y, Y = reachB (ofN ns) (ofS rs) a := ⟨_, rfl⟩
    have HGAT : Aside0 (∀ i : Int, 0 ≤ i → i < ns.length → domB (ofN ns) (ofS rs) a i = (rdOf false X i && !rdOf false Y i)) := ⟨fun i h0 h1 => by
      rw [hX, hY, ← rdOf_zip _ _ (by rw [reachB_len, reachB_len]) i h0 (by rw [reachB_len, ofN_len]; exact h1)]
      exact domB_gone HOK.out (by simp [inNet, ofN_len]; omega) (by simp [inNet, ofN_len]; omega)⟩
    rw [← hX, ← hY] at HS2
    clear hX hY
    go_wp2_with fail
    clear hll
    obtain ⟨wz, rfl⟩ : ∃ wz : World, wz = w13 := ⟨_, rfl⟩
    go_loopw [138] (fun v138 wr => ∃ i : Int, v138 = .int .i64 i ∧ 0 ≤ i ∧ i ≤ ns.length ∧ Aside0 (HeSt w wr #[.slice A0 ns.length c0, .slice A1 rs.length c1] xb #[.slice A (ofN ns).length c, .slice A' (ofS rs).length c'] pb a BX BY ns.length X Y) ∧ Aside0 (NetC wr A c A' c' (ofN ns) (ofS rs))) (fun v _ => ns.length - (intOf v).toNat)
    case atStart => exact ⟨0, rfl, by omega, by omega, HS2, HNZ⟩
    case round =>
      clear HS2 HNZ
      obtain ⟨i, rfl, hi0, hi1, HS, HNN⟩ := hrel
      by_cases hil : i < ns.length
      case neg =>
        go_wp2_with fail
        go_ret
        exact ⟨rfl, HS.out.below⟩
      obtain ⟨adx, e, _⟩ := Kd.at_bool HS.out.cx i hi0 hil
      cases e
      obtain ⟨ady, e, _⟩ := Kd.at_bool HS.out.cy i hi0 hil
      cases e
      have hd1 := HGAT.out i hi0 hil
      obtain ⟨xi, hxi⟩ : ∃ xi, rdOf false X i = xi := ⟨_, rfl⟩
      obtain ⟨yi, hyi⟩ : ∃ yi, rdOf false Y i = yi := ⟨_, rfl⟩
      rw [hxi, hyi] at hd1
      have HD := Aside0.mk (And.intro hd1 (And.intro hxi hyi))
      have HI : Aside0 (HeLp w wr.drew #[.slice A0 ns.length c0, .slice A1 rs.length c1] xb A c A' c' (ofN ns) (ofS rs) pb a (some adx) (some ady) ns.length X Y) := ⟨⟨HS.out.step (below_drew (Below.refl _ _)), HNN.out.below (below_drew (Below.refl _ _))⟩⟩
      clear hd1 hxi hyi
      cases xi <;> cases yi
      all_goals (
        go_wp2_with fail
        refine wp_region_quiet (C := fun w' => HeLp w w' #[.slice A0 ns.length c0, .slice A1 rs.length c1] xb A c A' c' (ofN ns) (ofS rs) pb a (some adx) (some ady) ns.length X Y) (by kernel_rfl) (by kernel_rfl) HI.out ?_
        repeat (quiet_step (first
          | (intro hc; go_at_call 24; refine (f24_any A c A' c' (ofN ns) (ofS rs) a i _ hc.net).mono ?_; rintro e w' ⟨rfl, hb⟩; rw [HD.out.1]; exact ⟨rfl, hc.step hb⟩)
          | (intro _; with_reducible rfl)
          | (intro hc; obtain ⟨h0, h1⟩ := box2 hc.st.nbx; go_simp; with_reducible rfl)
          | (intro hc; have h0 := (blk_cell hc.st.abx 0).trans (show _ = some (Value.int .i64 a) from rfl); go_simp; with_reducible rfl)
          | (intro hc; obtain ⟨ad1, e1, h1⟩ := Kd.at_bool hc.st.cx i hi0 hil; cases e1; obtain ⟨ad2, e2, h2⟩ := Kd.at_bool hc.st.cy i hi0 hil; cases e2; rw [HD.out.2.1] at h1; rw [HD.out.2.2] at h2; go_simp; with_reducible rfl)))
        refine wpQuiet_nil ?_
        rintro w9 hc
        have HC := Aside0.mk hc
        clear hc
        go_wp2_with fail
        go_roundw
        case rel => exact ⟨i + 1, rfl, by omega, by omega, ⟨HC.out.st⟩, ⟨HC.out.net⟩⟩
        case measure => simp [intOf]; omega)
end Go.Proofs.Ytgbmebnfbhdpiaa
namespace Go.Proofs.Ytgbmebnfbhdpiaa
open Go.ChangeShapes Go.WideShapes Go.ChangeAt Go.RowKit

set_option maxRecDepth 100000 in
theorem domHeap_lifted (os : Os) (started : os.Started) (H : Type) (enc : TypeId × Value → H) :
    ReturnsInHanded {} Try.checked os 10 .any (Rows.domHeapSpec.pre6 enc Try.prog Try.f10 Rows.domHeapRow.domain false) (Rows.domHeapSpec.post enc Try.prog Try.f10 false true false false) := by
  refine returnsInHanded_of_change (C := Try.checked) Try.own started (by kernel_rfl) Try.func10
    (ChangeSpec.witness6 (enc := enc) (C := Try.checked) false ⟨#[], #[.agg #[.slice none 0 0, .slice none 0 0], .int .u8 0], []⟩ 8 (by kernel_rfl) (by kernel_rfl) (by kernel_rfl) (by kernel_rfl)) ?_
  intro W base args ds gs before hval0 hW hcnd _
  have hval : ∀ (j : Nat) t v, Try.f10.params[j]? = some t → args[j]? = some v → Value.okWide Try.prog W .any base t v := hval0
  have hW' := hW
  obtain ⟨p, q, hA0, hV, rfl, hfz, hnd⟩ := hW
  have hA : DataW.TrodAll enc Try.prog W 0 (fun _ => true) true Try.f10.params.toList args.toList ds p := hA0
  rw [Try.params10] at hA hval
  obtain ⟨v0, v1, d0, d1, p0, p1, rfl, rfl, rfl, h0, h1⟩ := trodAll_two hA
  obtain ⟨rfl, rfl⟩ := trodVars_none hV
  have lt0 : ∀ x ∈ p0, x.block < W.heap.size := by obtain ⟨m, hm⟩ := h0; exact DataW.trod_lt m _ _ _ hm
  obtain ⟨A0, c0, A1, c1, ns, rs, rfl, hn⟩ := open_graph (hval 0 58 v0 rfl rfl) h0
  obtain ⟨m, rfl, rfl, rfl, hwm⟩ := open_int Try.underlying5 (hval 1 5 v1 rfl rfl) h1
  have hm : 0 ≤ m ∧ m ≤ 255 := by
    simp only [Lit.wf, IntKind.min, IntKind.max, IntKind.signed, IntKind.bits, Bool.and_eq_true, decide_eq_true_eq] at hwm
    simp at hwm
    omega
  clear hA0 hval0
  refine (f10_of f58_any f37_any A0 c0 A1 c1 ns rs m W hn hm.1 hm.2).mono fun e W' ⟨he, bel⟩ => ?_
  subst he
  exact ⟨_, rfl, _, _, _, [], _, [], hW', trodAll_mk1 (shut_bool Try.underlying4 _), trodAll_mk2 (Below.trod Try.laidOut (by kernel_rfl) (of_decide_eq_true (by kernel_rfl)) h0 bel lt0) (shut_int Try.underlying5 hwm), rfl, bel.frame _, fun h => by cases h⟩

theorem domHeap_holds : Rows.DomHeapSaid :=
  OpenClaim.holds_of_wide 10 Try.f10 rfl rfl rfl rfl rfl rfl rfl ⟨rfl, rfl, rfl, rfl, rfl⟩ rfl rfl rfl rfl rfl (by kernel_rfl) Try.func10 (by kernel_rfl)
    (of_decide_eq_true (by kernel_rfl)) (by unfold Func.isWrapper; first | (rw [if_pos (by decide +kernel)]; kernel_rfl) | (rw [if_neg (by decide +kernel)]; exact ⟨rfl, rfl⟩))
    (fun os started H enc _ => domHeap_lifted os started H enc)
end Go.Proofs.Ytgbmebnfbhdpiaa
