/- The walk of slices.Reverse over a row of ints of the call's own. -/
import Derived.Test.YtgbmebnfbhdpiaaRepeatF
import Derived.Test.YtgbmebnfbhdpiaaWFour
import Derived.Test.YtgbmebnfbhdpiaaWTab
set_option linter.unusedSimpArgs false
namespace Go.Proofs.Ytgbmebnfbhdpiaa
open Go.RowKit Go.Proofs.YtgbmebnfbhdpiaaW.PrintWords Go.Proofs.YtgbmebnfbhdpiaaW.PrintLast

/-- i numbers on either side are turned round. -/
structure Turned (xs ys : List Int) (i : Int) : Prop where
  len : ys.length = xs.length
  at_ : ∀ k : Int, 0 ≤ k → k < xs.length → rd ys k = if k < i ∨ xs.length - i ≤ k then rd xs (xs.length - 1 - k) else rd xs k
theorem turned_start (xs : List Int) : Turned xs xs 0 := ⟨rfl, fun k h0 h1 => by rw [if_neg (by omega)]⟩
theorem rd_set (l : List Int) (i k : Int) (x : Int) (h0 : 0 ≤ i) (h1 : i < l.length) (h2 : 0 ≤ k) : rd (l.set i.toNat x) k = if k = i then x else rd l k := by
  unfold rd
  rw [List.getD_eq_getElem?_getD, List.getElem?_set]
  by_cases h : i.toNat = k.toNat
  · rw [if_pos h, if_pos (by omega), if_pos (by omega)]; rfl
  · rw [if_neg h, if_neg (by omega), List.getD_eq_getElem?_getD]
theorem turned_step {xs ys : List Int} {i : Int} (h : Turned xs ys i) (h0 : 0 ≤ i) (h1 : i < xs.length - 1 - i) :
    Turned xs ((ys.set i.toNat (rd ys (xs.length - 1 - i))).set ((xs.length : Int) - 1 - i).toNat (rd ys i)) (i + 1) := by
  have hl := h.len
  refine ⟨by simp [hl], fun k h2 h3 => ?_⟩
  rw [rd_set _ _ _ _ (by omega) (by rw [List.length_set]; omega) h2, rd_set _ _ _ _ h0 (by omega) h2]
  have hi := h.at_ i h0 (by omega)
  have hj := h.at_ (xs.length - 1 - i) (by omega) (by omega)
  rw [if_neg (by omega)] at hi hj
  by_cases c1 : k = (xs.length : Int) - 1 - i
  · rw [if_pos c1, if_pos (by omega), hi, c1, show (xs.length : Int) - 1 - (xs.length - 1 - i) = i from by omega]
  · rw [if_neg c1]
    by_cases c2 : k = i
    · rw [if_pos c2, if_pos (by omega), hj, c2]
    · rw [if_neg c2, h.at_ k h2 h3]
      by_cases c3 : k < i ∨ (xs.length : Int) - i ≤ k
      · rw [if_pos c3, if_pos (by omega)]
      · rw [if_neg c3, if_neg (by omega)]
theorem turned_end {xs ys : List Int} {i : Int} (h : Turned xs ys i) (h1 : ¬ i < xs.length - 1 - i) : ys = xs.reverse := by
  apply List.ext_getElem?
  intro k
  have hl := h.len
  rcases Nat.lt_or_ge k xs.length with hk | hk
  · have h2 := h.at_ k (by omega) (by omega)
    unfold rd at h2
    rw [List.getElem?_reverse hk]
    have e1 : ys[k]? = some (ys.getD (k : Int).toNat 0) := by
      rw [Int.toNat_natCast, List.getD_eq_getElem?_getD, List.getElem?_eq_getElem (by omega)]; rfl
    rw [e1, h2]
    by_cases c : (k : Int) < i ∨ (xs.length : Int) - i ≤ k
    · rw [if_pos c, show ((xs.length : Int) - 1 - k).toNat = xs.length - 1 - k from by omega, List.getD_eq_getElem?_getD, List.getElem?_eq_getElem (by omega)]; rfl
    · rw [if_neg c, Int.toNat_natCast, show xs.length - 1 - k = k from by omega, List.getD_eq_getElem?_getD, List.getElem?_eq_getElem (by omega)]; rfl
  · rw [List.getElem?_eq_none (by omega), List.getElem?_eq_none (by simpa using hk)]

def tT_74_3 : Bool × List (List Nat × List Nat) := (true, [([], []), ([], []), ([], []), ([], []), ([], []), ([], []), ([4, 5], [4, 5]), ([6], [6]), ([], []), ([], []), ([8, 9], [8, 9]), ([10], [10]), ([0, 1, 0, 1, 4, 5, 6, 7, 11], [0, 1]), ([12, 7, 0, 1, 4, 5, 6, 7, 11], [7, 12]), ([2, 3, 0, 1, 2, 3, 4, 5, 6, 7, 8, 9, 10, 11, 12, 13], [2, 3]), ([14, 11, 13, 0, 1, 2, 3, 4, 5, 6, 7, 8, 9, 10, 11, 12, 13], [11, 14])])
def tB_74_3 : List Nat := [0, 0, 0, 0, 0, 0, 48, 112, 0, 0, 768, 1792, 4083, 8179, 16383, 32767]
theorem tab_74_3 : rtab .any (opsOf Try.f74 3) = tT_74_3 := by kernel_rfl
theorem bits_74_3 : waitsOk tT_74_3.2 tB_74_3 = true := by kernel_rfl
set_option maxRecDepth 100000 in
set_option maxHeartbeats 4000000 in
theorem f74_any (w0 w : World) (base : Nat) (ok : Nat → Prop) (A : Option Addr) (c : Nat) (xs : List Int) (hb : Below base w0 w) (hr : Kd.R (Kd.int .i64) 3 w base ok (.slice A xs.length c) xs) :
    Calls Try.prog 74 #[.slice A xs.length c] w fun e w' => e = .returned (.tuple #[]) ∧ Kd.R (Kd.int .i64) 3 w' base ok (.slice A xs.length c) xs.reverse ∧ Below base w0 w' ∧ w.grownBy w' (Value.slice A xs.length c).ownBlock := by
  have HR := Aside0.mk hr
  have HB := Aside0.mk hb
  have hl : xs.length ≤ 9223372036854775807 := (Kd.R_reads' hr).2.2.2.1
  clear hr hb
  go_enter Try.func74, Try.ntmps74
  go_wp2_with fail
  go_loopw [2, 3] (fun v2 v3 wr => ∃ (i : Int) (ys : List Int), v2 = .int .i64 i ∧ v3 = .int .i64 (xs.length - 1 - i) ∧ 0 ≤ i ∧ i ≤ xs.length ∧ Aside0 (Turned xs ys i) ∧ Aside0 (Kd.R (Kd.int .i64) 3 wr base ok (.slice A xs.length c) ys) ∧ Aside0 (Below base w0 wr) ∧ Aside0 (w.grownBy wr (Value.slice A xs.length c).ownBlock)) (fun v _ _ => xs.length - (intOf v).toNat)
  case atStart => exact ⟨0, xs, rfl, by simp, by omega, by omega, ⟨turned_start xs⟩, HR, HB, ⟨⟨rfl, rfl, rfl, Nat.le_refl _, fun _ _ _ => rfl⟩⟩⟩
  case round =>
    obtain ⟨i, ys, rfl, rfl, h0, h1, HT, HR1, HB1, HG1⟩ := hrel
    clear HR HB
    by_cases hlt : i < xs.length - 1 - i
    · obtain ⟨g, cap, hvs, hbg, hgl, cells, hgc⟩ := Kd.R_form HR1.out (by have := HT.out.len; omega)
      have hyl := HT.out.len
      rw [hyl] at hvs
      have hA : A = some ⟨g, 0, none⟩ := by injection hvs
      subst hA
      clear hvs cells hgc hyl
      obtain ⟨hic, hif⟩ := R_celln 0 HR1.out i h0 (by omega)
      obtain ⟨hjc, hjf⟩ := R_celln 0 HR1.out (xs.length - 1 - i) (by omega) (by omega)
      rw [show rdOf (0 : Int) ys i = rd ys i from rfl] at hic
      rw [show rdOf (0 : Int) ys (xs.length - 1 - i) = rd ys (xs.length - 1 - i) from rfl] at hjc
      obtain ⟨j, hj⟩ : ∃ j : Int, j = xs.length - 1 - i := ⟨_, rfl⟩
      have HT2 := Aside0.mk (turned_step HT.out h0 hlt)
      rw [← hj] at hjc hjf HT2 ⊢
      have hj0 : 0 ≤ j := by omega
      have hj1 : j < xs.length := by omega
      have hi1 : i < xs.length := by omega
      have hlt2 : i < j := by omega
      have hij : i.toNat ≠ j.toNat := by omega
      have hji : j.toNat ≠ i.toNat := by omega
      have HJ := Aside0.mk hj
      have hr1 := Kd.R_putn (Kd.R_drew HR1.out) i (rd ys j)
      have hr2 := Kd.R_putn hr1 j (rd ys i)
      have HR2 := Aside0.mk hr2
      have HB2 := Aside0.mk (fun u v : Value => ((below_drew HB1.out).setCell (p := ⟨g, i.toNat, none⟩) hbg u).setCell (p := ⟨g, j.toNat, none⟩) hbg v)
      have HG2 : Aside0 (∀ u v : Value, w.grownBy ((wr.drew.setCell ⟨g, i.toNat, none⟩ u).setCell ⟨g, j.toNat, none⟩ v) (some g)) := ⟨fun u v => by
        have h := HG1.out
        refine ⟨h.os, h.tape, h.output, by simpa using h.size, fun k hk hne => ?_⟩
        have hkg : k ≠ g := fun e => hne (by rw [e])
        rw [Below.heap_setCell _ _ _ _ hkg, Below.heap_setCell _ _ _ _ hkg]
        exact h.block k hk hne⟩
      clear hr1 hr2 hj
      go_wp2_with fail
      have hi1' := eq_true hi1
      have hj1' := eq_true hj1
      have hi0' := eq_true h0
      have hj0' := eq_true hj0
      refine start_ (n := 16) (S := fun w' => w'.cell? ⟨g, j.toNat, none⟩ = some (.int .i64 (rd ys j)) ∧ w'.cell? ⟨g, i.toNat, none⟩ = some (.int .i64 (rd ys i))) (ds := [13, 15]) #[false, false, false, false, false, false, false, false, false, false, false, false, false, false, false, false] (by kernel_rfl) rfl rfl ⟨hjc, hic⟩ (fun hHeld => ?_)
      refine with_tabW tab_74_3 bits_74_3 (fun HT_ HW_ => ?_)
      refine pure_ (i := 0) (N := some 14) (v := ?_) (a' := ?_) #[true, false, false, false, false, false, false, false, false, false, false, false, false, false, false, false] rfl rfl (any_of HT_.out (by kernel_rfl)) (fun _ _ _ h => h) (Or.inl ⟨by rfl, ?_⟩) ?_ ?_
      rotate_left
      · intro w'
        go_simp
        with_reducible rfl
      rotate_left
      · simp only [Act.put, List.setIfInBounds_toArray, List.set_cons_zero, List.set_cons_succ, i64_w, i32_w]
        rfl
      refine pure_ (i := 1) (N := some 15) (v := ?_) (a' := ?_) #[true, true, false, false, false, false, false, false, false, false, false, false, false, false, false, false] rfl rfl (any_of HT_.out (by kernel_rfl)) (fun _ _ _ h => h) (Or.inl ⟨by rfl, ?_⟩) ?_ ?_
      rotate_left
      · intro w'
        go_simp
        with_reducible rfl
      rotate_left
      · simp only [Act.put, List.setIfInBounds_toArray, List.set_cons_zero, List.set_cons_succ, i64_w, i32_w]
        rfl
      refine pure_ (i := 2) (N := some 16) (v := ?_) (a' := ?_) #[true, true, true, false, false, false, false, false, false, false, false, false, false, false, false, false] rfl rfl (any_of HT_.out (by kernel_rfl)) (fun _ _ _ h => h) (Or.inl ⟨by rfl, ?_⟩) ?_ ?_
      rotate_left
      · intro w'
        go_simp
        with_reducible rfl
      rotate_left
      · simp only [Act.put, List.setIfInBounds_toArray, List.set_cons_zero, List.set_cons_succ, i64_w, i32_w]
        rfl
      refine pure_ (i := 3) (N := some 17) (v := ?_) (a' := ?_) #[true, true, true, true, false, false, false, false, false, false, false, false, false, false, false, false] rfl rfl (any_of HT_.out (by kernel_rfl)) (fun _ _ _ h => h) (Or.inl ⟨by rfl, ?_⟩) ?_ ?_
      rotate_left
      · intro w'
        go_simp
        with_reducible rfl
      rotate_left
      · simp only [Act.put, List.setIfInBounds_toArray, List.set_cons_zero, List.set_cons_succ, i64_w, i32_w]
        rfl
      refine pure_ (i := 4) (N := some 18) (v := ?_) (a' := ?_) #[true, true, true, true, true, false, false, false, false, false, false, false, false, false, false, false] rfl rfl (any_of HT_.out (by kernel_rfl)) (fun _ _ _ h => h) (Or.inl ⟨by rfl, ?_⟩) ?_ ?_
      rotate_left
      · intro w'
        go_simp
        with_reducible rfl
      rotate_left
      · simp only [Act.put, List.setIfInBounds_toArray, List.set_cons_zero, List.set_cons_succ, i64_w, i32_w]
        rfl
      refine pure_ (i := 5) (N := some 19) (v := ?_) (a' := ?_) #[true, true, true, true, true, true, false, false, false, false, false, false, false, false, false, false] rfl rfl (any_of HT_.out (by kernel_rfl)) (fun _ _ _ h => h) (Or.inl ⟨by rfl, ?_⟩) ?_ ?_
      rotate_left
      · intro w'
        go_simp
        with_reducible rfl
      rotate_left
      · simp only [Act.put, List.setIfInBounds_toArray, List.set_cons_zero, List.set_cons_succ, i64_w, i32_w]
        rfl
      refine pure_ (i := 6) (N := some 20) (v := ?_) (a' := ?_) #[true, true, true, true, true, true, true, false, false, false, false, false, false, false, false, false] rfl rfl (any_of HT_.out (by kernel_rfl)) (fun _ _ _ h => h) (Or.inl ⟨by rfl, ?_⟩) ?_ ?_
      rotate_left
      · intro w'
        go_simp
        with_reducible rfl
      rotate_left
      · simp only [Act.put, List.setIfInBounds_toArray, List.set_cons_zero, List.set_cons_succ, i64_w, i32_w]
        rfl
      refine pure_ (i := 8) (N := some 22) (v := ?_) (a' := ?_) #[true, true, true, true, true, true, true, false, true, false, false, false, false, false, false, false] rfl rfl (any_of HT_.out (by kernel_rfl)) (fun _ _ _ h => h) (Or.inl ⟨by rfl, ?_⟩) ?_ ?_
      rotate_left
      · intro w'
        go_simp
        with_reducible rfl
      rotate_left
      · simp only [Act.put, List.setIfInBounds_toArray, List.set_cons_zero, List.set_cons_succ, i64_w, i32_w]
        rfl
      refine pure_ (i := 9) (N := some 23) (v := ?_) (a' := ?_) #[true, true, true, true, true, true, true, false, true, true, false, false, false, false, false, false] rfl rfl (any_of HT_.out (by kernel_rfl)) (fun _ _ _ h => h) (Or.inl ⟨by rfl, ?_⟩) ?_ ?_
      rotate_left
      · intro w'
        go_simp
        with_reducible rfl
      rotate_left
      · simp only [Act.put, List.setIfInBounds_toArray, List.set_cons_zero, List.set_cons_succ, i64_w, i32_w]
        rfl
      refine pure_ (i := 10) (N := some 24) (v := ?_) (a' := ?_) #[true, true, true, true, true, true, true, false, true, true, true, false, false, false, false, false] rfl rfl (any_of HT_.out (by kernel_rfl)) (fun _ _ _ h => h) (Or.inl ⟨by rfl, ?_⟩) ?_ ?_
      rotate_left
      · intro w'
        go_simp
        with_reducible rfl
      rotate_left
      · simp only [Act.put, List.setIfInBounds_toArray, List.set_cons_zero, List.set_cons_succ, i64_w, i32_w]
        rfl
      refine take_ (i := 7) (N := some 21) (v := ?_) (a' := ?_) #[true, true, true, true, true, true, true, true, true, true, true, false, false, false, false, false] rfl rfl (take_ofW HT_.out HW_.out (by kernel_rfl)) (fun _ _ _ h => h) (Or.inl ⟨by rfl, ?_⟩) hHeld ?_ ?_
      rotate_left
      · rintro w' ⟨s0, s1⟩
        go_simp
        with_reducible rfl
      rotate_left
      · simp only [Act.put, List.setIfInBounds_toArray, List.set_cons_zero, List.set_cons_succ, i64_w, i32_w]
        rfl
      refine take_ (i := 11) (N := some 25) (v := ?_) (a' := ?_) #[true, true, true, true, true, true, true, true, true, true, true, true, false, false, false, false] rfl rfl (take_ofW HT_.out HW_.out (by kernel_rfl)) (fun _ _ _ h => h) (Or.inl ⟨by rfl, ?_⟩) hHeld ?_ ?_
      rotate_left
      · rintro w' ⟨s0, s1⟩
        go_simp
        with_reducible rfl
      rotate_left
      · simp only [Act.put, List.setIfInBounds_toArray, List.set_cons_zero, List.set_cons_succ, i64_w, i32_w]
        rfl
      refine pure_ (i := 12) (N := some 26) (v := ?_) (a' := ?_) #[true, true, true, true, true, true, true, true, true, true, true, true, true, false, false, false] rfl rfl (any_of HT_.out (by kernel_rfl)) (fun _ _ _ h => h) (Or.inl ⟨by rfl, ?_⟩) ?_ ?_
      rotate_left
      · intro w'
        go_simp
        with_reducible rfl
      rotate_left
      · simp only [Act.put, List.setIfInBounds_toArray, List.set_cons_zero, List.set_cons_succ, i64_w, i32_w]
        rfl
      refine last_ (i := 13) (N := none) #[true, true, true, true, true, true, true, true, true, true, true, true, true, true, false, false] rfl rfl (one_of HT_.out (by kernel_rfl)) (by decide) (fun K hK => ?_)
      refine skip_ (w1 := ?_) (by rfl) rfl ?_ ?_
      rotate_left
      · go_simp
        rfl
      refine hK.out _ _ ?_
      clear hK K
      refine pure_ (i := 14) (N := some 27) (v := ?_) (a' := ?_) #[true, true, true, true, true, true, true, true, true, true, true, true, true, true, true, false] rfl rfl (any_of HT_.out (by kernel_rfl)) (fun _ _ _ h => h) (Or.inl ⟨by rfl, ?_⟩) ?_ ?_
      rotate_left
      · intro w'
        go_simp
        with_reducible rfl
      rotate_left
      · simp only [Act.put, List.setIfInBounds_toArray, List.set_cons_zero, List.set_cons_succ, i64_w, i32_w]
        rfl
      refine last_ (i := 15) (N := none) #[true, true, true, true, true, true, true, true, true, true, true, true, true, true, true, true] rfl rfl (one_of HT_.out (by kernel_rfl)) (by decide) (fun K hK => ?_)
      refine skip_ (w1 := ?_) (by rfl) rfl ?_ ?_
      rotate_left
      · go_simp
        rfl
      refine hK.out _ _ ?_
      clear hK K
      refine done_ (done_of HT_.out (by kernel_rfl)) ?_
      go_wp2
      go_roundw
      case rel => exact ⟨i + 1, _, rfl, by rw [HJ.out]; congr 1; omega, by omega, by omega, HT2, HR2, ⟨HB2.out _ _⟩, ⟨HG2.out _ _⟩⟩
      case measure => simp [intOf]; omega
    · go_wp2_with fail
      go_end0
      refine ⟨rfl, ?_, HB1.out, HG1.out⟩
      rw [← turned_end HT.out (by omega)]; exact HR1.out

end Go.Proofs.Ytgbmebnfbhdpiaa
