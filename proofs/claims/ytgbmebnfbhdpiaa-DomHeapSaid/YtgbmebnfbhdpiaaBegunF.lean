/- The net with a diamond: its closest nodes, what each node holds; and the walk of the law's begun. -/
import Derived.Test.YtgbmebnfbhdpiaaLitF
set_option linter.unusedSimpArgs false
set_option linter.unusedVariables false
namespace Go.Proofs.Ytgbmebnfbhdpiaa
open Go.RowKit Go.Proofs.YtgbmebnfbhdpiaaW.PrintWords Go.Proofs.YtgbmebnfbhdpiaaW.PrintLast

/-- All that is reached lies in a set that nothing leads out of. -/
theorem reach_in {nx : List (List Int)} {st : List Int} {z : Int} (S : List Int) (h0 : ∀ x ∈ st, x ≠ z → x ∈ S) (h1 : ∀ x ∈ S, ∀ y ∈ succs nx x, y ≠ z → y ∈ S) {x : Int} (h : Reach nx st z x) : x ∈ S := by
  induction h with
  | start hx hz => exact h0 _ hx hz
  | step _ hy hz ih => exact h1 _ ih _ hy hz
theorem someOk : netOk someN [0] = true := by decide
theorem some0 {z : Int} (h : z ≠ 0) : Reach someN [0] z 0 := .start (by decide) fun e => h e.symm
theorem some1 {z : Int} (h : z ≠ 0) (h1 : z ≠ 1) : Reach someN [0] z 1 := .step (some0 h) (by decide) fun e => h1 e.symm
theorem some2 {z : Int} (h : z ≠ 0) (h1 : z ≠ 2) : Reach someN [0] z 2 := .step (some0 h) (by decide) fun e => h1 e.symm
theorem some3 {z : Int} (h : z ≠ 0) (h1 : z ≠ 3) : Reach someN [0] z 3 := by
  by_cases c : z = 1
  · exact .step (some2 h (by omega)) (by decide) fun e => h1 e.symm
  · exact .step (some1 h c) (by decide) fun e => h1 e.symm
theorem some4 {z : Int} (h : z ≠ 0) (h1 : z ≠ 3) (h2 : z ≠ 4) : Reach someN [0] z 4 := .step (some3 h h1) (by decide) fun e => h2 e.symm
theorem someR {x : Int} (h0 : 0 ≤ x) (h1 : x < 5) : Reach someN [0] (-1) x := by
  have : x = 0 ∨ x = 1 ∨ x = 2 ∨ x = 3 ∨ x = 4 := by omega
  rcases this with rfl | rfl | rfl | rfl | rfl
  · exact some0 (by decide)
  · exact some1 (by decide) (by decide)
  · exact some2 (by decide) (by decide)
  · exact some3 (by decide) (by decide)
  · exact some4 (by decide) (by decide) (by decide)
/-- What dominates what in it. -/
def someD (z x : Int) : Bool := x == z || z == 0 || (z == 3 && x == 4)
theorem some_dom {z x : Int} (h0 : 0 ≤ x) (h1 : x < 5) : Dom someN [0] z x ↔ (0 ≤ z ∧ z < 5 ∧ someD z x = true) := by
  have hx : x = 0 ∨ x = 1 ∨ x = 2 ∨ x = 3 ∨ x = 4 := by omega
  constructor
  · rintro ⟨_, hn⟩
    have hz0 : ∀ {y : Int}, z = y → 0 ≤ y → y < 5 → someD y x = true → (0 ≤ z ∧ z < 5 ∧ someD z x = true) := fun e a b c => by subst e; exact ⟨a, b, c⟩
    by_cases c0 : z = 0
    · subst c0; exact ⟨by decide, by decide, by simp [someD]⟩
    · rcases hx with rfl | rfl | rfl | rfl | rfl
      · exact absurd (some0 c0) hn
      · by_cases c : z = 1
        · exact hz0 c (by decide) (by decide) (by decide)
        · exact absurd (some1 c0 c) hn
      · by_cases c : z = 2
        · exact hz0 c (by decide) (by decide) (by decide)
        · exact absurd (some2 c0 c) hn
      · by_cases c : z = 3
        · exact hz0 c (by decide) (by decide) (by decide)
        · exact absurd (some3 c0 c) hn
      · by_cases c : z = 3
        · exact hz0 c (by decide) (by decide) (by decide)
        · by_cases c' : z = 4
          · exact hz0 c' (by decide) (by decide) (by decide)
          · exact absurd (some4 c0 c c') hn
  · rintro ⟨a, b, c⟩
    refine ⟨someR h0 h1, fun r => ?_⟩
    have hz : z = 0 ∨ z = 1 ∨ z = 2 ∨ z = 3 ∨ z = 4 := by omega
    rcases hz with rfl | rfl | rfl | rfl | rfl
    · have := reach_in [] (by decide) (by decide) r
      simp at this
    · have := reach_in [0, 2, 3, 4] (by decide) (by decide) r
      rcases hx with rfl | rfl | rfl | rfl | rfl <;> revert c this <;> decide
    · have := reach_in [0, 1, 3, 4] (by decide) (by decide) r
      rcases hx with rfl | rfl | rfl | rfl | rfl <;> revert c this <;> decide
    · have := reach_in [0, 1, 2] (by decide) (by decide) r
      rcases hx with rfl | rfl | rfl | rfl | rfl <;> revert c this <;> decide
    · have := reach_in [0, 1, 2, 3] (by decide) (by decide) r
      rcases hx with rfl | rfl | rfl | rfl | rfl <;> revert c this <;> decide
theorem anc_iff {id : List Int} {z x : Int} (h0 : 0 ≤ x) : Anc id z x ↔ z = x ∨ (0 ≤ rd id x ∧ Anc id z (rd id x)) :=
  ⟨Anc.or, fun h => by
    rcases h with rfl | ⟨h1, h2⟩
    · exact .self h0
    · exact .up h0 h1 h2⟩
theorem some_idomX : IdomX someN [0] [-1, 0, 0, 0, 3] := by
  refine ⟨rfl, fun x h0 h1 => ⟨fun e => ?_, fun hr => absurd (someR h0 h1) hr⟩, ⟨[0, 1, 2, 3, 4], rfl, rfl, fun x h0 h1 _ => ?_, fun x h0 h1 _ => ?_⟩, fun z x hx => ?_⟩
  · have h5 : x < 5 := h1
    have hx : x = 0 ∨ x = 1 ∨ x = 2 ∨ x = 3 ∨ x = 4 := by omega
    rcases hx with rfl | rfl | rfl | rfl | rfl <;> exact absurd e (by decide)
  · have h5 : x < 5 := h1
    have hx : x = 0 ∨ x = 1 ∨ x = 2 ∨ x = 3 ∨ x = 4 := by omega
    rcases hx with rfl | rfl | rfl | rfl | rfl <;> decide
  · have h5 : x < 5 := h1
    have hx : x = 0 ∨ x = 1 ∨ x = 2 ∨ x = 3 ∨ x = 4 := by omega
    unfold Okn
    rcases hx with rfl | rfl | rfl | rfl | rfl <;> decide
  · have hxr := Reach.lt (good_of_ok someOk) hx
    have h5 : x < 5 := hxr.2
    rw [some_dom hxr.1 h5]
    have a0 : ∀ {z : Int}, Anc [-1, 0, 0, 0, 3] z 0 ↔ z = 0 := fun {z} => by
      rw [anc_iff (by decide)]
      exact ⟨fun h => h.elim id fun h => absurd h.1 (by decide), .inl⟩
    have hx : x = 0 ∨ x = 1 ∨ x = 2 ∨ x = 3 ∨ x = 4 := by omega
    have e1 : rd [-1, 0, 0, 0, 3] 1 = 0 := by decide
    have e2 : rd [-1, 0, 0, 0, 3] 2 = 0 := by decide
    have e3 : rd [-1, 0, 0, 0, 3] 3 = 0 := by decide
    have e4 : rd [-1, 0, 0, 0, 3] 4 = 3 := by decide
    have dd : ∀ y : Int, someD z y = true ↔ (y = z ∨ z = 0) ∨ (z = 3 ∧ y = 4) := fun y => by simp [someD]
    rw [dd]
    rcases hx with rfl | rfl | rfl | rfl | rfl
    · rw [a0]; omega
    · rw [anc_iff (by decide), e1, a0]; omega
    · rw [anc_iff (by decide), e2, a0]; omega
    · rw [anc_iff (by decide), e3, a0]; omega
    · rw [anc_iff (by decide), e4, anc_iff (by decide), e3, a0]; omega
theorem some_idom : idomA someN [0] = [-1, 0, 0, 0, 3] := (idomA_eq (good_of_ok someOk) some_idomX).symm
theorem some_domC (a x : Int) (ha0 : 0 ≤ a) (ha1 : a < 5) (h0 : 0 ≤ x) (h1 : x < 5) : domC someN [0] a x = someD a x := by
  rw [Bool.eq_iff_iff, domC_iff, some_dom h0 h1]
  exact ⟨fun h => h.2.2, fun h => ⟨ha0, ha1, h⟩⟩
theorem some_ret : retL someN [0] [1, 2, 4, 8, 16] = [31, 2, 4, 24, 16] := by
  have : ∀ a : Int, 0 ≤ a → a < 5 → retW someN [0] [1, 2, 4, 8, 16] a = sumIf (someD a) [1, 2, 4, 8, 16] 5 := fun a h0 h1 =>
    sumIf_congr 5 fun x hx0 hx1 => some_domC a x h0 h1 hx0 hx1
  show [retW someN [0] [1, 2, 4, 8, 16] 0, retW someN [0] [1, 2, 4, 8, 16] 1, retW someN [0] [1, 2, 4, 8, 16] 2, retW someN [0] [1, 2, 4, 8, 16] 3, retW someN [0] [1, 2, 4, 8, 16] 4] = _
  rw [this 0 (by decide) (by decide), this 1 (by decide) (by decide), this 2 (by decide) (by decide), this 3 (by decide) (by decide), this 4 (by decide) (by decide)]
  decide

set_option maxRecDepth 100000 in
set_option maxHeartbeats 4000000 in
theorem f11_any (w : World) : Calls Try.prog 11 #[] w fun e w' => e = .returned (.bool true) ∧ Below w.heap.size w w' := by
  go_enter Try.func11, Try.ntmps11
  go_wp2_with fail
  refine (f44_any w).mono ?_
  rintro e w1 ⟨A0, A1, rfl, hn, hb⟩
  have HN := Aside0.mk hn
  have HB1 := Aside0.mk hb
  clear hn hb
  go_wp2_with fail
  refine (f13_any A0 5 A1 1 someN [0] w1 HN.out).mono ?_
  rintro e w2 ⟨v, rfl, hr, hb, _⟩
  rw [idomL_ok someOk, some_idom] at hr
  rw [checkE_ok someOk]
  have HR := Aside0.mk hr
  have HB2 := Aside0.mk (below_trans HB1.out hb)
  clear hr hb HN
  go_wp2_with fail
  refine (f44_any w2).mono ?_
  rintro e w3 ⟨A0', A1', rfl, hn, hb⟩
  have HN := Aside0.mk hn
  have HR3 := Aside0.mk (Kd.R_below HR.out hb)
  have HB3 := Aside0.mk (below_trans HB2.out hb)
  clear hn hb HR
  go_wp2_with fail
  have hbk := blk_new w3 (.cells #[.int .i64 1, .int .i64 2, .int .i64 4, .int .i64 8, .int .i64 16] 3)
  have hbb : Below w3.heap.size w3 (w3.alloc (.cells #[.int .i64 1, .int .i64 2, .int .i64 4, .int .i64 8, .int .i64 16] 3)) := (Below.refl _ _).alloc (Nat.le_refl _) _
  refine (f19_any A0' 5 A1' 1 _ 5 someN [0] [1, 2, 4, 8, 16] _ (HN.out.below hbb) (intsC (c := 5) [1, 2, 4, 8, 16] (by decide) (by decide) hbk rfl)).mono ?_
  rintro e w4 ⟨v4, rfl, hr4, hb4⟩
  have hwk : wOk someN [1, 2, 4, 8, 16] = true := by decide
  rw [(ret_ok someOk hwk).2, some_ret] at hr4
  rw [(ret_ok someOk hwk).1]
  have HR4 := Aside0.mk hr4
  have HRV := Aside0.mk (Kd.R_below (Kd.R_below HR3.out hbb) hb4)
  have HB4 := Aside0.mk (below_trans (below_trans HB3.out hbb) hb4)
  clear hr4 hb4 hbk hbb HN HR3
  obtain ⟨AV, kV, eV⟩ := Kd.R_slice HRV.out
  obtain ⟨A4, k4, e4⟩ := Kd.R_slice HR4.out
  subst eV e4
  go_wp2_with fail
  have hbk := blk_new w4 (.cells #[.int .i64 (-1), .int .i64 0, .int .i64 0, .int .i64 0, .int .i64 3] 3)
  have hbb : Below w4.heap.size w4 (w4.alloc (.cells #[.int .i64 (-1), .int .i64 0, .int .i64 0, .int .i64 0, .int .i64 3] 3)) := (Below.refl _ _).alloc (Nat.le_refl _) _
  refine (f16_any AV kV _ 5 [-1, 0, 0, 0, 3] [-1, 0, 0, 0, 3] _ (Kd.C_below (Kd.R_reads' HRV.out).2.2 hbb) (intsC (c := 5) [-1, 0, 0, 0, 3] (by decide) (by decide) hbk rfl)).mono ?_
  rintro e w5 ⟨rfl, hb5⟩
  have hd : decide (([-1, 0, 0, 0, 3] : List Int) = [-1, 0, 0, 0, 3]) = true := by decide
  rw [hd]
  have HR5 := Aside0.mk (Kd.R_below (Kd.R_below HR4.out hbb) hb5)
  have HB5 := Aside0.mk (below_trans (below_trans HB4.out hbb) hb5)
  clear hb5 hbk hbb HR4 HRV hd
  go_wp2_with fail
  have hbk := blk_new w5 (.cells #[.int .i64 31, .int .i64 2, .int .i64 4, .int .i64 24, .int .i64 16] 2)
  have hbb : Below w5.heap.size w5 (w5.alloc (.cells #[.int .i64 31, .int .i64 2, .int .i64 4, .int .i64 24, .int .i64 16] 2)) := (Below.refl _ _).alloc (Nat.le_refl _) _
  refine (f21_any A4 k4 _ 5 [31, 2, 4, 24, 16] [31, 2, 4, 24, 16] _ (Kd.C_below (Kd.R_reads' HR5.out).2.2 hbb) (intsC (c := 5) [31, 2, 4, 24, 16] (by decide) (by decide) hbk rfl)).mono ?_
  rintro e w6 ⟨rfl, hb6⟩
  have hd : decide (([31, 2, 4, 24, 16] : List Int) = [31, 2, 4, 24, 16]) = true := by decide
  rw [hd]
  have HB6 := Aside0.mk (below_trans (below_trans HB5.out hbb) hb6)
  clear hb6 hbk hbb HR5 hd
  go_wp2_with fail
  go_ret
  exact ⟨rfl, HB6.out⟩
end Go.Proofs.Ytgbmebnfbhdpiaa
