/- The walks of slices.Equal, over numbers and over bools. -/
import Derived.Test.YtgbmebnfbhdpiaaOrderedF
set_option linter.unusedSimpArgs false
set_option linter.unusedVariables false
namespace Go.Proofs.Ytgbmebnfbhdpiaa
open Go.RowKit Go.Proofs.YtgbmebnfbhdpiaaW.PrintWords Go.Proofs.YtgbmebnfbhdpiaaW.PrintLast

set_option maxRecDepth 100000 in
set_option maxHeartbeats 2000000 in
theorem f16_any (A : Option Addr) (ca : Nat) (B : Option Addr) (cb : Nat) (xs ys : List Int) (w : World) (hx : Kd.C (Kd.int .i64) w A xs.length xs) (hy : Kd.C (Kd.int .i64) w B ys.length ys) :
    Calls Try.prog 16 #[.slice A xs.length ca, .slice B ys.length cb] w fun e w' => e = .returned (.bool (decide (xs = ys))) ∧ Below w.heap.size w w' := by
  have HX := Aside0.mk hx
  have HY := Aside0.mk hy
  have hl0 : xs.length ≤ 9223372036854775807 := hx.2.1
  have hl1 : ys.length ≤ 9223372036854775807 := hy.2.1
  clear hx hy
  go_enter Try.func16, Try.ntmps16
  by_cases hl : (xs.length : Int) = ys.length
  case neg =>
    have hlb : ((xs.length : Int) != ys.length) = true := by simpa using hl
    go_wp2_with fail
    go_ret
    exact ⟨ret_bool (by rw [eq_comm, decide_eq_false_iff_not]; intro e; rw [e] at hl; exact hl rfl), Below.refl _ _⟩
  have hlb : ((xs.length : Int) != ys.length) = false := by simpa using hl
  go_wp2_with fail
  obtain ⟨wo, rfl⟩ : ∃ wo : World, wo = w := ⟨_, rfl⟩
  go_loopw [13] (fun v13 wr => ∃ i : Int, v13 = .int .i64 i ∧ 0 ≤ i ∧ i ≤ xs.length ∧ Aside0 (xs.take i.toNat = ys.take i.toNat) ∧ Aside0 (Below wo.heap.size wo wr)) (fun v _ => xs.length - (intOf v).toNat)
  case atStart => exact ⟨0, rfl, by omega, by omega, ⟨rfl⟩, ⟨Below.refl _ _⟩⟩
  case round =>
    obtain ⟨i, rfl, h0, h1, HE, HB⟩ := hrel
    by_cases hil : i < xs.length
    · obtain ⟨ad, e, hc⟩ := Kd.at_int (Kd.C_below HX.out HB.out) i h0 hil
      cases e
      obtain ⟨ad2, e, hc2⟩ := Kd.at_int (Kd.C_below HY.out HB.out) i h0 (by omega)
      cases e
      obtain ⟨x, hx⟩ : ∃ x, x = rd xs i := ⟨_, rfl⟩
      obtain ⟨y, hy⟩ : ∃ y, y = rd ys i := ⟨_, rfl⟩
      rw [← hx] at hc
      rw [← hy] at hc2
      have ex : xs[i.toNat]? = some x := by
        rw [hx, rd, List.getD_eq_getElem?_getD, List.getElem?_eq_getElem (by omega : i.toNat < xs.length)]; rfl
      have ey : ys[i.toNat]? = some y := by
        rw [hy, rd, List.getD_eq_getElem?_getD, List.getElem?_eq_getElem (by omega : i.toNat < ys.length)]; rfl
      have HEX := Aside0.mk (And.intro ex ey)
      clear hx hy ex ey
      by_cases hxy : x = y
      · have hb : (x != y) = false := by simp [hxy]
        have HXY := Aside0.mk hxy
        clear hxy
        go_wp2_with fail
        go_quiet (fail)
        go_wp2_with fail
        go_roundw
        case rel =>
          refine ⟨i + 1, rfl, by omega, by omega, ⟨?_⟩, ⟨pw_below_drewN HB.out nq⟩⟩
          rw [show (i + 1).toNat = i.toNat + 1 from by omega, List.take_add_one, List.take_add_one, HE.out, HEX.out.1, HEX.out.2, HXY.out]
        case measure => simp [intOf]; omega
      · have hb : (x != y) = true := by simp [hxy]
        have HXY := Aside0.mk hxy
        clear hxy
        go_wp2_with fail
        go_quiet (fail)
        go_wp2_with fail
        go_ret
        refine ⟨ret_bool ?_, pw_below_drewN HB.out nq⟩
        rw [eq_comm, decide_eq_false_iff_not]
        intro e
        have h1 := HEX.out.1
        rw [e, HEX.out.2] at h1
        exact HXY.out (Option.some.inj h1).symm
    · go_wp2_with fail
      go_ret
      refine ⟨ret_bool ?_, HB.out⟩
      rw [eq_comm, decide_eq_true_iff]
      have h := HE.out
      rw [show i.toNat = xs.length from by omega, List.take_length, List.take_of_length_le (by omega)] at h
      exact h

set_option maxRecDepth 100000 in
set_option maxHeartbeats 2000000 in
theorem f21_any (A : Option Addr) (ca : Nat) (B : Option Addr) (cb : Nat) (xs ys : List Int) (w : World) (hx : Kd.C (Kd.int .i64) w A xs.length xs) (hy : Kd.C (Kd.int .i64) w B ys.length ys) :
    Calls Try.prog 21 #[.slice A xs.length ca, .slice B ys.length cb] w fun e w' => e = .returned (.bool (decide (xs = ys))) ∧ Below w.heap.size w w' := by
  have HX := Aside0.mk hx
  have HY := Aside0.mk hy
  have hl0 : xs.length ≤ 9223372036854775807 := hx.2.1
  have hl1 : ys.length ≤ 9223372036854775807 := hy.2.1
  clear hx hy
  go_enter Try.func21, Try.ntmps21
  by_cases hl : (xs.length : Int) = ys.length
  case neg =>
    have hlb : ((xs.length : Int) != ys.length) = true := by simpa using hl
    go_wp2_with fail
    go_ret
    exact ⟨ret_bool (by rw [eq_comm, decide_eq_false_iff_not]; intro e; rw [e] at hl; exact hl rfl), Below.refl _ _⟩
  have hlb : ((xs.length : Int) != ys.length) = false := by simpa using hl
  go_wp2_with fail
  obtain ⟨wo, rfl⟩ : ∃ wo : World, wo = w := ⟨_, rfl⟩
  go_loopw [13] (fun v13 wr => ∃ i : Int, v13 = .int .i64 i ∧ 0 ≤ i ∧ i ≤ xs.length ∧ Aside0 (xs.take i.toNat = ys.take i.toNat) ∧ Aside0 (Below wo.heap.size wo wr)) (fun v _ => xs.length - (intOf v).toNat)
  case atStart => exact ⟨0, rfl, by omega, by omega, ⟨rfl⟩, ⟨Below.refl _ _⟩⟩
  case round =>
    obtain ⟨i, rfl, h0, h1, HE, HB⟩ := hrel
    by_cases hil : i < xs.length
    · obtain ⟨ad, e, hc⟩ := Kd.at_int (Kd.C_below HX.out HB.out) i h0 hil
      cases e
      obtain ⟨ad2, e, hc2⟩ := Kd.at_int (Kd.C_below HY.out HB.out) i h0 (by omega)
      cases e
      obtain ⟨x, hx⟩ : ∃ x, x = rd xs i := ⟨_, rfl⟩
      obtain ⟨y, hy⟩ : ∃ y, y = rd ys i := ⟨_, rfl⟩
      rw [← hx] at hc
      rw [← hy] at hc2
      have ex : xs[i.toNat]? = some x := by
        rw [hx, rd, List.getD_eq_getElem?_getD, List.getElem?_eq_getElem (by omega : i.toNat < xs.length)]; rfl
      have ey : ys[i.toNat]? = some y := by
        rw [hy, rd, List.getD_eq_getElem?_getD, List.getElem?_eq_getElem (by omega : i.toNat < ys.length)]; rfl
      have HEX := Aside0.mk (And.intro ex ey)
      clear hx hy ex ey
      by_cases hxy : x = y
      · have hb : (x != y) = false := by simp [hxy]
        have HXY := Aside0.mk hxy
        clear hxy
        go_wp2_with fail
        go_quiet (fail)
        go_wp2_with fail
        go_roundw
        case rel =>
          refine ⟨i + 1, rfl, by omega, by omega, ⟨?_⟩, ⟨pw_below_drewN HB.out nq⟩⟩
          rw [show (i + 1).toNat = i.toNat + 1 from by omega, List.take_add_one, List.take_add_one, HE.out, HEX.out.1, HEX.out.2, HXY.out]
        case measure => simp [intOf]; omega
      · have hb : (x != y) = true := by simp [hxy]
        have HXY := Aside0.mk hxy
        clear hxy
        go_wp2_with fail
        go_quiet (fail)
        go_wp2_with fail
        go_ret
        refine ⟨ret_bool ?_, pw_below_drewN HB.out nq⟩
        rw [eq_comm, decide_eq_false_iff_not]
        intro e
        have h1 := HEX.out.1
        rw [e, HEX.out.2] at h1
        exact HXY.out (Option.some.inj h1).symm
    · go_wp2_with fail
      go_ret
      refine ⟨ret_bool ?_, HB.out⟩
      rw [eq_comm, decide_eq_true_iff]
      have h := HE.out
      rw [show i.toNat = xs.length from by omega, List.take_length, List.take_of_length_le (by omega)] at h
      exact h
end Go.Proofs.Ytgbmebnfbhdpiaa
