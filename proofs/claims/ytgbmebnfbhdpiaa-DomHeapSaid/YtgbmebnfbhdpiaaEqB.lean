/- The walks of slices.Equal over bools, and of the document's comparison of two nets. -/
import Derived.Test.YtgbmebnfbhdpiaaRefA
import Derived.Test.YtgbmebnfbhdpiaaNet
set_option linter.unusedSimpArgs false
set_option linter.unusedVariables false
namespace Go.Proofs.Ytgbmebnfbhdpiaa
open Go.RowKit Go.Proofs.YtgbmebnfbhdpiaaW.PrintWords Go.Proofs.YtgbmebnfbhdpiaaW.PrintLast

set_option maxRecDepth 100000 in
set_option maxHeartbeats 2000000 in
theorem f30_any (A : Option Addr) (ca : Nat) (B : Option Addr) (cb : Nat) (xs ys : List Bool) (w : World) (hx : Kd.C (Kd.bool) w A xs.length xs) (hy : Kd.C (Kd.bool) w B ys.length ys) :
    Calls Try.prog 30 #[.slice A xs.length ca, .slice B ys.length cb] w fun e w' => e = .returned (.bool (decide (xs = ys))) ∧ Below w.heap.size w w' := by
  have HX := Aside0.mk hx
  have HY := Aside0.mk hy
  have hl0 : xs.length ≤ 9223372036854775807 := hx.2.1
  have hl1 : ys.length ≤ 9223372036854775807 := hy.2.1
  clear hx hy
  go_enter Try.func30, Try.ntmps30
  by_cases hl : (xs.length : Int) = ys.length
  case neg =>
    have hlb : ((xs.length : Int) != ys.length) = true := by simpa using hl
    go_wp2_with fail
    go_ret
    exact ⟨ret_bool (by rw [eq_comm, decide_eq_false_iff_not]; intro e; rw [e] at hl; exact hl rfl), Below.refl _ _⟩
  have hlb : ((xs.length : Int) != ys.length) = false := by simpa using hl
  go_wp2_with fail
  obtain ⟨wo, rfl⟩ : ∃ wo : World, wo = w := ⟨_, rfl⟩
  go_loopw [13] (fun v13 wr => ∃ i : Int, v13 = .int .i64 i ∧ 0 ≤ i ∧ i ≤ xs.length ∧ Aside0 (xs.take i.toNat = ys.take i.toNat) ∧ Aside0 (Below wo.heap.size wo wr)) (fun v _ => xs.length - (intOf v).toNat)
  case atStart => exact ⟨0, rfl, by omega, by omega, ⟨rfl⟩, ⟨Below.refl _ _⟩⟩
  case round =>
    obtain ⟨i, rfl, h0, h1, HE, HB⟩ := hrel
    by_cases hil : i < xs.length
    · obtain ⟨ad, e, hc⟩ := Kd.at_bool (Kd.C_below HX.out HB.out) i h0 hil
      cases e
      obtain ⟨ad2, e, hc2⟩ := Kd.at_bool (Kd.C_below HY.out HB.out) i h0 (by omega)
      cases e
      obtain ⟨x, hx⟩ : ∃ x, x = rdOf false xs i := ⟨_, rfl⟩
      obtain ⟨y, hy⟩ : ∃ y, y = rdOf false ys i := ⟨_, rfl⟩
      rw [← hx] at hc
      rw [← hy] at hc2
      have ex : xs[i.toNat]? = some x := by
        rw [hx, rdOf, List.getD_eq_getElem?_getD, List.getElem?_eq_getElem (by omega : i.toNat < xs.length)]; rfl
      have ey : ys[i.toNat]? = some y := by
        rw [hy, rdOf, List.getD_eq_getElem?_getD, List.getElem?_eq_getElem (by omega : i.toNat < ys.length)]; rfl
      have HEX := Aside0.mk (And.intro ex ey)
      clear hx hy ex ey
      cases x <;> cases y
      case false.true | true.false =>
        go_wp2_with fail
        go_quiet (fail)
        go_wp2_with fail
        go_ret
        refine ⟨ret_bool ?_, pw_below_drewN HB.out nq⟩
        rw [eq_comm, decide_eq_false_iff_not]
        intro e
        have h1 := HEX.out.1
        rw [e, HEX.out.2] at h1
        simp at h1
      all_goals
        go_wp2_with fail
        go_quiet (fail)
        go_wp2_with fail
        go_roundw
        case rel =>
          refine ⟨i + 1, rfl, by omega, by omega, ⟨?_⟩, ⟨pw_below_drewN HB.out nq⟩⟩
          rw [show (i + 1).toNat = i.toNat + 1 from by omega, List.take_add_one, List.take_add_one, HE.out, HEX.out.1, HEX.out.2]
        case measure => simp [intOf]; omega
    · go_wp2_with fail
      go_ret
      refine ⟨ret_bool ?_, HB.out⟩
      rw [eq_comm, decide_eq_true_iff]
      have h := HE.out
      rw [show i.toNat = xs.length from by omega, List.take_length, List.take_of_length_le (by omega)] at h
      exact h

set_option maxRecDepth 100000 in
set_option maxHeartbeats 2000000 in
theorem f56_any (A : Option Addr) (ca : Nat) (B : Option Addr) (cb : Nat) (xs ys : List Int) (w : World) (hx : Kd.C (Kd.int .i64) w A xs.length xs) (hy : Kd.C (Kd.int .i64) w B ys.length ys) :
    Calls Try.prog 56 #[.slice A xs.length ca, .slice B ys.length cb] w fun e w' => e = .returned (.bool (decide (xs = ys))) ∧ ∃ m, w' = w.drewN m := by
  have HX := Aside0.mk hx
  have HY := Aside0.mk hy
  have hl0 : xs.length ≤ 9223372036854775807 := hx.2.1
  have hl1 : ys.length ≤ 9223372036854775807 := hy.2.1
  clear hx hy
  go_enter Try.func56, Try.ntmps56
  by_cases hl : (xs.length : Int) = ys.length
  case neg =>
    have hlb : ((xs.length : Int) != ys.length) = true := by simpa using hl
    go_wp2_with fail
    go_ret
    exact ⟨ret_bool (by rw [eq_comm, decide_eq_false_iff_not]; intro e; rw [e] at hl; exact hl rfl), ⟨0, rfl⟩⟩
  have hlb : ((xs.length : Int) != ys.length) = false := by simpa using hl
  go_wp2_with fail
  obtain ⟨wo, rfl⟩ : ∃ wo : World, wo = w := ⟨_, rfl⟩
  go_loopw [5] (fun v5 wr => ∃ i : Int, v5 = .int .i64 i ∧ 0 ≤ i ∧ i ≤ xs.length ∧ Aside0 (xs.take i.toNat = ys.take i.toNat) ∧ ∃ m, wr = wo.drewN m) (fun v _ => xs.length - (intOf v).toNat)
  case atStart => exact ⟨0, rfl, by omega, by omega, ⟨rfl⟩, ⟨0, rfl⟩⟩
  case round =>
    obtain ⟨i, rfl, h0, h1, HE, m, hwm⟩ := hrel
    have HB : Aside0 (Below wo.heap.size wo wr) := ⟨by rw [hwm]; exact pw_below_drewN (Below.refl wo.heap.size wo) m⟩
    have HWM := Aside0.mk hwm
    clear hwm
    by_cases hil : i < xs.length
    · obtain ⟨ad, e, hc⟩ := Kd.at_int (Kd.C_below HX.out HB.out) i h0 hil
      cases e
      obtain ⟨ad2, e, hc2⟩ := Kd.at_int (Kd.C_below HY.out HB.out) i h0 (by omega)
      cases e
      obtain ⟨x, hx⟩ : ∃ x, x = rd xs i := ⟨_, rfl⟩
      obtain ⟨y, hy⟩ : ∃ y, y = rd ys i := ⟨_, rfl⟩
      rw [← hx] at hc
      rw [← hy] at hc2
      have ex : xs[i.toNat]? = some x := by
        rw [hx, rd, List.getD_eq_getElem?_getD, List.getElem?_eq_getElem (by omega : i.toNat < xs.length)]; rfl
      have ey : ys[i.toNat]? = some y := by
        rw [hy, rd, List.getD_eq_getElem?_getD, List.getElem?_eq_getElem (by omega : i.toNat < ys.length)]; rfl
      have HEX := Aside0.mk (And.intro ex ey)
      clear hx hy ex ey
      by_cases hxy : x = y
      · have hb : (x != y) = false := by simp [hxy]
        have HXY := Aside0.mk hxy
        clear hxy
        go_wp2_with fail
        go_quiet (fail)
        go_wp2_with fail
        go_roundw
        case rel =>
          refine ⟨i + 1, rfl, by omega, by omega, ⟨?_⟩, m + nq, by rw [HWM.out, World.drewN_drewN]⟩
          rw [show (i + 1).toNat = i.toNat + 1 from by omega, List.take_add_one, List.take_add_one, HE.out, HEX.out.1, HEX.out.2, HXY.out]
        case measure => simp [intOf]; omega
      · have hb : (x != y) = true := by simp [hxy]
        have HXY := Aside0.mk hxy
        clear hxy
        go_wp2_with fail
        go_quiet (fail)
        go_wp2_with fail
        go_ret
        refine ⟨ret_bool ?_, m + nq, by rw [HWM.out, World.drewN_drewN]⟩
        rw [eq_comm, decide_eq_false_iff_not]
        intro e
        have h1 := HEX.out.1
        rw [e, HEX.out.2] at h1
        exact HXY.out (Option.some.inj h1).symm
    · go_wp2_with fail
      go_ret
      refine ⟨ret_bool ?_, m, HWM.out⟩
      rw [eq_comm, decide_eq_true_iff]
      have h := HE.out
      rw [show i.toNat = xs.length from by omega, List.take_length, List.take_of_length_le (by omega)] at h
      exact h


/-- Are two nets the same? -/
def sameNet (nx : List (List Int)) (st : List Int) (ny : List (List Int)) (su : List Int) : Bool := decide (nx = ny ∧ st = su)
theorem sameNet_eq {nx : List (List Int)} {st : List Int} {ny : List (List Int)} {su : List Int} (h : nx = ny ∧ st = su) : sameNet nx st ny su = true := decide_eq_true h
theorem sameNet_ne {nx : List (List Int)} {st : List Int} {ny : List (List Int)} {su : List Int} (h : ¬ (nx = ny ∧ st = su)) : sameNet nx st ny su = false := decide_eq_false h
set_option maxRecDepth 100000 in
set_option maxHeartbeats 4000000 in
theorem f32_any (A0 : Option Addr) (c0 : Nat) (A1 : Option Addr) (c1 : Nat) (A2 : Option Addr) (c2 : Nat) (A3 : Option Addr) (c3 : Nat) (nx : List (List Int)) (st : List Int) (ny : List (List Int)) (su : List Int) (w : World) (hn : NetC w A0 c0 A1 c1 nx st) (hm : NetC w A2 c2 A3 c3 ny su) :
    Calls Try.prog 32 #[.agg #[.slice A0 nx.length c0, .slice A1 st.length c1], .agg #[.slice A2 ny.length c2, .slice A3 su.length c3]] w fun e w' => e = .returned (.bool (sameNet nx st ny su)) ∧ Below w.heap.size w w' := by
  have HN := Aside0.mk hn
  have HM := Aside0.mk hm
  have hL0 : nx.length ≤ 9223372036854775807 := hn.next.2.1
  have hL1 : ny.length ≤ 9223372036854775807 := hm.next.2.1
  clear hn hm
  go_enter Try.func32, Try.ntmps32
  have HB : Aside0 (Below w.heap.size w ((w.alloc (.cells #[.slice A0 nx.length c0, .slice A1 st.length c1] 25)).alloc (.cells #[.slice A2 ny.length c2, .slice A3 su.length c3] 25))) := ⟨((Below.refl _ _).alloc (Nat.le_refl _) _).alloc (by simp) _⟩
  have HK0 : Aside0 (((w.alloc (.cells #[.slice A0 nx.length c0, .slice A1 st.length c1] 25)).alloc (.cells #[.slice A2 ny.length c2, .slice A3 su.length c3] 25)).heap[w.heap.size]? = some (.cells #[.slice A0 nx.length c0, .slice A1 st.length c1] 25 (0, 0))) := ⟨blk_alloc (blk_new _ _) _⟩
  have HK1 : Aside0 (((w.alloc (.cells #[.slice A0 nx.length c0, .slice A1 st.length c1] 25)).alloc (.cells #[.slice A2 ny.length c2, .slice A3 su.length c3] 25)).heap[w.heap.size + 1]? = some (.cells #[.slice A2 ny.length c2, .slice A3 su.length c3] 25 (0, 0))) := ⟨by
    have := blk_new (w.alloc (.cells #[.slice A0 nx.length c0, .slice A1 st.length c1] 25)) (.cells #[.slice A2 ny.length c2, .slice A3 su.length c3] 25)
    simpa using this⟩
  go_wp2_with fail
  generalize ((w.alloc (.cells #[.slice A0 nx.length c0, .slice A1 st.length c1] 25)).alloc (.cells #[.slice A2 ny.length c2, .slice A3 su.length c3] 25)) = wo at HB HK0 HK1 ⊢
  refine (f56_any A1 c1 A3 c3 st su _ (Kd.C_below HN.out.start HB.out) (Kd.C_below HM.out.start HB.out)).mono ?_
  rintro e w1 ⟨rfl, m, rfl⟩
  have HB1 := Aside0.mk (pw_below_drewN HB.out m)
  have HBO := Aside0.mk (pw_below_drewN (Below.refl wo.heap.size wo) m)
  by_cases hs : st = su
  case neg =>
    have hsb : decide (st = su) = false := decide_eq_false hs
    rw [hsb]
    have HS := Aside0.mk hs
    clear hs hsb
    obtain ⟨hn0, hn1⟩ := box2 (blk_below HK0.out HBO.out)
    obtain ⟨hm0, hm1⟩ := box2 (blk_below HK1.out HBO.out)
    go_wp2_with fail
    go_ret
    exact ⟨ret_bool (sameNet_ne (fun h => HS.out h.2)).symm, HB1.out⟩
  have hsb : decide (st = su) = true := decide_eq_true hs
  rw [hsb]
  have HS := Aside0.mk hs
  clear hs hsb
  have HK2 := Aside0.mk (blk_below HK0.out HBO.out)
  have HK3 := Aside0.mk (blk_below HK1.out HBO.out)
  clear HB HK0 HK1 HBO
  generalize wo.drewN m = wp at HB1 HK2 HK3 ⊢
  by_cases hl : (nx.length : Int) = ny.length
  case neg =>
    have hlb : ((nx.length : Int) != ny.length) = true := by simpa using hl
    obtain ⟨hn0, hn1⟩ := box2 HK2.out
    obtain ⟨hm0, hm1⟩ := box2 HK3.out
    go_wp2_with fail
    go_ret
    exact ⟨ret_bool (sameNet_ne (fun h => hl (by rw [h.1]))).symm, HB1.out⟩
  have hlb : ((nx.length : Int) != ny.length) = false := by simpa using hl
  have HLE : Aside0 (nx.length = ny.length) := ⟨by omega⟩
  obtain ⟨hn0, hn1⟩ := box2 HK2.out
  obtain ⟨hm0, hm1⟩ := box2 HK3.out
  go_wp2_with fail
  clear hn0 hn1 hm0 hm1 hlb hl
  go_loopw [5] (fun v5 wr => ∃ i : Int, v5 = .int .i64 i ∧ 0 ≤ i ∧ i ≤ nx.length ∧ Aside0 (∀ j, j < i.toNat → nx.getD j [] = ny.getD j []) ∧ ∃ m, wr = wp.drewN m) (fun v _ => nx.length - (intOf v).toNat)
  case atStart => exact ⟨0, rfl, by omega, by omega, ⟨fun j hj => absurd hj (by simp)⟩, 0, rfl⟩
  case round =>
    obtain ⟨i, rfl, h0, h1, HE, m2, hwm⟩ := hrel
    have HBO : Aside0 (Below wp.heap.size wp wr) := ⟨by rw [hwm]; exact pw_below_drewN (Below.refl wp.heap.size wp) m2⟩
    have HWM := Aside0.mk hwm
    clear hwm
    have HB2 := Aside0.mk (below_trans HB1.out HBO.out)
    obtain ⟨hn0, hn1⟩ := box2 (blk_below HK2.out HBO.out)
    obtain ⟨hm0, hm1⟩ := box2 (blk_below HK3.out HBO.out)
    by_cases hil : i < nx.length
    case neg =>
      go_wp2_with fail
      go_ret
      refine ⟨ret_bool (sameNet_eq ⟨?_, HS.out⟩).symm, HB2.out⟩
      apply List.ext_getElem?
      intro j
      rcases Nat.lt_or_ge j nx.length with hj | hj
      · have := HE.out j (by omega)
        have := HLE.out
        rw [List.getD_eq_getElem?_getD, List.getD_eq_getElem?_getD, List.getElem?_eq_getElem hj, List.getElem?_eq_getElem (by omega)] at *
        simp_all
      · have := HLE.out
        rw [List.getElem?_eq_none hj, List.getElem?_eq_none (by omega)]
    have hil2 : i < ny.length := by have := HLE.out; omega
    obtain ⟨ad, B, c, l, e, HLX, hc, hcap, hr⟩ := at_slice_n HN.out.next i h0 hil
    cases e
    obtain ⟨ad2, B2, c2', l2, e, HLY, hc2, hcap2, hr2⟩ := at_slice_n HM.out.next i h0 hil2
    cases e
    have hc' := (HB2.out.cell (World.block_lt_of_cell? w _ hc)).trans hc
    have hc2' := (HB2.out.cell (World.block_lt_of_cell? w _ hc2)).trans hc2
    have HR := Aside0.mk (Kd.C_below hr HB2.out)
    have HR2 := Aside0.mk (Kd.C_below hr2 HB2.out)
    clear hc hc2 hcap hcap2 hr hr2
    go_wp2_with fail
    go_quiet (first | (go_at_call 56; refine Calls.quiet_of (f56_any B c B2 c2' l l2 _ (Kd.C_below HR.out (pw_below_drewN (Below.refl _ _) _)) (Kd.C_below HR2.out (pw_below_drewN (Below.refl _ _) _)))))
    by_cases hll : l = l2
    · have hlb : decide (l = l2) = true := decide_eq_true hll
      rw [hlb]
      have HLL := Aside0.mk hll
      clear hll hlb
      go_wp2_with fail
      go_roundw
      case rel =>
        refine ⟨i + 1, rfl, by omega, by omega, ⟨fun j hj => ?_⟩, m2 + nq, by rw [HWM.out, World.drewN_drewN]⟩
        by_cases h : j < i.toNat
        · exact HE.out j h
        · obtain rfl : j = i.toNat := by omega
          rw [← HLX.out, ← HLY.out]; exact HLL.out
      case measure => simp [intOf]; omega
    · have hlb : decide (l = l2) = false := decide_eq_false hll
      rw [hlb]
      have HLL := Aside0.mk hll
      clear hll hlb
      go_wp2_with fail
      go_ret
      refine ⟨ret_bool (sameNet_ne (fun h => HLL.out ?_)).symm, pw_below_drewN HB2.out nq⟩
      rw [HLX.out, HLY.out, h.1]
end Go.Proofs.Ytgbmebnfbhdpiaa
