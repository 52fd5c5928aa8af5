/- The walk of the document's Retained: it answers as the program's own does. -/
import Derived.Test.YtgbmebnfbhdpiaaRefC
import Derived.Test.YtgbmebnfbhdpiaaHoldsF
set_option linter.unusedSimpArgs false
set_option linter.unusedVariables false
namespace Go.Proofs.Ytgbmebnfbhdpiaa
open Go.RowKit Go.Proofs.YtgbmebnfbhdpiaaW.PrintWords Go.Proofs.YtgbmebnfbhdpiaaW.PrintLast

/-- The first a are done. -/
noncomputable def outN (nx : List (List Int)) (st ws : List Int) (a : Nat) : List Int := (List.range nx.length).map fun j : Nat => if j < a then retW nx st ws j else 0
theorem outN_len (nx : List (List Int)) (st ws : List Int) (a : Nat) : (outN nx st ws a).length = nx.length := by simp [outN]
theorem outN_rd (nx : List (List Int)) (st ws : List Int) (a : Nat) {i : Int} (h0 : 0 ≤ i) (h1 : i < nx.length) : rd (outN nx st ws a) i = if i.toNat < a then retW nx st ws i else 0 := by
  unfold rd outN
  rw [List.getD_eq_getElem?_getD, List.getElem?_map, List.getElem?_range (by omega)]
  simp only [Option.map_some, Option.getD_some]
  rw [Int.toNat_of_nonneg h0]
theorem ext_rd {l m : List Int} (hl : l.length = m.length) (h : ∀ i : Int, 0 ≤ i → i < l.length → rd l i = rd m i) : l = m := by
  apply List.ext_getElem?
  intro i
  rcases Nat.lt_or_ge i l.length with hi | hi
  · have := h i (by omega) (by omega)
    unfold rd at this
    simp only [Int.toNat_natCast, List.getD_eq_getElem?_getD] at this
    rw [List.getElem?_eq_getElem hi, List.getElem?_eq_getElem (by omega)] at this ⊢
    simpa using this
  · rw [List.getElem?_eq_none hi, List.getElem?_eq_none (by omega)]
theorem outN_zero (nx : List (List Int)) (st ws : List Int) : outN nx st ws 0 = List.replicate nx.length 0 := by
  simp [outN]
  rw [List.eq_replicate_iff]; simp
theorem outN_end (nx : List (List Int)) (st ws : List Int) : outN nx st ws nx.length = retL nx st ws :=
  ext_rd (by rw [outN_len, retL_len]) fun i h0 h1 => by
    rw [outN_len] at h1
    rw [outN_rd nx st ws _ h0 h1, if_pos (by omega), retL_rd nx st ws h0 h1]
theorem outN_set0 (nx : List (List Int)) (st ws : List Int) {a : Int} (h0 : 0 ≤ a) (h1 : a < nx.length) : (outN nx st ws a.toNat).set a.toNat 0 = outN nx st ws a.toNat :=
  ext_rd (by rw [List.length_set]) fun i i0 i1 => by
    rw [List.length_set, outN_len] at i1
    rw [rd_setL _ a i _ h0 (by rw [outN_len]; exact h1) i0]
    split
    · rename_i e; subst e; rw [outN_rd nx st ws _ i0 i1, if_neg (by omega)]
    · rfl
theorem outN_succ (nx : List (List Int)) (st ws : List Int) {a : Int} (h0 : 0 ≤ a) (h1 : a < nx.length) : (outN nx st ws a.toNat).set a.toNat (retW nx st ws a) = outN nx st ws (a + 1).toNat :=
  ext_rd (by rw [List.length_set, outN_len, outN_len]) fun i i0 i1 => by
    rw [List.length_set, outN_len] at i1
    rw [rd_setL _ a i _ h0 (by rw [outN_len]; exact h1) i0, outN_rd nx st ws _ i0 i1, outN_rd nx st ws _ i0 i1]
    by_cases c : i = a
    · subst c; rw [if_pos rfl, if_pos (by omega)]
    · rw [if_neg c]
      by_cases c2 : i.toNat < a.toNat
      · rw [if_pos c2, if_pos (by omega)]
      · rw [if_neg c2, if_neg (by omega)]
theorem wOk_at {nx : List (List Int)} {ws : List Int} {i : Int} (h0 : 0 ≤ i) (h1 : i < ws.length) (h : badW (rd ws i) = true) : wOk nx ws = false := by
  unfold wOk; rw [any_at h0 h1 h]; simp
theorem wOk_all {nx : List (List Int)} {ws : List Int} (hl : ws.length = nx.length) (h : ∀ j : Int, 0 ≤ j → j < ws.length → badW (rd ws j) = false) : wOk nx ws = true := by
  unfold wOk; rw [any_none h, decide_eq_true hl]; rfl

set_option maxRecDepth 100000 in
set_option maxHeartbeats 4000000 in
theorem f20_any (A0 : Option Addr) (c0 : Nat) (A1 : Option Addr) (c1 : Nat) (A2 : Option Addr) (c2 : Nat) (nx : List (List Int)) (st ws : List Int) (w : World) (hn : NetC w A0 c0 A1 c1 nx st) (hw : Kd.C (Kd.int .i64) w A2 ws.length ws) :
    Calls Try.prog 20 #[.agg #[.slice A0 nx.length c0, .slice A1 st.length c1], .slice A2 ws.length c2] w fun e w' => ∃ v, e = .returned (.tuple #[v, .int .i64 (retE nx st ws)]) ∧ Kd.R (Kd.int .i64) 2 w' w.heap.size (fun _ => True) v (retA nx st ws) ∧ Below w.heap.size w w' := by
  have HN := Aside0.mk hn
  have HW := Aside0.mk hw
  have hL0 : nx.length ≤ 9223372036854775807 := hn.next.2.1
  have hL2 : ws.length ≤ 9223372036854775807 := hw.2.1
  clear hn hw
  have HB0 : Aside0 (∀ cs : Array Value, Below w.heap.size w (w.alloc (.cells cs 25))) := ⟨fun _ => (Below.refl _ _).alloc (Nat.le_refl _) _⟩
  go_enter Try.func20, Try.ntmps20
  go_wp2_with fail
  refine (f29_any A0 c0 A1 c1 nx st _ (HN.out.below (HB0.out _))).mono ?_
  rintro e w1 ⟨rfl, hb⟩
  obtain ⟨hbk, hz, hb1⟩ := boxed hb
  obtain ⟨hn0, hn1⟩ := box2 hbk
  have HB1 := Aside0.mk hb1
  have HBK := Aside0.mk hbk
  clear hb hb1 hbk
  by_cases hok : netOk nx st = true
  case neg =>
    rw [Bool.not_eq_true] at hok
    rw [checkE_bad hok]
    have HOK := Aside0.mk hok
    clear hok
    go_wp2_with fail
    go_ret2
    exact ⟨_, ret_vi (ret_bad HOK.out).1.symm, by rw [(ret_bad HOK.out).2]; exact Kd.R_nil _ _ _ _ _, HB1.out⟩
  rw [checkE_ok hok]
  have HOK := Aside0.mk hok
  clear hok
  have HG := Aside0.mk (good_of_ok HOK.out)
  have hnl := HG.out.len
  by_cases hlen : (ws.length : Int) = nx.length
  case neg =>
    have hlb : ((ws.length : Int) != nx.length) = true := by simpa using hlen
    have hwo : Aside0 (wOk nx ws = false) := ⟨by unfold wOk; rw [decide_eq_false (by omega)]; rfl⟩
    clear hlen
    go_wp2_with fail
    go_ret2
    exact ⟨_, ret_vi (ret_arg HOK.out hwo.out).1.symm, by rw [(ret_arg HOK.out hwo.out).2]; exact Kd.R_nil _ _ _ _ _, HB1.out⟩
  have hlb : ((ws.length : Int) != nx.length) = false := by simpa using hlen
  have HLEN : Aside0 (ws.length = nx.length) := ⟨by omega⟩
  go_wp2_with fail
  clear hlb hlen hn0 hn1
  obtain ⟨wo, rfl⟩ : ∃ wo : World, wo = w1 := ⟨_, rfl⟩
  go_loopw [7] (fun v7 wr => ∃ i : Int, v7 = .int .i64 i ∧ 0 ≤ i ∧ i ≤ ws.length ∧ Aside0 (∀ j : Int, 0 ≤ j → j < i → badW (rd ws j) = false) ∧ Aside0 (Below wo.heap.size wo wr)) (fun v _ => ws.length - (intOf v).toNat)
  case atStart => exact ⟨0, rfl, by omega, by omega, ⟨fun j h0 h1 => by omega⟩, ⟨Below.refl _ _⟩⟩
  case round =>
    obtain ⟨i, rfl, h0, h1, HP, HB⟩ := hrel
    by_cases hlt : i < ws.length
    case pos =>
      obtain ⟨ad, e, hc⟩ := Kd.at_int (Kd.C_below HW.out (below_trans HB1.out HB.out)) i h0 hlt
      cases e
      obtain ⟨x, hx⟩ : ∃ x, x = rd ws i := ⟨_, rfl⟩
      rw [← hx] at hc
      have HXX := Aside0.mk hx
      clear hx
      by_cases hneg : x < 0
      · have hnb : decide (x < 0) = true := decide_eq_true hneg
        have hwo : Aside0 (wOk nx ws = false) := ⟨wOk_at h0 hlt (by rw [← HXX.out]; simp [badW, hnb])⟩
        go_wp2_with fail
        go_ret2
        exact ⟨_, ret_vi (ret_arg HOK.out hwo.out).1.symm, by rw [(ret_arg HOK.out hwo.out).2]; exact Kd.R_nil _ _ _ _ _, below_trans HB1.out HB.out⟩
      have hnb : decide (x < 0) = false := decide_eq_false hneg
      by_cases hge : x > 1048576
      · have hgb : decide (x > 1048576) = true := decide_eq_true hge
        have hwo : Aside0 (wOk nx ws = false) := ⟨wOk_at h0 hlt (by rw [← HXX.out]; simp [badW, hgb])⟩
        go_wp2_with fail
        go_ret2
        exact ⟨_, ret_vi (ret_arg HOK.out hwo.out).1.symm, by rw [(ret_arg HOK.out hwo.out).2]; exact Kd.R_nil _ _ _ _ _, below_trans HB1.out HB.out⟩
      have hgb : decide (x > 1048576) = false := decide_eq_false hge
      have HWW : Aside0 (badW (rd ws i) = false) := ⟨by rw [← HXX.out]; simp [badW, hnb, hgb]⟩
      clear hneg hge
      go_wp2_with fail
      go_roundw
      case rel => exact ⟨i + 1, rfl, by omega, by omega, ⟨fun j j0 j1 => by
        by_cases h : j < i
        · exact HP.out j j0 h
        · obtain rfl : j = i := by omega
          exact HWW.out⟩, HB⟩
      case measure => simp [intOf]; omega
    case neg =>
      have HWO := Aside0.mk (wOk_all (nx := nx) HLEN.out (fun j j0 j1 => HP.out j j0 (by omega)))
      have HWB := Aside0.mk (w_bounds HWO.out).2
      have HB3 := Aside0.mk (below_trans HB1.out HB.out)
      clear HP
      have hws8 : ws.length ≤ 8192 := by have := HLEN.out; omega
      have HLX : Aside0 (Below wr.heap.size wr wr) := ⟨Below.refl _ _⟩
      go_wp2_with ((with_reducible refine gate_dst (N := 44) rfl ?_); go_loud (refine Kd.R_make (Kd.int .i64) (w0 := wr) wr.heap.size 2 rfl (N := 44) rfl 38 _ _ rfl (ws.length : Int) rfl rfl Try.underlying38 (.int .i64 0) 8 info2 rfl (by decide) (by omega) 0 (ok := fun _ => True) (okp := fun _ => True) rfl (fun _ hk => hk) trivial (by omega) (by omega) HLX.out (Nat.le_refl _) ?_; intro v44 w2 ho hb hgr hnew; clear hnew; obtain ⟨AO, kO, e44⟩ := Kd.R_slice ho; rw [List.length_replicate, Int.toNat_natCast] at e44; subst e44; rw [Int.toNat_natCast] at ho; have HO := Aside0.mk ho; have HB4 := Aside0.mk hb; clear ho hb hgr))
      clear HLX
      have HO1 : Aside0 (Kd.R (Kd.int .i64) 2 w2 wr.heap.size (fun _ => True) (.slice AO ws.length kO) (outN nx st ws (0 : Int).toNat)) := ⟨by rw [show (0 : Int).toNat = 0 from rfl, outN_zero, ← HLEN.out]; exact HO.out⟩
      clear HO
      obtain ⟨wp, rfl⟩ : ∃ wp : World, wp = wr := ⟨_, rfl⟩
      have HNB := Aside0.mk (blk_below HBK.out HB.out)
      go_loopw [9] (fun v9 wr => ∃ a : Int, v9 = .int .i64 a ∧ 0 ≤ a ∧ a ≤ nx.length ∧ Aside0 (Kd.R (Kd.int .i64) 2 wr wp.heap.size (fun _ => True) (.slice AO ws.length kO) (outN nx st ws a.toNat)) ∧ Aside0 (Below wp.heap.size wp wr)) (fun v _ => nx.length - (intOf v).toNat)
      case atStart => exact ⟨0, rfl, by omega, by omega, HO1, HB4⟩
      case round =>
        clear HO1 HB4
        obtain ⟨a, rfl, ha0, ha1, HO, HB5⟩ := hrel
        have hws8 : ws.length ≤ 8192 := by have := HLEN.out; omega
        by_cases hal : a < nx.length
        case neg =>
          have haw : ¬ a < (ws.length : Int) := by have := HLEN.out; omega
          go_wp2_with fail
          go_ret2
          refine ⟨_, ret_vi (ret_ok HOK.out HWO.out).1.symm, ?_, below_trans HB3.out HB5.out⟩
          have h2 := HO.out
          rw [show a.toNat = nx.length from by omega, outN_end] at h2
          rw [(ret_ok HOK.out HWO.out).2]
          exact Kd.R_lower h2 HB3.out.size
        obtain ⟨hn0, hn1⟩ := box2 (blk_below HNB.out HB5.out)
        have haw : a < (ws.length : Int) := by have := HLEN.out; omega
        go_wp2_with fail
        refine (f28_any A0 c0 A1 c1 nx st a _ (HN.out.below (below_trans HB3.out HB5.out))).mono ?_
        rintro e w3 ⟨v3, rfl, hr, hb⟩
        have hia : inNet nx a = true := by simp [inNet]; omega
        rw [(gone_ok HOK.out hia).2] at hr
        rw [(gone_ok HOK.out hia).1]
        clear hia
        obtain ⟨AG, kG, eG⟩ := Kd.R_slice hr
        rw [goneB_len] at eG
        subst eG
        have HO2 := Aside0.mk (Kd.R_below HO.out hb)
        have HG2 := Aside0.mk hr
        have HB6 := Aside0.mk (below_trans HB5.out hb)
        have HSZ := Aside0.mk (Nat.le_trans HB5.out.size (Nat.le_refl _))
        clear hr hb hn0 hn1
        obtain ⟨G, hG⟩ : ∃ G, G = goneB nx st a := ⟨_, rfl⟩
        have HGL : Aside0 (G.length = nx.length) := ⟨by rw [hG, goneB_len]⟩
        have HRW : Aside0 (sumIf (rdOf false G) ws nx.length = retW nx st ws a) := ⟨by
          unfold retW
          refine sumIf_congr nx.length (fun x h0 h1 => ?_)
          rw [hG, domC_gone HG.out a x h0 h1]⟩
        rw [← hG] at HG2
        clear hG
        have HO3 : Aside0 (Kd.R (Kd.int .i64) 2 w3 wp.heap.size (fun _ => True) (.slice AO ws.length kO) ((outN nx st ws a.toNat).set a.toNat (sumIf (rdOf false G) ws (0 : Int).toNat))) := ⟨by
          rw [show sumIf (rdOf false G) ws (0 : Int).toNat = 0 from rfl, outN_set0 nx st ws ha0 hal]; exact HO2.out⟩
        clear HO2 HO
        go_wp2_with fail
        obtain ⟨wq, hwq⟩ : ∃ wq : World, wq = wr := ⟨_, rfl⟩
        subst hwq
        go_loopw [12] (fun v12 wr => ∃ b : Int, v12 = .int .i64 b ∧ 0 ≤ b ∧ b ≤ nx.length ∧ Aside0 (Kd.R (Kd.int .i64) 2 wr wp.heap.size (fun _ => True) (.slice AO ws.length kO) ((outN nx st ws a.toNat).set a.toNat (sumIf (rdOf false G) ws b.toNat))) ∧ Aside0 (Kd.R Kd.bool 4 wr wq.heap.size (fun _ => True) (.slice AG nx.length kG) G) ∧ Aside0 (Below wp.heap.size wp wr)) (fun v _ => nx.length - (intOf v).toNat)
        case atStart => exact ⟨0, rfl, by omega, by omega, HO3, HG2, HB6⟩
        case round =>
          clear HO3 HG2 HB6
          obtain ⟨b, rfl, hb0, hb1, HO, HG2, HB7⟩ := hrel
          by_cases hbl : b < nx.length
          case neg =>
            have hbf : decide (b < (nx.length : Int)) = false := decide_eq_false hbl
            go_wp2_with fail
            go_roundw
            case rel =>
              refine ⟨a + 1, rfl, by omega, by omega, ⟨?_⟩, HB7⟩
              have h2 := HO.out
              rw [show b.toNat = nx.length from by omega, HRW.out, outN_succ nx st ws ha0 hal] at h2
              exact h2
            case measure => simp [intOf]; omega
          have hbf : decide (b < (nx.length : Int)) = true := decide_eq_true hbl
          have hbw : decide (b < (ws.length : Int)) = true := decide_eq_true (by have := HLEN.out; omega)
          have hbw2 : b < (ws.length : Int) := by have := HLEN.out; omega
          have hsn : sumIf (rdOf false G) ws (b + 1).toNat = sumIf (rdOf false G) ws b.toNat + (if rdOf false G b = true then rd ws b else 0) := by
            rw [show (b + 1).toNat = b.toNat + 1 from by omega]
            simp only [sumIf]
            rw [Int.toNat_of_nonneg hb0]
          obtain ⟨adg, e, hgc⟩ := Kd.at_bool (Kd.R_reads' HG2.out).2.2 b hb0 (by have := HGL.out; omega)
          cases e
          by_cases hg : rdOf false G b = true
          case neg =>
            rw [Bool.not_eq_true] at hg
            rw [hg] at hgc hsn
            have HSN : Aside0 (sumIf (rdOf false G) ws (b + 1).toNat = sumIf (rdOf false G) ws b.toNat) := ⟨by rw [hsn]; simp⟩
            clear hg hsn
            go_wp2_with fail
            go_roundw
            case rel => exact ⟨b + 1, rfl, by omega, by omega, ⟨by rw [HSN.out]; exact HO.out⟩, HG2, HB7⟩
            case measure => simp [intOf]; omega
          rw [hg] at hgc hsn
          rw [if_pos rfl] at hsn
          obtain ⟨go, capo, hvs, hbg, hgl2, cells, hgcc⟩ := Kd.R_form HO.out (by rw [List.length_set, outN_len]; omega)
          have hv1 := (Value.slice.inj hvs).1
          subst hv1
          clear hvs
          have hoc := R_celln 0 HO.out a ha0 haw
          have hro : rdOf 0 ((outN nx st ws a.toNat).set a.toNat (sumIf (rdOf false G) ws b.toNat)) a = sumIf (rdOf false G) ws b.toNat := by
            have := rd_setL (outN nx st ws a.toNat) a a (sumIf (rdOf false G) ws b.toNat) ha0 (by rw [outN_len]; exact hal) ha0
            rw [if_pos rfl] at this
            exact this
          rw [hro] at hoc
          obtain ⟨hoc, hof⟩ := hoc
          have hbd := sumIf_bound (p := rdOf false G) HWB.out b.toNat
          have hxb := HWB.out b
          obtain ⟨ad, e, hwc⟩ := Kd.at_int (Kd.C_below HW.out (below_trans HB3.out HB7.out)) b hb0 (by have := HLEN.out; omega)
          cases e
          obtain ⟨x, hx⟩ : ∃ x, x = rd ws b := ⟨_, rfl⟩
          rw [← hx] at hwc hxb hsn
          obtain ⟨S, hS⟩ : ∃ S, S = sumIf (rdOf false G) ws b.toNat := ⟨_, rfl⟩
          rw [← hS] at hoc hbd hsn HO
          have hsb : 0 ≤ S ∧ S ≤ 8589934592 := by omega
          have HSN := Aside0.mk hsn
          clear hx hS hro hg hsn hbd
          have HO4 := Aside0.mk (Kd.R_drew (Kd.R_putn HO.out a (S + x)))
          have HG4 := Aside0.mk (Kd.R_drew (Kd.R_set HG2.out hgcc (by decide) a.toNat (.int .i64 (S + x))))
          clear hgcc cells
          have HB8 := Aside0.mk (below_drew (HB7.out.setCell (p := ⟨go, a.toNat, none⟩) hbg (.int .i64 (S + x))))
          go_wp2_with fail
          go_still_tail 10, (by kernel_rfl)
          go_wp2_with fail
          go_roundw
          case rel => exact ⟨b + 1, rfl, by omega, by omega, ⟨by rw [HSN.out, ← List.set_set]; exact HO4.out⟩, HG4, HB8⟩
          case measure => simp [intOf]; omega
end Go.Proofs.Ytgbmebnfbhdpiaa
