/- The walk of dom's closest: each node's closest one. -/
import Derived.Test.YtgbmebnfbhdpiaaOrderedF
import Derived.Test.YtgbmebnfbhdpiaaClosD
import Derived.Test.YtgbmebnfbhdpiaaMeetsF
import Derived.Test.YtgbmebnfbhdpiaaRepeatF
set_option linter.unusedSimpArgs false
set_option linter.unusedVariables false
namespace Go.Proofs.Ytgbmebnfbhdpiaa
open Go.RowKit Go.Proofs.YtgbmebnfbhdpiaaW.PrintWords Go.Proofs.YtgbmebnfbhdpiaaW.PrintLast

theorem C_one (w : World) (x : Int) : Kd.C (Kd.int .i64) (w.alloc (.cells #[.int .i64 x] 3)) (some ⟨w.heap.size, 0, none⟩) 1 [x] := by
  have h := blk_new w (.cells #[.int .i64 x] 3)
  have : Kd.R (Kd.int .i64) 3 (w.alloc (.cells #[.int .i64 x] 3)) 0 (fun _ => True) (.slice (some ⟨w.heap.size, 0, none⟩) 1 1) [x] := by
    refine Kd.R_of_own (enc := Value.int .i64) ?_ (fun _ _ => trivial)
    exact ⟨by simp [encs], .inr ⟨w.heap.size, 1, _, rfl, Nat.zero_le _, h, Nat.le_refl _, by simp only [maxLen]; omega, by simp, by simp [encs]⟩⟩
  exact (Kd.R_reads' this).2.2
theorem R_celli {e base g cap n : Nat} {ok : Nat → Prop} {xs : List Int} {W : World} (h : Kd.R (Kd.int .i64) e W base ok (.slice (some ⟨g, 0, none⟩) n cap) xs) (i : Int) (h0 : 0 ≤ i) (hi : i < n) :
    W.cell? ⟨g, i.toNat, none⟩ = some (.int .i64 (rd xs i)) ∧ W.frozen? ⟨g, i.toNat, none⟩ = false := R_celln 0 h i h0 hi
/-- What stands while the rounds are gone: the closest ones as they are, and which are starts. -/
structure ClMem (w1 wr : World) (n : Nat) (AI : Option Addr) (kI : Nat) (AS : Option Addr) (kS : Nat) (id : List Int) (sb : List Bool) : Prop where
  below : Below w1.heap.size w1 wr
  idom : Kd.R (Kd.int .i64) 3 wr w1.heap.size (fun _ => True) (.slice AI n kI) id
  start : Kd.R Kd.bool 4 wr w1.heap.size (fun _ => True) (.slice AS n kS) sb
section
variable {w1 wr : World} {n : Nat} {AI : Option Addr} {kI : Nat} {AS : Option Addr} {kS : Nat} {id : List Int} {sb : List Bool}
theorem ClMem.on (h : ClMem w1 wr n AI kI AS kS id sb) {w2 : World} (hb : Below wr.heap.size wr w2) : ClMem w1 w2 n AI kI AS kS id sb :=
  ⟨h.below.trans (hb.mono h.below.size), Kd.R_below h.idom hb, Kd.R_below h.start hb⟩
theorem ClMem.putI {ig : Nat} (h : ClMem w1 wr n (some ⟨ig, 0, none⟩) kI AS kS id sb) (i x : Int) : ClMem w1 (wr.setCell ⟨ig, i.toNat, none⟩ (.int .i64 x)) n (some ⟨ig, 0, none⟩) kI AS kS (id.set i.toNat x) sb := by
  obtain ⟨cells, hgc⟩ := Kd.R_typed h.idom ig (by simp [Value.ownBlock])
  have hbg : w1.heap.size ≤ ig := Kd.R_base h.idom ig (by simp [Value.ownBlock])
  exact ⟨h.below.setCell hbg _, Kd.R_putn h.idom i x, Kd.R_set h.start hgc (by decide) _ _⟩
theorem ClMem.putS {sg : Nat} (h : ClMem w1 wr n AI kI (some ⟨sg, 0, none⟩) kS id sb) (i : Int) (x : Bool) : ClMem w1 (wr.setCell ⟨sg, i.toNat, none⟩ (.bool x)) n AI kI (some ⟨sg, 0, none⟩) kS id (sb.set i.toNat x) := by
  obtain ⟨cells, hgc⟩ := Kd.R_typed h.start sg (by simp [Value.ownBlock])
  have hbg : w1.heap.size ≤ sg := Kd.R_base h.start sg (by simp [Value.ownBlock])
  exact ⟨h.below.setCell hbg _, Kd.R_set h.idom hgc (by decide) _ _, Kd.R_putn h.start i x⟩
theorem ClMem.blocks (h : ClMem w1 wr n AI kI AS kS id sb) (hi : id.length = n) (hs : sb.length = n) (hn : 0 < n) : ∃ ig sg, AI = some ⟨ig, 0, none⟩ ∧ AS = some ⟨sg, 0, none⟩ := by
  obtain ⟨g, cap, hvs, _⟩ := Kd.R_form h.idom (by omega)
  obtain ⟨g', cap', hvs', _⟩ := Kd.R_form h.start (by omega)
  exact ⟨g, g', (Value.slice.inj hvs).1, (Value.slice.inj hvs').1⟩
end
/-- Which nodes are starts. -/
def startB (n : Nat) (st : List Int) : List Bool := putAll true st (List.replicate n false)
theorem startB_at {nx : List (List Int)} {st : List Int} (hg : Good nx st) (y : Int) (h0 : 0 ≤ y) : rdOf false (startB nx.length st) y = decide (y ∈ st) := by
  unfold rdOf startB
  rw [putAll_getD false true st _ (fun s hs => by rw [List.length_replicate]; exact hg.starts s hs) y h0]
  by_cases c : y ∈ st
  · rw [if_pos c, decide_eq_true c]
  · rw [if_neg c, decide_eq_false c, List.getD_eq_getElem?_getD, List.getElem?_replicate]; split <;> rfl
theorem putAll_succ {α : Type} (x : α) (st : List Int) (l : List α) (j : Int) (h0 : 0 ≤ j) (h1 : j < st.length) : putAll x (st.take (j + 1).toNat) l = (putAll x (st.take j.toNat) l).set (rd st j).toNat x := by
  unfold putAll
  rw [show (j + 1).toNat = j.toNat + 1 from by omega, List.take_succ_eq_append_getElem (by omega), List.foldl_append]
  simp [rd, List.getD_eq_getElem?_getD, List.getElem?_eq_getElem (by omega : j.toNat < st.length)]

set_option maxRecDepth 100000 in
set_option maxHeartbeats 4000000 in
theorem f45_any (A0 : Option Addr) (c0 : Nat) (A1 : Option Addr) (c1 : Nat) (nx : List (List Int)) (st : List Int) (w : World) (hn : NetC w A0 c0 A1 c1 nx st) (hg : Good nx st) (hsum : sumLen nx ≤ 65536) :
    Calls Try.prog 45 #[.agg #[.slice A0 nx.length c0, .slice A1 st.length c1]] w fun e w' => ∃ v id, e = .returned v ∧ IdomX nx st id ∧ Kd.R (Kd.int .i64) 3 w' w.heap.size (fun _ => True) v id ∧ Below w.heap.size w w' := by
  have HN := Aside0.mk hn
  have HG := Aside0.mk hg
  have hL0 : nx.length ≤ 9223372036854775807 := hn.next.2.1
  have hL1 : st.length ≤ 9223372036854775807 := hn.start.2.1
  clear hn hg
  have HB0 : Aside0 (∀ cs : Array Value, Below w.heap.size w (w.alloc (.cells cs 25))) := ⟨fun _ => (Below.refl _ _).alloc (Nat.le_refl _) _⟩
  go_enter Try.func45, Try.ntmps45
  go_wp2_with fail
  refine (f64_any A0 c0 A1 c1 nx st _ (HN.out.below (HB0.out _)) HG.out hsum).mono ?_
  rintro e w1 ⟨og, rfl, list, place, heads, AL, kL, AP, kP, AH, kH, ho, hob, hcl, hcp, hch, hb⟩
  obtain ⟨hbk, hz, hb1⟩ := boxed hb
  obtain ⟨hn0, hn1⟩ := box2 hbk
  have HB1 := Aside0.mk hb1
  have HBK := Aside0.mk hbk
  have HO := Aside0.mk ho
  have HOB := Aside0.mk hob
  have HCL := Aside0.mk hcl
  have HCP := Aside0.mk hcp
  have HCH := Aside0.mk hch
  clear hb hb1 hbk ho hob hcl hcp hch HB0
  have hnl := HG.out.len
  have hB1 : ∀ cs : Array Value, Below w1.heap.size w1 (w1.alloc (.cells cs 3)) := fun cs => (Below.refl _ _).alloc (Nat.le_refl _) _
  have HA1 := Aside0.mk hB1
  clear hB1
  have HK0 := Aside0.mk (show ∀ cs : Array Value, (w1.alloc (.cells cs 3)).cell? ⟨w.heap.size, 0, none⟩ = some (.slice A0 nx.length c0) ∧ (w1.alloc (.cells cs 3)).cell? ⟨w.heap.size, 1, none⟩ = some (.slice A1 st.length c1) from fun cs => box2 (blk_below HBK.out (HA1.out cs)))
  go_wp2_with fail
  refine (f65_any _ _ (-2) nx.length _ (C_one w1 (-2)) (by omega) (by omega)).mono ?_
  rintro e w2 ⟨vi, rfl, hr, hb⟩
  have HR2 := Aside0.mk (Kd.R_lower hr (HA1.out _).size)
  have HB2 := Aside0.mk (below_trans (HA1.out _) hb)
  clear hr hb HA1 HK0
  obtain ⟨AI, kI, e⟩ := Kd.R_slice HR2.out
  rw [List.length_replicate, Int.toNat_natCast] at e
  subst e
  have hk2 := Aside0.mk (blk_below HBK.out HB2.out)
  obtain ⟨hn0, hn1⟩ := box2 hk2.out
  clear hk2
  go_wp2_with ((with_reducible refine gate_dst (N := 24) rfl ?_); go_loud (refine Kd.R_make Kd.bool (w0 := w1) w1.heap.size 4 rfl (N := 24) rfl 43 _ _ rfl (nx.length : Int) rfl rfl Try.underlying43 (.bool false) 1 info4 rfl (by decide) (by omega) false (ok := fun _ => True) (okp := fun _ => True) rfl (fun _ hk => hk) trivial (by omega) (by omega) HB2.out HB2.out.size ?_; intro v24 w3 ho hb hgr hnew; clear hnew; obtain ⟨AS, kS, e24⟩ := Kd.R_slice ho; rw [List.length_replicate, Int.toNat_natCast] at e24; subst e24; have HM := Aside0.mk (ClMem.mk hb (Kd.R_below HR2.out (grown_below hgr)) ho); clear ho hb hgr HR2 HB2; obtain ⟨hn0, hn1⟩ := box2 (blk_below HBK.out HM.out.below)))
  have HM1 : Aside0 (ClMem w1 w3 nx.length AI kI AS kS (List.replicate nx.length (-2)) (List.replicate nx.length false)) := ⟨by simpa using HM.out⟩
  clear HM
  clear hn0 hn1
  go_loopw [28] (fun v28 wr => ∃ (j : Int), v28 = .int .i64 j ∧ 0 ≤ j ∧ j ≤ st.length ∧ Aside0 (ClMem w1 wr nx.length AI kI AS kS (putAll (-1) (st.take j.toNat) (List.replicate nx.length (-2))) (putAll true (st.take j.toNat) (List.replicate nx.length false)))) (fun v _ => st.length - (intOf v).toNat)
  case atStart => exact ⟨0, rfl, by omega, by omega, by simpa [putAll] using HM1⟩
  case round =>
    obtain ⟨j, rfl, hj0, hj1, HM2⟩ := hrel
    clear HM1
    by_cases hjl : j < st.length
    · obtain ⟨ad, e, hc⟩ := Kd.at_int (HN.out.below (HB1.out.trans (HM2.out.below.mono HB1.out.size))).start j hj0 hjl
      cases e
      have hput := putAll_succ (-1) st (List.replicate nx.length (-2)) j hj0 hjl
      have hputs := putAll_succ true st (List.replicate nx.length false) j hj0 hjl
      have hxr := HG.out.starts (rd st j) (rd_mem hj0 hjl)
      obtain ⟨x, hx⟩ : ∃ x, x = rd st j := ⟨_, rfl⟩
      rw [← hx] at hc hput hputs hxr
      obtain ⟨ig, sg, rfl, rfl⟩ := HM2.out.blocks (by rw [putAll_len, List.length_replicate]) (by rw [putAll_len, List.length_replicate]) (by omega)
      obtain ⟨hx0, hx1⟩ := hxr
      clear hx
      obtain ⟨hsc, hsf⟩ := R_celln false HM2.out.start x hx0 hx1
      have HM3 := Aside0.mk (HM2.out.putS x true)
      obtain ⟨hic, hif⟩ := R_celli HM3.out.idom x hx0 hx1
      have HM4 := Aside0.mk (HM3.out.putI x (-1))
      rw [← hput, ← hputs] at HM4
      clear HM3 hput hputs
      go_wp2_with fail
      go_roundw
      case rel => exact ⟨j + 1, rfl, by omega, by omega, HM4⟩
      case measure => simp [intOf]; omega
    · have hM0 : Aside0 (ClMem w1 wr nx.length AI kI AS kS (idom0 nx.length st) (startB nx.length st)) := ⟨by
        have h := HM2.out
        rw [show j.toNat = st.length from by omega, List.take_length] at h
        exact h⟩
      clear HM2
      go_wp2_with fail
      clear hjl hj0 hj1 hn0 hn1
      obtain ⟨M, hM⟩ := it_end HG.out HO.out
      have HEND := Aside0.mk hM
      have HR0 : Aside0 (RoundOk nx st place heads list M 0 (idom0 nx.length st) true) := ⟨round_zero HG.out HO.out⟩
      clear hM
      obtain ⟨id0, hid0⟩ : ∃ id0, id0 = idom0 nx.length st := ⟨_, rfl⟩
      obtain ⟨sb, hsb⟩ : ∃ sb, sb = startB nx.length st := ⟨_, rfl⟩
      rw [← hid0] at HR0 hM0
      rw [← hsb] at hM0
      have HS : Aside0 (sb.length = nx.length ∧ ∀ y : Int, 0 ≤ y → rdOf false sb y = decide (y ∈ st)) := ⟨by rw [hsb]; exact ⟨by unfold startB; rw [putAll_len, List.length_replicate], fun y h0 => startB_at HG.out y h0⟩⟩
      clear hid0 hsb
      have hll : list.length ≤ 8192 := by have := HO.out.lenLe HG.out; omega
      obtain ⟨wo, rfl⟩ : ∃ wo : World, wo = wr := ⟨_, rfl⟩
      go_loopg [8] (M + 1) (fun kk v8 wr => ∃ (ag : Bool) (m : Nat) (id : List Int), v8 = .bool ag ∧ Aside0 (ClMem w1 wr nx.length AI kI AS kS id sb) ∧ Aside0 (RoundOk nx st place heads list M m id ag) ∧ Aside0 (ag = true → M + 1 ≤ kk + m))
      case atStart => exact ⟨true, 0, id0, rfl, hM0, HR0, ⟨fun _ => by omega⟩⟩
      case round =>
        clear hM0 HR0
        obtain ⟨ag, m, id, rfl, HM, HR, HK⟩ := hrel
        cases ag
        case false =>
          have HF := Aside0.mk (HR.out.fin rfl)
          go_wp2_with fail
          go_ret
          exact ⟨_, id, rfl, HF.out, Kd.R_lower HM.out.idom HB1.out.size, HB1.out.trans (HM.out.below.mono HB1.out.size)⟩
        case true =>
          have hol : wr.cell? ⟨og, 0, none⟩ = some (.slice AL list.length kL) := (blk_cell (blk_below HOB.out HM.out.below) 0).trans rfl
          go_wp2_with fail
          clear hol
          obtain ⟨wo2, rfl⟩ : ∃ wo2 : World, wo2 = wr := ⟨_, rfl⟩
          go_loopw [8, 45] (fun v8 v45 wr => ∃ (ch : Bool) (i : Int) (idi : List Int), v8 = .bool ch ∧ v45 = .int .i64 i ∧ 0 ≤ i ∧ i ≤ list.length ∧ Aside0 (idi = passN st place heads list i.toNat id) ∧ Aside0 (ClMem w1 wr nx.length AI kI AS kS idi sb) ∧ Aside0 (ChOk st place heads list id i.toNat ch)) (fun _ v45 _ => list.length - (intOf v45).toNat)
          case atStart => exact ⟨false, 0, id, rfl, rfl, by omega, by omega, ⟨rfl⟩, HM, ⟨ch_zero⟩⟩
          case round =>
            clear HM
            obtain ⟨ch, i, idi, rfl, rfl, hi0, hi1, HID, HM, HCH2⟩ := hrel
            by_cases hil : i < list.length
            · obtain ⟨ad, e, hc⟩ := Kd.at_int (Kd.C_below HCL.out HM.out.below) i hi0 hil
              cases e
              obtain ⟨x, hx⟩ : ∃ x, x = rd list i := ⟨_, rfl⟩
              rw [← hx] at hc
              have hxg : list[i.toNat]? = some x := by
                rw [hx, rd, List.getD_eq_getElem?_getD, List.getElem?_eq_getElem (by omega : i.toNat < list.length)]; rfl
              have hxr := Reach.lt HG.out ((HO.out.mem x).1 (List.mem_of_getElem? hxg))
              have HXG := Aside0.mk hxg
              obtain ⟨hx0, hx1⟩ := hxr
              have hpi : Aside0 (CInv nx st place list i.toNat m idi) := ⟨by rw [HID.out]; exact cinv_pass HG.out HO.out HR.out.inv i.toNat (by omega)⟩
              have hps := Aside0.mk (passN_succ st place heads list id hxg)
              clear hx hxg
              obtain ⟨ig, sg, rfl, rfl⟩ := HM.out.blocks hpi.out.tree.len HS.out.1 (by omega)
              obtain ⟨hsc, hsf⟩ := R_celln false HM.out.start x hx0 hx1
              rw [HS.out.2 x hx0] at hsc
              by_cases hst : x ∈ st
              · rw [decide_eq_true hst] at hsc
                have hps2 : Aside0 (passN st place heads list (i.toNat + 1) id = idi) := ⟨by rw [hps.out]; unfold stepC; rw [if_pos hst, HID.out]⟩
                clear hst
                go_wp2_with fail
                go_roundw
                case rel => exact ⟨ch, i + 1, idi, rfl, rfl, by omega, by omega, ⟨by rw [show (i + 1).toNat = i.toNat + 1 from by omega]; exact hps2.out.symm⟩, HM, ⟨by rw [show (i + 1).toNat = i.toNat + 1 from by omega]; exact ch_same HCH2.out (by rw [hps2.out, HID.out])⟩⟩
                case measure => simp [intOf]; omega
              · rw [decide_eq_false hst] at hsc
                have HST := Aside0.mk hst
                have hps2 : Aside0 (passN st place heads list (i.toNat + 1) id = idi.set x.toNat (bestC place idi (headsAt heads x))) := ⟨by rw [hps.out]; unfold stepC; rw [if_neg hst, HID.out]⟩
                clear hst hps
                obtain ⟨had, B, c, hs, e, HHS, hhc0, hhl, hhr⟩ := at_slice_n HCH.out x hx0 hx1
                have hhc := (HM.out.below.cell (World.block_lt_of_cell? _ _ hhc0)).trans hhc0
                clear hhc0
                have hoh : wr.cell? ⟨og, 2, none⟩ = some (.slice AH nx.length kH) := (blk_cell (blk_below HOB.out HM.out.below) 2).trans rfl
                have HHR := Aside0.mk hhr
                have hhn : hs.length ≤ 9223372036854775807 := hhr.2.1
                clear hhr
                cases e
                go_wp2_with fail
                obtain ⟨wo3, rfl⟩ : ∃ wo3 : World, wo3 = wr := ⟨_, rfl⟩
                have hdn : Aside0 (∀ h ∈ hs, 0 ≤ h ∧ h < nx.length) := ⟨fun g hg' => by
                  rw [HHS.out] at hg'
                  exact Reach.lt HG.out ((HO.out.heads x g hx0 hx1).1 hg').1⟩
                go_loopw [11, 61] (fun v11 v61 wr => ∃ (k b : Int), v11 = .int .i64 b ∧ v61 = .int .i64 k ∧ 0 ≤ k ∧ k ≤ hs.length ∧ Aside0 (b = bestC place idi (hs.take k.toNat)) ∧ Aside0 (ClMem w1 wr nx.length (some ⟨ig, 0, none⟩) kI (some ⟨sg, 0, none⟩) kS idi sb)) (fun _ v61 _ => hs.length - (intOf v61).toNat)
                case atStart => exact ⟨0, -2, rfl, rfl, by omega, by omega, ⟨rfl⟩, HM⟩
                case round =>
                  clear HM hc hsc hsf hoh hhc
                  obtain ⟨k, b, rfl, rfl, hk0, hk1, HBE, HM⟩ := hrel
                  by_cases hkl : k < hs.length
                  · obtain ⟨ad2, e, hc⟩ := Kd.at_int (Kd.C_below HHR.out HM.out.below) k hk0 hkl
                    cases e
                    have hhr := hdn.out (rd hs k) (rd_mem hk0 hkl)
                    have hbn : bestC place idi (hs.take (k + 1).toNat) = best1 place idi b (rd hs k) := by
                      rw [HBE.out]; unfold bestC
                      rw [show (k + 1).toNat = k.toNat + 1 from by omega, List.take_succ_eq_append_getElem (by omega), List.foldl_append]
                      simp [rd, List.getD_eq_getElem?_getD, List.getElem?_eq_getElem (by omega : k.toNat < hs.length)]
                    obtain ⟨h, hh⟩ : ∃ h, h = rd hs k := ⟨_, rfl⟩
                    rw [← hh] at hc hhr hbn
                    obtain ⟨hh0, hh1⟩ := hhr
                    clear hh
                    obtain ⟨hic, hif⟩ := R_celli HM.out.idom h hh0 hh1
                    unfold best1 at hbn
                    by_cases c1 : rd idi h = -2
                    · rw [if_pos c1] at hbn
                      have HBN := Aside0.mk hbn
                      have hic2 := hic
                      rw [c1] at hic
                      clear hbn c1 hic2
                      go_wp2_with fail
                      go_roundw
                      case rel => exact ⟨k + 1, b, rfl, rfl, by omega, by omega, ⟨HBN.out.symm⟩, HM⟩
                      case measure => simp [intOf]; omega
                    · rw [if_neg c1] at hbn
                      have c1b : (rd idi h == -2) = false := by simp [c1]
                      have HOK := Aside0.mk (show Okn nx.length idi h from .inr ⟨hh0, hh1, c1⟩)
                      obtain ⟨u, hu⟩ : ∃ u, u = rd idi h := ⟨_, rfl⟩
                      rw [← hu] at hic c1b
                      clear c1 hu
                      by_cases c2 : b = -2
                      · rw [if_pos c2] at hbn
                        have HBN := Aside0.mk hbn
                        have c2b : (b == -2) = true := by simp [c2]
                        clear hbn c2
                        go_wp2_with fail
                        go_roundw
                        case rel => exact ⟨k + 1, h, rfl, rfl, by omega, by omega, ⟨HBN.out.symm⟩, HM⟩
                        case measure => simp [intOf]; omega
                      · rw [if_neg c2] at hbn
                        have HBN := Aside0.mk hbn
                        have c2b : (b == -2) = false := by simp [c2]
                        have HOB2 : Aside0 (Okn nx.length idi b) := ⟨by
                          have := (best_all hpi.out.tree (hs.take k.toNat) (fun g hg' => hdn.out g (List.mem_of_mem_take hg'))).ok (by rw [← HBE.out]; exact c2)
                          rw [HBE.out]; exact this⟩
                        clear hbn c2
                        go_wp2_with fail
                        have hcI : Kd.C (Kd.int .i64) wr (some ⟨ig, 0, none⟩) nx.length idi := by
                          have := (Kd.R_reads' HM.out.idom).2.2
                          rwa [hpi.out.tree.len] at this
                        refine (f66_any og nx.length _ _ AP kP _ kI place idi b h wr (blk_below HOB.out HM.out.below) (Kd.C_below HCP.out HM.out.below) hcI hpi.out.tree HOB2.out HOK.out).mono ?_
                        rintro e w5 ⟨rfl, hb5⟩
                        have HM5 := Aside0.mk (HM.out.on hb5)
                        clear hb5 hcI hic hc
                        obtain ⟨r, hr⟩ : ∃ r, r = meetT place idi b h := ⟨_, rfl⟩
                        rw [← hr]
                        have HBN2 : Aside0 (r = bestC place idi (hs.take (k + 1).toNat)) := ⟨by rw [hr]; exact HBN.out.symm⟩
                        clear hr HBN
                        go_wp2_with fail
                        go_roundw
                        case rel => exact ⟨k + 1, r, rfl, rfl, by omega, by omega, HBN2, HM5⟩
                        case measure => simp [intOf]; omega
                  · have HBE2 : Aside0 (b = bestC place idi (headsAt heads x)) := ⟨by
                      have h := HBE.out
                      rw [show k.toNat = hs.length from by omega, List.take_length, HHS.out] at h
                      exact h⟩
                    clear HBE
                    obtain ⟨hic, hif⟩ := R_celli HM.out.idom x hx0 hx1
                    by_cases c1 : b = rd idi x
                    · have c1b : (b != rd idi x) = false := by simp [c1]
                      have hsame : Aside0 (passN st place heads list (i.toNat + 1) id = idi) := ⟨by
                        rw [hps2.out, ← HBE2.out, c1]; exact set_same idi x hx0 (by rw [hpi.out.tree.len]; exact hx1)⟩
                      obtain ⟨u, hu⟩ : ∃ u, u = rd idi x := ⟨_, rfl⟩
                      rw [← hu] at hic c1b
                      clear hu c1
                      go_wp2_with fail
                      go_roundw
                      case rel => exact ⟨ch, i + 1, idi, rfl, rfl, by omega, by omega, ⟨by rw [show (i + 1).toNat = i.toNat + 1 from by omega]; exact hsame.out.symm⟩, HM, ⟨by rw [show (i + 1).toNat = i.toNat + 1 from by omega]; exact ch_same HCH2.out (by rw [hsame.out, HID.out])⟩⟩
                      case measure => simp [intOf]; omega
                    · have c1b : (b != rd idi x) = true := by simp [c1]
                      have hnew : Aside0 (ChOk st place heads list id (i.toNat + 1) true) := ⟨ch_new (fun y hy => by rw [HR.out.inv.tree.len]; exact Reach.lt HG.out ((HO.out.mem y).1 hy)) HO.out.nodup HXG.out HST.out (by rw [← HID.out, ← HBE2.out]; exact c1)⟩
                      obtain ⟨u, hu⟩ : ∃ u, u = rd idi x := ⟨_, rfl⟩
                      rw [← hu] at hic c1b
                      clear hu c1
                      have HM6 := Aside0.mk (HM.out.putI x b)
                      go_wp2_with fail
                      go_roundw
                      case rel => exact ⟨true, i + 1, idi.set x.toNat b, rfl, rfl, by omega, by omega, ⟨by rw [show (i + 1).toNat = i.toNat + 1 from by omega, hps2.out, ← HBE2.out]⟩, HM6, ⟨by rw [show (i + 1).toNat = i.toNat + 1 from by omega]; exact hnew.out⟩⟩
                      case measure => simp [intOf]; omega
            · have hie : i.toNat = list.length := by omega
              have HR2 : Aside0 (RoundOk nx st place heads list M (m + 1) idi ch) := ⟨by
                have h := HCH2.out
                have h2 := HID.out
                rw [hie] at h h2
                rw [h2]
                exact round_next HG.out HO.out HEND.out HR.out h⟩
              clear hie HCH2 HID
              go_wp2_with fail
              go_roundg (M - m)
              case measure => have := HK.out trivial; have := HR.out.le rfl; omega
              case rel => exact ⟨ch, m + 1, idi, rfl, HM, HR2, ⟨fun e => by have := HR2.out.le e; omega⟩⟩
end Go.Proofs.Ytgbmebnfbhdpiaa
