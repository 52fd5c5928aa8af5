/- The walk of the law DomHolds: it is true of every net, by any weights. -/
import Derived.Test.YtgbmebnfbhdpiaaTreeF
import Derived.Test.YtgbmebnfbhdpiaaToldF
set_option linter.unusedSimpArgs false
set_option linter.unusedVariables false
namespace Go.Proofs.Ytgbmebnfbhdpiaa
open Go.RowKit Go.Proofs.YtgbmebnfbhdpiaaW.PrintWords Go.Proofs.YtgbmebnfbhdpiaaW.PrintLast

/-- Each net that may be has closest nodes: the walk of Idom has shown it. -/
theorem idomX_net {A0 : Option Addr} {c0 : Nat} {A1 : Option Addr} {c1 : Nat} {nx : List (List Int)} {st : List Int} {w : World} (hn : NetC w A0 c0 A1 c1 nx st) (hok : netOk nx st = true) : IdomX nx st (idomA nx st) := by
  obtain ⟨e, w', fr, ⟨v, _, _, _, h⟩, _⟩ := f13_any A0 c0 A1 c1 nx st w hn []
  exact h hok
theorem w_bounds {nx : List (List Int)} {ws : List Int} (h : wOk nx ws = true) : ws.length = nx.length ∧ ∀ x : Int, 0 ≤ rd ws x ∧ rd ws x ≤ 1048576 := by
  unfold wOk at h
  rw [Bool.and_eq_true, decide_eq_true_eq, Bool.not_eq_true'] at h
  refine ⟨h.1, fun x => ?_⟩
  by_cases c : x.toNat < ws.length
  · have hm : rd ws x ∈ ws := by
      unfold rd; rw [List.getD_eq_getElem?_getD, List.getElem?_eq_getElem c]; simp
    have := List.any_eq_false.1 h.2 _ hm
    simp [badW] at this
    omega
  · have : rd ws x = 0 := by
      unfold rd; rw [List.getD_eq_getElem?_getD, List.getElem?_eq_none (by omega)]; rfl
    omega
theorem retL_rd (nx : List (List Int)) (st ws : List Int) {a : Int} (h0 : 0 ≤ a) (h1 : a < nx.length) : rd (retL nx st ws) a = retW nx st ws a := by
  unfold rd retL
  rw [List.getD_eq_getElem?_getD, List.getElem?_map, List.getElem?_range (by omega)]
  simp only [Option.map_some, Option.getD_some]
  rw [Int.toNat_of_nonneg h0]
theorem retL_len (nx : List (List Int)) (st ws : List Int) : (retL nx st ws).length = nx.length := by simp [retL]
section
variable {nx : List (List Int)} {st id : List Int}
theorem kids_gone (hg : Good nx st) (h : IdomX nx st id) {a : Int} (h0 : 0 ≤ a) (hr : ¬ Reach nx st (-1) a) : kidsN id a nx.length = [] := by
  rw [List.eq_nil_iff_forall_not_mem]
  intro k hk
  obtain ⟨k0, k1, k2⟩ := (kidsN_mem id a nx.length k).1 hk
  have hd := (h.dom_up hg k0 k1 (by omega)).1
  rw [k2] at hd
  exact hr (dom_reached hd)
/-- What a node holds, whether it is reached or not. -/
theorem holds_node (hg : Good nx st) (h : IdomX nx st id) (ws : List Int) {a : Int} (h0 : 0 ≤ a) {b : Bool} (hb : b = true ↔ Reach nx st (-1) a) :
    retW nx st ws a = (if b = true then rd ws a else 0) + sumL (retW nx st ws) (kidsN id a nx.length) := by
  cases hc : b
  · have hn : ¬ Reach nx st (-1) a := fun e => by rw [hc] at hb; exact absurd (hb.2 e) (by decide)
    rw [retW_none ws hn, kids_gone hg h h0 hn]
    rfl
  · rw [if_pos rfl]; exact retW_eq hg h ws (hb.1 hc)
/-- The root's hold all that is reached. -/
theorem holds_all (hg : Good nx st) (h : IdomX nx st id) (ws : List Int) {p : Int → Bool} (hp : ∀ x : Int, 0 ≤ x → x < nx.length → (p x = true ↔ Reach nx st (-1) x)) :
    sumIf p ws nx.length = sumL (retW nx st ws) (kidsN id (-1) nx.length) := by
  rw [sum_kids hg h ws (.inr rfl) _ (kidsN_nodup id (-1) nx.length) (fun k hk => (kidsN_mem id (-1) nx.length k).1 hk)]
  refine sumIf_congr nx.length (fun x h0 h1 => ?_)
  rw [Bool.eq_iff_iff, hp x h0 h1, List.any_eq_true]
  constructor
  · intro hx
    obtain ⟨r, hr, hd⟩ := under_root hg h hx
    exact ⟨r, hr, domC_iff.2 hd⟩
  · rintro ⟨r, hr, hd⟩
    have := domC_iff.1 hd
    exact this.1
theorem sumL_take_bound (hg : Good nx st) (h : IdomX nx st id) {ws : List Int} (hw : ∀ x : Int, 0 ≤ rd ws x ∧ rd ws x ≤ 1048576) {a : Int} (ha : 0 ≤ a ∨ a = -1) (i : Nat) :
    0 ≤ sumL (retW nx st ws) ((kidsN id a nx.length).take i) ∧ sumL (retW nx st ws) ((kidsN id a nx.length).take i) ≤ nx.length * 1048576 := by
  rw [sum_kids hg h ws ha _ (List.Nodup.sublist (List.take_sublist _ _) (kidsN_nodup id a nx.length)) (fun k hk => (kidsN_mem id a nx.length k).1 (List.mem_of_mem_take hk))]
  exact sumIf_bound hw nx.length
theorem take_next {l : List Int} {c : Int} (h0 : 0 ≤ c) (h1 : c < l.length) : l.take (c + 1).toNat = l.take c.toNat ++ [rd l c] := by
  rw [show (c + 1).toNat = c.toNat + 1 from by omega, List.take_succ_eq_append_getElem (by omega)]
  simp [rd, List.getD_eq_getElem?_getD, List.getElem?_eq_getElem (by omega : c.toNat < l.length)]
end

set_option maxRecDepth 100000 in
set_option maxHeartbeats 8000000 in
theorem f5_any (A0 : Option Addr) (c0 : Nat) (A1 : Option Addr) (c1 : Nat) (A2 : Option Addr) (c2 : Nat) (nx : List (List Int)) (st ws : List Int) (w : World) (hn : NetC w A0 c0 A1 c1 nx st) (hw : Kd.C (Kd.int .i64) w A2 ws.length ws) :
    Calls Try.prog 5 #[.agg #[.slice A0 nx.length c0, .slice A1 st.length c1], .slice A2 ws.length c2] w fun e w' => e = .returned (.bool true) ∧ Below w.heap.size w w' := by
  have HN := Aside0.mk hn
  have HW := Aside0.mk hw
  have hL0 : nx.length ≤ 9223372036854775807 := hn.next.2.1
  have hL2 : ws.length ≤ 9223372036854775807 := hw.2.1
  clear hn hw
  have HB0 : Aside0 (∀ cs : Array Value, Below w.heap.size w (w.alloc (.cells cs 25))) := ⟨fun _ => (Below.refl _ _).alloc (Nat.le_refl _) _⟩
  go_enter Try.func5, Try.ntmps5
  go_wp2_with fail
  refine (f11_any _).mono ?_
  rintro e w1 ⟨rfl, hb⟩
  obtain ⟨hbk, hz, hb1⟩ := boxed hb
  obtain ⟨hn0, hn1⟩ := box2 hbk
  have HB1 := Aside0.mk hb1
  have HBK := Aside0.mk hbk
  clear hb hb1 hbk
  go_wp2_with fail
  refine (f12_any A0 c0 A1 c1 nx st _ (HN.out.below HB1.out)).mono ?_
  rintro e w2 ⟨fb, rfl, hb⟩
  have HB2 := Aside0.mk (below_trans HB1.out hb)
  have HBK2 := Aside0.mk (blk_below HBK.out hb)
  clear hb hn0 hn1
  obtain ⟨hn0, hn1⟩ := box2 HBK2.out
  cases fb
  · go_wp2_with fail
    refine (f11_any _).mono ?_
    rintro e w3 ⟨rfl, hb⟩
    have HB3 := Aside0.mk (below_trans HB2.out hb)
    clear hb
    go_wp2_with fail
    go_ret
    exact ⟨rfl, HB3.out⟩
  by_cases h400 : ((ws.length : Int) > 400)
  · have h400b : decide ((ws.length : Int) > 400) = true := decide_eq_true h400
    go_wp2_with fail
    refine (f11_any _).mono ?_
    rintro e w3 ⟨rfl, hb⟩
    have HB3 := Aside0.mk (below_trans HB2.out hb)
    clear hb
    go_wp2_with fail
    go_ret
    exact ⟨rfl, HB3.out⟩
  have h400b : decide ((ws.length : Int) > 400) = false := decide_eq_false h400
  clear h400
  go_wp2_with fail
  refine (f19_any A0 c0 A1 c1 A2 c2 nx st ws _ (HN.out.below HB2.out) (Kd.C_below HW.out HB2.out)).mono ?_
  rintro e w3 ⟨vr, rfl, hr, hb⟩
  have HRW := Aside0.mk hr
  have HB3 := Aside0.mk (below_trans HB2.out hb)
  have HBK3 := Aside0.mk (blk_below HBK2.out hb)
  clear hb hr hn0 hn1 h400b
  obtain ⟨hn0, hn1⟩ := box2 HBK3.out
  go_wp2_with fail
  refine (f22_any A0 c0 A1 c1 nx st _ (HN.out.below HB3.out)).mono ?_
  rintro e w4 ⟨vs, rfl, hr, hb⟩
  have HRS := Aside0.mk hr
  have HRW4 := Aside0.mk (Kd.R_below HRW.out hb)
  have HB4 := Aside0.mk (below_trans HB3.out hb)
  have HBK4 := Aside0.mk (blk_below HBK3.out hb)
  clear hb hr hn0 hn1 HRW
  obtain ⟨hn0, hn1⟩ := box2 HBK4.out
  obtain ⟨AW, kW, eW⟩ := Kd.R_slice HRW4.out
  by_cases hok : netOk nx st = true
  case neg =>
    rw [Bool.not_eq_true] at hok
    rw [(ret_bad (ws := ws) hok).2] at eW
    subst eW
    rw [(ret_bad hok).1, checkE_bad hok]
    go_wp2_with fail
    go_ret
    exact ⟨rfl, HB4.out⟩
  by_cases hwk : wOk nx ws = true
  case neg =>
    rw [Bool.not_eq_true] at hwk
    rw [(ret_arg hok hwk).2] at eW
    subst eW
    rw [(ret_arg hok hwk).1, checkE_ok hok]
    go_wp2_with fail
    go_ret
    exact ⟨rfl, HB4.out⟩
  rw [(ret_ok hok hwk).2, retL_len] at eW
  subst eW
  rw [(ret_ok hok hwk).1, checkE_ok hok]
  have hr1 := HRW4.out
  rw [(ret_ok hok hwk).2] at hr1
  have hr2 := HRS.out
  rw [reachA_ok hok] at hr2
  obtain ⟨AS, kS, eS⟩ := Kd.R_slice hr2
  rw [reachB_len] at eS
  subst eS
  have hci := (Kd.R_reads' hr1).2.2
  have hcs := (Kd.R_reads' hr2).2.2
  rw [retL_len] at hci
  rw [reachB_len] at hcs
  have HCI := Aside0.mk hci
  have HCS := Aside0.mk hcs
  clear hci hcs hr1 hr2 HRS HRW4
  have HOK := Aside0.mk hok
  have HG := Aside0.mk (good_of_ok hok)
  have hnl := HG.out.len
  have HX := Aside0.mk (idomX_net HN.out hok)
  obtain ⟨hwl, hwb⟩ := w_bounds hwk
  have HWB := Aside0.mk hwb
  clear hwb hwk
  obtain ⟨sn, hsn⟩ : ∃ sn, sn = reachB nx st (-1) := ⟨_, rfl⟩
  rw [← hsn] at HCS
  have HSN : Aside0 (∀ x : Int, 0 ≤ x → x < nx.length → (rdOf false sn x = true ↔ Reach nx st (-1) x)) := ⟨fun x h0 h1 => by rw [hsn]; exact rdOf_reachB nx st (-1) x h0 h1⟩
  clear hsn
  obtain ⟨F, hF⟩ : ∃ F, F = retW nx st ws := ⟨_, rfl⟩
  have HCW := HW.out
  rw [hwl] at HCW
  replace HCW := Aside0.mk HCW
  have HRD : Aside0 (∀ x : Int, 0 ≤ x → x < nx.length → rd (retL nx st ws) x = F x) := ⟨fun x h0 h1 => by rw [hF]; exact retL_rd nx st ws h0 h1⟩
  have HND : Aside0 (∀ a : Int, 0 ≤ a → a < nx.length → F a = (if rdOf false sn a = true then rd ws a else 0) + sumL F (kidsL nx st a)) := ⟨fun a h0 h1 => by
    rw [hF, kidsL_ok HOK.out (by simp [inNet]; omega)]
    exact holds_node HG.out HX.out ws h0 (HSN.out a h0 h1)⟩
  have HAL : Aside0 (sumIf (rdOf false sn) ws nx.length = sumL F (kidsL nx st (-1))) := ⟨by
    rw [hF, kidsL_ok HOK.out (by simp)]
    exact holds_all HG.out HX.out ws HSN.out⟩
  have HSB : Aside0 (∀ (a : Int) (i : Nat), ((0 ≤ a ∧ a < nx.length) ∨ a = -1) → 0 ≤ sumL F ((kidsL nx st a).take i) ∧ sumL F ((kidsL nx st a).take i) ≤ 8589934592) := ⟨fun a i h => by
    have h2 : (a == -1 || inNet nx a) = true := by simp [inNet]; omega
    rw [hF, kidsL_ok HOK.out h2]
    have := sumL_take_bound HG.out HX.out HWB.out (a := a) (by omega) i
    omega⟩
  have HFB : Aside0 (∀ x : Int, 0 ≤ F x ∧ F x ≤ 8589934592) := ⟨fun x => by
    rw [hF]
    have := sumIf_bound (p := domC nx st x) HWB.out nx.length
    unfold retW
    omega⟩
  have HIB : Aside0 (∀ i : Nat, i ≤ nx.length → 0 ≤ sumIf (rdOf false sn) ws i ∧ sumIf (rdOf false sn) ws i ≤ 8589934592) := ⟨fun i hi => by
    have := sumIf_bound (p := rdOf false sn) HWB.out i
    omega⟩
  have HKL : Aside0 (∀ a : Int, ((0 ≤ a ∧ a < nx.length) ∨ a = -1) → (kidsL nx st a).length ≤ 8192 ∧ ∀ k ∈ kidsL nx st a, 0 ≤ k ∧ k < nx.length) := ⟨fun a h => by
    have h2 : (a == -1 || inNet nx a) = true := by simp [inNet]; omega
    rw [kidsL_ok HOK.out h2]
    refine ⟨?_, fun k hk => ?_⟩
    · have := kidsN_len (idomA nx st) a nx.length; omega
    · have := (kidsN_mem _ _ _ _).1 hk; omega⟩
  have hll : ((nx.length : Int) != nx.length) = false := by simp
  clear hF hok
  go_wp2_with fail
  clear hn0 hn1 hll
  obtain ⟨wo, rfl⟩ : ∃ wo : World, wo = w4 := ⟨_, rfl⟩
  go_loopw [64, 9] (fun v64 v9 wr => ∃ a : Int, v64 = .int .i64 a ∧ 0 ≤ a ∧ a ≤ nx.length ∧ v9 = .int .i64 (sumIf (rdOf false sn) ws a.toNat) ∧ Aside0 (Below wo.heap.size wo wr)) (fun v _ _ => nx.length - (intOf v).toNat)
  case atStart => exact ⟨0, rfl, by omega, by omega, rfl, ⟨Below.refl _ _⟩⟩
  case round =>
    obtain ⟨a, rfl, ha0, ha1, rfl, HBW⟩ := hrel
    obtain ⟨T, hT⟩ : ∃ T, T = sumIf (rdOf false sn) ws a.toNat := ⟨_, rfl⟩
    have hTb : 0 ≤ T ∧ T ≤ 8589934592 := by rw [hT]; exact HIB.out a.toNat (by omega)
    rw [← hT]
    obtain ⟨hn0, hn1⟩ := box2 (blk_below HBK4.out HBW.out)
    by_cases hal : a < nx.length
    case pos =>
      have hTn : Aside0 (sumIf (rdOf false sn) ws (a + 1).toNat = T + (if rdOf false sn a = true then rd ws a else 0)) := ⟨by
        rw [show (a + 1).toNat = a.toNat + 1 from by omega, hT]
        simp only [sumIf]
        rw [Int.toNat_of_nonneg ha0]⟩
      have HTB2 := HIB.out (a + 1).toNat (by omega)
      rw [hTn.out] at HTB2
      clear hT
      obtain ⟨ads, e, hsc⟩ := Kd.at_bool (Kd.C_below HCS.out HBW.out) a ha0 hal
      cases e
      obtain ⟨adw, e, hwc⟩ := Kd.at_int (Kd.C_below HCW.out (below_trans HB4.out HBW.out)) a ha0 hal
      cases e
      obtain ⟨adr, e, hrc⟩ := Kd.at_int (Kd.C_below HCI.out HBW.out) a ha0 hal
      cases e
      rw [HRD.out a ha0 hal] at hrc
      have hnd := HND.out a ha0 hal
      have hkl := HKL.out a (.inl ⟨ha0, hal⟩)
      have HKM := Aside0.mk hkl.2
      have hk8 := hkl.1
      clear hkl
      have HSBA := Aside0.mk (fun i => HSB.out a i (.inl ⟨ha0, hal⟩))
      obtain ⟨ks, hks⟩ : ∃ ks, ks = kidsL nx st a := ⟨_, rfl⟩
      obtain ⟨x, hx⟩ : ∃ x, x = rd ws a := ⟨_, rfl⟩
      have hxb : 0 ≤ x ∧ x ≤ 1048576 := by rw [hx]; exact HWB.out a
      rw [← hx] at hwc hnd hTn HTB2
      rw [← hks] at hnd HKM hk8 HSBA
      clear hx
      have HKS := Aside0.mk hks
      have HTN := Aside0.mk hTn.out
      have HND1 := Aside0.mk hnd
      clear hks hTn hnd
      obtain ⟨s, hs⟩ : ∃ s, s = rdOf false sn a := ⟨_, rfl⟩
      rw [← hs] at hsc HTN HND1 HTB2
      clear hs
      cases s
      · clear HTB2
        go_wp2_with fail
        refine (f18_any A0 c0 A1 c1 nx st a _ (HN.out.below (below_trans HB4.out HBW.out))).mono ?_
        rintro e w5 ⟨Bs, rfl, hv, hb⟩
        rw [← HKS.out] at hv
        have HV := Aside0.mk hv
        have HB5 := Aside0.mk hb
        clear hv hb
        go_wp2_with fail
        refine (f17_any _ Bs ks 1048576 _ HV.out hk8).mono ?_
        rintro e w6 ⟨v6, rfl, hr, hb⟩
        rw [List.take_of_length_le (by rw [show (1048576 : Int).toNat = 1048576 from rfl]; omega)] at hr
        obtain ⟨A6, k6, e6⟩ := Kd.R_slice hr
        subst e6
        have hcr := (Kd.R_reads' hr).2.2
        have HCR := Aside0.mk hcr
        have HB6 := Aside0.mk (below_trans (below_trans HBW.out HB5.out) hb)
        clear hr hb hcr HV hn0 hn1 hsc hwc hrc
        have hkl2 : ks.length ≤ 9223372036854775807 := by omega
        go_wp2_with fail
        obtain ⟨wp, hwp⟩ : ∃ wp : World, wp = w6 := ⟨_, rfl⟩
        subst hwp
        go_loopw [83, 11] (fun v83 v11 wq => ∃ c : Int, v83 = .int .i64 c ∧ 0 ≤ c ∧ c ≤ ks.length ∧ v11 = .int .i64 (0 + sumL F (ks.take c.toNat)) ∧ Aside0 (Below wp.heap.size wp wq)) (fun v _ _ => ks.length - (intOf v).toNat)
        case atStart => exact ⟨0, rfl, by omega, by omega, by simp [sumL], ⟨Below.refl _ _⟩⟩
        case round =>
          obtain ⟨c, rfl, hc0, hc1, rfl, HBQ⟩ := hrel
          have HBA := Aside0.mk (below_trans HB6.out HBQ.out)
          have hsb := HSBA.out c.toNat
          by_cases hcl : c < ks.length
          case pos =>
            have hkm := HKM.out _ (rd_mem hc0 hcl)
            have hsn2 := HSBA.out (c + 1).toNat
            have hnx : sumL F (ks.take (c + 1).toNat) = sumL F (ks.take c.toNat) + F (rd ks c) := by rw [take_next hc0 hcl, sumL_snoc]
            have hfb := HFB.out (rd ks c)
            obtain ⟨adk, e, hkc⟩ := Kd.at_int (Kd.C_below HCR.out HBQ.out) c hc0 hcl
            cases e
            obtain ⟨k, hk⟩ : ∃ k, k = rd ks c := ⟨_, rfl⟩
            rw [← hk] at hkm hnx hkc hfb
            clear hk
            obtain ⟨adf, e, hfc⟩ := Kd.at_int (Kd.C_below HCI.out HBA.out) k hkm.1 hkm.2
            cases e
            rw [HRD.out k hkm.1 hkm.2] at hfc
            have HNX := Aside0.mk hnx
            clear hnx
            obtain ⟨y, hy⟩ : ∃ y, y = F k := ⟨_, rfl⟩
            rw [← hy] at hfc HNX hfb
            clear hy
            obtain ⟨z, hz⟩ : ∃ z, z = 0 + sumL F (ks.take c.toNat) := ⟨_, rfl⟩
            have HZ := Aside0.mk hz
            have hzb : 0 ≤ z ∧ z ≤ 17179869184 := by rw [hz]; omega
            rw [← hz]
            clear hz hsb hsn2
            have hkl3 : k < 9223372036854775807 := by omega
            go_wp2_with fail
            go_roundw
            case rel => exact ⟨c + 1, rfl, by omega, by omega, by rw [HNX.out, HZ.out]; simp <;> omega, HBQ⟩
            case measure => simp [intOf]; omega
          case neg =>
            have hce : ks.take c.toNat = ks := List.take_of_length_le (by omega)
            obtain ⟨adr, e, hrc⟩ := Kd.at_int (Kd.C_below HCI.out HBA.out) a ha0 hal
            cases e
            rw [HRD.out a ha0 hal] at hrc
            rw [hce]
            have hee : 0 + sumL F ks = F a := by have := HND1.out; simp at this ⊢; omega
            rw [hee]
            have hne : (F a != F a) = false := by simp
            go_wp2_with fail
            go_roundw
            case rel => exact ⟨a + 1, rfl, by omega, by omega, by rw [HTN.out]; simp, HBA⟩
            case measure => simp [intOf]; omega
      · clear HTB2
        go_wp2_with fail
        refine (f18_any A0 c0 A1 c1 nx st a _ (HN.out.below (below_trans HB4.out HBW.out))).mono ?_
        rintro e w5 ⟨Bs, rfl, hv, hb⟩
        rw [← HKS.out] at hv
        have HV := Aside0.mk hv
        have HB5 := Aside0.mk hb
        clear hv hb
        go_wp2_with fail
        refine (f17_any _ Bs ks 1048576 _ HV.out hk8).mono ?_
        rintro e w6 ⟨v6, rfl, hr, hb⟩
        rw [List.take_of_length_le (by rw [show (1048576 : Int).toNat = 1048576 from rfl]; omega)] at hr
        obtain ⟨A6, k6, e6⟩ := Kd.R_slice hr
        subst e6
        have hcr := (Kd.R_reads' hr).2.2
        have HCR := Aside0.mk hcr
        have HB6 := Aside0.mk (below_trans (below_trans HBW.out HB5.out) hb)
        clear hr hb hcr HV hn0 hn1 hsc hwc hrc
        have hkl2 : ks.length ≤ 9223372036854775807 := by omega
        go_wp2_with fail
        obtain ⟨wp, hwp⟩ : ∃ wp : World, wp = w6 := ⟨_, rfl⟩
        subst hwp
        go_loopw [83, 11] (fun v83 v11 wq => ∃ c : Int, v83 = .int .i64 c ∧ 0 ≤ c ∧ c ≤ ks.length ∧ v11 = .int .i64 (x + sumL F (ks.take c.toNat)) ∧ Aside0 (Below wp.heap.size wp wq)) (fun v _ _ => ks.length - (intOf v).toNat)
        case atStart => exact ⟨0, rfl, by omega, by omega, by simp [sumL], ⟨Below.refl _ _⟩⟩
        case round =>
          obtain ⟨c, rfl, hc0, hc1, rfl, HBQ⟩ := hrel
          have HBA := Aside0.mk (below_trans HB6.out HBQ.out)
          have hsb := HSBA.out c.toNat
          by_cases hcl : c < ks.length
          case pos =>
            have hkm := HKM.out _ (rd_mem hc0 hcl)
            have hsn2 := HSBA.out (c + 1).toNat
            have hnx : sumL F (ks.take (c + 1).toNat) = sumL F (ks.take c.toNat) + F (rd ks c) := by rw [take_next hc0 hcl, sumL_snoc]
            have hfb := HFB.out (rd ks c)
            obtain ⟨adk, e, hkc⟩ := Kd.at_int (Kd.C_below HCR.out HBQ.out) c hc0 hcl
            cases e
            obtain ⟨k, hk⟩ : ∃ k, k = rd ks c := ⟨_, rfl⟩
            rw [← hk] at hkm hnx hkc hfb
            clear hk
            obtain ⟨adf, e, hfc⟩ := Kd.at_int (Kd.C_below HCI.out HBA.out) k hkm.1 hkm.2
            cases e
            rw [HRD.out k hkm.1 hkm.2] at hfc
            have HNX := Aside0.mk hnx
            clear hnx
            obtain ⟨y, hy⟩ : ∃ y, y = F k := ⟨_, rfl⟩
            rw [← hy] at hfc HNX hfb
            clear hy
            obtain ⟨z, hz⟩ : ∃ z, z = x + sumL F (ks.take c.toNat) := ⟨_, rfl⟩
            have HZ := Aside0.mk hz
            have hzb : 0 ≤ z ∧ z ≤ 17179869184 := by rw [hz]; omega
            rw [← hz]
            clear hz hsb hsn2
            have hkl3 : k < 9223372036854775807 := by omega
            go_wp2_with fail
            go_roundw
            case rel => exact ⟨c + 1, rfl, by omega, by omega, by rw [HNX.out, HZ.out]; simp <;> omega, HBQ⟩
            case measure => simp [intOf]; omega
          case neg =>
            have hce : ks.take c.toNat = ks := List.take_of_length_le (by omega)
            obtain ⟨adr, e, hrc⟩ := Kd.at_int (Kd.C_below HCI.out HBA.out) a ha0 hal
            cases e
            rw [HRD.out a ha0 hal] at hrc
            rw [hce]
            have hee : x + sumL F ks = F a := by have := HND1.out; simp at this ⊢; omega
            rw [hee]
            have hne : (F a != F a) = false := by simp
            go_wp2_with fail
            go_roundw
            case rel => exact ⟨a + 1, rfl, by omega, by omega, by rw [HTN.out]; simp, HBA⟩
            case measure => simp [intOf]; omega
    case neg =>
      have hae : a = nx.length := by omega
      have hAL := HAL.out
      have hTe : T = sumL F (kidsL nx st (-1)) := by rw [hT, hae, Int.toNat_natCast]; exact hAL
      have hkl := HKL.out (-1) (.inr rfl)
      have HKM := Aside0.mk hkl.2
      have hk8 := hkl.1
      clear hkl hT hAL
      have HSBA := Aside0.mk (fun i => HSB.out (-1) i (.inr rfl))
      obtain ⟨ks, hks⟩ : ∃ ks, ks = kidsL nx st (-1) := ⟨_, rfl⟩
      rw [← hks] at hTe HKM hk8 HSBA
      have HKS := Aside0.mk hks
      have HTE := Aside0.mk hTe
      clear hks hTe hae
      go_wp2_with fail
      refine (f18_any A0 c0 A1 c1 nx st (-1) _ (HN.out.below (below_trans HB4.out HBW.out))).mono ?_
      rintro e w5 ⟨Bs, rfl, hv, hb⟩
      rw [← HKS.out] at hv
      have HV := Aside0.mk hv
      have HB5 := Aside0.mk hb
      clear hv hb
      go_wp2_with fail
      refine (f17_any _ Bs ks 1048576 _ HV.out hk8).mono ?_
      rintro e w6 ⟨v6, rfl, hr, hb⟩
      rw [List.take_of_length_le (by rw [show (1048576 : Int).toNat = 1048576 from rfl]; omega)] at hr
      obtain ⟨A6, k6, e6⟩ := Kd.R_slice hr
      subst e6
      have hcr := (Kd.R_reads' hr).2.2
      have HCR := Aside0.mk hcr
      have HB6 := Aside0.mk (below_trans (below_trans HBW.out HB5.out) hb)
      clear hr hb hcr HV hn0 hn1
      have hkl2 : ks.length ≤ 9223372036854775807 := by omega
      go_wp2_with fail
      obtain ⟨wp, hwp⟩ : ∃ wp : World, wp = w6 := ⟨_, rfl⟩
      subst hwp
      go_loopw [105, 9] (fun v105 v9 wq => ∃ c : Int, v105 = .int .i64 c ∧ 0 ≤ c ∧ c ≤ ks.length ∧ v9 = .int .i64 (T - sumL F (ks.take c.toNat)) ∧ Aside0 (Below wp.heap.size wp wq)) (fun v _ _ => ks.length - (intOf v).toNat)
      case atStart => exact ⟨0, rfl, by omega, by omega, by simp [sumL], ⟨Below.refl _ _⟩⟩
      case round =>
        obtain ⟨c, rfl, hc0, hc1, rfl, HBQ⟩ := hrel
        have HBA := Aside0.mk (below_trans HB6.out HBQ.out)
        have hsb := HSBA.out c.toNat
        by_cases hcl : c < ks.length
        case pos =>
          have hkm := HKM.out _ (rd_mem hc0 hcl)
          have hsn2 := HSBA.out (c + 1).toNat
          have hnx : sumL F (ks.take (c + 1).toNat) = sumL F (ks.take c.toNat) + F (rd ks c) := by rw [take_next hc0 hcl, sumL_snoc]
          have hfb := HFB.out (rd ks c)
          obtain ⟨adk, e, hkc⟩ := Kd.at_int (Kd.C_below HCR.out HBQ.out) c hc0 hcl
          cases e
          obtain ⟨k, hk⟩ : ∃ k, k = rd ks c := ⟨_, rfl⟩
          rw [← hk] at hkm hnx hkc hfb
          clear hk
          obtain ⟨adf, e, hfc⟩ := Kd.at_int (Kd.C_below HCI.out HBA.out) k hkm.1 hkm.2
          cases e
          rw [HRD.out k hkm.1 hkm.2] at hfc
          have HNX := Aside0.mk hnx
          clear hnx
          obtain ⟨y, hy⟩ : ∃ y, y = F k := ⟨_, rfl⟩
          rw [← hy] at hfc HNX hfb
          clear hy
          obtain ⟨z, hz⟩ : ∃ z, z = T - sumL F (ks.take c.toNat) := ⟨_, rfl⟩
          have HZ := Aside0.mk hz
          have hzb : -8589934592 ≤ z ∧ z ≤ 8589934592 := by rw [hz]; omega
          rw [← hz]
          clear hz hsb hsn2
          have hkl3 : k < 9223372036854775807 := by omega
          go_wp2_with fail
          go_roundw
          case rel => exact ⟨c + 1, rfl, by omega, by omega, by rw [HNX.out, HZ.out]; simp <;> omega, HBQ⟩
          case measure => simp [intOf]; omega
        case neg =>
          have hce : ks.take c.toNat = ks := List.take_of_length_le (by omega)
          have hz0 : T - sumL F (ks.take c.toNat) = 0 := by rw [hce, ← HTE.out]; omega
          rw [hz0]
          go_wp2_with fail
          go_ret
          exact ⟨rfl, below_trans HB4.out HBA.out⟩
end Go.Proofs.Ytgbmebnfbhdpiaa
