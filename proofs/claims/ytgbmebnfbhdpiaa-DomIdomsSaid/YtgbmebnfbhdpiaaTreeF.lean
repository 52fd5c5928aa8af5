/- The walk of the law DomTree: it is true of every net. -/
import Derived.Test.YtgbmebnfbhdpiaaBegunF
import Derived.Test.YtgbmebnfbhdpiaaFewF
set_option linter.unusedSimpArgs false
set_option linter.unusedVariables false
namespace Go.Proofs.Ytgbmebnfbhdpiaa
open Go.RowKit Go.Proofs.YtgbmebnfbhdpiaaW.PrintWords Go.Proofs.YtgbmebnfbhdpiaaW.PrintLast

/-- What is met while one goes up. -/
def Met (nx : List (List Int)) (st : List Int) (b at_ : Int) (M : List Bool) : Prop := M.length = nx.length ∧ at_ < nx.length ∧ -1 ≤ at_ ∧ (0 ≤ at_ → Dom nx st at_ b) ∧ ∀ x : Int, 0 ≤ x → x < nx.length → (rdOf false M x = true ↔ Dom nx st x b ∧ ¬ (0 ≤ at_ ∧ Dom nx st x at_))
theorem met_start {nx : List (List Int)} {st : List Int} {b : Int} (h0 : 0 ≤ b) (h1 : b < nx.length) (hr : Reach nx st (-1) b) : Met nx st b b (List.replicate nx.length false) := by
  refine ⟨by simp, h1, by omega, fun _ => Dom.self hr, fun x hx0 hx1 => ?_⟩
  have : rdOf false (List.replicate nx.length false) x = false := by
    unfold rdOf; rw [List.getD_eq_getElem?_getD, List.getElem?_replicate]; split <;> rfl
  rw [this]
  exact ⟨fun h => absurd h (by decide), fun h => absurd ⟨h0, h.1⟩ h.2⟩
theorem met_new {nx : List (List Int)} {st : List Int} {b a : Int} {M : List Bool} (h : Met nx st b a M) (h0 : 0 ≤ a) : rdOf false M a = false := by
  rw [← Bool.not_eq_true, h.2.2.2.2 a h0 h.2.1]
  rintro ⟨hd, hn⟩
  exact hn ⟨h0, Dom.self (dom_reached (h.2.2.2.1 h0))⟩
theorem met_step {nx : List (List Int)} {st id : List Int} (hg : Good nx st) (hx : IdomX nx st id) {b a : Int} {M : List Bool} (h : Met nx st b a M) (h0 : 0 ≤ a) : Met nx st b (rd id a) (M.set a.toNat true) := by
  obtain ⟨hl, ha1, ha2, hd, hm⟩ := h
  have hab := hd h0
  have har := dom_reached hab
  have hu := hx.up hg har
  refine ⟨by rw [List.length_set]; exact hl, hu.2.1, hu.1, fun hp => (hx.dom_up hg h0 ha1 hp).1.trans hab, fun x hx0 hx1 => ?_⟩
  rw [rdOf_set M a x h0 (by rw [hl]; exact ha1) hx0, hm x hx0 hx1]
  have hsplit : Dom nx st x a ↔ x = a ∨ (0 ≤ rd id a ∧ Dom nx st x (rd id a)) := by
    rw [← hx.anc x a har, anc_iff h0]
    constructor
    · rintro (e | ⟨e1, e2⟩)
      · exact .inl e
      · exact .inr ⟨e1, (hx.anc _ _ (hu.2.2.2 e1)).1 e2⟩
    · rintro (e | ⟨e1, e2⟩)
      · exact .inl e
      · exact .inr ⟨e1, (hx.anc _ _ (hu.2.2.2 e1)).2 e2⟩
  constructor
  · rintro (e | ⟨e1, e2⟩)
    · subst e
      refine ⟨hab, fun hc => ?_⟩
      have h3 := (hx.dom_up hg h0 ha1 hc.1)
      exact h3.2 (dom_antisymm h3.1 hc.2)
    · exact ⟨e1, fun hc => e2 ⟨h0, hsplit.2 (.inr hc)⟩⟩
  · rintro ⟨e1, e2⟩
    by_cases c : x = a
    · exact .inl c
    · exact .inr ⟨e1, fun hc => by
        rcases hsplit.1 hc.2 with e | e
        · exact c e
        · exact e2 e⟩

set_option maxRecDepth 100000 in
set_option maxHeartbeats 8000000 in
theorem f6_any (A0 : Option Addr) (c0 : Nat) (A1 : Option Addr) (c1 : Nat) (nx : List (List Int)) (st : List Int) (w : World) (hn : NetC w A0 c0 A1 c1 nx st) :
    Calls Try.prog 6 #[.agg #[.slice A0 nx.length c0, .slice A1 st.length c1]] w fun e w' => e = .returned (.bool true) ∧ Below w.heap.size w w' := by
  have HN := Aside0.mk hn
  have hL0 : nx.length ≤ 9223372036854775807 := hn.next.2.1
  clear hn
  have HB0 : Aside0 (∀ cs : Array Value, Below w.heap.size w (w.alloc (.cells cs 25))) := ⟨fun _ => (Below.refl _ _).alloc (Nat.le_refl _) _⟩
  go_enter Try.func6, Try.ntmps6
  go_wp2_with fail
  refine (f11_any _).mono ?_
  rintro e w1 ⟨rfl, hb⟩
  obtain ⟨hbk, hz, hb1⟩ := boxed hb
  obtain ⟨hn0, hn1⟩ := box2 hbk
  have HB1 := Aside0.mk hb1
  have HBK := Aside0.mk hbk
  clear hb hb1 hbk
  go_wp2_with fail
  refine (f12_any A0 c0 A1 c1 nx st _ (HN.out.below HB1.out)).mono ?_
  rintro e w2 ⟨fb, rfl, hb⟩
  have HB2 := Aside0.mk (below_trans HB1.out hb)
  have HBK2 := Aside0.mk (blk_below HBK.out hb)
  clear hb hn0 hn1
  obtain ⟨hn0, hn1⟩ := box2 HBK2.out
  cases fb
  · go_wp2_with fail
    refine (f11_any _).mono ?_
    rintro e w3 ⟨rfl, hb⟩
    have HB3 := Aside0.mk (below_trans HB2.out hb)
    clear hb
    go_wp2_with fail
    go_ret
    exact ⟨rfl, HB3.out⟩
  go_wp2_with fail
  refine (f23_any A0 c0 A1 c1 nx st _ (HN.out.below HB2.out)).mono ?_
  rintro e w3 ⟨rfl, hb⟩
  have HB3 := Aside0.mk (below_trans HB2.out hb)
  have HBK3 := Aside0.mk (blk_below HBK2.out hb)
  clear hb hn0 hn1
  obtain ⟨hn0, hn1⟩ := box2 HBK3.out
  by_cases hok : netOk nx st = true
  case neg =>
    rw [Bool.not_eq_true] at hok
    rw [checkE_bad hok]
    clear hok
    go_wp2_with fail
    refine (f11_any _).mono ?_
    rintro e w4 ⟨rfl, hb⟩
    have HB4 := Aside0.mk (below_trans HB3.out hb)
    clear hb
    go_wp2_with fail
    go_ret
    exact ⟨rfl, HB4.out⟩
  rw [checkE_ok hok]
  have HOK := Aside0.mk hok
  clear hok
  have HG := Aside0.mk (good_of_ok HOK.out)
  have hnl := HG.out.len
  go_wp2_with fail
  refine (f13_any A0 c0 A1 c1 nx st _ (HN.out.below HB3.out)).mono ?_
  rintro e w4 ⟨v, rfl, hr, hb, hix⟩
  have HX := Aside0.mk (hix HOK.out)
  clear hix
  rw [idomL_ok HOK.out] at hr
  rw [checkE_ok HOK.out]
  have HR4 := Aside0.mk hr
  have HB4 := Aside0.mk (below_trans HB3.out hb)
  have HBK4 := Aside0.mk (blk_below HBK3.out hb)
  clear hb hr hn0 hn1
  obtain ⟨hn0, hn1⟩ := box2 HBK4.out
  go_wp2_with fail
  refine (f22_any A0 c0 A1 c1 nx st _ (HN.out.below HB4.out)).mono ?_
  rintro e w5 ⟨v5, rfl, hr, hb⟩
  rw [reachA_ok HOK.out] at hr
  rw [checkE_ok HOK.out]
  have HR5 := Aside0.mk hr
  have HRI := Aside0.mk (Kd.R_below HR4.out hb)
  have HB5 := Aside0.mk (below_trans HB4.out hb)
  have HBK5 := Aside0.mk (blk_below HBK4.out hb)
  clear hb hr hn0 hn1 HR4
  obtain ⟨hn0, hn1⟩ := box2 HBK5.out
  obtain ⟨id, hid⟩ : ∃ id, id = idomA nx st := ⟨_, rfl⟩
  obtain ⟨sn, hsn⟩ : ∃ sn, sn = reachB nx st (-1) := ⟨_, rfl⟩
  rw [← hid] at HX HRI
  rw [← hsn] at HR5
  have hsl : sn.length = nx.length := by rw [hsn, reachB_len]
  have HSN : Aside0 (∀ x : Int, 0 ≤ x → x < nx.length → (rdOf false sn x = true ↔ Reach nx st (-1) x)) := ⟨fun x h0 h1 => by rw [hsn]; exact rdOf_reachB nx st (-1) x h0 h1⟩
  clear hid hsn
  obtain ⟨AI, kI, eI⟩ := Kd.R_slice HRI.out
  obtain ⟨AS, kS, eS⟩ := Kd.R_slice HR5.out
  rw [HX.out.len] at eI
  rw [hsl] at eS
  subst eI eS
  have hll : ((nx.length : Int) != nx.length) = false := by simp
  have hci := (Kd.R_reads' HRI.out).2.2
  have hcs := (Kd.R_reads' HR5.out).2.2
  rw [HX.out.len] at hci
  rw [hsl] at hcs
  have HCI := Aside0.mk hci
  have HCS := Aside0.mk hcs
  clear hci hcs HRI HR5
  obtain ⟨pl, hpl⟩ := HX.out.tree
  have HT := Aside0.mk hpl
  clear hpl
  go_wp2_with fail
  obtain ⟨wo, rfl⟩ : ∃ wo : World, wo = w5 := ⟨_, rfl⟩
  clear hn0 hn1
  go_loopw [58] (fun v58 wr => ∃ b : Int, v58 = .int .i64 b ∧ 0 ≤ b ∧ b ≤ nx.length ∧ Aside0 (Below wo.heap.size wo wr)) (fun v _ => nx.length - (intOf v).toNat)
  case atStart => exact ⟨0, rfl, by omega, by omega, ⟨Below.refl _ _⟩⟩
  case round =>
    obtain ⟨b, rfl, hb0, hb1, HBW⟩ := hrel
    by_cases hbl : b < nx.length
    case neg =>
      go_wp2_with fail
      go_ret
      exact ⟨rfl, below_trans HB5.out HBW.out⟩
    obtain ⟨ads, e, hsc⟩ := Kd.at_bool (Kd.C_below HCS.out HBW.out) b hb0 hbl
    cases e
    obtain ⟨adi, e, hic⟩ := Kd.at_int (Kd.C_below HCI.out HBW.out) b hb0 hbl
    cases e
    by_cases hr : Reach nx st (-1) b
    case neg =>
      have hsb : rdOf false sn b = false := by rw [← Bool.not_eq_true, HSN.out b hb0 hbl]; exact hr
      rw [hsb] at hsc
      rw [(HX.out.none b hb0 hbl).2 hr] at hic
      clear hr hsb
      go_wp2_with fail
      go_roundw
      case rel => exact ⟨b + 1, rfl, by omega, by omega, HBW⟩
      case measure => simp [intOf]; omega
    have hsb : rdOf false sn b = true := (HSN.out b hb0 hbl).2 hr
    rw [hsb] at hsc
    have HRB := Aside0.mk hr
    clear hr hsb hic
    go_wp2_with ((with_reducible refine gate_dst (N := 73) rfl ?_); go_loud (refine Kd.R_make Kd.bool (w0 := wr) wr.heap.size 4 rfl (N := 73) rfl 43 _ _ rfl (nx.length : Int) rfl rfl Try.underlying43 (.bool false) 1 info4 rfl (by decide) (by omega) false (ok := fun _ => True) (okp := fun _ => True) rfl (fun _ hk => hk) trivial (by omega) (by omega) (Below.refl _ _) (Nat.le_refl _) ?_; intro v73 w7 ho hb hgr hnew; clear hnew; obtain ⟨AM, kM, e73⟩ := Kd.R_slice ho; rw [List.length_replicate, Int.toNat_natCast] at e73; subst e73; rw [Int.toNat_natCast] at ho; have HM := Aside0.mk ho; have HB7 := Aside0.mk hb; clear ho hb hgr))
    have HMT : Aside0 (Met nx st b b (List.replicate nx.length false)) := ⟨met_start hb0 hbl HRB.out⟩
    obtain ⟨m0, hm0⟩ : ∃ m0, m0 = List.replicate nx.length false := ⟨_, rfl⟩
    rw [← hm0] at HM HMT
    clear hm0
    obtain ⟨wp, hwp⟩ : ∃ wp : World, wp = wr := ⟨_, rfl⟩
    subst hwp
    go_loopw [9] (fun v9 wr => ∃ (a : Int) (M : List Bool), v9 = .int .i64 a ∧ Aside0 (Met nx st b a M) ∧ Aside0 (Kd.R Kd.bool 4 wr wp.heap.size (fun _ => True) (.slice AM nx.length kM) M) ∧ Aside0 (Below wp.heap.size wp wr)) (fun v _ => upMu pl id (intOf v))
    case atStart => exact ⟨b, m0, rfl, HMT, HM, HB7⟩
    case round =>
      clear HM HMT HB7 hsc
      obtain ⟨a, M, rfl, HMT, HM, HB8⟩ := hrel
      have ha1 := HMT.out.2.1
      have ha2 := HMT.out.2.2.1
      have hml := HMT.out.1
      by_cases ha0 : 0 ≤ a
      · have hnew := met_new HMT.out ha0
        have HST := Aside0.mk (met_step HG.out HX.out HMT.out ha0)
        have hupp : upMu pl id (rd id a) < upMu pl id a := (up_step HG.out HX.out HT.out (a := -1) ha0 ha1 (by omega)).2.2
        obtain ⟨g, cap, hvs, hbg, hgl, cells, hgc⟩ := Kd.R_form HM.out (by omega)
        have hA := (Value.slice.inj hvs).1
        subst hA
        obtain ⟨hmc, hmf⟩ := R_celln false HM.out a ha0 ha1
        rw [hnew] at hmc
        have HM2 := Aside0.mk (Kd.R_putn HM.out a true)
        have HB9 := Aside0.mk (HB8.out.setCell (p := ⟨g, a.toNat, none⟩) hbg (.bool true))
        obtain ⟨adi, e, hic⟩ := Kd.at_int (Kd.C_below HCI.out (below_trans HBW.out HB9.out)) a ha0 ha1
        cases e
        obtain ⟨u, hu⟩ : ∃ u, u = rd id a := ⟨_, rfl⟩
        rw [← hu] at hic HST hupp
        have HUP := Aside0.mk hupp
        clear hnew hu hupp hvs cells hgc
        go_wp2_with fail
        go_roundw
        case rel => exact ⟨u, M.set a.toNat true, rfl, HST, HM2, HB9⟩
        case measure => exact HUP.out
      · have hae : a = -1 := by omega
        subst hae
        have hmet : Aside0 (∀ c : Int, 0 ≤ c → c < nx.length → rdOf false M c = domB nx st c b) := ⟨fun c h0 h1 => by
          rw [Bool.eq_iff_iff, HMT.out.2.2.2.2 c h0 h1]
          unfold domB
          rw [HOK.out, show inNet nx c = true from by simp [inNet]; omega, show inNet nx b = true from by simp [inNet]; omega]
          simp⟩
        have hcm := (Kd.R_reads' HM.out).2.2
        rw [hml] at hcm
        have HCM := Aside0.mk hcm
        clear hcm HM HMT ha0 ha1 ha2
        go_wp2_with fail
        obtain ⟨wq, hwq⟩ : ∃ wq : World, wq = wr := ⟨_, rfl⟩
        subst hwq
        go_loopw [101] (fun v101 wr => ∃ c : Int, v101 = .int .i64 c ∧ 0 ≤ c ∧ c ≤ nx.length ∧ Aside0 (Below wq.heap.size wq wr)) (fun v _ => nx.length - (intOf v).toNat)
        case atStart => exact ⟨0, rfl, by omega, by omega, ⟨Below.refl _ _⟩⟩
        case round =>
          obtain ⟨c, rfl, hc0, hc1, HBQ⟩ := hrel
          have HBA := Aside0.mk (below_trans (below_trans HBW.out HB8.out) HBQ.out)
          by_cases hcl : c < nx.length
          · obtain ⟨adm, e, hmc⟩ := Kd.at_bool (Kd.C_below HCM.out HBQ.out) c hc0 hcl
            cases e
            rw [hmet.out c hc0 hcl] at hmc
            obtain ⟨D, hD⟩ : ∃ D, D = domB nx st c b := ⟨_, rfl⟩
            rw [← hD] at hmc
            obtain ⟨hn0, hn1⟩ := box2 (blk_below HBK5.out HBA.out)
            go_wp2_with fail
            refine (f24_any A0 c0 A1 c1 nx st c b _ (HN.out.below (below_trans HB5.out HBA.out))).mono ?_
            rintro e w9 ⟨rfl, hb9⟩
            rw [← hD]
            have HB10 := Aside0.mk (below_trans HBQ.out hb9)
            have hDD : (D != D) = false := by simp
            clear hb9 hmc hn0 hn1 hD
            go_wp2_with fail
            go_roundw
            case rel => exact ⟨c + 1, rfl, by omega, by omega, HB10⟩
            case measure => simp [intOf]; omega
          · go_wp2_with fail
            go_roundw
            case rel => exact ⟨b + 1, rfl, by omega, by omega, HBA⟩
            case measure => simp [intOf]; omega
end Go.Proofs.Ytgbmebnfbhdpiaa
