/- The walks of dom.reach, dom.Reach and dom.Gone: they answer what the plain relation says. -/
import Derived.Test.YtgbmebnfbhdpiaaNet
import Derived.StillTailTactics
namespace Go.Proofs.Ytgbmebnfbhdpiaa
open Go.RowKit Go.Proofs.YtgbmebnfbhdpiaaW.PrintWords

theorem cf68 (args : Array Value) (w : World) : (callFunc 68 args).run Try.prog w = .ok (.enter 68 args) w := callFunc_some Try.func68 (by kernel_rfl) (by kernel_rfl) args w

theorem MeetSt.drew {w0 w : World} {bp sp lp nb : Nat} {but : Int} {nbc : Array Value} {vs vl : Value} {s : List Bool × List Int} (h : MeetSt w0 w bp sp lp nb but nbc vs vl s) : MeetSt w0 w.drew bp sp lp nb but nbc vs vl s :=
  ⟨below_drew h.below, h.bb, h.sb, h.lb, h.nbk, Kd.R_drew h.seen, Kd.R_drew h.list, h.bge, h.sge, h.lge, h.nge⟩

theorem MeetSt.init {w w1 : World} {but : Int} {nbc : Array Value} {vs : Value} {l : List Bool} (hb : Below w.heap.size w w1) (hz : w.heap.size + 1 < w1.heap.size)
    (hn : w1.heap[w.heap.size]? = some (.cells nbc 25 (0, 0))) (hbb : w1.heap[w.heap.size + 1]? = some (.cells #[.int .i64 but] 3 (0, 0)))
    (hs : Kd.R Kd.bool 4 w1 w.heap.size (fun _ => True) vs l) :
    MeetSt w ((w1.alloc (.cells #[vs] 43)).alloc (.cells #[.slice none 0 0] 23)) (w.heap.size + 1) w1.heap.size (w1.heap.size + 1) w.heap.size but nbc vs (.slice none 0 0) (l, []) where
  below := (hb.alloc hb.size _).alloc (by simp; omega) _
  bb := blk_alloc (blk_alloc hbb _) _
  sb := blk_alloc (blk_new _ _) _
  lb := by have := blk_new (w1.alloc (.cells #[vs] 43)) (.cells #[.slice none 0 0] 23); simpa using this
  nbk := blk_alloc (blk_alloc hn _) _
  seen := Kd.R_alloc (Kd.R_alloc hs _) _
  list := Kd.R_nil _ _ _ _ _
  bge := by omega
  sge := by omega
  lge := by omega
  nge := by omega

set_option maxRecDepth 100000 in
set_option maxHeartbeats 1000000 in
theorem f51_any (A0 : Option Addr) (c0 : Nat) (A1 : Option Addr) (c1 : Nat) (nx : List (List Int)) (st : List Int) (but : Int) (w : World) (hn : NetC w A0 c0 A1 c1 nx st) (hg : Good nx st) :
    Calls Try.prog 51 #[.agg #[.slice A0 nx.length c0, .slice A1 st.length c1], .int .i64 but] w fun e w' => ∃ v, e = .returned v ∧ Kd.R Kd.bool 4 w' w.heap.size (fun _ => True) v (reachB nx st but) ∧ Below w.heap.size w w' := by
  have HN := Aside0.mk hn
  have HG := Aside0.mk hg
  have hL0 : nx.length ≤ 9223372036854775807 := hn.next.2.1
  have hL1 : st.length ≤ 9223372036854775807 := hn.start.2.1
  clear hn hg
  go_enter Try.func51, Try.ntmps51
  have HB0 : Aside0 (∀ cs cs' : Array Value, Below w.heap.size w ((w.alloc (.cells cs 25)).alloc (.cells cs' 3))) := ⟨fun _ _ => ((Below.refl _ _).alloc (Nat.le_refl _) _).alloc (by simp) _⟩
  go_wp2_with ((with_reducible refine gate_dst (N := 12) rfl ?_); go_loud (refine Kd.R_make Kd.bool (w0 := w) w.heap.size 4 rfl (N := 12) rfl 43 _ _ rfl (nx.length : Int) rfl rfl Try.underlying43 (.bool false) 1 info4 rfl (by decide) (by omega) false (ok := fun _ => True) (okp := fun _ => True) rfl (fun _ hk => hk) trivial (by omega) (by have := HG.out.len; omega) (HB0.out _ _) (HB0.out _ _).size ?_; intro v12 w1 ho hb hgr hnew; clear hnew; obtain ⟨B12, k12, e12⟩ := Kd.R_slice ho; rw [List.length_replicate, Int.toNat_natCast] at e12; subst e12; have HO := Aside0.mk ho; have HB1 := Aside0.mk hb; have hz : w.heap.size + 1 < w1.heap.size := (by have := hgr.size; simp at this; omega); have hza : w.heap.size < w1.heap.size := (by omega); have hzb : w.heap.size < w1.heap.size + 1 := (by omega); have HBN := Aside0.mk (blk_grown (blk_alloc (blk_new w (.cells #[.slice A0 nx.length c0, .slice A1 st.length c1] 25)) (.cells #[.int .i64 but] 3)) hgr (by simp)); have HBB := Aside0.mk (blk_grown (blk_new (w.alloc (.cells #[.slice A0 nx.length c0, .slice A1 st.length c1] 25)) (.cells #[.int .i64 but] 3)) hgr (by simp)); have hn0 : w1.cell? ⟨w.heap.size, 0, none⟩ = some (.slice A0 nx.length c0) := (blk_cell HBN.out 0).trans rfl; have hn1 : w1.cell? ⟨w.heap.size, 1, none⟩ = some (.slice A1 st.length c1) := (blk_cell HBN.out 1).trans rfl; clear ho hb hgr))
  have HM0 := Aside0.mk (MeetSt.init HB1.out hz HBN.out (by simpa using HBB.out) HO.out)
  refine (f68_any w _ (w.heap.size + 1) w1.heap.size (w1.heap.size + 1) w.heap.size but _ _ _ _ A1 c1 st HM0.out HN.out.start (fun x hx => by rw [List.length_replicate]; simpa using HG.out.starts x hx) ?_ ?_).mono ?_
  · simp [Cnt, List.count_replicate]
  · have := HG.out.len; simpa using this
  rintro e w2 ⟨rfl, ⟨vl, hm⟩, hc⟩
  have HM := Aside0.mk hm
  have HC := Aside0.mk hc
  clear hm hc HM0 HO HB1 HBB HBN hn0 hn1 hza hzb
  go_wp2_with fail
  generalize w.heap.size + 1 = bp at *
  generalize w1.heap.size + 1 = lp at *
  generalize w1.heap.size = sp at *
  have HC0 := Aside0.mk (going_start (but := but) HG.out)
  rw [Int.toNat_natCast] at HM HC
  go_loopw [8] (fun v8 wr => ∃ (i : Int) (vl1 : Value) (s : List Bool × List Int), v8 = .int .i64 i ∧ 0 ≤ i ∧ i ≤ s.2.length ∧ Aside0 (MeetSt w wr bp sp lp w.heap.size but #[.slice A0 nx.length c0, .slice A1 st.length c1] (.slice B12 nx.length k12) vl1 s) ∧ Aside0 (Going nx st but i.toNat s)) (fun v _ => nx.length - (intOf v).toNat)
  case atStart => exact ⟨0, vl, _, rfl, by omega, by omega, ⟨HM.out⟩, ⟨HC0.out⟩⟩
  case round =>
    obtain ⟨i, vl1, s, rfl, h0, h1, HM1, HGo⟩ := hrel
    clear HM HC HC0
    obtain ⟨AL, kl, eL⟩ := Kd.R_slice HM1.out.list
    subst eL
    have hlc : wr.cell? ⟨lp, 0, none⟩ = some (.slice AL s.2.length kl) := (blk_cell HM1.out.lb 0).trans rfl
    have hsc : wr.cell? ⟨sp, 0, none⟩ = some (.slice B12 nx.length k12) := (blk_cell HM1.out.sb 0).trans rfl
    have hn0 : wr.cell? ⟨w.heap.size, 0, none⟩ = some (.slice A0 nx.length c0) := (blk_cell HM1.out.nbk 0).trans rfl
    have hsl : s.2.length ≤ 9223372036854775807 := by have := cnt_le HGo.out.cnt; have := HGo.out.len; omega
    by_cases hlt : i < s.2.length
    · obtain ⟨ad, e, hc⟩ := Kd.at_int (Kd.R_reads' HM1.out.list).2.2 i h0 hlt
      cases e
      obtain ⟨x, hx⟩ : ∃ x, x = rd s.2 i := ⟨_, rfl⟩
      rw [← hx] at hc
      have hxs : s.2[i.toNat]? = some x := by
        rw [hx, rd, List.getD_eq_getElem?_getD, List.getElem?_eq_getElem (by omega : i.toNat < s.2.length)]; rfl
      have hxr := (HGo.out.lists x).1 (List.mem_of_getElem? hxs)
      have hx0 := hxr.1
      have hx1 : x < nx.length := by have := HGo.out.len; omega
      have HXS := Aside0.mk hxs
      clear hx hxs hxr
      obtain ⟨ad2, B, c, l, e, HL, hc2, hcap, hr⟩ := at_slice_n HN.out.next x hx0 hx1
      cases e
      have hc3 := (HM1.out.below.cell (World.block_lt_of_cell? w _ hc2)).trans hc2
      have HR := Aside0.mk hr
      clear hr hc2 hcap
      go_wp2_with fail
      go_still_tail 9, (by kernel_rfl)
      go_wp2_with fail
      refine (f68_any w _ bp sp lp w.heap.size but _ _ _ s B c l HM1.out.drew HR.out ?hr HGo.out.cnt ?hl).mono ?_
      case hr => exact fun y hy => by rw [HL.out] at hy; have := HG.out.next _ y hy; have := HGo.out.len; omega
      case hl => have := HG.out.len; have := HGo.out.len; omega
      rintro e w3 ⟨rfl, ⟨vl2, hm⟩, hc⟩
      have HM2 := Aside0.mk hm
      have HC2 := Aside0.mk (going_step HG.out HGo.out HXS.out (by rw [HL.out] at hc; exact hc))
      clear hm hc
      go_wp2
      go_roundw
      case rel =>
        refine ⟨i + 1, vl2, _, rfl, by omega, ?_, ⟨by rw [HL.out] at HM2; exact HM2.out⟩, ⟨by rw [show (i + 1).toNat = i.toNat + 1 from by omega]; exact HC2.out⟩⟩
        obtain ⟨t, ht⟩ := meetL_prefix but (nx.getD x.toNat []) s
        rw [ht, List.length_append]; omega
      case measure => 
        have := cnt_le HGo.out.cnt; have := HGo.out.len
        simp [intOf]; omega
    · go_wp2_with fail
      go_ret
      refine ⟨_, rfl, ?_, HM1.out.below⟩
      rw [← going_end HG.out HGo.out (by omega)]
      exact HM1.out.seen

/-- What Reach answers. -/
noncomputable def reachA (nx : List (List Int)) (st : List Int) : List Bool := if netOk nx st then reachB nx st (-1) else []
theorem reachA_ok {nx : List (List Int)} {st : List Int} (h : netOk nx st = true) : reachA nx st = reachB nx st (-1) := if_pos h
theorem reachA_bad {nx : List (List Int)} {st : List Int} (h : netOk nx st = false) : reachA nx st = [] := if_neg (by rw [h]; decide)

set_option maxHeartbeats 1000000 in
theorem f22_any (A0 : Option Addr) (c0 : Nat) (A1 : Option Addr) (c1 : Nat) (nx : List (List Int)) (st : List Int) (w : World) (hn : NetC w A0 c0 A1 c1 nx st) :
    Calls Try.prog 22 #[.agg #[.slice A0 nx.length c0, .slice A1 st.length c1]] w fun e w' => ∃ v, e = .returned (.tuple #[v, .int .i64 (checkE nx st)]) ∧ Kd.R Kd.bool 4 w' w.heap.size (fun _ => True) v (reachA nx st) ∧ Below w.heap.size w w' := by
  have HN := Aside0.mk hn
  clear hn
  have HB0 : Aside0 (∀ cs : Array Value, Below w.heap.size w (w.alloc (.cells cs 25))) := ⟨fun _ => (Below.refl _ _).alloc (Nat.le_refl _) _⟩
  go_enter Try.func22, Try.ntmps22
  go_wp2_with fail
  refine (f23_any A0 c0 A1 c1 nx st _ (HN.out.below (HB0.out _))).mono ?_
  rintro e w1 ⟨rfl, hb⟩
  obtain ⟨hbk, hz, hb1⟩ := boxed hb
  obtain ⟨hn0, hn1⟩ := box2 hbk
  have HB1 := Aside0.mk hb1
  clear hb hb1 hbk
  by_cases hok : netOk nx st = true
  · rw [checkE_ok hok]
    have HOK := Aside0.mk hok
    clear hok
    go_wp2_with fail
    refine (f51_any A0 c0 A1 c1 nx st (-1) _ (HN.out.below HB1.out) (good_of_ok HOK.out)).mono ?_
    rintro e w2 ⟨v, rfl, hr, hb2⟩
    have HR := Aside0.mk hr
    have HB2 := Aside0.mk hb2
    clear hr hb2
    go_wp2
    go_ret2
    refine ⟨v, ret_vi (checkE_ok HOK.out).symm, ?_, below_trans HB1.out HB2.out⟩
    rw [reachA_ok HOK.out]
    exact Kd.R_lower HR.out HB1.out.size
  · rw [Bool.not_eq_true] at hok
    rw [checkE_bad hok]
    have HOK := Aside0.mk hok
    clear hok
    go_wp2_with fail
    go_ret2
    exact ⟨_, ret_vi (checkE_bad HOK.out).symm, by rw [reachA_bad HOK.out]; exact Kd.R_nil _ _ _ _ _, HB1.out⟩

end Go.Proofs.Ytgbmebnfbhdpiaa
