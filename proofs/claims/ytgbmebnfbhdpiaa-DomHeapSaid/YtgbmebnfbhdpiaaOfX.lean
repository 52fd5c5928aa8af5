/- The walk of dom.Of: the net of a graph that is small. -/
import Derived.Test.YtgbmebnfbhdpiaaGrA
import Derived.Test.YtgbmebnfbhdpiaaReachF
import Derived.Test.YtgbmebnfbhdpiaaWTab
import Derived.Test.YtgbmebnfbhdpiaaEqB
import Derived.Test.YtgbmebnfbhdpiaaBegunF
set_option linter.unusedSimpArgs false
set_option linter.unusedVariables false
namespace Go.Proofs.Ytgbmebnfbhdpiaa
open Go.RowKit Go.Proofs.YtgbmebnfbhdpiaaW.PrintWords Go.Proofs.YtgbmebnfbhdpiaaW.PrintLast

theorem kind_any {ns : List GN} {i : Int} (h0 : 0 ≤ i) (h1 : i < ns.length) (h : (ns.getD i.toNat noN).1 = 3) : ns.any (fun x => x.1 == 3) = true := anyN_at (p := fun x => x.1 == 3) h0 h1 (by simpa using h)
theorem kind_none {ns : List GN} (h : ∀ j : Int, 0 ≤ j → j < ns.length → (ns.getD j.toNat noN).1 ≠ 3) : ns.any (fun x => x.1 == 3) = false := anyN_none (p := fun x => x.1 == 3) (fun j j0 j1 => by simpa using h j j0 j1)
theorem CloSt.lower {w w1 wr : World} {ob : Nat} {vn vs : Value} {H : List Hdr} {rows : List (List Int)} {st : List Int} {O : Nat → Nat} (h : CloSt w1 wr ob vn vs H rows st O) (hb : Below w.heap.size w w1) : CloSt w wr ob vn vs H rows st O :=
  ⟨below_trans hb h.below, h.obk, Kd.R_lower h.heads hb.size, h.len, fun i hd hi => ⟨(h.rows i hd hi).1, Kd.R_lower (h.rows i hd hi).2 hb.size⟩, Kd.R_lower h.start hb.size, Nat.le_trans hb.size h.oge⟩
theorem of_net {w wr : World} {ob : Nat} {vn vs : Value} {H : List Hdr} {ns : List GN} {rs : List GR} {O : Nat → Nat} (h : CloSt w wr ob vn vs H (ofN ns) (ofS rs) O) (hl : ns.length ≤ 60) (hg : ∀ i : Nat, i < ns.length → nodeOk ns.length (ns.getD i noN) = true) :
    ∃ A c A' c', vn = .slice A (ofN ns).length c ∧ vs = .slice A' (ofS rs).length c' ∧ NetC wr A c A' c' (ofN ns) (ofS rs) :=
  h.net (by rw [ofN_len]; omega) (fun k => by
    rcases Nat.lt_or_ge k ns.length with hk | hk
    · rw [ofN_get ns k hk]
      have := goesTo_len (ns.getD k noN)
      have := node_ptrs (hg k hk)
      omega
    · rw [List.getD_eq_getElem?_getD, List.getElem?_eq_none (by rw [ofN_len]; exact hk)]; simp)
def tT_35_16 : Bool × List (List Nat × List Nat) := (true, [([], []), ([0], [0]), ([], []), ([], []), ([3], [3]), ([], []), ([4, 5], [4, 5]), ([6], [6]), ([], []), ([8], [8]), ([7, 9], [7, 9]), ([1, 2, 0, 1, 2, 3, 4, 5, 6, 7, 8, 9, 10], [1, 2]), ([11, 10, 10, 0, 1, 2, 3, 4, 5, 6, 7, 8, 9, 10], [10, 11])])
def tB_35_16 : List Nat := [0, 1, 0, 0, 8, 0, 56, 120, 0, 256, 1016, 2047, 4095]
theorem tab_35_16 : rtab .any (opsOf Try.f35 16) = tT_35_16 := by kernel_rfl
theorem bits_35_16 : waitsOk tT_35_16.2 tB_35_16 = true := by kernel_rfl
set_option maxRecDepth 100000 in
set_option maxHeartbeats 8000000 in
theorem f35_of (h58 : SpecCheck 58) (A0 : Option Addr) (c0 : Nat) (A1 : Option Addr) (c1 : Nat) (ns : List GN) (rs : List GR) (w : World) (hn : GraphC w A0 c0 A1 c1 ns rs) (hl0 : ns.length ≤ 60) (hl1 : rs.length ≤ 60) :
    Calls Try.prog 35 #[.agg #[.slice A0 ns.length c0, .slice A1 rs.length c1]] w (OfPost ns rs w) := by
  have HN := Aside0.mk hn
  have H58 := Aside0.mk h58
  clear hn h58
  have HB0 : Aside0 (Below w.heap.size w ((w.alloc (.cells #[.slice A0 ns.length c0, .slice A1 rs.length c1] 58)).alloc (.cells #[.slice none 0 0, .slice none 0 0] 25))) := ⟨((Below.refl _ _).alloc (Nat.le_refl _) _).alloc (by simp) _⟩
  have HG0 : Aside0 (((w.alloc (.cells #[.slice A0 ns.length c0, .slice A1 rs.length c1] 58)).alloc (.cells #[.slice none 0 0, .slice none 0 0] 25)).heap[w.heap.size]? = some (.cells #[.slice A0 ns.length c0, .slice A1 rs.length c1] 58 (0, 0))) := ⟨blk_alloc (blk_new _ _) _⟩
  have HR0 : Aside0 (((w.alloc (.cells #[.slice A0 ns.length c0, .slice A1 rs.length c1] 58)).alloc (.cells #[.slice none 0 0, .slice none 0 0] 25)).heap[w.heap.size + 1]? = some (.cells #[.slice none 0 0, .slice none 0 0] 25 (0, 0))) := ⟨by
    have := blk_new (w.alloc (.cells #[.slice A0 ns.length c0, .slice A1 rs.length c1] 58)) (.cells #[.slice none 0 0, .slice none 0 0] 25)
    simpa using this⟩
  go_enter Try.func35, Try.ntmps35
  go_wp2_with fail
  generalize ((w.alloc (.cells #[.slice A0 ns.length c0, .slice A1 rs.length c1] 58)).alloc (.cells #[.slice none 0 0, .slice none 0 0] 25)) = wo at HB0 HG0 HR0 ⊢
  refine (H58.out A0 c0 A1 c1 ns rs _ (HN.out.below HB0.out) hl0 hl1).mono ?_
  rintro e w1 ⟨rfl, hb⟩
  have HB1 := Aside0.mk (below_trans HB0.out hb)
  have HG1 := Aside0.mk (blk_below HG0.out hb)
  have HR1 := Aside0.mk (blk_below HR0.out hb)
  clear hb HB0 HG0 HR0
  rcases graphE_cases ns rs with hge | hge
  case inr =>
    have HE := Aside0.mk (of_bad hge)
    rw [hge]
    clear hge
    obtain ⟨hr0, hr1⟩ := box2 HR1.out
    have hf0 := blk_frozen HR1.out 0
    have hb1 := blk_put HR1.out 0 (.slice none 0 0) rfl
    have hr2 := (box2 hb1).2
    have hf2 := blk_frozen hb1 1
    have hb2 := blk_put hb1 1 (.slice none 0 0) rfl
    have HB2 := Aside0.mk hb2
    have HBW := Aside0.mk ((HB1.out.setCell (p := ⟨w.heap.size + 1, 0, none⟩) (by simp) (.slice none 0 0)).setCell (p := ⟨w.heap.size + 1, 1, none⟩) (by simp) (.slice none 0 0))
    clear hb1 hb2
    go_wp2_with fail
    refine bodyPost_ret (results_ct rfl _ _ (w.heap.size + 1) 25 #[.slice none 0 0, .slice none 0 0] (0, 0) _ rfl HB2.out Try.underlying25 rfl (by kernel_rfl)) rfl ?_
    exact ⟨none, 0, none, 0, [], [], by rw [HE.out]; rfl, netC_nil _, HBW.out, by rw [HE.out]; rfl, by rw [HE.out]; rfl⟩
  rw [hge]
  have HGE := Aside0.mk hge
  have HND := Aside0.mk (graph_nodes hge)
  clear hge
  obtain ⟨hg0, hg1⟩ := box2 HG1.out
  have hgs := blk_lt HG1.out
  have HBR : Aside0 (Below w1.heap.size w1 w1) := ⟨Below.refl _ _⟩
  go_wp2_with ((with_reducible refine gate_dst (N := 22) rfl ?_); go_loud (refine Kd.R_make KdH (w0 := w1) w1.heap.size 23 rfl (N := 22) rfl 22 _ _ rfl (ns.length : Int) rfl rfl Try.underlying22 (.slice none 0 0) 24 info23 rfl (by decide) (by omega) (none, 0, 0) (ok := fun _ => True) (okp := fun _ => True) rfl (fun _ hk => hk) trivial (by omega) (by omega) HBR.out (Nat.le_refl _) ?_; intro v22 w2 ho hb hgr hnew; clear hnew; obtain ⟨AO, kO, eO⟩ := Kd.R_slice ho; rw [List.length_replicate, Int.toNat_natCast] at eO; subst eO; rw [Int.toNat_natCast] at ho; have HO := Aside0.mk ho; have HB2 := Aside0.mk hb; have HG2 := Aside0.mk (blk_below HG1.out hb); have hg20 := (box2 HG2.out).1; have hg21 := (box2 HG2.out).2; have hgs2 := blk_lt HG2.out; clear ho hb hgr))
  have HC0 : Aside0 (CloSt w1 (w2.alloc (.cells #[.slice AO ns.length kO, .slice none 0 0] 25)) w2.heap.size (.slice AO ns.length kO) (.slice none 0 0) (List.replicate ns.length (none, 0, 0)) (ofAt ns (0 : Int).toNat) [] (fun _ => 1)) := ⟨⟨HB2.out.alloc HB2.out.size _, blk_new _ _, Kd.R_alloc HO.out _, by rw [ofAt_len ns _ (by omega)]; simp, (fun i hd hi => by
    rw [List.getElem?_replicate] at hi
    split at hi
    · rename_i hlt
      cases hi
      rw [show (0 : Int).toNat = 0 from rfl, ofAt_zero, List.getD_eq_getElem?_getD, List.getElem?_replicate, if_pos hlt]
      exact ⟨rfl, Kd.R_nil _ _ _ _ _⟩
    · cases hi), Kd.R_nil _ _ _ _ _, HB2.out.size⟩⟩
  generalize (w2.alloc (.cells #[.slice AO ns.length kO, .slice none 0 0] 25)) = w4 at HC0 ⊢
  obtain ⟨ob, hob⟩ : ∃ ob, ob = w2.heap.size := ⟨_, rfl⟩
  rw [← hob] at HC0 ⊢
  have hob1 : w1.heap.size ≤ ob := by rw [hob]; exact HB2.out.size
  have hr1s := blk_lt HR1.out
  clear hob HO HB2 HG2 hg20 hg21 hgs2 HBR hg0 hg1 hgs
  go_loopw [30, 6] (fun v30 v6 wr => ∃ (i m : Int) (H : List Hdr) (O : Nat → Nat), v30 = .int .i64 i ∧ v6 = .int .i64 m ∧ 0 ≤ i ∧ i ≤ ns.length ∧ 0 ≤ m ∧ m ≤ 60 + 126 * i ∧ Aside0 (∀ j : Int, 0 ≤ j → j < i → (ns.getD j.toNat noN).1 ≠ 3) ∧ Aside0 (CloSt w1 wr ob (.slice AO ns.length kO) (.slice none 0 0) H (ofAt ns i.toNat) [] O)) (fun v _ _ => ns.length - (intOf v).toNat)
  case atStart => exact ⟨0, _, _, _, rfl, rfl, by omega, by omega, by omega, by omega, ⟨fun j h0 h1 => by omega⟩, HC0⟩
  case round =>
    clear HC0
    obtain ⟨i, m, H, O, rfl, rfl, hi0, hi1, hm0, hm1, HP, HC⟩ := hrel
    have HB := Aside0.mk HC.out.below
    by_cases hil : i < ns.length
    case pos =>
      obtain ⟨ad, k, AP, ps, cp, AD, ds, cd, e, HXE, hc0w, hc1w, hc2w, hpp⟩ := at_node HN.out.nodes i hi0 hil
      cases e
      have hbw := below_trans HB1.out HB.out
      have hc0 := (hbw.cell (World.block_lt_of_cell? _ _ hc0w)).trans hc0w
      have hc1 := (hbw.cell (World.block_lt_of_cell? _ _ hc1w)).trans hc1w
      have hc2 := (hbw.cell (World.block_lt_of_cell? _ _ hc2w)).trans hc2w
      clear hc0w hc1w hc2w hbw
      have hpl : ps.length ≤ 126 := by
        have := node_ptrs (HND.out i.toNat (by omega))
        rw [← HXE.out] at this
        exact this
      have HPP := Aside0.mk hpp
      have hx0 := blk_new wr (.cells #[.int .i64 k, .slice AP ps.length cp, .slice AD ds.length cd] 61)
      have hxk := (blk_cell hx0 0).trans (show _ = some (Value.int .i64 k) from rfl)
      have hxp := (blk_cell hx0 1).trans (show _ = some (Value.slice AP ps.length cp) from rfl)
      have HX0 := Aside0.mk hx0
      have HC1 := Aside0.mk (HC.out.step ((Below.refl _ _).alloc (Nat.le_refl _) (.cells #[.int .i64 k, .slice AP ps.length cp, .slice AD ds.length cd] 61)))
      have HR2 := Aside0.mk (blk_below HR1.out HC1.out.below)
      have hxs : w1.heap.size ≤ wr.heap.size := HB.out.size
      clear hpp hx0 HC HB
      by_cases hk3 : k = 3
      · have hk3b : (k == 3) = true := by simpa using hk3
        have HE := Aside0.mk (of_pair HGE.out (kind_any hi0 hil (by rw [← HXE.out]; exact hk3)))
        obtain ⟨hr0, hr1⟩ := box2 HR2.out
        have hf0 := blk_frozen HR2.out 0
        have hb1 := blk_put HR2.out 0 (.slice none 0 0) rfl
        have hr2 := (box2 hb1).2
        have hf2 := blk_frozen hb1 1
        have hb2 := blk_put hb1 1 (.slice none 0 0) rfl
        have HB2 := Aside0.mk hb2
        have HBW := Aside0.mk (((below_trans HB1.out HC1.out.below).setCell (p := ⟨w.heap.size + 1, 0, none⟩) (by simp) (.slice none 0 0)).setCell (p := ⟨w.heap.size + 1, 1, none⟩) (by simp) (.slice none 0 0))
        clear hb1 hb2 hk3
        go_wp2_with fail
        refine bodyPost_ret (results_ct rfl _ _ (w.heap.size + 1) 25 #[.slice none 0 0, .slice none 0 0] (0, 0) _ rfl HB2.out Try.underlying25 rfl (by kernel_rfl)) rfl ?_
        exact ⟨none, 0, none, 0, [], [], by rw [HE.out]; rfl, netC_nil _, HBW.out, by rw [HE.out]; rfl, by rw [HE.out]; rfl⟩
      have hk3b : (k == 3) = false := by simpa using hk3
      have HK3 := Aside0.mk hk3
      have hps64 : ps.length ≤ 9223372036854775807 := by omega
      clear hk3
      go_wp2_with fail
      generalize (wr.alloc (.cells #[.int .i64 k, .slice AP ps.length cp, .slice AD ds.length cd] 61)) = w5 at HX0 HC1 HR2 hxk hxp ⊢
      obtain ⟨xb, hxb⟩ : ∃ xb, xb = wr.heap.size := ⟨_, rfl⟩
      rw [← hxb] at HX0 hxk hxp hxs ⊢
      clear hxb hxk hxp hc0 hc1 hc2
      have HC2 : Aside0 (CloSt w1 w5 ob (.slice AO ns.length kO) (.slice none 0 0) H ((ofAt ns i.toNat).set i.toNat (part (k, (ps, ds)) (0 : Int).toNat)) [] O) := ⟨by
        have : (ofAt ns i.toNat).set i.toNat (part (k, (ps, ds)) (0 : Int).toNat) = ofAt ns i.toNat := by
          rw [show (0 : Int).toNat = 0 from rfl, part_zero]
          have hl := ofAt_len ns i.toNat (by omega)
          apply List.ext_getElem?
          intro t
          rw [List.getElem?_set]
          by_cases c : i.toNat = t
          · rw [if_pos c, if_pos (by omega), ← c]
            have := ofAt_at ns i.toNat (by omega)
            rw [List.getD_eq_getElem?_getD, List.getElem?_eq_getElem (by omega)] at this
            rw [List.getElem?_eq_getElem (by omega)]
            simpa using this.symm
          · rw [if_neg c]
        rw [this]
        exact HC1.out⟩
      clear HC1
      go_loopw [47] (fun v47 wr => ∃ (j : Int) (H : List Hdr) (O : Nat → Nat), v47 = .int .i64 j ∧ 0 ≤ j ∧ j ≤ ps.length ∧ Aside0 (CloSt w1 wr ob (.slice AO ns.length kO) (.slice none 0 0) H ((ofAt ns i.toNat).set i.toNat (part (k, (ps, ds)) j.toNat)) [] O) ∧ Aside0 (wr.heap[xb]? = some (.cells #[.int .i64 k, .slice AP ps.length cp, .slice AD ds.length cd] 61 (0, 0)))) (fun v _ => ps.length - (intOf v).toNat)
      case atStart => exact ⟨0, H, O, rfl, by omega, by omega, HC2, HX0⟩
      case round =>
        clear HC2 HX0 HR2
        obtain ⟨j, H, O, rfl, hj0, hj1, HC, HX⟩ := hrel
        have hxk := (blk_cell HX.out 0).trans (show _ = some (Value.int .i64 k) from rfl)
        have hxp := (blk_cell HX.out 1).trans (show _ = some (Value.slice AP ps.length cp) from rfl)
        by_cases hjl : j < ps.length
        case neg =>
          have HC3 := HC.out
          have hse := part_end (k, (ps, ds))
          simp only at hse
          rw [show j.toNat = ps.length from by omega, hse, HXE.out, ofAt_set ns i.toNat (by omega)] at HC3
          have HC4 := Aside0.mk HC3
          have HP2 : Aside0 (∀ j : Int, 0 ≤ j → j < i + 1 → (ns.getD j.toNat noN).1 ≠ 3) := ⟨fun j j0 j1 => by
            by_cases h : j < i
            · exact HP.out j j0 h
            · obtain rfl : j = i := by omega
              rw [← HXE.out]; exact HK3.out⟩
          clear hse HC3
          go_wp2_with fail
          go_roundw
          case rel => exact ⟨i + 1, m + ps.length, H, O, rfl, rfl, by omega, by omega, by omega, by omega, HP2, ⟨by rw [show (i + 1).toNat = i.toNat + 1 from by omega]; exact HC4.out⟩⟩
          case measure => simp [intOf]; omega
        obtain ⟨ap, e, hpc⟩ := Kd.at_int (Kd.C_below HPP.out (below_trans HB1.out HC.out.below)) j hj0 hjl
        cases e
        have hps := part_succ (x := (k, (ps, ds))) hj0 hjl
        simp only at hps
        obtain ⟨q, hq⟩ : ∃ q, q = rd ps j := ⟨_, rfl⟩
        rw [← hq] at hpc hps
        clear hq
        by_cases hk1 : k = 1
        case neg =>
          have hk1b : (k == 1) = false := by simpa using hk1
          rw [if_neg (fun h => hk1 h.1)] at hps
          have HPS := Aside0.mk hps
          clear hps hk1
          go_wp2_with fail
          go_roundw
          case rel => exact ⟨j + 1, H, O, rfl, by omega, by omega, ⟨by rw [HPS.out]; exact HC.out⟩, HX⟩
          case measure => simp [intOf]; omega
        have hk1b : (k == 1) = true := by simpa using hk1
        by_cases hq0 : q ≥ 0
        case neg =>
          have hq0b : decide (q ≥ 0) = false := decide_eq_false hq0
          rw [if_neg (fun h => hq0 h.2)] at hps
          have HPS := Aside0.mk hps
          clear hps hk1 hq0
          go_wp2_with fail
          go_roundw
          case rel => exact ⟨j + 1, H, O, rfl, by omega, by omega, ⟨by rw [HPS.out]; exact HC.out⟩, HX⟩
          case measure => simp [intOf]; omega
        have hq0b : decide (q ≥ 0) = true := decide_eq_true hq0
        rw [if_pos ⟨hk1, hq0⟩] at hps
        have HPS := Aside0.mk hps
        clear hps hk1 hq0
        have hrl := ofAt_len ns i.toNat (by omega)
        have hHl : H.length = ns.length := by rw [HC.out.len, List.length_set]; exact hrl
        obtain ⟨g, cap, hvs, hbg, hgl, cells, hgc⟩ := Kd.R_form HC.out.heads (by omega)
        have hv1 := (Value.slice.inj hvs).1
        subst hv1
        have hxg : xb ≠ g := blk_ne HX.out hgc (by decide)
        clear hvs hbg hgl cells hgc cap
        obtain ⟨hd, hhd⟩ : ∃ hd, H[i.toNat]? = some hd := ⟨_, List.getElem?_eq_getElem (by omega)⟩
        obtain ⟨A', n', c'⟩ := hd
        have hrow := HC.out.rows i.toNat _ hhd
        have hge : ((ofAt ns i.toNat).set i.toNat (part (k, (ps, ds)) j.toNat)).getD i.toNat [] = part (k, (ps, ds)) j.toNat := by
          rw [List.getD_eq_getElem?_getD, List.getElem?_set, if_pos rfl, if_pos (by omega)]; rfl
        rw [hge] at hrow
        obtain ⟨row, hrowe⟩ : ∃ row, row = part (k, (ps, ds)) j.toNat := ⟨_, rfl⟩
        have hrl2 : row.length ≤ 126 := by
          rw [hrowe]
          have := part_len (k, (ps, ds)) j.toNat
          simp only at this
          omega
        rw [← hrowe] at hrow
        have hn' : n' = row.length := hrow.1
        subst hn'
        have HROW := Aside0.mk hrow.2
        have HHD := Aside0.mk hhd
        have HGE2 := Aside0.mk hge
        have HRE := Aside0.mk hrowe
        have hc := (Kd.R_celln (A', row.length, c') HC.out.heads i hi0 (by omega)).1
        have hrd : rdOf (A', row.length, c') H i = (A', row.length, c') := by unfold rdOf; rw [List.getD_eq_getElem?_getD, hhd]; rfl
        rw [hrd] at hc
        have hgc0 : wr.cell? ⟨g, i.toNat, none⟩ = some (.slice A' row.length c') := hc
        have hl0' := (box2 HC.out.obk).1
        clear hc hrd hhd hrow hrowe hge hHl hrl
        go_wp2_with fail
        have HC' := Aside0.mk HC.out.drew
        have HX' : Aside0 (wr.drew.heap[xb]? = some (.cells #[.int .i64 k, .slice (some ap) ps.length cp, .slice AD ds.length cd] 61 (0, 0))) := HX
        have HROW' := Aside0.mk (Kd.R_drew HROW.out)
        clear HC HX HROW
        have HC := HC'
        have HX := HX'
        have HROW := HROW'
        clear HC' HX' HROW'
        refine start_ (n := 13) (S := fun w' => w'.cell? ⟨ob, 0, none⟩ = some (.slice (some ⟨g, 0, none⟩) ns.length kO) ∧ w'.cell? ⟨g, i.toNat, none⟩ = some (.slice A' row.length c')) (ds := [12]) #[false, false, false, false, false, false, false, false, false, false, false, false, false] (by kernel_rfl) rfl rfl ⟨hl0', hgc0⟩ (fun hHeld => ?_)
        refine with_tabW tab_35_16 bits_35_16 (fun HT_ HW_ => ?_)
        generalize wr.drew = wd at HC HX HROW hgc0 hHeld ⊢
        refine pure_ (i := 0) (N := some 58) (v := ?_) (a' := ?_) #[true, false, false, false, false, false, false, false, false, false, false, false, false] rfl rfl (any_of HT_.out (by kernel_rfl)) (fun _ _ _ h => h) (Or.inl ⟨by rfl, ?_⟩) ?_ ?_
        rotate_left
        · intro w'
          go_simp
          with_reducible rfl
        rotate_left
        · simp only [Act.put, List.setIfInBounds_toArray, List.set_cons_zero, List.set_cons_succ, i64_w, i32_w]
          rfl
        refine pure_ (i := 2) (N := some 60) (v := ?_) (a' := ?_) #[true, false, true, false, false, false, false, false, false, false, false, false, false] rfl rfl (any_of HT_.out (by kernel_rfl)) (fun _ _ _ h => h) (Or.inl ⟨by rfl, ?_⟩) ?_ ?_
        rotate_left
        · intro w'
          go_simp
          with_reducible rfl
        rotate_left
        · simp only [Act.put, List.setIfInBounds_toArray, List.set_cons_zero, List.set_cons_succ, i64_w, i32_w]
          rfl
        refine pure_ (i := 3) (N := some 61) (v := ?_) (a' := ?_) #[true, false, true, true, false, false, false, false, false, false, false, false, false] rfl rfl (any_of HT_.out (by kernel_rfl)) (fun _ _ _ h => h) (Or.inl ⟨by rfl, ?_⟩) ?_ ?_
        rotate_left
        · intro w'
          go_simp
          with_reducible rfl
        rotate_left
        · simp only [Act.put, List.setIfInBounds_toArray, List.set_cons_zero, List.set_cons_succ, i64_w, i32_w]
          rfl
        refine pure_ (i := 5) (N := some 63) (v := ?_) (a' := ?_) #[true, false, true, true, false, true, false, false, false, false, false, false, false] rfl rfl (any_of HT_.out (by kernel_rfl)) (fun _ _ _ h => h) (Or.inl ⟨by rfl, ?_⟩) ?_ ?_
        rotate_left
        · intro w'
          go_simp
          with_reducible rfl
        rotate_left
        · simp only [Act.put, List.setIfInBounds_toArray, List.set_cons_zero, List.set_cons_succ, i64_w, i32_w]
          rfl
        refine pure_ (i := 8) (N := some 66) (v := ?_) (a' := ?_) #[true, false, true, true, false, true, false, false, true, false, false, false, false] rfl rfl (any_of HT_.out (by kernel_rfl)) (fun _ _ _ h => h) (Or.inl ⟨by rfl, ?_⟩) ?_ ?_
        rotate_left
        · intro w'
          go_simp
          with_reducible rfl
        rotate_left
        · simp only [Act.put, List.setIfInBounds_toArray, List.set_cons_zero, List.set_cons_succ, i64_w, i32_w]
          rfl
        refine take_ (i := 1) (N := some 59) (v := ?_) (a' := ?_) #[true, true, true, true, false, true, false, false, true, false, false, false, false] rfl rfl (take_ofW HT_.out HW_.out (by kernel_rfl)) (fun _ _ _ h => h) (Or.inl ⟨by rfl, ?_⟩) hHeld ?_ ?_
        rotate_left
        · rintro w' ⟨s0, s1⟩
          go_simp
          with_reducible rfl
        rotate_left
        · simp only [Act.put, List.setIfInBounds_toArray, List.set_cons_zero, List.set_cons_succ, i64_w, i32_w]
          rfl
        refine take_ (i := 4) (N := some 62) (v := ?_) (a' := ?_) #[true, true, true, true, true, true, false, false, true, false, false, false, false] rfl rfl (take_ofW HT_.out HW_.out (by kernel_rfl)) (fun _ _ _ h => h) (Or.inl ⟨by rfl, ?_⟩) hHeld ?_ ?_
        rotate_left
        · rintro w' ⟨s0, s1⟩
          go_simp
          with_reducible rfl
        rotate_left
        · simp only [Act.put, List.setIfInBounds_toArray, List.set_cons_zero, List.set_cons_succ, i64_w, i32_w]
          rfl
        refine pure_ (i := 6) (N := some 64) (v := ?_) (a' := ?_) #[true, true, true, true, true, true, true, false, true, false, false, false, false] rfl rfl (any_of HT_.out (by kernel_rfl)) (fun _ _ _ h => h) (Or.inl ⟨by rfl, ?_⟩) ?_ ?_
        rotate_left
        · intro w'
          go_simp
          with_reducible rfl
        rotate_left
        · simp only [Act.put, List.setIfInBounds_toArray, List.set_cons_zero, List.set_cons_succ, i64_w, i32_w]
          rfl
        refine take_ (i := 7) (N := some 65) (v := ?_) (a' := ?_) #[true, true, true, true, true, true, true, true, true, false, false, false, false] rfl rfl (take_ofW HT_.out HW_.out (by kernel_rfl)) (fun _ _ _ h => h) (Or.inl ⟨by rfl, ?_⟩) hHeld ?_ ?_
        rotate_left
        · rintro w' ⟨s0, s1⟩
          go_simp
          with_reducible rfl
        rotate_left
        · simp only [Act.put, List.setIfInBounds_toArray, List.set_cons_zero, List.set_cons_succ, i64_w, i32_w]
          rfl
        refine one_ (i := 9) (N := some 67) #[true, true, true, true, true, true, true, true, true, true, false, false, false] rfl rfl (one_of HT_.out (by kernel_rfl)) (by decide) (fun K hK => ?_)
        refine event_step (w1 := ?_) (v := ?_) (by rfl) ?_ ?_
        rotate_left 2
        · go_simp
          constructor <;> rfl
        refine hK.out _ _ ?_ ?_
        · exact ⟨(box2 (blk_alloc HC.out.obk _)).1, (((Below.refl _ wd).alloc (Nat.le_refl _) _).cell (World.block_lt_of_cell? _ _ hHeld.2)).trans hHeld.2⟩
        clear hK K
        intro hHeld
        refine one_ (i := 10) (N := some 68) #[true, true, true, true, true, true, true, true, true, true, true, false, false] rfl rfl (one_of HT_.out (by kernel_rfl)) (by decide) (fun K hK => ?_)
        refine Kd.R_append_step (Kd.int .i64) (w0 := w1) w1.heap.size (by rfl) (.tmp 65) (.tmp 67) 23 3 (.int .i64 0) 8 rfl Try.underlying23 info3 rfl (by decide) (by omega) (.slice A' row.length c') row q [.int .i64 q] (fun z => ownTo O wd.heap.size (i.toNat + 2) z = i.toNat + 2) (fun _ => False) (by rfl) (by rfl) ?aP (fun _ hk => hk.elim) ?aF ?aO ?aB ?aS ?aL ?_
        case aP => exact rfl
        case aF => intro z hz; unfold ownTo; rw [if_pos hz]
        case aO => exact R_ownTo (Nat.le_refl _) HROW.out
        case aB => exact HC.out.below
        case aS => exact HC.out.below.size
        case aL => omega
        intro v1 w3 ho hb hg hat
        obtain ⟨A1', k1, e1⟩ := Kd.R_slice ho
        rw [List.length_append, List.length_singleton] at e1
        subst e1
        have H1 := Aside0.mk (HC.out.appRow HHD.out (k := row.length + 1) (A' := A1') (c' := k1) (p := q) (by rw [HGE2.out, ← HRE.out]) (by rw [HGE2.out, ← HRE.out]; exact ho) hb hg)
        have HX3 := Aside0.mk (blk_grown HX.out hg (Kd.R_ne HROW.out HX.out (by decide)))
        have hoc1 : w3.cell? ⟨g, i.toNat, none⟩ = some (.slice A' row.length c') := H1.out.2.1.1
        have hof1 := H1.out.2.1.2
        clear ho hb hg hat
        refine hK.out _ _ ?_ ?_
        · exact ⟨(box2 H1.out.1).1, hoc1⟩
        clear hK K
        intro hHeld
        refine pure_ (i := 11) (N := some 69) (v := ?_) (a' := ?_) #[true, true, true, true, true, true, true, true, true, true, true, true, false] rfl rfl (any_of HT_.out (by kernel_rfl)) (fun _ _ _ h => h) (Or.inl ⟨by rfl, ?_⟩) ?_ ?_
        rotate_left
        · intro w'
          go_simp
          with_reducible rfl
        rotate_left
        · simp only [Act.put, List.setIfInBounds_toArray, List.set_cons_zero, List.set_cons_succ, i64_w, i32_w]
          rfl
        refine last_ (i := 12) (N := none) #[true, true, true, true, true, true, true, true, true, true, true, true, true] rfl rfl (one_of HT_.out (by kernel_rfl)) (by decide) (fun K hK => ?_)
        refine skip_ (w1 := ?_) (by rfl) rfl ?_ ?_
        rotate_left
        · go_simp
          rfl
        refine hK.out _ _ ?_
        clear hK K
        refine done_ (done_of HT_.out (by kernel_rfl)) ?_
        go_wp2_with fail
        go_roundw
        case rel => exact ⟨j + 1, _, _, rfl, by omega, by omega, ⟨by
          have := H1.out.2.2
          rw [HGE2.out, List.set_set, ← HPS.out] at this
          exact this⟩, ⟨blk_far HX3.out hxg _⟩⟩
        case measure => simp [intOf]; omega
    case neg =>
      have hme : m ≤ 7620 := by omega
      have HPA := Aside0.mk (of_ok HGE.out (kind_none (fun j j0 j1 => HP.out j j0 (by omega))))
      have HC2 := HC.out
      rw [show i.toNat = ns.length from by omega, ofAt_end] at HC2
      have HC3 : Aside0 (CloSt w1 wr ob (.slice AO ns.length kO) (.slice none 0 0) H (ofN ns) ((ofS rs).take (0 : Int).toNat) O) := ⟨HC2⟩
      have HGX := Aside0.mk (blk_below HG1.out HC2.below)
      obtain ⟨hg0, hg1⟩ := box2 HGX.out
      clear HC HC2 HP
      go_wp2_with fail
      clear hg0 hg1 HGX
      go_loopw [78] (fun v78 wr => ∃ (i : Int) (O : Nat → Nat) (AS : Option Addr) (kS : Nat), v78 = .int .i64 i ∧ 0 ≤ i ∧ i ≤ rs.length ∧ Aside0 (CloSt w1 wr ob (.slice AO ns.length kO) (.slice AS i.toNat kS) H (ofN ns) ((ofS rs).take i.toNat) O)) (fun v _ => rs.length - (intOf v).toNat)
      case atStart => exact ⟨0, O, none, 0, rfl, by omega, by omega, HC3⟩
      case round =>
        clear HC3
        obtain ⟨i, O, AS, kS, rfl, hi0, hi1, HC⟩ := hrel
        have HB := Aside0.mk (below_trans HB1.out HC.out.below)
        obtain ⟨ho0, ho1⟩ := box2 HC.out.obk
        by_cases hil : i < rs.length
        case neg =>
          have hse : (ofS rs).take i.toNat = ofS rs := List.take_of_length_le (by rw [ofS_len]; omega)
          have hc := HC.out.lower HB1.out
          rw [hse] at hc
          have HR3 := Aside0.mk (blk_below HR1.out HC.out.below)
          have hne : ob ≠ w.heap.size + 1 := by omega
          obtain ⟨hr0, hr1⟩ := box2 HR3.out
          have hf0 := blk_frozen HR3.out 0
          have hb1 := blk_put HR3.out 0 (.slice AO ns.length kO) rfl
          have hc1 := hc.setC HR3.out hne (by omega) 0 (.slice AO ns.length kO)
          have hr2 := (box2 hb1).2
          have hf2 := blk_frozen hb1 1
          have hb2 := blk_put hb1 1 (.slice AS i.toNat kS) rfl
          have hc2 := hc1.setC hb1 hne (by omega) 1 (.slice AS i.toNat kS)
          obtain ⟨A, c, A', c', e1, e2, hnet⟩ := of_net hc2 hl0 HND.out
          have HF := Aside0.mk (And.intro hb2 (And.intro hnet (And.intro e1 (And.intro e2 hc2.below))))
          clear hb1 hb2 hc1 hc2 hc hnet e1 e2 hse HC
          go_wp2_with fail
          refine bodyPost_ret (results_ct rfl _ _ (w.heap.size + 1) 25 #[.slice AO ns.length kO, .slice AS i.toNat kS] (0, 0) _ rfl HF.out.1 Try.underlying25 rfl (by kernel_rfl)) rfl ?_
          exact ⟨A, c, A', c', ofN ns, ofS rs, by rw [HF.out.2.2.1, HF.out.2.2.2.1, HPA.out]; rfl, HF.out.2.1, HF.out.2.2.2.2, by rw [HPA.out]; rfl, by rw [HPA.out]; rfl⟩
        obtain ⟨ad, s, x, e, HRX, hc0w, hc1w⟩ := at_root HN.out.roots i hi0 hil
        cases e
        have hc0 := (HB.out.cell (World.block_lt_of_cell? _ _ hc0w)).trans hc0w
        have hc1 := (HB.out.cell (World.block_lt_of_cell? _ _ hc1w)).trans hc1w
        have HT := Aside0.mk (ofS_take rs hi0 hil)
        have HC2 := Aside0.mk (HC.out.step ((Below.refl _ _).alloc (Nat.le_refl _) (.cells #[.string s, .int .i64 x] 71)))
        have hx0 := blk_new wr (.cells #[.string s, .int .i64 x] 71)
        have hxx := (blk_cell hx0 1).trans (show _ = some (Value.int .i64 x) from rfl)
        obtain ⟨hp0, hp1⟩ := box2 HC2.out.obk
        have hpf := blk_frozen HC2.out.obk 1
        have hobl := blk_lt HC.out.obk
        have htl : ((ofS rs).take i.toNat).length = i.toNat := by rw [List.length_take, ofS_len]; omega
        have HTL := Aside0.mk htl
        have hi60 : i ≤ 60 := by omega
        clear hc0w hc1w hx0 HC htl
        go_wp2_with (at_builtin; go_loud (refine Kd.R_append (Kd.int .i64) (w0 := w1) w1.heap.size rfl (.tmp 83) (.tmp 86) 23 3 (.int .i64 0) 8 rfl Try.underlying23 info3 rfl (by decide) (by omega) (.slice AS i.toNat kS) ((ofS rs).take i.toNat) x [.int .i64 x] (fun z => ownTo O (wr.alloc (.cells #[.string s, .int .i64 x] 71)).heap.size 1 z = 1) (fun _ => False) rfl ?aX ?aP (fun _ hk => hk.elim) ?aF ?aO ?aB ?aS ?aL ?_; (case aP => exact rfl); (case aX => go_simp); (case aF => (intro z hz; unfold ownTo; rw [if_pos hz])); (case aB => exact HC2.out.below); (case aO => exact R_ownTo (Nat.le_refl _) HC2.out.start); (case aS => exact HC2.out.below.size); (case aL => have := HTL.out; omega); intro v1 w3 ho hb hg hat; obtain ⟨A1', k1, e1⟩ := Kd.R_slice ho; rw [List.length_append, List.length_singleton, HTL.out, show i.toNat + 1 = (i + 1).toNat from by omega] at e1; subst e1; have H1 := Aside0.mk (HC2.out.appStart ho hb hg); have hq1 := (box2 H1.out.1).2; have hqf := blk_frozen H1.out.1 1; clear ho hb hg hat))
        go_roundw
        case rel => exact ⟨i + 1, _, A1', k1, rfl, by omega, by omega, ⟨by rw [HT.out, ← HRX.out]; exact H1.out.2⟩⟩
        case measure => simp [intOf]; omega
end Go.Proofs.Ytgbmebnfbhdpiaa
namespace Go.Proofs.Ytgbmebnfbhdpiaa
open Go.RowKit Go.Proofs.YtgbmebnfbhdpiaaW.PrintWords Go.Proofs.YtgbmebnfbhdpiaaW.PrintLast

theorem part_other {x : GN} (h : x.1 ≠ 1) (j : Nat) : part x j = goesTo x := by unfold part goesTo; rw [if_neg h, if_neg h]
theorem ofN_take (ns : List GN) (i : Nat) (h : i < ns.length) : (ofN ns).take (i + 1) = (ofN ns).take i ++ [goesTo (ns.getD i noN)] := by
  rw [List.take_succ_eq_append_getElem (by rw [ofN_len]; exact h)]
  have : (ofN ns)[i]'(by rw [ofN_len]; exact h) = goesTo (ns.getD i noN) := by
    rw [← ofN_get ns i h, List.getD_eq_getElem?_getD, List.getElem?_eq_getElem (by rw [ofN_len]; exact h)]; rfl
  rw [this]
def tT_36_25 : Bool × List (List Nat × List Nat) := (true, [([], []), ([0], [0]), ([], []), ([2], [2]), ([], []), ([3, 4], [3, 4]), ([5], [5]), ([6], [6]), ([7], [7]), ([1, 8], [1, 8]), ([0, 1, 2, 3, 4, 5, 6, 7, 8, 9], []), ([10, 9, 9, 0, 1, 2, 3, 4, 5, 6, 7, 8, 9], [9, 10])])
def tB_36_25 : List Nat := [0, 1, 0, 4, 0, 28, 60, 124, 252, 511, 1023, 2047]
theorem tab_36_25 : rtab .any (opsOf Try.f36 25) = tT_36_25 := by kernel_rfl
theorem bits_36_25 : waitsOk tT_36_25.2 tB_36_25 = true := by kernel_rfl
set_option maxRecDepth 100000 in
set_option maxHeartbeats 8000000 in
theorem f36_of (h37 : SpecCheck 37) (A0 : Option Addr) (c0 : Nat) (A1 : Option Addr) (c1 : Nat) (ns : List GN) (rs : List GR) (w : World) (hn : GraphC w A0 c0 A1 c1 ns rs) (hl0 : ns.length ≤ 60) (hl1 : rs.length ≤ 60) :
    Calls Try.prog 36 #[.agg #[.slice A0 ns.length c0, .slice A1 rs.length c1]] w (OfPost ns rs w) := by
  have HN := Aside0.mk hn
  have H37 := Aside0.mk h37
  clear hn h37
  have HB0 : Aside0 (Below w.heap.size w ((w.alloc (.cells #[.slice A0 ns.length c0, .slice A1 rs.length c1] 58)).alloc (.cells #[.slice none 0 0, .slice none 0 0] 25))) := ⟨((Below.refl _ _).alloc (Nat.le_refl _) _).alloc (by simp) _⟩
  have HG0 : Aside0 (((w.alloc (.cells #[.slice A0 ns.length c0, .slice A1 rs.length c1] 58)).alloc (.cells #[.slice none 0 0, .slice none 0 0] 25)).heap[w.heap.size]? = some (.cells #[.slice A0 ns.length c0, .slice A1 rs.length c1] 58 (0, 0))) := ⟨blk_alloc (blk_new _ _) _⟩
  have HR0 : Aside0 (((w.alloc (.cells #[.slice A0 ns.length c0, .slice A1 rs.length c1] 58)).alloc (.cells #[.slice none 0 0, .slice none 0 0] 25)).heap[w.heap.size + 1]? = some (.cells #[.slice none 0 0, .slice none 0 0] 25 (0, 0))) := ⟨by
    have := blk_new (w.alloc (.cells #[.slice A0 ns.length c0, .slice A1 rs.length c1] 58)) (.cells #[.slice none 0 0, .slice none 0 0] 25)
    simpa using this⟩
  go_enter Try.func36, Try.ntmps36
  go_wp2_with fail
  generalize ((w.alloc (.cells #[.slice A0 ns.length c0, .slice A1 rs.length c1] 58)).alloc (.cells #[.slice none 0 0, .slice none 0 0] 25)) = wo at HB0 HG0 HR0 ⊢
  refine (H37.out A0 c0 A1 c1 ns rs _ (HN.out.below HB0.out) hl0 hl1).mono ?_
  rintro e w1 ⟨rfl, hb⟩
  have HB1 := Aside0.mk (below_trans HB0.out hb)
  have HG1 := Aside0.mk (blk_below HG0.out hb)
  have HR1 := Aside0.mk (blk_below HR0.out hb)
  clear hb HB0 HG0 HR0
  rcases graphE_cases ns rs with hge | hge
  case inr =>
    have HE := Aside0.mk (of_bad hge)
    rw [hge]
    clear hge
    obtain ⟨hr0, hr1⟩ := box2 HR1.out
    have hf0 := blk_frozen HR1.out 0
    have hb1 := blk_put HR1.out 0 (.slice none 0 0) rfl
    have hr2 := (box2 hb1).2
    have hf2 := blk_frozen hb1 1
    have hb2 := blk_put hb1 1 (.slice none 0 0) rfl
    have HB2 := Aside0.mk hb2
    have HBW := Aside0.mk ((HB1.out.setCell (p := ⟨w.heap.size + 1, 0, none⟩) (by simp) (.slice none 0 0)).setCell (p := ⟨w.heap.size + 1, 1, none⟩) (by simp) (.slice none 0 0))
    clear hb1 hb2
    go_wp2_with fail
    refine bodyPost_ret (results_ct rfl _ _ (w.heap.size + 1) 25 #[.slice none 0 0, .slice none 0 0] (0, 0) _ rfl HB2.out Try.underlying25 rfl (by kernel_rfl)) rfl ?_
    exact ⟨none, 0, none, 0, [], [], by rw [HE.out]; rfl, netC_nil _, HBW.out, by rw [HE.out]; rfl, by rw [HE.out]; rfl⟩
  rw [hge]
  have HGE := Aside0.mk hge
  have HND := Aside0.mk (graph_nodes hge)
  clear hge
  obtain ⟨hg0, hg1⟩ := box2 HG1.out
  have hgs := blk_lt HG1.out
  have hr1s := blk_lt HR1.out
  have HC0 : Aside0 (CloSt w1 (w1.alloc (.cells #[.slice none 0 0, .slice none 0 0] 25)) w1.heap.size (.slice none (0 : Int).toNat 0) (.slice none 0 0) [] ((ofN ns).take (0 : Int).toNat) [] (fun _ => 1)) := ⟨⟨(Below.refl _ _).alloc (Nat.le_refl _) _, blk_new _ _, Kd.R_nil _ _ _ _ _, rfl, fun i hd hi => by simp at hi, Kd.R_nil _ _ _ _ _, Nat.le_refl _⟩⟩
  go_wp2_with fail
  generalize (w1.alloc (.cells #[.slice none 0 0, .slice none 0 0] 25)) = w4 at HC0 ⊢
  obtain ⟨ob, hob⟩ : ∃ ob, ob = w1.heap.size := ⟨_, rfl⟩
  rw [← hob] at HC0 ⊢
  have hob1 : w1.heap.size ≤ ob := by omega
  clear hob hg0 hg1 hgs
  go_loopw [7, 6] (fun v7 v6 wr => ∃ (i m : Int) (H : List Hdr) (O : Nat → Nat) (AN : Option Addr) (kN : Nat), v7 = .int .i64 i ∧ v6 = .int .i64 m ∧ 0 ≤ i ∧ i ≤ ns.length ∧ 0 ≤ m ∧ m ≤ 60 + 126 * i ∧ Aside0 (∀ j : Int, 0 ≤ j → j < i → (ns.getD j.toNat noN).1 ≠ 3) ∧ Aside0 (CloSt w1 wr ob (.slice AN i.toNat kN) (.slice none 0 0) H ((ofN ns).take i.toNat) [] O)) (fun v _ _ => ns.length - (intOf v).toNat)
  case atStart => exact ⟨0, _, _, _, none, 0, rfl, rfl, by omega, by omega, by omega, by omega, ⟨fun j h0 h1 => by omega⟩, HC0⟩
  case round =>
    clear HC0
    obtain ⟨i, m, H, O, AN, kN, rfl, rfl, hi0, hi1, hm0, hm1, HP, HC⟩ := hrel
    have HB := Aside0.mk HC.out.below
    obtain ⟨hg0, hg1⟩ := box2 (blk_below HG1.out HB.out)
    have hgs := blk_lt (blk_below HG1.out HB.out)
    by_cases hil : i < ns.length
    case pos =>
      obtain ⟨ad, k, AP, ps, cp, AD, ds, cd, e, HXE, hc0w, hc1w, hc2w, hpp⟩ := at_node HN.out.nodes i hi0 hil
      cases e
      have hbw := below_trans HB1.out HB.out
      have hc0 := (hbw.cell (World.block_lt_of_cell? _ _ hc0w)).trans hc0w
      have hc1 := (hbw.cell (World.block_lt_of_cell? _ _ hc1w)).trans hc1w
      have hc2 := (hbw.cell (World.block_lt_of_cell? _ _ hc2w)).trans hc2w
      clear hc0w hc1w hc2w hbw
      have hpl : ps.length ≤ 126 := by
        have := node_ptrs (HND.out i.toNat (by omega))
        rw [← HXE.out] at this
        exact this
      have HPP := Aside0.mk hpp
      have hx0 := blk_new wr (.cells #[.int .i64 k, .slice AP ps.length cp, .slice AD ds.length cd] 61)
      have hxk := (blk_cell hx0 0).trans (show _ = some (Value.int .i64 k) from rfl)
      have hxp := (blk_cell hx0 1).trans (show _ = some (Value.slice AP ps.length cp) from rfl)
      have HX0 := Aside0.mk hx0
      have HBX : Aside0 (Below wr.heap.size wr (wr.alloc (.cells #[.int .i64 k, .slice AP ps.length cp, .slice AD ds.length cd] 61))) := ⟨(Below.refl _ _).alloc (Nat.le_refl _) _⟩
      have HR2 := Aside0.mk (blk_below HR1.out (HB.out.trans (HBX.out.mono HB.out.size)))
      have hxs : w1.heap.size ≤ wr.heap.size := HB.out.size
      clear hpp hx0
      by_cases hk3 : k = 3
      · have hk3b : (k == 3) = true := by simpa using hk3
        have HE := Aside0.mk (of_pair HGE.out (kind_any hi0 hil (by rw [← HXE.out]; exact hk3)))
        obtain ⟨hr0, hr1⟩ := box2 HR2.out
        have hf0 := blk_frozen HR2.out 0
        have hb1 := blk_put HR2.out 0 (.slice none 0 0) rfl
        have hr2 := (box2 hb1).2
        have hf2 := blk_frozen hb1 1
        have hb2 := blk_put hb1 1 (.slice none 0 0) rfl
        have HB2 := Aside0.mk hb2
        have HBW := Aside0.mk (((below_trans HB1.out (HB.out.trans (HBX.out.mono HB.out.size))).setCell (p := ⟨w.heap.size + 1, 0, none⟩) (by simp) (.slice none 0 0)).setCell (p := ⟨w.heap.size + 1, 1, none⟩) (by simp) (.slice none 0 0))
        clear hb1 hb2 hk3
        go_wp2_with fail
        refine bodyPost_ret (results_ct rfl _ _ (w.heap.size + 1) 25 #[.slice none 0 0, .slice none 0 0] (0, 0) _ rfl HB2.out Try.underlying25 rfl (by kernel_rfl)) rfl ?_
        exact ⟨none, 0, none, 0, [], [], by rw [HE.out]; rfl, netC_nil _, HBW.out, by rw [HE.out]; rfl, by rw [HE.out]; rfl⟩
      have hk3b : (k == 3) = false := by simpa using hk3
      have HK3 := Aside0.mk hk3
      have hps64 : ps.length ≤ 9223372036854775807 := by omega
      have HP2 : Aside0 (∀ j : Int, 0 ≤ j → j < i + 1 → (ns.getD j.toNat noN).1 ≠ 3) := ⟨fun j j0 j1 => by
        by_cases h : j < i
        · exact HP.out j j0 h
        · obtain rfl : j = i := by omega
          rw [← HXE.out]; exact HK3.out⟩
      have HTK : Aside0 ((ofN ns).take (i + 1).toNat = (ofN ns).take i.toNat ++ [goesTo (k, (ps, ds))]) := ⟨by rw [show (i + 1).toNat = i.toNat + 1 from by omega, ofN_take ns i.toNat (by omega), HXE.out]⟩
      have htl : ((ofN ns).take i.toNat).length = i.toNat := by rw [List.length_take, ofN_len]; omega
      have HTL := Aside0.mk htl
      have hHl : H.length = i.toNat := by rw [HC.out.len]; exact htl
      clear hk3 htl HP
      go_wp2_with fail
      generalize (wr.alloc (.cells #[.int .i64 k, .slice AP ps.length cp, .slice AD ds.length cd] 61)) = w5 at HX0 HBX HR2 hxk hxp ⊢
      obtain ⟨xb, hxb⟩ : ∃ xb, xb = wr.heap.size := ⟨_, rfl⟩
      rw [← hxb] at HX0 hxk hxp ⊢
      clear hxb hxk hxp hc0 hc1 hc2 hg0 hg1 hgs HR2
      have hxlt := blk_lt HX0.out
      obtain ⟨wp, hwp⟩ : ∃ wp : World, wp = wr := ⟨_, rfl⟩
      subst hwp
      go_loopw [10, 9] (fun v10 v9 wq => ∃ (j : Int) (L : List Int) (AL : Option Addr) (kL : Nat), v10 = .int .i64 j ∧ v9 = .slice AL L.length kL ∧ 0 ≤ j ∧ j ≤ ps.length ∧ Aside0 (L = part (k, (ps, ds)) j.toNat) ∧ Aside0 (Kd.R (Kd.int .i64) 3 wq wp.heap.size (fun z => z ≠ xb) (.slice AL L.length kL) L) ∧ Aside0 (Below wp.heap.size wp wq) ∧ Aside0 (wq.heap[xb]? = some (.cells #[.int .i64 k, .slice AP ps.length cp, .slice AD ds.length cd] 61 (0, 0)))) (fun v _ _ => ps.length - (intOf v).toNat)
      case atStart => exact ⟨0, [], none, 0, rfl, rfl, by omega, by omega, ⟨by rw [show (0 : Int).toNat = 0 from rfl, part_zero]⟩, ⟨Kd.R_nil _ _ _ _ _⟩, HBX, HX0⟩
      case round =>
        clear HX0 HBX
        obtain ⟨j, L, AL, kL, rfl, rfl, hj0, hj1, HL, HLR, HBQ, HX⟩ := hrel
        have hxk := (blk_cell HX.out 0).trans (show _ = some (Value.int .i64 k) from rfl)
        have hxp := (blk_cell HX.out 1).trans (show _ = some (Value.slice AP ps.length cp) from rfl)
        have hL126 : L.length ≤ 126 := by
          rw [HL.out]
          have := part_len (k, (ps, ds)) j.toNat
          simp only at this
          omega
        have hend : ¬ (j < ps.length ∧ k = 1) → L = goesTo (k, (ps, ds)) := fun h => by
          rw [HL.out]
          by_cases hk1 : k = 1
          · have hj : j.toNat = ps.length := by omega
            rw [hj]; exact part_end (k, (ps, ds))
          · exact part_other hk1 _
        have HEND := Aside0.mk hend
        clear hend
        by_cases hgo : j < ps.length ∧ k = 1
        case neg =>
          have HLE := Aside0.mk (HEND.out hgo)
          have hob2 := blk_below HC.out.obk HBQ.out
          obtain ⟨hp0, hp1⟩ := box2 hob2
          have hrr := Aside0.mk (Kd.R_mono (ok' := fun _ => True) HLR.out (fun _ _ => trivial))
          have hoblt := blk_lt hob2
          have hfin : ∀ b1 b2 : Bool, b1 = decide (j < (ps.length : Int)) → b2 = (k == 1) → (b1 && b2) = false := fun b1 b2 e1 e2 => by
            subst e1 e2
            rw [Bool.and_eq_false_iff]
            by_cases h : j < (ps.length : Int)
            · right; simpa using fun hk => hgo ⟨h, hk⟩
            · left; exact decide_eq_false h
          have hcase : decide (j < (ps.length : Int)) = false ∨ (decide (j < (ps.length : Int)) = true ∧ (k == 1) = false) := by
            by_cases h : j < (ps.length : Int)
            · right; exact ⟨decide_eq_true h, by simpa using fun hk => hgo ⟨h, hk⟩⟩
            · left; exact decide_eq_false h
          clear hgo hfin
          have fin : ∀ P : Prop, (decide (j < (ps.length : Int)) = false → P) → (decide (j < (ps.length : Int)) = true → (k == 1) = false → P) → P := fun P h1 h2 => hcase.elim h1 (fun h => h2 h.1 h.2)
          clear hcase
          refine fin _ (fun hjb => ?_) (fun hjb hkb => ?_)
          all_goals clear fin
          all_goals (
            go_wp2_with (at_builtin; go_loud (refine Kd.R_append KdH (w0 := w1) w1.heap.size rfl (.tmp 69) (.tmp 71) 22 23 (.slice none 0 0) 24 rfl Try.underlying22 info23 rfl (by decide) (by omega) (.slice AN i.toNat kN) H (AL, L.length, kL) [.slice AL L.length kL] (fun _ => True) (fun _ => False) rfl ?aX ?aP (fun _ hk => hk.elim) (fun _ _ => trivial) ?aO ?aB ?aS ?aL ?_; (case aP => exact rfl); (case aX => go_simp); (case aB => exact (HC.out.step HBQ.out).below); (case aO => exact (HC.out.step HBQ.out).heads); (case aS => exact (HC.out.step HBQ.out).below.size); (case aL => omega); intro v1 w6 ho hb hg hat; obtain ⟨A1', k1, e1⟩ := Kd.R_slice ho; rw [List.length_append, List.length_singleton, hHl, show i.toNat + 1 = (i + 1).toNat from by omega] at e1; subst e1; have H1 := Aside0.mk (HC.out.more (j := i.toNat) HTL.out.symm HBQ.out hrr.out rfl ho hb hg); have hq1 := (box2 H1.out.1).1; have hqf := blk_frozen H1.out.1 0; clear ho hb hg hat))
            go_roundw
            case rel => exact ⟨i + 1, m + ps.length, _, _, A1', k1, rfl, rfl, by omega, by omega, by omega, by omega, HP2, ⟨by rw [HTK.out, ← HLE.out]; exact H1.out.2⟩⟩
            case measure => simp [intOf]; omega)
        obtain ⟨hjl, hk1⟩ := hgo
        have hk1b : (k == 1) = true := by simpa using hk1
        have hjb : decide (j < (ps.length : Int)) = true := decide_eq_true hjl
        obtain ⟨ap, e, hpc⟩ := Kd.at_int (Kd.C_below HPP.out (below_trans (below_trans HB1.out HB.out) HBQ.out)) j hj0 hjl
        cases e
        have hps := part_succ (x := (k, (ps, ds))) hj0 hjl
        simp only at hps
        rw [← HL.out] at hps
        obtain ⟨q, hq⟩ : ∃ q, q = rd ps j := ⟨_, rfl⟩
        rw [← hq] at hpc hps
        clear hq
        by_cases hq0 : q ≥ 0
        case neg =>
          have hq0b : decide (q ≥ 0) = false := decide_eq_false hq0
          rw [if_neg (fun h => hq0 h.2)] at hps
          have HPS := Aside0.mk hps
          clear hps hk1 hq0
          go_wp2_with fail
          go_roundw
          case rel => exact ⟨j + 1, L, AL, kL, rfl, rfl, by omega, by omega, ⟨HPS.out.symm⟩, HLR, HBQ, HX⟩
          case measure => simp [intOf]; omega
        have hq0b : decide (q ≥ 0) = true := decide_eq_true hq0
        rw [if_pos ⟨hk1, hq0⟩] at hps
        have HPS := Aside0.mk hps
        have hxwq := blk_lt HX.out
        clear hps hk1 hq0
        go_wp2_with (at_builtin; go_loud (refine Kd.R_append (Kd.int .i64) (w0 := wp) wp.heap.size rfl (.tmp 60) (.tmp 66) 23 3 (.int .i64 0) 8 rfl Try.underlying23 info3 rfl (by decide) (by omega) (.slice AL L.length kL) L q [.int .i64 q] (fun z => z ≠ xb) (fun _ => False) rfl ?aX ?aP (fun _ hk => hk.elim) ?aF ?aO ?aB ?aS ?aL ?_; (case aP => exact rfl); (case aX => go_simp); (case aF => (intro z hz; omega)); (case aB => exact HBQ.out); (case aO => exact HLR.out); (case aS => exact HBQ.out.size); (case aL => omega); intro v1 w6 ho hb hg hat; obtain ⟨A1', k1, e1⟩ := Kd.R_slice ho; rw [List.length_append, List.length_singleton] at e1; subst e1; have H1 := Aside0.mk (And.intro ho hb); have HX2 := Aside0.mk (blk_grown HX.out hg (Kd.R_ne HLR.out HX.out (by decide))); clear ho hb hg hat))
        go_roundw
        case rel => exact ⟨j + 1, L ++ [q], A1', k1, rfl, by rw [List.length_append, List.length_singleton], by omega, by omega, ⟨HPS.out.symm⟩, ⟨by rw [List.length_append, List.length_singleton]; exact H1.out.1⟩, ⟨H1.out.2⟩, HX2⟩
        case measure => simp [intOf]; omega
    case neg =>
      have hme : m ≤ 7620 := by omega
      have HPA := Aside0.mk (of_ok HGE.out (kind_none (fun j j0 j1 => HP.out j j0 (by omega))))
      have HC2 := HC.out
      have hse0 : (ofN ns).take i.toNat = ofN ns := List.take_of_length_le (by rw [ofN_len]; omega)
      rw [hse0] at HC2
      have HC3 : Aside0 (CloSt w1 wr ob (.slice AN i.toNat kN) (.slice none 0 0) H (ofN ns) ((ofS rs).take (0 : Int).toNat) O) := ⟨HC2⟩
      clear HC HC2 HP hse0
      go_wp2_with fail
      obtain ⟨nn, hnn⟩ : ∃ nn, nn = i.toNat := ⟨_, rfl⟩
      rw [← hnn] at HC3
      clear hnn
      clear hg0 hg1 hgs
      go_loopw [11] (fun v11 wr => ∃ (i : Int) (O : Nat → Nat) (AS : Option Addr) (kS : Nat), v11 = .int .i64 i ∧ 0 ≤ i ∧ i ≤ rs.length ∧ Aside0 (CloSt w1 wr ob (.slice AN nn kN) (.slice AS i.toNat kS) H (ofN ns) ((ofS rs).take i.toNat) O)) (fun v _ => rs.length - (intOf v).toNat)
      case atStart => exact ⟨0, O, none, 0, rfl, by omega, by omega, HC3⟩
      case round =>
        clear HC3 HB
        obtain ⟨i, O, AS, kS, rfl, hi0, hi1, HC⟩ := hrel
        have HB := Aside0.mk (below_trans HB1.out HC.out.below)
        obtain ⟨ho0, ho1⟩ := box2 HC.out.obk
        obtain ⟨hg0, hg1⟩ := box2 (blk_below HG1.out HC.out.below)
        by_cases hil : i < rs.length
        case neg =>
          have hse : (ofS rs).take i.toNat = ofS rs := List.take_of_length_le (by rw [ofS_len]; omega)
          have hc := HC.out.lower HB1.out
          rw [hse] at hc
          have HR3 := Aside0.mk (blk_below HR1.out HC.out.below)
          have hne : ob ≠ w.heap.size + 1 := by omega
          obtain ⟨hr0, hr1⟩ := box2 HR3.out
          have hf0 := blk_frozen HR3.out 0
          have hb1 := blk_put HR3.out 0 (.slice AN nn kN) rfl
          have hc1 := hc.setC HR3.out hne (by omega) 0 (.slice AN nn kN)
          have hr2 := (box2 hb1).2
          have hf2 := blk_frozen hb1 1
          have hb2 := blk_put hb1 1 (.slice AS i.toNat kS) rfl
          have hc2 := hc1.setC hb1 hne (by omega) 1 (.slice AS i.toNat kS)
          obtain ⟨A, c, A', c', e1, e2, hnet⟩ := of_net hc2 hl0 HND.out
          have HF := Aside0.mk (And.intro hb2 (And.intro hnet (And.intro e1 (And.intro e2 hc2.below))))
          clear hb1 hb2 hc1 hc2 hc hnet e1 e2 hse HC
          go_wp2_with fail
          refine bodyPost_ret (results_ct rfl _ _ (w.heap.size + 1) 25 #[.slice AN nn kN, .slice AS i.toNat kS] (0, 0) _ rfl HF.out.1 Try.underlying25 rfl (by kernel_rfl)) rfl ?_
          exact ⟨A, c, A', c', ofN ns, ofS rs, by rw [HF.out.2.2.1, HF.out.2.2.2.1, HPA.out]; rfl, HF.out.2.1, HF.out.2.2.2.2, by rw [HPA.out]; rfl, by rw [HPA.out]; rfl⟩
        obtain ⟨ad, s, x, e, HRX, hc0w, hc1w⟩ := at_root HN.out.roots i hi0 hil
        cases e
        have hc1 := (HB.out.cell (World.block_lt_of_cell? _ _ hc1w)).trans hc1w
        have HT := Aside0.mk (ofS_take rs hi0 hil)
        have htl : ((ofS rs).take i.toNat).length = i.toNat := by rw [List.length_take, ofS_len]; omega
        have HTL := Aside0.mk htl
        have hi60 : i ≤ 60 := by omega
        have HC1W := Aside0.mk hc1w
        clear hc0w hc1w htl
        go_wp2_with fail
        have HC' := Aside0.mk HC.out.drew
        clear HC
        have HC := HC'
        clear HC'
        have hc1d : wr.drew.cell? ⟨(ad.add (i.toNat * 2)).block, (ad.add (i.toNat * 2)).off + 1, none⟩ = some (.int .i64 x) := hc1
        clear hc1
        refine start_ (n := 12) (S := fun w' => w'.cell? ⟨ob, 1, none⟩ = some (.slice AS i.toNat kS) ∧ w'.cell? ⟨w.heap.size, 1, none⟩ = some (.slice (some ad) rs.length c1) ∧ w'.cell? ⟨(ad.add (i.toNat * 2)).block, (ad.add (i.toNat * 2)).off + 1, none⟩ = some (.int .i64 x)) (ds := [11]) #[false, false, false, false, false, false, false, false, false, false, false, false] (by kernel_rfl) rfl rfl ⟨ho1, hg1, hc1d⟩ (fun hHeld => ?_)
        refine with_tabW tab_36_25 bits_36_25 (fun HT_ HW_ => ?_)
        generalize wr.drew = wd at HC hc1d hHeld ⊢
        refine pure_ (i := 0) (N := some 84) (v := ?_) (a' := ?_) #[true, false, false, false, false, false, false, false, false, false, false, false] rfl rfl (any_of HT_.out (by kernel_rfl)) (fun _ _ _ h => h) (Or.inl ⟨by rfl, ?_⟩) ?_ ?_
        rotate_left
        · intro w'
          go_simp
          with_reducible rfl
        rotate_left
        · simp only [Act.put, List.setIfInBounds_toArray, List.set_cons_zero, List.set_cons_succ, i64_w, i32_w]
          rfl
        refine pure_ (i := 2) (N := some 86) (v := ?_) (a' := ?_) #[true, false, true, false, false, false, false, false, false, false, false, false] rfl rfl (any_of HT_.out (by kernel_rfl)) (fun _ _ _ h => h) (Or.inl ⟨by rfl, ?_⟩) ?_ ?_
        rotate_left
        · intro w'
          go_simp
          with_reducible rfl
        rotate_left
        · simp only [Act.put, List.setIfInBounds_toArray, List.set_cons_zero, List.set_cons_succ, i64_w, i32_w]
          rfl
        refine pure_ (i := 4) (N := some 88) (v := ?_) (a' := ?_) #[true, false, true, false, true, false, false, false, false, false, false, false] rfl rfl (any_of HT_.out (by kernel_rfl)) (fun _ _ _ h => h) (Or.inl ⟨by rfl, ?_⟩) ?_ ?_
        rotate_left
        · intro w'
          go_simp
          with_reducible rfl
        rotate_left
        · simp only [Act.put, List.setIfInBounds_toArray, List.set_cons_zero, List.set_cons_succ, i64_w, i32_w]
          rfl
        refine take_ (i := 1) (N := some 85) (v := ?_) (a' := ?_) #[true, true, true, false, true, false, false, false, false, false, false, false] rfl rfl (take_ofW HT_.out HW_.out (by kernel_rfl)) (fun _ _ _ h => h) (Or.inl ⟨by rfl, ?_⟩) hHeld ?_ ?_
        rotate_left
        · rintro w' ⟨s0, s1, s2⟩
          go_simp
          with_reducible rfl
        rotate_left
        · simp only [Act.put, List.setIfInBounds_toArray, List.set_cons_zero, List.set_cons_succ, i64_w, i32_w]
          rfl
        refine take_ (i := 3) (N := some 87) (v := ?_) (a' := ?_) #[true, true, true, true, true, false, false, false, false, false, false, false] rfl rfl (take_ofW HT_.out HW_.out (by kernel_rfl)) (fun _ _ _ h => h) (Or.inl ⟨by rfl, ?_⟩) hHeld ?_ ?_
        rotate_left
        · rintro w' ⟨s0, s1, s2⟩
          go_simp
          with_reducible rfl
        rotate_left
        · simp only [Act.put, List.setIfInBounds_toArray, List.set_cons_zero, List.set_cons_succ, i64_w, i32_w]
          rfl
        refine pure_ (i := 5) (N := some 89) (v := ?_) (a' := ?_) #[true, true, true, true, true, true, false, false, false, false, false, false] rfl rfl (any_of HT_.out (by kernel_rfl)) (fun _ _ _ h => h) (Or.inl ⟨by rfl, ?_⟩) ?_ ?_
        rotate_left
        · intro w'
          go_simp
          with_reducible rfl
        rotate_left
        · simp only [Act.put, List.setIfInBounds_toArray, List.set_cons_zero, List.set_cons_succ, i64_w, i32_w]
          rfl
        refine pure_ (i := 6) (N := some 90) (v := ?_) (a' := ?_) #[true, true, true, true, true, true, true, false, false, false, false, false] rfl rfl (any_of HT_.out (by kernel_rfl)) (fun _ _ _ h => h) (Or.inl ⟨by rfl, ?_⟩) ?_ ?_
        rotate_left
        · intro w'
          go_simp
          with_reducible rfl
        rotate_left
        · simp only [Act.put, List.setIfInBounds_toArray, List.set_cons_zero, List.set_cons_succ, i64_w, i32_w]
          rfl
        refine take_ (i := 7) (N := some 91) (v := ?_) (a' := ?_) #[true, true, true, true, true, true, true, true, false, false, false, false] rfl rfl (take_ofW HT_.out HW_.out (by kernel_rfl)) (fun _ _ _ h => h) (Or.inl ⟨by rfl, ?_⟩) hHeld ?_ ?_
        rotate_left
        · rintro w' ⟨s0, s1, s2⟩
          go_simp
          with_reducible rfl
        rotate_left
        · simp only [Act.put, List.setIfInBounds_toArray, List.set_cons_zero, List.set_cons_succ, i64_w, i32_w]
          rfl
        refine one_ (i := 8) (N := some 92) #[true, true, true, true, true, true, true, true, true, false, false, false] rfl rfl (one_of HT_.out (by kernel_rfl)) (by decide) (fun K hK => ?_)
        refine event_step (w1 := ?_) (v := ?_) (by rfl) ?_ ?_
        rotate_left 2
        · go_simp
          constructor <;> rfl
        refine hK.out _ _ ?_ ?_
        · exact ⟨(((Below.refl _ wd).alloc (Nat.le_refl _) _).cell (World.block_lt_of_cell? _ _ hHeld.1)).trans hHeld.1, (((Below.refl _ wd).alloc (Nat.le_refl _) _).cell (World.block_lt_of_cell? _ _ hHeld.2.1)).trans hHeld.2.1, (((Below.refl _ wd).alloc (Nat.le_refl _) _).cell (World.block_lt_of_cell? _ _ hHeld.2.2)).trans hHeld.2.2⟩
        have HHL := Aside0.mk hHeld
        clear hK K hHeld
        intro hHeld
        refine one_ (i := 9) (N := some 93) #[true, true, true, true, true, true, true, true, true, true, false, false] rfl rfl (one_of HT_.out (by kernel_rfl)) (by decide) (fun K hK => ?_)
        refine Kd.R_append_step (Kd.int .i64) (w0 := w1) w1.heap.size (by rfl) (.tmp 85) (.tmp 92) 23 3 (.int .i64 0) 8 rfl Try.underlying23 info3 rfl (by decide) (by omega) (.slice AS i.toNat kS) ((ofS rs).take i.toNat) x [.int .i64 x] (fun z => ownTo O wd.heap.size 1 z = 1) (fun _ => False) (by rfl) (by rfl) ?aP (fun _ hk => hk.elim) ?aF ?aO ?aB ?aS ?aL ?_
        case aP => exact rfl
        case aF => intro z hz; unfold ownTo; rw [if_pos hz]
        case aO => exact R_ownTo (Nat.le_refl _) HC.out.start
        case aB => exact HC.out.below
        case aS => exact HC.out.below.size
        case aL => have := HTL.out; omega
        intro v1 w3 ho hb hg hat
        obtain ⟨A1', k1, e1⟩ := Kd.R_slice ho
        rw [List.length_append, List.length_singleton, HTL.out, show i.toNat + 1 = (i + 1).toNat from by omega] at e1
        subst e1
        have H1 := Aside0.mk (HC.out.appStart ho hb hg)
        have hq1 := (box2 H1.out.1).2
        have hqf := blk_frozen H1.out.1 1
        have hgw := (box2 (blk_below HG1.out hb)).2
        have hrw := (below_trans HB1.out hb).cell (World.block_lt_of_cell? _ _ HC1W.out)
        rw [HC1W.out] at hrw
        clear ho hb hg hat
        refine hK.out _ _ ?_ ?_
        · exact ⟨hq1, hgw, hrw⟩
        clear hK K
        intro hHeld
        refine pure_ (i := 10) (N := some 94) (v := ?_) (a' := ?_) #[true, true, true, true, true, true, true, true, true, true, true, false] rfl rfl (any_of HT_.out (by kernel_rfl)) (fun _ _ _ h => h) (Or.inl ⟨by rfl, ?_⟩) ?_ ?_
        rotate_left
        · intro w'
          go_simp
          with_reducible rfl
        rotate_left
        · simp only [Act.put, List.setIfInBounds_toArray, List.set_cons_zero, List.set_cons_succ, i64_w, i32_w]
          rfl
        refine last_ (i := 11) (N := none) #[true, true, true, true, true, true, true, true, true, true, true, true] rfl rfl (one_of HT_.out (by kernel_rfl)) (by decide) (fun K hK => ?_)
        refine skip_ (w1 := ?_) (by rfl) rfl ?_ ?_
        rotate_left
        · go_simp
          rfl
        refine hK.out _ _ ?_
        clear hK K
        refine done_ (done_of HT_.out (by kernel_rfl)) ?_
        go_wp2_with fail
        go_roundw
        case rel => exact ⟨i + 1, _, A1', k1, rfl, by omega, by omega, ⟨by rw [HT.out, ← HRX.out]; exact H1.out.2⟩⟩
        case measure => simp [intOf]; omega
end Go.Proofs.Ytgbmebnfbhdpiaa
namespace Go.Proofs.Ytgbmebnfbhdpiaa
open Go.RowKit Go.Proofs.YtgbmebnfbhdpiaaW.PrintWords Go.Proofs.YtgbmebnfbhdpiaaW.PrintLast

theorem data_len {w : World} {A : Option Addr} {n : Nat} {ns : List GN} (h : Kd.C kN w A n ns) {i k : Int} {ps ds : List Int} (hx : (k, (ps, ds)) = ns.getD i.toNat noN) (h0 : 0 ≤ i) (h1 : i < n) : ds.length ≤ 9223372036854775807 := by
  obtain ⟨ad, cs, e, hl, hk, hcell⟩ := Kd.C_get h noN i h0 h1
  rw [← hx] at hk
  obtain ⟨a0, a1, rfl, ha0, ⟨b0, b1, rfl, ⟨AP, cp, rfl, hcp, hrp⟩, ⟨AD, cd, rfl, hcd, hrd⟩⟩⟩ := hk
  exact hrd.2.1
set_option maxRecDepth 100000 in
set_option maxHeartbeats 4000000 in
theorem f9_of (h58 : SpecCheck 58) (h37 : SpecCheck 37) (A0 : Option Addr) (c0 : Nat) (A1 : Option Addr) (c1 : Nat) (ns : List GN) (rs : List GR) (w : World) (hn : GraphC w A0 c0 A1 c1 ns rs) :
    Calls Try.prog 9 #[.agg #[.slice A0 ns.length c0, .slice A1 rs.length c1]] w fun e w' => e = .returned (.bool true) ∧ Below w.heap.size w w' := by
  have HN := Aside0.mk hn
  have H58 := Aside0.mk h58
  have H37 := Aside0.mk h37
  have hL0 : ns.length ≤ 9223372036854775807 := hn.nodes.2.1
  have hL1 : rs.length ≤ 9223372036854775807 := hn.roots.2.1
  have hcap := hn.ncap
  clear hn h58 h37
  have HB1 : Aside0 (Below w.heap.size w (w.alloc (.cells #[.slice A0 ns.length c0, .slice A1 rs.length c1] 58))) := ⟨(Below.refl _ _).alloc (Nat.le_refl _) _⟩
  have HG1 : Aside0 ((w.alloc (.cells #[.slice A0 ns.length c0, .slice A1 rs.length c1] 58)).heap[w.heap.size]? = some (.cells #[.slice A0 ns.length c0, .slice A1 rs.length c1] 58 (0, 0))) := ⟨blk_new _ _⟩
  have hmn : ∃ M : Nat, M ≤ ns.length ∧ (if (100 : Int) < ns.length then (100 : Int) else ns.length) = M := by
    by_cases h : (100 : Int) < ns.length
    · exact ⟨100, by omega, by rw [if_pos h]; rfl⟩
    · exact ⟨ns.length, Nat.le_refl _, by rw [if_neg h]⟩
  go_enter Try.func9, Try.ntmps9
  go_wp2_with fail
  all_goals (
    go_loopw [3, 18] (fun v3 v18 wr => ∃ i m : Int, v3 = .int .i64 m ∧ v18 = .int .i64 i ∧ 0 ≤ i ∧ i ≤ ns.length ∧ 0 ≤ m ∧ m ≤ 1048576 ∧ Aside0 (Below w.heap.size w wr) ∧ Aside0 (wr.heap[w.heap.size]? = some (.cells #[.slice A0 ns.length c0, .slice A1 rs.length c1] 58 (0, 0)))) (fun _ v18 _ => ns.length - (intOf v18).toNat)
    case atStart => exact ⟨0, 0, rfl, rfl, by omega, by omega, by omega, by omega, HB1, HG1⟩
    case round =>
      clear HB1 HG1
      obtain ⟨i, m, rfl, rfl, hi0, hi1, hm0, hm1, HB, HG⟩ := hrel
      obtain ⟨hg0, hg1⟩ := box2 HG.out
      by_cases hil : i < ns.length
      case pos =>
        by_cases h100 : i < 100
        case pos =>
          obtain ⟨ad, k, AP, ps, cp, AD, ds, cd, e, HXE, hc0, hc1, hc2, hpp⟩ := at_node (Kd.C_below HN.out.nodes HB.out) i hi0 hil
          cases e
          have hpl : ps.length ≤ 9223372036854775807 := hpp.2.1
          have hx0 := blk_new wr (.cells #[.int .i64 k, .slice AP ps.length cp, .slice AD ds.length cd] 61)
          have hx1 := (blk_cell hx0 1).trans (show _ = some (Value.slice AP ps.length cp) from rfl)
          have hx2 := (blk_cell hx0 2).trans (show _ = some (Value.slice AD ds.length cd) from rfl)
          have HB2 := Aside0.mk (HB.out.alloc HB.out.size (.cells #[.int .i64 k, .slice AP ps.length cp, .slice AD ds.length cd] 61))
          have HG2 := Aside0.mk (blk_alloc HG.out (.cells #[.int .i64 k, .slice AP ps.length cp, .slice AD ds.length cd] 61))
          have hdl : ds.length ≤ 9223372036854775807 := data_len HN.out.nodes HXE.out hi0 hil
          clear hpp hx0
          go_wp2_with fail
          go_roundw
          case rel => exact ⟨i + 1, _, rfl, rfl, by omega, by omega, by omega, by omega, HB2, HG2⟩
          case measure => simp [intOf]; omega
        case neg =>
          first
            | (exfalso; omega)
            | ((have hne : A0 = A0 := rfl)
               go_wp2_with fail
               refine (f11_any _).mono ?_
               rintro e w2 ⟨rfl, hb⟩
               have HB2 := Aside0.mk (below_trans HB.out hb)
               have HG2 := Aside0.mk (blk_below HG.out hb)
               clear hb HB HG hg0 hg1
               obtain ⟨hg0, hg1⟩ := box2 HG2.out
               by_cases h60 : (ns.length : Int) > 60
               · have h60b : decide ((ns.length : Int) > 60) = true := decide_eq_true h60
                 go_wp2_with fail
                 refine (f11_any _).mono ?_
                 rintro e w9 ⟨rfl, hb9⟩
                 have HB9 := Aside0.mk (below_trans HB2.out hb9)
                 clear hb9
                 go_wp2_with fail
                 go_ret
                 exact ⟨rfl, HB9.out⟩
               have h60b : decide ((ns.length : Int) > 60) = false := decide_eq_false h60
               first
                 | (exfalso; omega)
                 | ((have hne2 : A1 = A1 := rfl)
                    by_cases hm2 : m > 20000
                    · have hm2b : decide (m > 20000) = true := decide_eq_true hm2
                      go_wp2_with fail
                      refine (f11_any _).mono ?_
                      rintro e w9 ⟨rfl, hb9⟩
                      have HB9 := Aside0.mk (below_trans HB2.out hb9)
                      clear hb9
                      go_wp2_with fail
                      go_ret
                      exact ⟨rfl, HB9.out⟩
                    have hm2b : decide (m > 20000) = false := decide_eq_false hm2
                    by_cases hr6 : (rs.length : Int) > 60
                    · have hr6b : decide ((rs.length : Int) > 60) = true := decide_eq_true hr6
                      go_wp2_with fail
                      refine (f11_any _).mono ?_
                      rintro e w9 ⟨rfl, hb9⟩
                      have HB9 := Aside0.mk (below_trans HB2.out hb9)
                      clear hb9
                      go_wp2_with fail
                      go_ret
                      exact ⟨rfl, HB9.out⟩
                    have hr6b : decide ((rs.length : Int) > 60) = false := decide_eq_false hr6
                    have hs60 : ns.length ≤ 60 := by omega
                    have ht60 : rs.length ≤ 60 := by omega
                    go_wp2_with fail
                    refine (f35_of H58.out _ c0 A1 c1 ns rs _ (HN.out.below HB2.out) hs60 ht60).mono ?_
                    rintro e w3 ⟨A, c, A', c', nx, st, rfl, hnet, hb, hnx, hst⟩
                    have HN3 := Aside0.mk (hnet.below ((Below.refl _ _).alloc (Nat.le_refl _) (.cells #[.slice A nx.length c, .slice A' st.length c'] 25)))
                    have HB3 : Aside0 (Below w.heap.size w (w3.alloc (.cells #[.slice A nx.length c, .slice A' st.length c'] 25))) := ⟨(below_trans HB2.out hb).alloc (below_trans HB2.out hb).size _⟩
                    have HG3 := Aside0.mk (blk_alloc (blk_below HG2.out hb) (.cells #[.slice A nx.length c, .slice A' st.length c'] 25))
                    have HX3 := Aside0.mk (blk_new w3 (.cells #[.slice A nx.length c, .slice A' st.length c'] 25))
                    have hg3 := blk_below HG2.out hb
                    obtain ⟨hk0, hk1⟩ := box2 hg3
                    have hk2 := blk_lt hg3
                    have HEQ := Aside0.mk (And.intro hnx hst)
                    clear hb hnet hnx hst hg3 hg0 hg1
                    go_wp2_with fail
                    obtain ⟨xb, hxb⟩ : ∃ xb, xb = w3.heap.size := ⟨_, rfl⟩
                    rw [← hxb] at HX3 ⊢
                    generalize (w3.alloc (.cells #[.slice A nx.length c, .slice A' st.length c'] 25)) = w4 at HN3 HB3 HG3 HX3 ⊢
                    clear hxb hk0 hk1 hk2
                    refine (f36_of H37.out _ c0 A1 c1 ns rs _ (HN.out.below HB3.out) hs60 ht60).mono ?_
                    rintro e w5 ⟨A2, c2, A3, c3, ny, su, rfl, hnet, hb, hny, hsu⟩
                    have HN5 := Aside0.mk (hnet.below ((Below.refl _ _).alloc (Nat.le_refl _) (.cells #[.slice A2 ny.length c2, .slice A3 su.length c3] 25)))
                    have HN6 := Aside0.mk ((HN3.out.below hb).below ((Below.refl _ _).alloc (Nat.le_refl _) (.cells #[.slice A2 ny.length c2, .slice A3 su.length c3] 25)))
                    have HB5 : Aside0 (Below w.heap.size w (w5.alloc (.cells #[.slice A2 ny.length c2, .slice A3 su.length c3] 25))) := ⟨(below_trans HB3.out hb).alloc (below_trans HB3.out hb).size _⟩
                    have hx5 := blk_below HX3.out hb
                    have hx6 := blk_alloc hx5 (.cells #[.slice A2 ny.length c2, .slice A3 su.length c3] 25)
                    have hy6 := blk_new w5 (.cells #[.slice A2 ny.length c2, .slice A3 su.length c3] 25)
                    obtain ⟨hx0, hx1⟩ := box2 hx6
                    obtain ⟨hy0, hy1⟩ := box2 hy6
                    have hx7 := blk_lt hx5
                    obtain ⟨hz0, hz1⟩ := box2 hx5
                    have HE2 : Aside0 (nx = ny ∧ st = su) := ⟨by rw [HEQ.out.1, hny], by rw [HEQ.out.2, hsu]⟩
                    clear hb hnet hny hsu hx5 hx6 hy6
                    have hee : (ofE ns rs == ofE ns rs) = true := by simp
                    go_wp2_with fail
                    refine (f32_any A c A' c' A2 c2 A3 c3 nx st ny su _ HN6.out HN5.out).mono ?_
                    rintro e w7 ⟨rfl, hb⟩
                    have HB7 := Aside0.mk (below_trans HB5.out hb)
                    clear hb
                    rw [sameNet_eq HE2.out]
                    go_wp2_with fail
                    go_ret
                    exact ⟨rfl, HB7.out⟩
                   )
              )
      case neg =>
        go_wp2_with fail
        refine (f11_any _).mono ?_
        rintro e w2 ⟨rfl, hb⟩
        have HB2 := Aside0.mk (below_trans HB.out hb)
        have HG2 := Aside0.mk (blk_below HG.out hb)
        clear hb HB HG hg0 hg1
        obtain ⟨hg0, hg1⟩ := box2 HG2.out
        by_cases h60 : (ns.length : Int) > 60
        · have h60b : decide ((ns.length : Int) > 60) = true := decide_eq_true h60
          go_wp2_with fail
          refine (f11_any _).mono ?_
          rintro e w9 ⟨rfl, hb9⟩
          have HB9 := Aside0.mk (below_trans HB2.out hb9)
          clear hb9
          go_wp2_with fail
          go_ret
          exact ⟨rfl, HB9.out⟩
        have h60b : decide ((ns.length : Int) > 60) = false := decide_eq_false h60
        first
          | (exfalso; omega)
          | ((have hne2 : A1 = A1 := rfl)
             by_cases hm2 : m > 20000
             · have hm2b : decide (m > 20000) = true := decide_eq_true hm2
               go_wp2_with fail
               refine (f11_any _).mono ?_
               rintro e w9 ⟨rfl, hb9⟩
               have HB9 := Aside0.mk (below_trans HB2.out hb9)
               clear hb9
               go_wp2_with fail
               go_ret
               exact ⟨rfl, HB9.out⟩
             have hm2b : decide (m > 20000) = false := decide_eq_false hm2
             by_cases hr6 : (rs.length : Int) > 60
             · have hr6b : decide ((rs.length : Int) > 60) = true := decide_eq_true hr6
               go_wp2_with fail
               refine (f11_any _).mono ?_
               rintro e w9 ⟨rfl, hb9⟩
               have HB9 := Aside0.mk (below_trans HB2.out hb9)
               clear hb9
               go_wp2_with fail
               go_ret
               exact ⟨rfl, HB9.out⟩
             have hr6b : decide ((rs.length : Int) > 60) = false := decide_eq_false hr6
             have hs60 : ns.length ≤ 60 := by omega
             have ht60 : rs.length ≤ 60 := by omega
             go_wp2_with fail
             refine (f35_of H58.out _ c0 A1 c1 ns rs _ (HN.out.below HB2.out) hs60 ht60).mono ?_
             rintro e w3 ⟨A, c, A', c', nx, st, rfl, hnet, hb, hnx, hst⟩
             have HN3 := Aside0.mk (hnet.below ((Below.refl _ _).alloc (Nat.le_refl _) (.cells #[.slice A nx.length c, .slice A' st.length c'] 25)))
             have HB3 : Aside0 (Below w.heap.size w (w3.alloc (.cells #[.slice A nx.length c, .slice A' st.length c'] 25))) := ⟨(below_trans HB2.out hb).alloc (below_trans HB2.out hb).size _⟩
             have HG3 := Aside0.mk (blk_alloc (blk_below HG2.out hb) (.cells #[.slice A nx.length c, .slice A' st.length c'] 25))
             have HX3 := Aside0.mk (blk_new w3 (.cells #[.slice A nx.length c, .slice A' st.length c'] 25))
             have hg3 := blk_below HG2.out hb
             obtain ⟨hk0, hk1⟩ := box2 hg3
             have hk2 := blk_lt hg3
             have HEQ := Aside0.mk (And.intro hnx hst)
             clear hb hnet hnx hst hg3 hg0 hg1
             go_wp2_with fail
             obtain ⟨xb, hxb⟩ : ∃ xb, xb = w3.heap.size := ⟨_, rfl⟩
             rw [← hxb] at HX3 ⊢
             generalize (w3.alloc (.cells #[.slice A nx.length c, .slice A' st.length c'] 25)) = w4 at HN3 HB3 HG3 HX3 ⊢
             clear hxb hk0 hk1 hk2
             refine (f36_of H37.out _ c0 A1 c1 ns rs _ (HN.out.below HB3.out) hs60 ht60).mono ?_
             rintro e w5 ⟨A2, c2, A3, c3, ny, su, rfl, hnet, hb, hny, hsu⟩
             have HN5 := Aside0.mk (hnet.below ((Below.refl _ _).alloc (Nat.le_refl _) (.cells #[.slice A2 ny.length c2, .slice A3 su.length c3] 25)))
             have HN6 := Aside0.mk ((HN3.out.below hb).below ((Below.refl _ _).alloc (Nat.le_refl _) (.cells #[.slice A2 ny.length c2, .slice A3 su.length c3] 25)))
             have HB5 : Aside0 (Below w.heap.size w (w5.alloc (.cells #[.slice A2 ny.length c2, .slice A3 su.length c3] 25))) := ⟨(below_trans HB3.out hb).alloc (below_trans HB3.out hb).size _⟩
             have hx5 := blk_below HX3.out hb
             have hx6 := blk_alloc hx5 (.cells #[.slice A2 ny.length c2, .slice A3 su.length c3] 25)
             have hy6 := blk_new w5 (.cells #[.slice A2 ny.length c2, .slice A3 su.length c3] 25)
             obtain ⟨hx0, hx1⟩ := box2 hx6
             obtain ⟨hy0, hy1⟩ := box2 hy6
             have hx7 := blk_lt hx5
             obtain ⟨hz0, hz1⟩ := box2 hx5
             have HE2 : Aside0 (nx = ny ∧ st = su) := ⟨by rw [HEQ.out.1, hny], by rw [HEQ.out.2, hsu]⟩
             clear hb hnet hny hsu hx5 hx6 hy6
             have hee : (ofE ns rs == ofE ns rs) = true := by simp
             go_wp2_with fail
             refine (f32_any A c A' c' A2 c2 A3 c3 nx st ny su _ HN6.out HN5.out).mono ?_
             rintro e w7 ⟨rfl, hb⟩
             have HB7 := Aside0.mk (below_trans HB5.out hb)
             clear hb
             rw [sameNet_eq HE2.out]
             go_wp2_with fail
             go_ret
             exact ⟨rfl, HB7.out⟩
            )
      )
end Go.Proofs.Ytgbmebnfbhdpiaa
