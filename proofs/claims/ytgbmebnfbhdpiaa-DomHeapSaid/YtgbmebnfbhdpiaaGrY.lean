/- The walk of a region that draws its order, at a class of worlds, what follows kept shut: no step looks into it. -/
import Derived.Test.YtgbmebnfbhdpiaaBase
import Derived.Deep.QuietTactic
import Derived.BigQuiet
import Derived.Test.YtgbmebnfbhdpiaaGrA
set_option linter.unusedSimpArgs false
set_option linter.unusedVariables false
namespace Go.Proofs.Ytgbmebnfbhdpiaa
/-- What is left to be walked. -/
structure WQ (P : Program) (ops : Array Oper) (C : World → Prop) (Q : Act → Prop) (rest : List Oper) (a : Act) : Prop where
  out : wpQuiet P ops C Q rest a
theorem WQ.step {P : Program} {ops : Array Oper} {C : World → Prop} {Q : Act → Prop} {a : Act} {o : Oper} {rest : List Oper}
    (h : ∀ K : Act → Prop, (∀ a, WQ P ops C Q rest a → K a) → if Region.wanted o (yielded ops a.tmps) then o.quiet P a C K else K (a.put o.dst undef)) : WQ P ops C Q (o :: rest) a :=
  ⟨wpQuiet_step (fun K hK => h K (fun a ha => hK a ha.out))⟩
theorem WQ.nil {P : Program} {ops : Array Oper} {C : World → Prop} {Q : Act → Prop} {a : Act} (h : Q a) : WQ P ops C Q [] a := ⟨wpQuiet_nil h⟩
theorem WQ.start {P : Program} {l : List Oper} (C : World → Prop) {id : Nat} {Q : Exit → Act → World → Prop} {a : Act} {w : World} (hm : P.follows .mixedOrders = true) (hB : Region.lexB .any l.toArray = true) (hC : C w.drew)
    (h : WQ P l.toArray C (fun a' => ∀ w', C w' → Q .normal a' w') l a) : (Code.region id l.toArray true).wp P Q a w :=
  wp_region_quiet (C := C) hm hB hC (by simpa using h.out)
end Go.Proofs.Ytgbmebnfbhdpiaa
namespace Go.Proofs.Ytgbmebnfbhdpiaa
open Go.RowKit Go.Proofs.YtgbmebnfbhdpiaaW.PrintWords Go.Proofs.YtgbmebnfbhdpiaaW.PrintLast

theorem wrap_pred {i : Int} (h0 : 0 ≤ i) (h1 : i ≤ 60) : IntKind.i64.wrap (i - 1) = i - 1 := by
  rw [IntKind.wrap_i64]
  omega

set_option maxRecDepth 100000 in
set_option maxHeartbeats 8000000 in
theorem f58_any (A0 : Option Addr) (c0 : Nat) (A1 : Option Addr) (c1 : Nat) (ns : List GN) (rs : List GR) (w : World) (hn : GraphC w A0 c0 A1 c1 ns rs) (hl0 : ns.length ≤ 60) (hl1 : rs.length ≤ 60) :
    Calls Try.prog 58 #[.agg #[.slice A0 ns.length c0, .slice A1 rs.length c1]] w fun e w' => e = .returned (.int .i64 (graphE ns rs)) ∧ Below w.heap.size w w' := by
  have HN := Aside0.mk hn
  clear hn
  have HB0 : Aside0 (Below w.heap.size w ((w.alloc (.cells #[.slice A0 ns.length c0, .slice A1 rs.length c1] 58)).alloc (.cells #[.int .i64 ns.length] 3))) := ⟨((Below.refl _ _).alloc (Nat.le_refl _) _).alloc (by simp) _⟩
  have HK0 : Aside0 (((w.alloc (.cells #[.slice A0 ns.length c0, .slice A1 rs.length c1] 58)).alloc (.cells #[.int .i64 ns.length] 3)).heap[w.heap.size]? = some (.cells #[.slice A0 ns.length c0, .slice A1 rs.length c1] 58 (0, 0))) := ⟨blk_alloc (blk_new _ _) _⟩
  have HK1 : Aside0 (((w.alloc (.cells #[.slice A0 ns.length c0, .slice A1 rs.length c1] 58)).alloc (.cells #[.int .i64 ns.length] 3)).heap[w.heap.size + 1]? = some (.cells #[.int .i64 ns.length] 3 (0, 0))) := ⟨by
    have := blk_new (w.alloc (.cells #[.slice A0 ns.length c0, .slice A1 rs.length c1] 58)) (.cells #[.int .i64 ns.length] 3)
    simpa using this⟩
  have hb8 : decide ((ns.length : Int) > 8192) = false := decide_eq_false (by omega)
  have hb5 : decide ((rs.length : Int) > 512) = false := decide_eq_false (by omega)
  go_enter Try.func58, Try.ntmps58
  go_wp2_with fail
  generalize ((w.alloc (.cells #[.slice A0 ns.length c0, .slice A1 rs.length c1] 58)).alloc (.cells #[.int .i64 ns.length] 3)) = wo at HB0 HK0 HK1 ⊢
  refine (f38_any A0 c0 ns ns.length ⟨w.heap.size + 1, 0, none⟩ _ (Kd.C_below HN.out.nodes HB0.out) ((blk_cell HK1.out 0).trans rfl)).mono ?_
  rintro e w1 ⟨rfl, hb⟩
  have HB1 := Aside0.mk (below_trans HB0.out hb)
  have HG1 := Aside0.mk (blk_below HK0.out hb)
  have HM1 := Aside0.mk (blk_below HK1.out hb)
  clear hb HB0 HK0 HK1
  by_cases hnb : (ns.any fun x => !nodeOk ns.length x) = true
  · have HE := Aside0.mk (graph_node (rs := rs) hnb)
    rw [hnb]
    clear hnb
    go_wp2_with fail
    go_ret
    exact ⟨ret_int HE.out.symm, HB1.out⟩
  rw [Bool.not_eq_true] at hnb
  rw [hnb]
  have HNODE := Aside0.mk hnb
  clear hnb
  obtain ⟨hg0, hg1⟩ := box2 HG1.out
  go_wp2_with fail
  clear hg0 hg1
  obtain ⟨wo, rfl⟩ : ∃ wo : World, wo = w1 := ⟨_, rfl⟩
  go_loopw [26] (fun v26 wr => ∃ i : Int, v26 = .int .i64 i ∧ 0 ≤ i ∧ i ≤ rs.length ∧ Aside0 (∀ j : Int, 0 ≤ j → j < i → rootBad ns.length rs j = false) ∧ Aside0 (Below wo.heap.size wo wr)) (fun v _ => rs.length - (intOf v).toNat)
  case atStart => exact ⟨0, rfl, by omega, by omega, ⟨fun j h0 h1 => by omega⟩, ⟨Below.refl _ _⟩⟩
  case round =>
    obtain ⟨i, rfl, hi0, hi1, HP, HB⟩ := hrel
    by_cases hil : i < rs.length
    case neg =>
      go_wp2_with fail
      go_ret
      exact ⟨ret_int (graph_all HNODE.out (fun j j0 j1 => HP.out j j0 (by omega))).symm, below_trans HB1.out HB.out⟩
    case pos =>
      obtain ⟨ad, s, x, e, HRX, hc0, hc1⟩ := at_root (Kd.C_below HN.out.roots (below_trans HB1.out HB.out)) i hi0 hil
      cases e
      have HG2 := Aside0.mk (blk_below HG1.out HB.out)
      have HM2 := Aside0.mk (blk_below HM1.out HB.out)
      go_wp2_with fail
      obtain ⟨rb, hrb⟩ : ∃ rb, rb = wr.heap.size := ⟨_, rfl⟩
      have HR0 : Aside0 (RdSt wo w (wr.alloc (.cells #[.string s, .int .i64 x] 71)).drew #[.slice A0 ns.length c0, .slice (some ad) rs.length c1] ⟨w.heap.size + 1, 0, none⟩ (.int .i64 ns.length) rb s x ⟨rb, 0, none⟩ s) := ⟨⟨below_drew (HB.out.alloc HB.out.size _), below_drew ((below_trans HB1.out HB.out).alloc (below_trans HB1.out HB.out).size _), blk_alloc HG2.out _, (blk_cell (blk_alloc HM2.out _) 0).trans rfl, by rw [hrb]; exact blk_new _ _, by rw [hrb]; exact (blk_cell (blk_new _ _) 0).trans rfl⟩⟩
      have HBR := Aside0.mk (HB.out.alloc HB.out.size (.cells #[.string s, .int .i64 x] 71))
      rw [← hrb]
      generalize (wr.alloc (.cells #[.string s, .int .i64 x] 71)) = wr2 at HR0 HBR ⊢
      clear hrb hc0 hc1 HG2 HM2
      rcases name_cases s with hne | hne
      case inr =>
        have HNE := Aside0.mk hne
        have HBD := Aside0.mk (bad_name (m := ns.length) HRX.out hne)
        obtain ⟨pa, s', HRD⟩ : ∃ pa s', Aside0 (RdSt wo w wr2.drew #[.slice A0 ns.length c0, .slice (some ad) rs.length c1] ⟨w.heap.size + 1, 0, none⟩ (.int .i64 ns.length) rb s x pa s') := ⟨⟨rb, 0, none⟩, s, HR0⟩
        clear hne HR0
        go_wp2_with fail
        refine WQ.start (fun w' => RdSt wo w w' #[.slice A0 ns.length c0, .slice (some ad) rs.length c1] ⟨w.heap.size + 1, 0, none⟩ (.int .i64 ns.length) rb s x pa s') (by kernel_rfl) (by kernel_rfl) HRD.out ?_
        repeat (refine WQ.step (fun K hK => ?_); go_simp; first
          | (refine hK _ ?_; clear hK K)
          | (apply Exists.intro; refine ⟨fun _ => ?_, hK _ ?_⟩; (first
            | (intro hc; go_at_call 71; refine (f71_any s _).mono ?_; rintro e w' ⟨rfl, hb⟩; rw [HNE.out]; exact ⟨rfl, hc.step hb⟩)
            | (intro _; with_reducible rfl)
            | (intro hc; obtain ⟨h0, h1⟩ := box2 hc.gbox; have h2 := hc.ex; obtain ⟨h3, h4⟩ := box2 hc.rbox; have h5 := hc.prev; go_simp; with_reducible rfl)); clear hK K))
        refine WQ.nil ?_
        rintro w9 hc
        have HC := Aside0.mk hc
        clear hc
        go_wp2_with fail
        go_ret
        exact ⟨ret_int (graph_root hi0 hil (HBD.out)).symm, HC.out.below⟩
      have HNE := Aside0.mk hne
      clear hne
      by_cases hip : i > 0
      case neg =>
        have hipb : decide (i > 0) = false := decide_eq_false hip
        obtain ⟨pa, s', HRD⟩ : ∃ pa s', Aside0 (RdSt wo w wr2.drew #[.slice A0 ns.length c0, .slice (some ad) rs.length c1] ⟨w.heap.size + 1, 0, none⟩ (.int .i64 ns.length) rb s x pa s') := ⟨⟨rb, 0, none⟩, s, HR0⟩
        clear HR0
        by_cases hx0 : x < 0
        · have hx0b : decide (x < 0) = true := decide_eq_true hx0
          have HBD := Aside0.mk (bad_neg (m := ns.length) HRX.out hx0)
          clear hx0
          go_wp2_with fail
          refine WQ.start (fun w' => RdSt wo w w' #[.slice A0 ns.length c0, .slice (some ad) rs.length c1] ⟨w.heap.size + 1, 0, none⟩ (.int .i64 ns.length) rb s x pa s') (by kernel_rfl) (by kernel_rfl) HRD.out ?_
          repeat (refine WQ.step (fun K hK => ?_); go_simp; first
            | (refine hK _ ?_; clear hK K)
            | (apply Exists.intro; refine ⟨fun _ => ?_, hK _ ?_⟩; (first
              | (intro hc; go_at_call 71; refine (f71_any s _).mono ?_; rintro e w' ⟨rfl, hb⟩; rw [HNE.out]; exact ⟨rfl, hc.step hb⟩)
              | (intro _; with_reducible rfl)
              | (intro hc; obtain ⟨h0, h1⟩ := box2 hc.gbox; have h2 := hc.ex; obtain ⟨h3, h4⟩ := box2 hc.rbox; have h5 := hc.prev; go_simp; with_reducible rfl)); clear hK K))
          refine WQ.nil ?_
          rintro w9 hc
          have HC := Aside0.mk hc
          clear hc
          go_wp2_with fail
          go_ret
          exact ⟨ret_int (graph_root hi0 hil (HBD.out)).symm, HC.out.below⟩
        have hx0b : decide (x < 0) = false := decide_eq_false hx0
        by_cases hxm : x ≥ ns.length
        · have hxmb : decide (x ≥ (ns.length : Int)) = true := decide_eq_true hxm
          have HBD := Aside0.mk (bad_far (m := ns.length) HRX.out hxm)
          clear hx0 hxm
          go_wp2_with fail
          refine WQ.start (fun w' => RdSt wo w w' #[.slice A0 ns.length c0, .slice (some ad) rs.length c1] ⟨w.heap.size + 1, 0, none⟩ (.int .i64 ns.length) rb s x pa s') (by kernel_rfl) (by kernel_rfl) HRD.out ?_
          repeat (refine WQ.step (fun K hK => ?_); go_simp; first
            | (refine hK _ ?_; clear hK K)
            | (apply Exists.intro; refine ⟨fun _ => ?_, hK _ ?_⟩; (first
              | (intro hc; go_at_call 71; refine (f71_any s _).mono ?_; rintro e w' ⟨rfl, hb⟩; rw [HNE.out]; exact ⟨rfl, hc.step hb⟩)
              | (intro _; with_reducible rfl)
              | (intro hc; obtain ⟨h0, h1⟩ := box2 hc.gbox; have h2 := hc.ex; obtain ⟨h3, h4⟩ := box2 hc.rbox; have h5 := hc.prev; go_simp; with_reducible rfl)); clear hK K))
          refine WQ.nil ?_
          rintro w9 hc
          have HC := Aside0.mk hc
          clear hc
          go_wp2_with fail
          go_ret
          exact ⟨ret_int (graph_root hi0 hil (HBD.out)).symm, HC.out.below⟩
        have hxmb : decide (x ≥ (ns.length : Int)) = false := decide_eq_false hxm
        have HNB := Aside0.mk (bad_not (m := ns.length) HRX.out HNE.out (fun h => absurd h hip) hx0 hxm)
        clear hx0 hxm
        go_wp2_with fail
        refine WQ.start (fun w' => RdSt wo w w' #[.slice A0 ns.length c0, .slice (some ad) rs.length c1] ⟨w.heap.size + 1, 0, none⟩ (.int .i64 ns.length) rb s x pa s') (by kernel_rfl) (by kernel_rfl) HRD.out ?_
        repeat (refine WQ.step (fun K hK => ?_); go_simp; first
          | (refine hK _ ?_; clear hK K)
          | (apply Exists.intro; refine ⟨fun _ => ?_, hK _ ?_⟩; (first
            | (intro hc; go_at_call 71; refine (f71_any s _).mono ?_; rintro e w' ⟨rfl, hb⟩; rw [HNE.out]; exact ⟨rfl, hc.step hb⟩)
            | (intro _; with_reducible rfl)
            | (intro hc; obtain ⟨h0, h1⟩ := box2 hc.gbox; have h2 := hc.ex; obtain ⟨h3, h4⟩ := box2 hc.rbox; have h5 := hc.prev; go_simp; with_reducible rfl)); clear hK K))
        refine WQ.nil ?_
        rintro w9 hc
        have HC := Aside0.mk hc
        clear hc
        go_wp2_with fail
        go_roundw
        case rel => exact ⟨i + 1, rfl, by omega, by omega, ⟨fun j j0 j1 => by
          by_cases h : j < i
          · exact HP.out j j0 h
          · obtain rfl : j = i := by omega
            exact HNB.out⟩, ⟨HC.out.since⟩⟩
        case measure => simp [intOf]; omega
      have hipb : decide (i > 0) = true := decide_eq_true hip
      obtain ⟨ad', s', x', e, HRX', hc0', _⟩ := at_root (Kd.C_below HN.out.roots (below_drew (below_trans HB1.out HBR.out))) (i - 1) (by omega) (by omega)
      cases e
      obtain ⟨pa, hpa⟩ : ∃ pa, pa = ad.add ((i - 1).toNat * 2) := ⟨_, rfl⟩
      have HRD : Aside0 (RdSt wo w wr2.drew #[.slice A0 ns.length c0, .slice (some ad) rs.length c1] ⟨w.heap.size + 1, 0, none⟩ (.int .i64 ns.length) rb s x pa s') := ⟨⟨HR0.out.since, HR0.out.below, HR0.out.gbox, HR0.out.ex, HR0.out.rbox, by rw [hpa]; exact hc0'⟩⟩
      subst hpa
      have hil1 : i - 1 < rs.length := by omega
      have hil2 : 0 ≤ i - 1 := by omega
      have hil3 : 1 ≤ i := by omega
      have hil4 : 0 < i := by omega
      have hwrap : IntKind.i64.wrap (i - 1) = i - 1 := wrap_pred hi0 (by omega)
      clear hc0' HR0
      cases hbl : Op.bytesLess s'.toList s.toList
      · have HBD := Aside0.mk (bad_prev (m := ns.length) HRX.out HRX'.out hip hbl)
        obtain ⟨pa, hpa⟩ : ∃ pa, pa = ad.add ((i - 1).toNat * 2) := ⟨_, rfl⟩
        rw [← hpa] at HRD
        subst hpa
        clear hip
        go_wp2_with fail
        refine WQ.start (fun w' => RdSt wo w w' #[.slice A0 ns.length c0, .slice (some ad) rs.length c1] ⟨w.heap.size + 1, 0, none⟩ (.int .i64 ns.length) rb s x (ad.add ((i - 1).toNat * 2)) s') (by kernel_rfl) (by kernel_rfl) HRD.out ?_
        repeat (refine WQ.step (fun K hK => ?_); go_simp; first
          | (refine hK _ ?_; clear hK K)
          | (apply Exists.intro; refine ⟨fun _ => ?_, hK _ ?_⟩; (first
            | (intro hc; go_at_call 71; refine (f71_any s _).mono ?_; rintro e w' ⟨rfl, hb⟩; rw [HNE.out]; exact ⟨rfl, hc.step hb⟩)
            | (intro _; with_reducible rfl)
            | (intro hc; obtain ⟨h0, h1⟩ := box2 hc.gbox; have h2 := hc.ex; obtain ⟨h3, h4⟩ := box2 hc.rbox; have h5 := hc.prev; go_simp; with_reducible rfl)); clear hK K))
        refine WQ.nil ?_
        rintro w9 hc
        have HC := Aside0.mk hc
        clear hc
        go_wp2_with fail
        go_ret
        exact ⟨ret_int (graph_root hi0 hil (HBD.out)).symm, HC.out.below⟩
      · have HPV : Aside0 (Op.bytesLess (rs.getD (i - 1).toNat noR).1.toList s.toList = true) := ⟨by rw [← HRX'.out]; exact hbl⟩
        by_cases hx0 : x < 0
        · have hx0b : decide (x < 0) = true := decide_eq_true hx0
          have HBD := Aside0.mk (bad_neg (m := ns.length) HRX.out hx0)
          clear hx0
          go_wp2_with fail
          refine WQ.start (fun w' => RdSt wo w w' #[.slice A0 ns.length c0, .slice (some ad) rs.length c1] ⟨w.heap.size + 1, 0, none⟩ (.int .i64 ns.length) rb s x (ad.add ((i - 1).toNat * 2)) s') (by kernel_rfl) (by kernel_rfl) HRD.out ?_
          repeat (refine WQ.step (fun K hK => ?_); go_simp; first
            | (refine hK _ ?_; clear hK K)
            | (apply Exists.intro; refine ⟨fun _ => ?_, hK _ ?_⟩; (first
              | (intro hc; go_at_call 71; refine (f71_any s _).mono ?_; rintro e w' ⟨rfl, hb⟩; rw [HNE.out]; exact ⟨rfl, hc.step hb⟩)
              | (intro _; with_reducible rfl)
              | (intro hc; obtain ⟨h0, h1⟩ := box2 hc.gbox; have h2 := hc.ex; obtain ⟨h3, h4⟩ := box2 hc.rbox; have h5 := hc.prev; go_simp; with_reducible rfl)); clear hK K))
          refine WQ.nil ?_
          rintro w9 hc
          have HC := Aside0.mk hc
          clear hc
          go_wp2_with fail
          go_ret
          exact ⟨ret_int (graph_root hi0 hil (HBD.out)).symm, HC.out.below⟩
        have hx0b : decide (x < 0) = false := decide_eq_false hx0
        by_cases hxm : x ≥ ns.length
        · have hxmb : decide (x ≥ (ns.length : Int)) = true := decide_eq_true hxm
          have HBD := Aside0.mk (bad_far (m := ns.length) HRX.out hxm)
          clear hx0 hxm
          go_wp2_with fail
          refine WQ.start (fun w' => RdSt wo w w' #[.slice A0 ns.length c0, .slice (some ad) rs.length c1] ⟨w.heap.size + 1, 0, none⟩ (.int .i64 ns.length) rb s x (ad.add ((i - 1).toNat * 2)) s') (by kernel_rfl) (by kernel_rfl) HRD.out ?_
          repeat (refine WQ.step (fun K hK => ?_); go_simp; first
            | (refine hK _ ?_; clear hK K)
            | (apply Exists.intro; refine ⟨fun _ => ?_, hK _ ?_⟩; (first
              | (intro hc; go_at_call 71; refine (f71_any s _).mono ?_; rintro e w' ⟨rfl, hb⟩; rw [HNE.out]; exact ⟨rfl, hc.step hb⟩)
              | (intro _; with_reducible rfl)
              | (intro hc; obtain ⟨h0, h1⟩ := box2 hc.gbox; have h2 := hc.ex; obtain ⟨h3, h4⟩ := box2 hc.rbox; have h5 := hc.prev; go_simp; with_reducible rfl)); clear hK K))
          refine WQ.nil ?_
          rintro w9 hc
          have HC := Aside0.mk hc
          clear hc
          go_wp2_with fail
          go_ret
          exact ⟨ret_int (graph_root hi0 hil (HBD.out)).symm, HC.out.below⟩
        have hxmb : decide (x ≥ (ns.length : Int)) = false := decide_eq_false hxm
        have HNB := Aside0.mk (bad_not (m := ns.length) HRX.out HNE.out (fun _ => HPV.out) hx0 hxm)
        clear hx0 hxm
        go_wp2_with fail
        refine WQ.start (fun w' => RdSt wo w w' #[.slice A0 ns.length c0, .slice (some ad) rs.length c1] ⟨w.heap.size + 1, 0, none⟩ (.int .i64 ns.length) rb s x (ad.add ((i - 1).toNat * 2)) s') (by kernel_rfl) (by kernel_rfl) HRD.out ?_
        repeat (refine WQ.step (fun K hK => ?_); go_simp; first
          | (refine hK _ ?_; clear hK K)
          | (apply Exists.intro; refine ⟨fun _ => ?_, hK _ ?_⟩; (first
            | (intro hc; go_at_call 71; refine (f71_any s _).mono ?_; rintro e w' ⟨rfl, hb⟩; rw [HNE.out]; exact ⟨rfl, hc.step hb⟩)
            | (intro _; with_reducible rfl)
            | (intro hc; obtain ⟨h0, h1⟩ := box2 hc.gbox; have h2 := hc.ex; obtain ⟨h3, h4⟩ := box2 hc.rbox; have h5 := hc.prev; go_simp; with_reducible rfl)); clear hK K))
        refine WQ.nil ?_
        rintro w9 hc
        have HC := Aside0.mk hc
        clear hc
        go_wp2_with fail
        go_roundw
        case rel => exact ⟨i + 1, rfl, by omega, by omega, ⟨fun j j0 j1 => by
          by_cases h : j < i
          · exact HP.out j j0 h
          · obtain rfl : j = i := by omega
            exact HNB.out⟩, ⟨HC.out.since⟩⟩
        case measure => simp [intOf]; omega
end Go.Proofs.Ytgbmebnfbhdpiaa
namespace Go.Proofs.Ytgbmebnfbhdpiaa
open Go.RowKit Go.Proofs.YtgbmebnfbhdpiaaW.PrintWords Go.Proofs.YtgbmebnfbhdpiaaW.PrintLast

set_option maxRecDepth 100000 in
set_option maxHeartbeats 8000000 in
theorem f37_any (A0 : Option Addr) (c0 : Nat) (A1 : Option Addr) (c1 : Nat) (ns : List GN) (rs : List GR) (w : World) (hn : GraphC w A0 c0 A1 c1 ns rs) (hl0 : ns.length ≤ 60) (hl1 : rs.length ≤ 60) :
    Calls Try.prog 37 #[.agg #[.slice A0 ns.length c0, .slice A1 rs.length c1]] w fun e w' => e = .returned (.int .i64 (graphE ns rs)) ∧ Below w.heap.size w w' := by
  have HN := Aside0.mk hn
  clear hn
  have HB1 : Aside0 (Below w.heap.size w (w.alloc (.cells #[.slice A0 ns.length c0, .slice A1 rs.length c1] 58))) := ⟨(Below.refl _ _).alloc (Nat.le_refl _) _⟩
  have HG1 : Aside0 ((w.alloc (.cells #[.slice A0 ns.length c0, .slice A1 rs.length c1] 58)).heap[w.heap.size]? = some (.cells #[.slice A0 ns.length c0, .slice A1 rs.length c1] 58 (0, 0))) := ⟨blk_new _ _⟩
  have hb8 : decide ((ns.length : Int) > 8192) = false := decide_eq_false (by omega)
  have hb5 : decide ((rs.length : Int) > 512) = false := decide_eq_false (by omega)
  go_enter Try.func37, Try.ntmps37
  go_wp2_with fail
  generalize (w.alloc (.cells #[.slice A0 ns.length c0, .slice A1 rs.length c1] 58)) = w1 at HB1 HG1 ⊢
  clear hb8 hb5
  obtain ⟨wo, rfl⟩ : ∃ wo : World, wo = w1 := ⟨_, rfl⟩
  go_loopw [3] (fun v3 wr => ∃ i : Int, v3 = .int .i64 i ∧ 0 ≤ i ∧ i ≤ ns.length ∧ Aside0 (∀ j : Int, 0 ≤ j → j < i → (!nodeOk ns.length (ns.getD j.toNat noN)) = false) ∧ Aside0 (Below wo.heap.size wo wr)) (fun v _ => ns.length - (intOf v).toNat)
  case atStart => exact ⟨0, rfl, by omega, by omega, ⟨fun j h0 h1 => by omega⟩, ⟨Below.refl _ _⟩⟩
  case round =>
    obtain ⟨i, rfl, hi0, hi1, HP, HB⟩ := hrel
    obtain ⟨hg0, hg1⟩ := box2 (blk_below HG1.out HB.out)
    by_cases hil : i < ns.length
    case pos =>
      obtain ⟨ad, k, AP, ps, cp, AD, ds, cd, e, HXE, hc0, hc1, hc2, hpp⟩ := at_node (Kd.C_below HN.out.nodes (below_trans HB1.out HB.out)) i hi0 hil
      cases e
      have HPP := Aside0.mk (Kd.C_below hpp (below_drew (Below.refl _ _)))
      clear hpp
      go_wp2_with fail
      go_still_tail 8, (by kernel_rfl)
      go_wp2_with fail
      refine (f59_any k AP ps cp AD ds cd ns.length _ HPP.out).mono ?_
      rintro e w2 ⟨rfl, hb⟩
      have HB2 := Aside0.mk (below_trans (below_drew HB.out) hb)
      clear hb hg0 hg1 hc0 hc1 hc2
      by_cases hn : nodeOk ns.length (k, (ps, ds)) = true
      · rw [hn]
        have HN2 : Aside0 ((!nodeOk ns.length (ns.getD i.toNat noN)) = false) := ⟨by rw [← HXE.out, hn]; rfl⟩
        clear hn
        go_wp2_with fail
        go_roundw
        case rel => exact ⟨i + 1, rfl, by omega, by omega, ⟨fun j j0 j1 => by
          by_cases h : j < i
          · exact HP.out j j0 h
          · obtain rfl : j = i := by omega
            exact HN2.out⟩, HB2⟩
        case measure => simp [intOf]; omega
      · rw [Bool.not_eq_true] at hn
        rw [hn]
        have HE := Aside0.mk (graph_node (rs := rs) (anyN_at (p := fun x => !nodeOk ns.length x) hi0 hil (by rw [← HXE.out, hn]; rfl)))
        clear hn
        go_wp2_with fail
        go_ret
        exact ⟨ret_int HE.out.symm, below_trans HB1.out HB2.out⟩
    case neg =>
    have HNODE := Aside0.mk (anyN_none (p := fun x => !nodeOk ns.length x) (fun j j0 j1 => HP.out j j0 (by omega)))
    clear HP
    go_wp2_with fail
    clear hg0 hg1
    have HBS := Aside0.mk HB.out
    clear HB hil
    go_loopw [4] (fun v4 wr => ∃ i : Int, v4 = .int .i64 i ∧ 0 ≤ i ∧ i ≤ rs.length ∧ Aside0 (∀ j : Int, 0 ≤ j → j < i → rootBad ns.length rs j = false) ∧ Aside0 (Below wo.heap.size wo wr)) (fun v _ => rs.length - (intOf v).toNat)
    case atStart => exact ⟨0, rfl, by omega, by omega, ⟨fun j h0 h1 => by omega⟩, HBS⟩
    case round =>
      clear HBS
      obtain ⟨i, rfl, hi0, hi1, HP, HB⟩ := hrel
      obtain ⟨hg0, hg1⟩ := box2 (blk_below HG1.out HB.out)
      by_cases hil : i < rs.length
      case neg =>
        go_wp2_with fail
        go_ret
        exact ⟨ret_int (graph_all HNODE.out (fun j j0 j1 => HP.out j j0 (by omega))).symm, below_trans HB1.out HB.out⟩
      case pos =>
      obtain ⟨ad, s, x, e, HRX, hc0, hc1⟩ := at_root (Kd.C_below HN.out.roots (below_trans HB1.out HB.out)) i hi0 hil
      cases e
      have HG2 := Aside0.mk (blk_below HG1.out HB.out)
      go_wp2_with fail
      obtain ⟨rb, hrb⟩ : ∃ rb, rb = wr.heap.size := ⟨_, rfl⟩
      have HR0 : Aside0 (RdSt wo w (wr.alloc (.cells #[.string s, .int .i64 x] 71)).drew #[.slice A0 ns.length c0, .slice (some ad) rs.length c1] ⟨rb, 1, none⟩ (.int .i64 x) rb s x ⟨rb, 0, none⟩ s) := ⟨⟨below_drew (HB.out.alloc HB.out.size _), below_drew ((below_trans HB1.out HB.out).alloc (below_trans HB1.out HB.out).size _), blk_alloc HG2.out _, by rw [hrb]; exact (blk_cell (blk_new _ _) 1).trans rfl, by rw [hrb]; exact blk_new _ _, by rw [hrb]; exact (blk_cell (blk_new _ _) 0).trans rfl⟩⟩
      have HBR := Aside0.mk (HB.out.alloc HB.out.size (.cells #[.string s, .int .i64 x] 71))
      rw [← hrb]
      generalize (wr.alloc (.cells #[.string s, .int .i64 x] 71)) = wr2 at HR0 HBR ⊢
      clear hrb hc0 hc1 HG2 hg0 hg1
      rcases name_cases s with hne | hne
      case inr =>
        have HNE := Aside0.mk hne
        have HBD := Aside0.mk (bad_name (m := ns.length) HRX.out hne)
        obtain ⟨pa, s', HRD⟩ : ∃ pa s', Aside0 (RdSt wo w wr2.drew #[.slice A0 ns.length c0, .slice (some ad) rs.length c1] ⟨rb, 1, none⟩ (.int .i64 x) rb s x pa s') := ⟨⟨rb, 0, none⟩, s, HR0⟩
        clear hne HR0
        go_wp2_with fail
        refine WQ.start (fun w' => RdSt wo w w' #[.slice A0 ns.length c0, .slice (some ad) rs.length c1] ⟨rb, 1, none⟩ (.int .i64 x) rb s x pa s') (by kernel_rfl) (by kernel_rfl) HRD.out ?_
        repeat (refine WQ.step (fun K hK => ?_); go_simp; first
          | (refine hK _ ?_; clear hK K)
          | (apply Exists.intro; refine ⟨fun _ => ?_, hK _ ?_⟩; (first
            | (intro hc; go_at_call 60; refine (f60_any s _).mono ?_; rintro e w' ⟨rfl, rfl⟩; rw [HNE.out]; exact ⟨rfl, hc⟩)
            | (intro _; with_reducible rfl)
            | (intro hc; obtain ⟨h0, h1⟩ := box2 hc.gbox; have h2 := hc.ex; obtain ⟨h3, h4⟩ := box2 hc.rbox; have h5 := hc.prev; go_simp; with_reducible rfl)); clear hK K))
        refine WQ.nil ?_
        rintro w9 hc
        have HC := Aside0.mk hc
        clear hc
        go_wp2_with fail
        go_ret
        exact ⟨ret_int (graph_root hi0 hil (HBD.out)).symm, HC.out.below⟩
      have HNE := Aside0.mk hne
      clear hne
      by_cases hip : i > 0
      case neg =>
        have hipb : decide (i > 0) = false := decide_eq_false hip
        obtain ⟨pa, s', HRD⟩ : ∃ pa s', Aside0 (RdSt wo w wr2.drew #[.slice A0 ns.length c0, .slice (some ad) rs.length c1] ⟨rb, 1, none⟩ (.int .i64 x) rb s x pa s') := ⟨⟨rb, 0, none⟩, s, HR0⟩
        clear HR0
        by_cases hx0 : x < 0
        · have hx0b : decide (x < 0) = true := decide_eq_true hx0
          have HBD := Aside0.mk (bad_neg (m := ns.length) HRX.out hx0)
          clear hx0
          go_wp2_with fail
          refine WQ.start (fun w' => RdSt wo w w' #[.slice A0 ns.length c0, .slice (some ad) rs.length c1] ⟨rb, 1, none⟩ (.int .i64 x) rb s x pa s') (by kernel_rfl) (by kernel_rfl) HRD.out ?_
          repeat (refine WQ.step (fun K hK => ?_); go_simp; first
            | (refine hK _ ?_; clear hK K)
            | (apply Exists.intro; refine ⟨fun _ => ?_, hK _ ?_⟩; (first
              | (intro hc; go_at_call 60; refine (f60_any s _).mono ?_; rintro e w' ⟨rfl, rfl⟩; rw [HNE.out]; exact ⟨rfl, hc⟩)
              | (intro _; with_reducible rfl)
              | (intro hc; obtain ⟨h0, h1⟩ := box2 hc.gbox; have h2 := hc.ex; obtain ⟨h3, h4⟩ := box2 hc.rbox; have h5 := hc.prev; go_simp; with_reducible rfl)); clear hK K))
          refine WQ.nil ?_
          rintro w9 hc
          have HC := Aside0.mk hc
          clear hc
          go_wp2_with fail
          go_ret
          exact ⟨ret_int (graph_root hi0 hil (HBD.out)).symm, HC.out.below⟩
        have hx0b : decide (x < 0) = false := decide_eq_false hx0
        by_cases hxm : x ≥ ns.length
        · have hxmb : decide (x ≥ (ns.length : Int)) = true := decide_eq_true hxm
          have HBD := Aside0.mk (bad_far (m := ns.length) HRX.out hxm)
          clear hx0 hxm
          go_wp2_with fail
          refine WQ.start (fun w' => RdSt wo w w' #[.slice A0 ns.length c0, .slice (some ad) rs.length c1] ⟨rb, 1, none⟩ (.int .i64 x) rb s x pa s') (by kernel_rfl) (by kernel_rfl) HRD.out ?_
          repeat (refine WQ.step (fun K hK => ?_); go_simp; first
            | (refine hK _ ?_; clear hK K)
            | (apply Exists.intro; refine ⟨fun _ => ?_, hK _ ?_⟩; (first
              | (intro hc; go_at_call 60; refine (f60_any s _).mono ?_; rintro e w' ⟨rfl, rfl⟩; rw [HNE.out]; exact ⟨rfl, hc⟩)
              | (intro _; with_reducible rfl)
              | (intro hc; obtain ⟨h0, h1⟩ := box2 hc.gbox; have h2 := hc.ex; obtain ⟨h3, h4⟩ := box2 hc.rbox; have h5 := hc.prev; go_simp; with_reducible rfl)); clear hK K))
          refine WQ.nil ?_
          rintro w9 hc
          have HC := Aside0.mk hc
          clear hc
          go_wp2_with fail
          go_ret
          exact ⟨ret_int (graph_root hi0 hil (HBD.out)).symm, HC.out.below⟩
        have hxmb : decide (x ≥ (ns.length : Int)) = false := decide_eq_false hxm
        have HNB := Aside0.mk (bad_not (m := ns.length) HRX.out HNE.out (fun h => absurd h hip) hx0 hxm)
        clear hx0 hxm
        go_wp2_with fail
        refine WQ.start (fun w' => RdSt wo w w' #[.slice A0 ns.length c0, .slice (some ad) rs.length c1] ⟨rb, 1, none⟩ (.int .i64 x) rb s x pa s') (by kernel_rfl) (by kernel_rfl) HRD.out ?_
        repeat (refine WQ.step (fun K hK => ?_); go_simp; first
          | (refine hK _ ?_; clear hK K)
          | (apply Exists.intro; refine ⟨fun _ => ?_, hK _ ?_⟩; (first
            | (intro hc; go_at_call 60; refine (f60_any s _).mono ?_; rintro e w' ⟨rfl, rfl⟩; rw [HNE.out]; exact ⟨rfl, hc⟩)
            | (intro _; with_reducible rfl)
            | (intro hc; obtain ⟨h0, h1⟩ := box2 hc.gbox; have h2 := hc.ex; obtain ⟨h3, h4⟩ := box2 hc.rbox; have h5 := hc.prev; go_simp; with_reducible rfl)); clear hK K))
        refine WQ.nil ?_
        rintro w9 hc
        have HC := Aside0.mk hc
        clear hc
        go_wp2_with fail
        go_roundw
        case rel => exact ⟨i + 1, rfl, by omega, by omega, ⟨fun j j0 j1 => by
          by_cases h : j < i
          · exact HP.out j j0 h
          · obtain rfl : j = i := by omega
            exact HNB.out⟩, ⟨HC.out.since⟩⟩
        case measure => simp [intOf]; omega
      have hipb : decide (i > 0) = true := decide_eq_true hip
      obtain ⟨ad', s', x', e, HRX', hc0', _⟩ := at_root (Kd.C_below HN.out.roots (below_drew (below_trans HB1.out HBR.out))) (i - 1) (by omega) (by omega)
      cases e
      obtain ⟨pa, hpa⟩ : ∃ pa, pa = ad.add ((i - 1).toNat * 2) := ⟨_, rfl⟩
      have HRD : Aside0 (RdSt wo w wr2.drew #[.slice A0 ns.length c0, .slice (some ad) rs.length c1] ⟨rb, 1, none⟩ (.int .i64 x) rb s x pa s') := ⟨⟨HR0.out.since, HR0.out.below, HR0.out.gbox, HR0.out.ex, HR0.out.rbox, by rw [hpa]; exact hc0'⟩⟩
      subst hpa
      have hil1 : i - 1 < rs.length := by omega
      have hil2 : 0 ≤ i - 1 := by omega
      have hil3 : 1 ≤ i := by omega
      have hil4 : 0 < i := by omega
      have hwrap : IntKind.i64.wrap (i - 1) = i - 1 := wrap_pred hi0 (by omega)
      clear hc0' HR0
      cases hbl : Op.bytesLess s'.toList s.toList
      · have HBD := Aside0.mk (bad_prev (m := ns.length) HRX.out HRX'.out hip hbl)
        obtain ⟨pa, hpa⟩ : ∃ pa, pa = ad.add ((i - 1).toNat * 2) := ⟨_, rfl⟩
        rw [← hpa] at HRD
        subst hpa
        clear hip
        go_wp2_with fail
        refine WQ.start (fun w' => RdSt wo w w' #[.slice A0 ns.length c0, .slice (some ad) rs.length c1] ⟨rb, 1, none⟩ (.int .i64 x) rb s x (ad.add ((i - 1).toNat * 2)) s') (by kernel_rfl) (by kernel_rfl) HRD.out ?_
        repeat (refine WQ.step (fun K hK => ?_); go_simp; first
          | (refine hK _ ?_; clear hK K)
          | (apply Exists.intro; refine ⟨fun _ => ?_, hK _ ?_⟩; (first
            | (intro hc; go_at_call 60; refine (f60_any s _).mono ?_; rintro e w' ⟨rfl, rfl⟩; rw [HNE.out]; exact ⟨rfl, hc⟩)
            | (intro _; with_reducible rfl)
            | (intro hc; obtain ⟨h0, h1⟩ := box2 hc.gbox; have h2 := hc.ex; obtain ⟨h3, h4⟩ := box2 hc.rbox; have h5 := hc.prev; go_simp; with_reducible rfl)); clear hK K))
        refine WQ.nil ?_
        rintro w9 hc
        have HC := Aside0.mk hc
        clear hc
        go_wp2_with fail
        go_ret
        exact ⟨ret_int (graph_root hi0 hil (HBD.out)).symm, HC.out.below⟩
      · have HPV : Aside0 (Op.bytesLess (rs.getD (i - 1).toNat noR).1.toList s.toList = true) := ⟨by rw [← HRX'.out]; exact hbl⟩
        by_cases hx0 : x < 0
        · have hx0b : decide (x < 0) = true := decide_eq_true hx0
          have HBD := Aside0.mk (bad_neg (m := ns.length) HRX.out hx0)
          clear hx0
          go_wp2_with fail
          refine WQ.start (fun w' => RdSt wo w w' #[.slice A0 ns.length c0, .slice (some ad) rs.length c1] ⟨rb, 1, none⟩ (.int .i64 x) rb s x (ad.add ((i - 1).toNat * 2)) s') (by kernel_rfl) (by kernel_rfl) HRD.out ?_
          repeat (refine WQ.step (fun K hK => ?_); go_simp; first
            | (refine hK _ ?_; clear hK K)
            | (apply Exists.intro; refine ⟨fun _ => ?_, hK _ ?_⟩; (first
              | (intro hc; go_at_call 60; refine (f60_any s _).mono ?_; rintro e w' ⟨rfl, rfl⟩; rw [HNE.out]; exact ⟨rfl, hc⟩)
              | (intro _; with_reducible rfl)
              | (intro hc; obtain ⟨h0, h1⟩ := box2 hc.gbox; have h2 := hc.ex; obtain ⟨h3, h4⟩ := box2 hc.rbox; have h5 := hc.prev; go_simp; with_reducible rfl)); clear hK K))
          refine WQ.nil ?_
          rintro w9 hc
          have HC := Aside0.mk hc
          clear hc
          go_wp2_with fail
          go_ret
          exact ⟨ret_int (graph_root hi0 hil (HBD.out)).symm, HC.out.below⟩
        have hx0b : decide (x < 0) = false := decide_eq_false hx0
        by_cases hxm : x ≥ ns.length
        · have hxmb : decide (x ≥ (ns.length : Int)) = true := decide_eq_true hxm
          have HBD := Aside0.mk (bad_far (m := ns.length) HRX.out hxm)
          clear hx0 hxm
          go_wp2_with fail
          refine WQ.start (fun w' => RdSt wo w w' #[.slice A0 ns.length c0, .slice (some ad) rs.length c1] ⟨rb, 1, none⟩ (.int .i64 x) rb s x (ad.add ((i - 1).toNat * 2)) s') (by kernel_rfl) (by kernel_rfl) HRD.out ?_
          repeat (refine WQ.step (fun K hK => ?_); go_simp; first
            | (refine hK _ ?_; clear hK K)
            | (apply Exists.intro; refine ⟨fun _ => ?_, hK _ ?_⟩; (first
              | (intro hc; go_at_call 60; refine (f60_any s _).mono ?_; rintro e w' ⟨rfl, rfl⟩; rw [HNE.out]; exact ⟨rfl, hc⟩)
              | (intro _; with_reducible rfl)
              | (intro hc; obtain ⟨h0, h1⟩ := box2 hc.gbox; have h2 := hc.ex; obtain ⟨h3, h4⟩ := box2 hc.rbox; have h5 := hc.prev; go_simp; with_reducible rfl)); clear hK K))
          refine WQ.nil ?_
          rintro w9 hc
          have HC := Aside0.mk hc
          clear hc
          go_wp2_with fail
          go_ret
          exact ⟨ret_int (graph_root hi0 hil (HBD.out)).symm, HC.out.below⟩
        have hxmb : decide (x ≥ (ns.length : Int)) = false := decide_eq_false hxm
        have HNB := Aside0.mk (bad_not (m := ns.length) HRX.out HNE.out (fun _ => HPV.out) hx0 hxm)
        clear hx0 hxm
        go_wp2_with fail
        refine WQ.start (fun w' => RdSt wo w w' #[.slice A0 ns.length c0, .slice (some ad) rs.length c1] ⟨rb, 1, none⟩ (.int .i64 x) rb s x (ad.add ((i - 1).toNat * 2)) s') (by kernel_rfl) (by kernel_rfl) HRD.out ?_
        repeat (refine WQ.step (fun K hK => ?_); go_simp; first
          | (refine hK _ ?_; clear hK K)
          | (apply Exists.intro; refine ⟨fun _ => ?_, hK _ ?_⟩; (first
            | (intro hc; go_at_call 60; refine (f60_any s _).mono ?_; rintro e w' ⟨rfl, rfl⟩; rw [HNE.out]; exact ⟨rfl, hc⟩)
            | (intro _; with_reducible rfl)
            | (intro hc; obtain ⟨h0, h1⟩ := box2 hc.gbox; have h2 := hc.ex; obtain ⟨h3, h4⟩ := box2 hc.rbox; have h5 := hc.prev; go_simp; with_reducible rfl)); clear hK K))
        refine WQ.nil ?_
        rintro w9 hc
        have HC := Aside0.mk hc
        clear hc
        go_wp2_with fail
        go_roundw
        case rel => exact ⟨i + 1, rfl, by omega, by omega, ⟨fun j j0 j1 => by
          by_cases h : j < i
          · exact HP.out j j0 h
          · obtain rfl : j = i := by omega
            exact HNB.out⟩, ⟨HC.out.since⟩⟩
        case measure => simp [intOf]; omega
end Go.Proofs.Ytgbmebnfbhdpiaa
