/- The walks of dom.reach and of the calls above it (dom.Reach, dom.Gone): what is reached, by a list that grows. -/
import Derived.Test.YtgbmebnfbhdpiaaCheckF
namespace Go.Proofs.Ytgbmebnfbhdpiaa
open Go.RowKit Go.Proofs.YtgbmebnfbhdpiaaW.PrintWords

/-! ### The plain step: a node is met -/
def meet1 (but x : Int) (s : List Bool × List Int) : List Bool × List Int :=
  if x = but then s else if rdOf false s.1 x = true then s else (s.1.set x.toNat true, s.2 ++ [x])
def meetL (but : Int) (l : List Int) (s : List Bool × List Int) : List Bool × List Int := l.foldl (fun s x => meet1 but x s) s

theorem meet1_len (but x : Int) (s : List Bool × List Int) : (meet1 but x s).1.length = s.1.length := by
  unfold meet1; split
  · rfl
  · split
    · rfl
    · simp
theorem meetL_len (but : Int) (l : List Int) (s : List Bool × List Int) : (meetL but l s).1.length = s.1.length := by
  induction l generalizing s with
  | nil => rfl
  | cons x l ih => exact (ih (meet1 but x s)).trans (meet1_len but x s)
theorem meetL_nil (but : Int) (s : List Bool × List Int) : meetL but [] s = s := rfl
theorem meetL_snoc (but : Int) (l : List Int) (i : Int) (h0 : 0 ≤ i) (h1 : i < l.length) (s : List Bool × List Int) : meetL but (l.take (i + 1).toNat) s = meet1 but (rd l i) (meetL but (l.take i.toNat) s) := by
  unfold meetL
  rw [show (i + 1).toNat = i.toNat + 1 from by omega, List.take_succ_eq_append_getElem (by omega : i.toNat < l.length), List.foldl_append]
  simp [rd, List.getD_eq_getElem?_getD, List.getElem?_eq_getElem (by omega : i.toNat < l.length)]

/-- As many as are met stand in the list. -/
def Cnt (s : List Bool × List Int) : Prop := s.2.length = s.1.count true
theorem count_set_true (l : List Bool) (k : Nat) (h : k < l.length) (hf : l.getD k false = false) : (l.set k true).count true = l.count true + 1 := by
  induction l generalizing k with
  | nil => simp at h
  | cons b l ih =>
    cases k with
    | zero => simp at hf; subst hf; simp
    | succ k =>
      have := ih k (by simpa using h) (by simpa using hf)
      simp only [List.set_cons_succ, List.count_cons, this]; omega
theorem meet1_cnt (but x : Int) (s : List Bool × List Int) (h0 : 0 ≤ x) (h1 : x < s.1.length) (h : Cnt s) : Cnt (meet1 but x s) := by
  unfold meet1; split
  · exact h
  · split
    · exact h
    · rename_i hf
      unfold Cnt at *
      simp only [Bool.not_eq_true] at hf
      rw [count_set_true _ _ (by omega) hf]
      simp [h]
theorem cnt_le {s : List Bool × List Int} (h : Cnt s) : s.2.length ≤ s.1.length := by
  unfold Cnt at h; rw [h]; exact List.count_le_length
theorem cnt_lt {s : List Bool × List Int} (h : Cnt s) (x : Int) (h0 : 0 ≤ x) (h1 : x < s.1.length) (hf : rdOf false s.1 x = false) : s.2.length < s.1.length := by
  have h2 := count_set_true s.1 x.toNat (by omega) hf
  have h3 : (s.1.set x.toNat true).count true ≤ (s.1.set x.toNat true).length := List.count_le_length
  rw [List.length_set] at h3
  unfold Cnt at h; omega

/-! ### The walk of the inner function: a state that four blocks hold -/
structure MeetSt (w0 w : World) (bp sp lp nb : Nat) (but : Int) (nbc : Array Value) (vs vl : Value) (s : List Bool × List Int) : Prop where
  below : Below w0.heap.size w0 w
  bb : w.heap[bp]? = some (.cells #[.int .i64 but] 3 (0, 0))
  sb : w.heap[sp]? = some (.cells #[vs] 43 (0, 0))
  lb : w.heap[lp]? = some (.cells #[vl] 23 (0, 0))
  nbk : w.heap[nb]? = some (.cells nbc 25 (0, 0))
  seen : Kd.R Kd.bool 4 w w0.heap.size (fun _ => True) vs s.1
  list : Kd.R (Kd.int .i64) 3 w w0.heap.size (fun k => k ≠ bp) vl s.2
  bge : w0.heap.size ≤ bp
  sge : w0.heap.size ≤ sp
  lge : w0.heap.size ≤ lp
  nge : w0.heap.size ≤ nb

section
variable {w0 w : World} {bp sp lp nb : Nat} {but : Int} {nbc : Array Value} {vs vl : Value} {s : List Bool × List Int}
theorem MeetSt.put {g cap : Nat} (h : MeetSt w0 w bp sp lp nb but nbc (.slice (some ⟨g, 0, none⟩) s.1.length cap) vl s) (x : Int) (h0 : 0 ≤ x) (h1 : x < s.1.length) :
    MeetSt w0 (w.setCell ⟨g, x.toNat, none⟩ (.bool true)) bp sp lp nb but nbc (.slice (some ⟨g, 0, none⟩) s.1.length cap) vl (s.1.set x.toNat true, s.2) := by
  obtain ⟨g', cap', he, hbg, hgl, cells, hgc⟩ := Kd.R_form h.seen (by omega)
  have : g = g' := by injection he with he _ _; injection he with he; injection he
  subst this
  exact ⟨h.below.setCell hbg _, blk_far h.bb (blk_ne h.bb hgc (by decide)) _, blk_far h.sb (blk_ne h.sb hgc (by decide)) _, blk_far h.lb (blk_ne h.lb hgc (by decide)) _, blk_far h.nbk (blk_ne h.nbk hgc (by decide)) _,
    (Kd.R_put h.seen x true).1, Kd.R_set h.list hgc (by decide) _ _, h.bge, h.sge, h.lge, h.nge⟩
theorem MeetSt.app {w1 : World} {v1 : Value} {x : Int} (h : MeetSt w0 w bp sp lp nb but nbc vs vl s) (ho : Kd.R (Kd.int .i64) 3 w1 w0.heap.size (fun k => k ≠ bp) v1 (s.2 ++ [x]))
    (hb : Below w0.heap.size w0 w1) (hg : w.grownBy w1 vl.ownBlock) : w1.heap[lp]? = some (.cells #[vl] 23 (0, 0)) ∧
      MeetSt w0 (w1.setCell ⟨lp, 0, none⟩ v1) bp sp lp nb but nbc vs v1 (s.1, s.2 ++ [x]) := by
  have hlb := blk_grown h.lb hg (Kd.R_ne h.list h.lb (by decide))
  have hbb := blk_grown h.bb hg (Kd.R_away h.list (fun _ hk => hk))
  have hsb := blk_grown h.sb hg (Kd.R_ne h.list h.sb (by decide))
  have hnb := blk_grown h.nbk hg (Kd.R_ne h.list h.nbk (by decide))
  refine ⟨hlb, hb.setCell h.lge _, blk_far hbb (blk_ne hbb hlb (by decide)) _, blk_far hsb (blk_ne hsb hlb (by decide)) _, blk_put hlb 0 v1 rfl, blk_far hnb (blk_ne hnb hlb (by decide)) _,
    Kd.R_set (Kd.R_over' h.seen (Kd.R_typed h.list) (by decide) hg) hlb (by decide) _ _, Kd.R_set ho hlb (by decide) _ _, h.bge, h.sge, h.lge, h.nge⟩
end

theorem info3 : (Try.prog.info? 3).map (fun i => (i.zero, i.size, i.bytes)) = some (some (.int .i64 0), 1, 8) := by kernel_rfl
theorem info4 : (Try.prog.info? 4).map (fun i => (i.zero, i.size, i.bytes)) = some (some (.bool false), 1, 1) := by kernel_rfl

set_option maxHeartbeats 1000000 in
set_option maxRecDepth 100000 in
theorem f68_any (w0 w : World) (bp sp lp nb : Nat) (but : Int) (nbc : Array Value) (vs vl : Value) (s : List Bool × List Int) (B : Option Addr) (c : Nat) (l : List Int)
    (hs : MeetSt w0 w bp sp lp nb but nbc vs vl s) (hl : Kd.C (Kd.int .i64) w0 B l.length l) (hr : ∀ x ∈ l, 0 ≤ x ∧ x < s.1.length) (hcn : Cnt s) (hln : s.1.length ≤ 8192) :
    Calls Try.prog 68 #[.slice B l.length c, .pointer (some ⟨bp, 0, none⟩), .pointer (some ⟨sp, 0, none⟩), .pointer (some ⟨lp, 0, none⟩)] w fun e w' => e = .returned (.tuple #[]) ∧ (∃ vl', MeetSt w0 w' bp sp lp nb but nbc vs vl' (meetL but l s)) ∧ Cnt (meetL but l s) := by
  have HS := Aside0.mk hs
  have HL := Aside0.mk hl
  have HR := Aside0.mk hr
  have hll : l.length ≤ 9223372036854775807 := hl.2.1
  have HCN := Aside0.mk hcn
  have HLN := Aside0.mk hln
  clear hs hl hr hcn hln
  go_enter Try.func68, Try.ntmps68
  go_wp2_with fail
  go_loopw [9] (fun v9 wr => ∃ (i : Int) (vl1 : Value), v9 = .int .i64 i ∧ 0 ≤ i ∧ i ≤ l.length ∧ Aside0 (MeetSt w0 wr bp sp lp nb but nbc vs vl1 (meetL but (l.take i.toNat) s)) ∧ Aside0 (Cnt (meetL but (l.take i.toNat) s))) (fun v _ => l.length - (intOf v).toNat)
  case atStart => exact ⟨0, vl, rfl, by omega, by omega, ⟨HS.out⟩, HCN⟩
  case round =>
    obtain ⟨i, vl1, rfl, h0, h1, HM, HC⟩ := hrel
    obtain ⟨s1, hs1⟩ : ∃ s1, s1 = meetL but (l.take i.toNat) s := ⟨_, rfl⟩
    rw [← hs1] at HM HC
    have HS1 := Aside0.mk hs1
    clear hs1
    by_cases hlt : i < l.length
    · obtain ⟨ad, e, hc⟩ := Kd.at_int HL.out i h0 hlt
      cases e
      obtain ⟨x, hx⟩ : ∃ x, x = rd l i := ⟨_, rfl⟩
      have hxr : 0 ≤ x ∧ x < s1.1.length := by
        have := HR.out x (by rw [hx, rd, List.getD_eq_getElem?_getD, List.getElem?_eq_getElem (by omega : i.toNat < l.length)]; exact List.getElem_mem _)
        rw [HS1.out, meetL_len]; exact this
      obtain ⟨hx0, hx1⟩ := hxr
      rw [← hx] at hc
      have HX := Aside0.mk hx
      have hc1 : wr.cell? (ad.add i.toNat) = some (.int .i64 x) := (HM.out.below.cell (World.block_lt_of_cell? w0 _ hc)).trans hc
      clear hc hx
      have hnext : meetL but (l.take (i + 1).toNat) s = meet1 but x s1 := by rw [meetL_snoc but l i h0 hlt, ← HX.out, ← HS1.out]
      have HN := Aside0.mk hnext
      clear hnext
      have hbc : wr.cell? ⟨bp, 0, none⟩ = some (.int .i64 but) := (blk_cell HM.out.bb 0).trans rfl
      by_cases hb : x = but
      · have hbb : (x != but) = false := by simp [hb]
        have HBU := Aside0.mk hb
        clear hb
        go_wp2
        go_roundw
        case rel => exact ⟨i + 1, vl1, rfl, by omega, by omega, ⟨by rw [HN.out, meet1, if_pos HBU.out]; exact HM.out⟩, ⟨by rw [HN.out]; exact meet1_cnt but x s1 hx0 hx1 HC.out⟩⟩
        case measure => simp [intOf]; omega
      · have hbb : (x != but) = true := by simp [hb]
        have HBU := Aside0.mk hb
        clear hb
        obtain ⟨g, cap, hvs, hbg, hgl, cells, hgc⟩ := Kd.R_form HM.out.seen (by omega)
        subst hvs
        have hsc : wr.cell? ⟨sp, 0, none⟩ = some (.slice (some ⟨g, 0, none⟩) s1.1.length cap) := (blk_cell HM.out.sb 0).trans rfl
        obtain ⟨hxc, hxf⟩ := Kd.R_cell false HM.out.seen x hx0 hx1
        clear cells hgc
        by_cases hse : rdOf false s1.1 x = true
        · have HSE := Aside0.mk hse
          rw [hse] at hxc
          clear hse
          go_wp2
          go_roundw
          case rel => exact ⟨i + 1, vl1, rfl, by omega, by omega, ⟨by rw [HN.out, meet1, if_neg HBU.out, if_pos HSE.out]; exact HM.out⟩, ⟨by rw [HN.out]; exact meet1_cnt but x s1 hx0 hx1 HC.out⟩⟩
          case measure => simp [intOf]; omega
        · rw [Bool.not_eq_true] at hse
          have HSE := Aside0.mk hse
          rw [hse] at hxc
          clear hse
          have hlen : s1.1.length ≤ 8192 := by rw [HS1.out, meetL_len]; exact HLN.out
          have hll2 : (s1.2.length + 1) * 8 ≤ 140737488355328 := by have := cnt_lt HC.out x hx0 hx1 HSE.out; omega
          have HLL2 := Aside0.mk hll2
          clear hll2 hlen
          have HP := Aside0.mk (HM.out.put x hx0 hx1)
          have hlc : (wr.setCell ⟨g, x.toNat, none⟩ (.bool true)).cell? ⟨lp, 0, none⟩ = some vl1 := (blk_cell HP.out.lb 0).trans rfl
          go_wp2_with (at_builtin; go_loud (refine Kd.R_append (Kd.int .i64) (w0 := w0) w0.heap.size rfl (.tmp 26) (.tmp 28) 23 3 (.int .i64 0) 8 rfl Try.underlying23 info3 rfl (by decide) (by omega) vl1 s1.2 x [.int .i64 x] (fun k => k ≠ bp) (fun _ => False) rfl ?aX ?aP (fun _ hk => hk.elim) ?aF ?aO ?aB ?aS ?aL ?_; (case aP => exact rfl); (case aX => go_simp); (case aB => exact HP.out.below); (case aF => (intro k hk; have := blk_lt HP.out.bb; omega)); (case aO => exact HP.out.list); (case aS => exact HP.out.below.size); (case aL => exact HLL2.out); intro v1 w1 ho hb hg hat; obtain ⟨A1, k1, e1⟩ := Kd.R_slice ho; rw [List.length_append, List.length_singleton] at e1; subst e1; have H1 := Aside0.mk (HP.out.app ho hb hg); clear ho hb hg hat; have hlc1 : w1.cell? ⟨lp, 0, none⟩ = some vl1 := (blk_cell H1.out.1 0).trans rfl; have hlf1 : w1.frozen? ⟨lp, 0, none⟩ = false := blk_frozen H1.out.1 0))
          go_roundw
          case rel => exact ⟨i + 1, _, rfl, by omega, by omega, ⟨by rw [HN.out, meet1, if_neg HBU.out, if_neg (by rw [HSE.out]; decide)]; exact H1.out.2⟩, ⟨by rw [HN.out]; exact meet1_cnt but x s1 hx0 hx1 HC.out⟩⟩
          case measure => simp [intOf]; omega
    · go_wp2
      go_end0
      refine ⟨rfl, ⟨vl1, ?_⟩, ?_⟩
      all_goals rw [show l.take i.toNat = l from List.take_of_length_le (by omega)] at HS1; rw [← HS1.out]
      · exact HM.out
      · exact HC.out

end Go.Proofs.Ytgbmebnfbhdpiaa
