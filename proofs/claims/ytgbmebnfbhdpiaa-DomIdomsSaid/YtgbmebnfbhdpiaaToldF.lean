/- The walk of the law's told: the first numbers that a value of slices.Values goes through. -/
import Derived.Test.YtgbmebnfbhdpiaaRetainF
import Derived.Maps.OwnIn
set_option linter.unusedSimpArgs false
set_option linter.unusedVariables false
namespace Go.Proofs.Ytgbmebnfbhdpiaa
open Go.RowKit Go.Shelf Go.Proofs.YtgbmebnfbhdpiaaW.PrintWords Go.Proofs.YtgbmebnfbhdpiaaW.PrintLast

attribute [local go_sem] Oper.semAt_some

set_option maxRecDepth 100000 in
theorem run_eql_fn (g : Fn) (x y : Array Value) (w : World) : (binOp .eql 35 (.func g x y) .nilFunc).run Try.prog w = .ok (.bool false) w := by
  rfl
attribute [local go_sem] run_eql_fn
theorem R_turn {α : Type} {d : Kd α} {e base : Nat} {W w1 : World} {ok : Nat → Prop} {u : Value} {xs : List α} {row : Option Nat} (h : d.R e W base ok u xs) (hg : W.grownBy w1 row) (hr : ∀ r, row = some r → ∃ o : Obj, W.heap[r]? = some o ∧ o.isCells = false) : d.R e w1 base ok u xs :=
  Kd.R_mono (Kd.R_move (Kd.R_bound h) (fun k hk => hg.block k hk.2.2.1 (fun he => by
    obtain ⟨_, _, _, q, hq, cells, hc⟩ := hk
    obtain ⟨o, ho, hoc⟩ := hr k he.symm
    rw [hc] at ho; cases ho; cases hoc))) (fun _ hk => hk.1)
/-- An append of one number, within a fence. -/
theorem R_append_in {F : Fence} {fd : Nat} {P : Program} {ops : Array Oper} {rest : List Oper} {o : Oper} {a : Act} {Q : Exit → Act → World → Prop} {w0 W : World} (base : Nat) (hgd : o.guard = none) (s x : Operand) (t e : TypeId) (z : Value) (bytes : Nat)
    (ho : o.op = .call { callee := .builtin .append, args := #[s, x], argTypes := #[t, t] })
    (ht : P.underlying t = some (.slice e)) (hinfo : (P.info? e).map (fun i => (i.zero, i.size, i.bytes)) = some (some z, 1, bytes)) (hz : z.cells.size = 1) (hb0 : 0 < bytes)
    (v : Value) (xs : List Int) (p : Int) (ok : Nat → Prop) (hs : a.eval s = v) (hx : a.eval x = .slice (some ⟨W.heap.size, 0, none⟩) 1 1) (hfresh : ∀ k, W.heap.size ≤ k → ok k)
    (HO : Kd.R (Kd.int .i64) e W base ok v xs) (HB : Below base w0 W) (hbase : base ≤ W.heap.size) (hl : (xs.length + 1) * bytes ≤ 140737488355328)
    (h : ∀ v1 w1, Kd.R (Kd.int .i64) e w1 base ok v1 (xs ++ [p]) → Below base w0 w1 → W.grownBy w1 v.ownBlock → wpListIn F fd P ops Q rest (a.put o.dst v1) w1) :
    wpListIn F fd P ops Q (o :: rest) a (W.alloc (.cells #[.int .i64 p] e)) := by
  obtain ⟨h0, inner, hown, hr⟩ := HO
  obtain ⟨i0, hi, hzz⟩ := Option.map_eq_some_iff.1 hinfo
  simp only [Prod.mk.injEq] at hzz
  obtain ⟨hz0, hz1, hz2⟩ := hzz
  have hlen : xs.length + 1 ≤ 140737488355328 := Nat.le_trans (Nat.le_mul_of_pos_right _ hb0) hl
  refine wpListIn_append_own_at (W.alloc (.cells #[.int .i64 p] e)) hgd s x t ho base e i0 z 1 bytes ht hi hz0 hz1 hz2 hz (by decide) v xs.length inner hs (hown.alloc _) ⟨W.heap.size, 0, none⟩ 1 1 [.int .i64 p] hx rfl
    (cell_one_new _ _ _) (by simp [Value.oneCell']) (by simp only [maxLen]; omega) hl (by simp; omega) ?_
  intro v1 w1 hown1 hg _ hat
  have hg1 : W.grownBy w1 v.ownBlock := World.grownBy.trans (World.grownBy_alloc W _ _) hg
  refine h v1 w1 (Kd.R_appended (d := Kd.int .i64) (okp := fun _ => False) (cs := [.int .i64 p]) h0 hr rfl (fun _ hk => hk.elim) hfresh hown1 hg1 ?_) ((HB.alloc hbase _).grown hg (by simp; omega) (own_base hown)) hg1
  rcases hat with hat | hat
  · exact .inl hat
  · exact .inr ⟨_, hat, by simp⟩
/-- What told holds while it goes. -/
structure ToldMem (w0 W : World) (lp mp : Nat) (m : Int) (pre : List Int) : Prop where
  below : Below w0.heap.size w0 W
  mbk : W.heap[mp]? = some (.cells #[.int .i64 m] 3 (0, 0))
  row : ∃ v, W.heap[lp]? = some (.cells #[v] 23 (0, 0)) ∧ Kd.R (Kd.int .i64) 3 W w0.heap.size (fun k => k ≠ mp) v pre
  lge : w0.heap.size ≤ lp
  mge : w0.heap.size ≤ mp
theorem ToldMem.turn {w0 W W' : World} {lp mp : Nat} {m : Int} {pre : List Int} {row : Option Nat} (h : ToldMem w0 W lp mp m pre) (hg : W.grownBy W' row) (hr : ∀ r, row = some r → w0.heap.size ≤ r ∧ ∃ o : Obj, W.heap[r]? = some o ∧ o.isCells = false) : ToldMem w0 W' lp mp m pre := by
  obtain ⟨v, h1, h2⟩ := h.row
  exact ⟨h.below.grown hg h.below.size (fun k e => (hr k e).1), cells_of_turn h.mbk hg (fun r e => (hr r e).2), ⟨v, cells_of_turn h1 hg (fun r e => (hr r e).2), R_turn h2 hg (fun r e => (hr r e).2)⟩, h.lge, h.mge⟩

set_option maxRecDepth 100000 in
set_option maxHeartbeats 4000000 in
theorem f17_any (base Bs : Nat) (zs : List Int) (m : Int) (w : World) (hv : ValsC w base Bs zs) (hz : zs.length ≤ 8192) :
    Calls Try.prog 17 #[.func (.func 67) #[] #[.pointer (some ⟨Bs, 0, none⟩)], .int .i64 m] w fun e w' => ∃ v, e = .returned v ∧ Kd.R (Kd.int .i64) 3 w' w.heap.size (fun _ => True) v (zs.take m.toNat) ∧ Below w.heap.size w w' := by
  have HV := Aside0.mk hv
  clear hv
  refine (callsIn_wide (n := 7)).1 ?_
  refine callsIn_of_wp_marks Try.func17 rfl trivial ?_ rfl
  refine wpIn_mono (Q := postN Try.f17 _) ?_ postN_to
  rw [wpIn_wide]
  simp only [Try.ntmps17, List.size_toArray, List.length_cons, List.length_nil, Nat.reduceAdd, Nat.reduceSub, Array.replicate_succ, Array.replicate_zero, List.push_toArray, List.append_toArray, List.nil_append, List.cons_append]
  go_wp2_with fail
  have HM0 : Aside0 (ToldMem w ((w.alloc (.cells #[.int .i64 m] 3)).alloc (.cells #[.slice none 0 0] 23)) (w.heap.size + 1) w.heap.size m []) := ⟨⟨((Below.refl _ _).alloc (Nat.le_refl _) _).alloc (by simp) _, blk_alloc (blk_new _ _) _, ⟨.slice none 0 0, by
    have := blk_new (w.alloc (.cells #[.int .i64 m] 3)) (.cells #[.slice none 0 0] 23)
    simpa using this, Kd.R_nil _ _ _ _ _⟩, by omega, Nat.le_refl _⟩⟩
  have hsz : w.heap.size ≤ ((w.alloc (.cells #[.int .i64 m] 3)).alloc (.cells #[.slice none 0 0] 23)).heap.size := HM0.out.below.size
  generalize ((w.alloc (.cells #[.int .i64 m] 3)).alloc (.cells #[.slice none 0 0] 23)) = w2 at HM0 hsz ⊢
  generalize hA : ({ tmps := _, defers := [] } : Act) = a0
  refine (wpIn_wide (n := 7)).1 ?_
  refine wpIn_rangeFunc_ownG (α := Int) rfl (by omega) (gf := 67) (lb := #[.pointer (some ⟨Bs, 0, none⟩)]) (by subst hA; rfl) trivial (enters_of Try.func67 (by kernel_rfl) rfl)
    (f67_stops (fun x : Int => x) Fence.wide 6 trivial rfl (by omega) base Bs zs w (by rw [List.map_id']; exact HV.out) (Below w.heap.size) (fun W => Below.refl _ _) (fun h k => h.trans k) (fun W W' hK p v _ hp hv => below_cell hK p v hp hv))
    belowK_t (belowK_b hsz) HM0.out.below (fun _ => rfl)
    (fun pre W => ToldMem w W (w.heap.size + 1) w.heap.size m pre ∧ pre.length ≤ m.toNat)
    (fun c ys W => c = .exit 0 ∧ ∃ pre x, ys = pre ++ [x] ∧ ToldMem w W (w.heap.size + 1) w.heap.size m pre ∧ pre.length = m.toNat)
    (fun pre W W' row hs hg hr => ⟨hs.1.turn hg (fun r e => ⟨Nat.le_trans hsz (hr r e).1, (hr r e).2⟩), hs.2⟩)
    (fun c ys W W' row hs hg hr => by
      obtain ⟨e1, pre, x, e2, h1, h2⟩ := hs
      exact ⟨e1, pre, x, e2, h1.turn hg (fun r e => ⟨Nat.le_trans hsz (hr r e).1, (hr r e).2⟩), h2⟩)
    ⟨HM0.out, by simp⟩
    (fun x => { tmps := (a0.tmps.setIfInBounds 10 (.int .i64 x)).setIfInBounds 6 (.int .i64 x), defers := [] }) ?assign ?body ?done ?stop
  case assign =>
    intro l x W K hK
    subst hA
    gi_wp2
    exact hK
  case body =>
    rintro l pre x W ⟨hm, hl⟩ hlen
    subst hA
    obtain ⟨v, hb, hr⟩ := hm.row
    obtain ⟨AL, kL, e⟩ := Kd.R_slice hr
    subst e
    have hlc := (blk_cell hb 0).trans (show _ = some (Value.slice AL pre.length kL) from rfl)
    have hlf := blk_frozen hb 0
    have hmc := (blk_cell hm.mbk 0).trans (show _ = some (Value.int .i64 m) from rfl)
    have hpl : pre.length ≤ 8192 := by omega
    by_cases hge : (pre.length : Int) ≥ m
    · have hgb : decide ((pre.length : Int) ≥ m) = true := decide_eq_true hge
      gi_wp2
      exact ⟨KeepsFrom.refl _ _, rfl, pre, x, rfl, hm, by omega⟩
    · have hgb : decide ((pre.length : Int) ≥ m) = false := decide_eq_false hge
      have HM := Aside0.mk hm
      have HR := Aside0.mk hr
      have HBB := Aside0.mk hb
      clear hm hr hb
      gi_wp2_with (gi_at_builtin; refine R_append_in (w0 := w) w.heap.size rfl (.tmp 15) (.tmp 17) 23 3 (.int .i64 0) 8 rfl Try.underlying23 info3 rfl (by decide) (.slice AL pre.length kL) pre x (fun k => k ≠ w.heap.size) rfl rfl (fun k hk => by have := blk_lt HM.out.mbk; omega) HR.out HM.out.below HM.out.below.size (by omega) ?_; intro v1 w1 ho hbb hgg; obtain ⟨A1, k1, e1⟩ := Kd.R_slice ho; rw [List.length_append, List.length_singleton] at e1; subst e1; have H1 := Aside0.mk (And.intro ho (And.intro hbb hgg)); have hlc1 := (blk_cell (blk_grown HBB.out hgg (Kd.R_ne HR.out HBB.out (by decide))) 0).trans (show _ = some (Value.slice AL pre.length kL) from rfl); have hlf1 := blk_frozen (blk_grown HBB.out hgg (Kd.R_ne HR.out HBB.out (by decide))) 0; clear ho hbb hgg)
      have hlb := blk_grown HBB.out H1.out.2.2 (Kd.R_ne HR.out HBB.out (by decide))
      have hmb := blk_grown HM.out.mbk H1.out.2.2 (Kd.R_away HR.out (fun _ hk => hk))
      refine ⟨((KeepsOthers.of_grownBy H1.out.2.2 (fun j o e ho => by obtain ⟨cells, hc⟩ := Kd.R_typed HR.out j e; rw [hc] at ho; cases ho; rfl)).trans (KeepsOthers.setCell _ _ _)).from _,
        ((Below.refl w.heap.size W).grown H1.out.2.2 HM.out.below.size (fun k e => Kd.R_base HR.out k e)).setCell (p := ⟨w.heap.size + 1, 0, none⟩) (by simp) _,
        ⟨H1.out.2.1.setCell (p := ⟨w.heap.size + 1, 0, none⟩) (by simp) _, blk_far hmb (blk_ne hmb hlb (by decide)) _, ⟨_, blk_put hlb 0 _ rfl, Kd.R_set H1.out.1 hlb (by decide) _ _⟩, HM.out.lge, HM.out.mge⟩, by rw [List.length_append, List.length_singleton]; omega⟩
  case done =>
    rintro D ys W hD rfl ⟨hm, hl⟩ hK
    subst hA
    obtain ⟨v, hb, hr⟩ := hm.row
    have hlc := (blk_cell hb 0).trans (show _ = some v from rfl)
    go_wp2_with fail
    refine ⟨by simp, .inl ⟨_, _, rfl, run_takeDeferred hK, ?_⟩⟩
    have hm2 := hm.turn (grownBy_putObj' W D (.deferred none)) (fun r e => by cases e; exact ⟨Nat.le_trans hsz hD, _, hK, rfl⟩)
    refine ⟨_, results_tmp rfl _ _ _, v, rfl, ?_, hm2.below⟩
    rw [List.take_of_length_le hl]
    exact Kd.R_mono (R_turn hr (grownBy_putObj' W D (.deferred none)) (fun r e => by cases e; exact ⟨_, hK, rfl⟩)) (fun _ _ => trivial)
  case stop =>
    rintro D c ys W hD hp ⟨rfl, pre, x, e2, hm, hl⟩ hK
    subst hA
    obtain ⟨v, hb, hr⟩ := hm.row
    have hlc := (blk_cell hb 0).trans (show _ = some v from rfl)
    rw [wpIn_wide]
    go_wp2_with fail
    refine ⟨by simp, .inl ⟨_, _, rfl, run_takeDeferred hK, ?_⟩⟩
    have hm2 := hm.turn (grownBy_putObj' W D (.deferred none)) (fun r e => by cases e; exact ⟨Nat.le_trans hsz hD, _, hK, rfl⟩)
    refine ⟨_, results_tmp rfl _ _ _, v, rfl, ?_, hm2.below⟩
    have htk : zs.take m.toNat = pre := by
      obtain ⟨t, ht⟩ := hp
      rw [← ht, e2, ← hl, List.append_assoc, List.take_left']
      rfl
    rw [htk]
    exact Kd.R_mono (R_turn hr (grownBy_putObj' W D (.deferred none)) (fun r e => by cases e; exact ⟨_, hK, rfl⟩)) (fun _ _ => trivial)
end Go.Proofs.Ytgbmebnfbhdpiaa
