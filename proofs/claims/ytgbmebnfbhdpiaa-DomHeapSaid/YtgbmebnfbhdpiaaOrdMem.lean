/- The memory of dom's ordered: which block holds what while the net is gone through in depth. -/
import Derived.Test.YtgbmebnfbhdpiaaReverseF
import Derived.Test.YtgbmebnfbhdpiaaDfs
set_option linter.unusedSimpArgs false
namespace Go.Proofs.Ytgbmebnfbhdpiaa
open Go.RowKit Go.Proofs.YtgbmebnfbhdpiaaW.PrintWords Go.Proofs.YtgbmebnfbhdpiaaW.PrintLast

/-- A step on the way: a node, and how many of its numbers are done. -/
def kS : Kd (Int × Int) := Kd.pair (Kd.int .i64) (Kd.int .i64)
theorem kS_sz : kS.sz = 2 := rfl
theorem kS_cells {w : World} {x : Int × Int} {cs : List Value} (h : kS.K w x cs) : cs = [.int .i64 x.1, .int .i64 x.2] := by
  obtain ⟨_, _, rfl, rfl, rfl⟩ := h; rfl
theorem info102 : (Try.prog.info? 102).map (fun i => (i.zero, i.size, i.bytes)) = some (some (.agg #[.int .i64 0, .int .i64 0]), 2, 16) := by kernel_rfl
theorem info23 : (Try.prog.info? 23).map (fun i => (i.zero, i.size, i.bytes)) = some (some (.slice none 0 0), 1, 24) := by kernel_rfl

structure OrdMem (w0 w : World) (nb og hg : Nat) (nbc : Array Value) (vs vw vl vp : Value) (n : Nat) (O : Nat → Nat) (s : DS) (place : List Int) : Prop where
  below : Below w0.heap.size w0 w
  nbk : w.heap[nb]? = some (.cells nbc 25 (0, 0))
  ob : w.heap[og]? = some (.cells #[vl, vp, .slice (some ⟨hg, 0, none⟩) n n] 94 (0, 0))
  seen : Kd.R Kd.bool 4 w w0.heap.size (fun _ => True) vs s.seen
  way : Kd.R kS 102 w w0.heap.size (fun _ => True) vw s.way
  list : Kd.R (Kd.int .i64) 3 w w0.heap.size (fun k => O k = 0) vl s.list
  place : Kd.R (Kd.int .i64) 3 w w0.heap.size (fun k => O k = 1) vp place
  rows : ∃ rows : List Value, w.heap[hg]? = some (.cells rows.toArray 23 (0, 0)) ∧ rows.length = n ∧ ∀ i : Nat, i < n → ∃ v, rows[i]? = some v ∧ Kd.R (Kd.int .i64) 3 w w0.heap.size (fun k => O k = i + 2) v (s.heads.getD i [])
  nge : w0.heap.size ≤ nb
  oge : w0.heap.size ≤ og
  hge : w0.heap.size ≤ hg

section
variable {w0 w : World} {nb og hg : Nat} {nbc : Array Value} {vs vw vl vp : Value} {n : Nat} {O : Nat → Nat} {s : DS} {place : List Int}
theorem OrdMem.drew (h : OrdMem w0 w nb og hg nbc vs vw vl vp n O s place) : OrdMem w0 w.drew nb og hg nbc vs vw vl vp n O s place :=
  ⟨below_drew h.below, h.nbk, h.ob, Kd.R_drew h.seen, Kd.R_drew h.way, Kd.R_drew h.list, Kd.R_drew h.place, by
    obtain ⟨rows, h1, h2, h3⟩ := h.rows
    exact ⟨rows, h1, h2, fun i hi => by obtain ⟨v, a, b⟩ := h3 i hi; exact ⟨v, a, Kd.R_drew b⟩⟩, h.nge, h.oge, h.hge⟩
theorem OrdMem.drewN (h : OrdMem w0 w nb og hg nbc vs vw vl vp n O s place) (m : Nat) : OrdMem w0 (w.drewN m) nb og hg nbc vs vw vl vp n O s place :=
  ⟨pw_below_drewN h.below m, h.nbk, h.ob, Kd.R_drewN h.seen m, Kd.R_drewN h.way m, Kd.R_drewN h.list m, Kd.R_drewN h.place m, by
    obtain ⟨rows, h1, h2, h3⟩ := h.rows
    exact ⟨rows, h1, h2, fun i hi => by obtain ⟨v, a, b⟩ := h3 i hi; exact ⟨v, a, Kd.R_drewN b m⟩⟩, h.nge, h.oge, h.hge⟩
theorem OrdMem.alloc (h : OrdMem w0 w nb og hg nbc vs vw vl vp n O s place) (o : Obj) : OrdMem w0 (w.alloc o) nb og hg nbc vs vw vl vp n O s place :=
  ⟨h.below.alloc h.below.size o, blk_alloc h.nbk _, blk_alloc h.ob _, Kd.R_alloc h.seen _, Kd.R_alloc h.way _, Kd.R_alloc h.list _, Kd.R_alloc h.place _, by
    obtain ⟨rows, h1, h2, h3⟩ := h.rows
    exact ⟨rows, blk_alloc h1 _, h2, fun i hi => by obtain ⟨v, a, b⟩ := h3 i hi; exact ⟨v, a, Kd.R_alloc b _⟩⟩, h.nge, h.oge, h.hge⟩
/-- A cell of a block whose type is none of the lists' is written. -/
theorem OrdMem.rowsSet (h : OrdMem w0 w nb og hg nbc vs vw vl vp n O s place) {g t : Nat} {cells : Array Value} (hb : w.heap[g]? = some (.cells cells t (0, 0))) (h3 : 3 ≠ t) (h23 : 23 ≠ t) (j : Nat) (u : Value) :
    ∃ rows : List Value, (w.setCell ⟨g, j, none⟩ u).heap[hg]? = some (.cells rows.toArray 23 (0, 0)) ∧ rows.length = n ∧ ∀ i : Nat, i < n → ∃ v, rows[i]? = some v ∧ Kd.R (Kd.int .i64) 3 (w.setCell ⟨g, j, none⟩ u) w0.heap.size (fun k => O k = i + 2) v (s.heads.getD i []) := by
  obtain ⟨rows, a, b, c⟩ := h.rows
  refine ⟨rows, blk_far a (blk_ne a hb h23) _, b, fun i hi => ?_⟩
  obtain ⟨v, d, e⟩ := c i hi
  exact ⟨v, d, Kd.R_set e hb (by intro q hq; simp [Kd.int, Kd.scalar] at hq; subst hq; exact h3) _ _⟩
theorem OrdMem.putSeen {g cap : Nat} (h : OrdMem w0 w nb og hg nbc (.slice (some ⟨g, 0, none⟩) s.seen.length cap) vw vl vp n O s place) (x : Int) (h0 : 0 ≤ x) (h1 : x < s.seen.length) :
    OrdMem w0 (w.setCell ⟨g, x.toNat, none⟩ (.bool true)) nb og hg nbc (.slice (some ⟨g, 0, none⟩) s.seen.length cap) vw vl vp n O { s with seen := s.seen.set x.toNat true } place := by
  obtain ⟨g', cap', he, hbg, hgl, cells, hgc⟩ := Kd.R_form h.seen (by omega)
  have : g = g' := by injection he with he _ _; injection he with he; injection he
  subst this
  exact ⟨h.below.setCell hbg _, blk_far h.nbk (blk_ne h.nbk hgc (by decide)) _, blk_far h.ob (blk_ne h.ob hgc (by decide)) _, (Kd.R_put h.seen x true).1, Kd.R_set h.way hgc (by decide) _ _, Kd.R_set h.list hgc (by decide) _ _, Kd.R_set h.place hgc (by decide) _ _,
    h.rowsSet hgc (by decide) (by decide) _ _, h.nge, h.oge, h.hge⟩
/-- Whose a block is, when those from b on go to j. -/
def ownTo (O : Nat → Nat) (b j : Nat) : Nat → Nat := fun k => if b ≤ k then j else O k
theorem R_ownTo {α : Type} {d : Kd α} {e base j b i : Nat} {v : Value} {xs : List α} (hb : w.heap.size ≤ b) (h : d.R e w base (fun k => O k = i) v xs) : d.R e w base (fun k => ownTo O b j k = i) v xs :=
  Kd.R_mono (Kd.R_bound h) fun k hk => by unfold ownTo; rw [if_neg (by have := hk.2.2.1; omega)]; exact hk.1
theorem R_grownO {α : Type} {d : Kd α} {e base i j : Nat} {v : Value} {xs : List α} {w1 : World} {vr : Value} (h : d.R e w base (fun k => O k = i) v xs) (hr : ∀ k, vr.ownBlock = some k → O k = j) (hne : i ≠ j) (hg : w.grownBy w1 vr.ownBlock) : d.R e w1 base (fun k => O k = i) v xs :=
  Kd.R_grown h hg fun k hk he => hne (by rw [← hk]; exact hr k he.symm)
/-- Behind an append to the list, and its store into the struct. -/
theorem OrdMem.appList (h : OrdMem w0 w nb og hg nbc vs vw vl vp n O s place) {w1 : World} {v1 : Value} {x : Int} (ho : Kd.R (Kd.int .i64) 3 w1 w0.heap.size (fun k => ownTo O w.heap.size 0 k = 0) v1 (s.list ++ [x]))
    (hb : Below w0.heap.size w0 w1) (hgr : w.grownBy w1 vl.ownBlock) :
    w1.heap[og]? = some (.cells #[vl, vp, .slice (some ⟨hg, 0, none⟩) n n] 94 (0, 0)) ∧ OrdMem w0 (w1.setCell ⟨og, 0, none⟩ v1) nb og hg nbc vs vw v1 vp n (ownTo O w.heap.size 0) { s with list := s.list ++ [x] } place := by
  have hob := blk_grown h.ob hgr (Kd.R_ne h.list h.ob (by decide))
  have hnb := blk_grown h.nbk hgr (Kd.R_ne h.list h.nbk (by decide))
  refine ⟨hob, hb.setCell h.oge _, blk_far hnb (blk_ne hnb hob (by decide)) _, blk_put hob 0 v1 rfl, Kd.R_set (Kd.R_over' h.seen (Kd.R_typed h.list) (by decide) hgr) hob (by decide) _ _, Kd.R_set (Kd.R_over' h.way (Kd.R_typed h.list) (by decide) hgr) hob (by decide) _ _,
    Kd.R_set ho hob (by decide) _ _, Kd.R_set (R_grownO (R_ownTo (j := 0) (Nat.le_refl _) h.place) (fun k hk => (R_ownTo (j := 0) (Nat.le_refl _) h.list).1 k hk) (by decide) hgr) hob (by decide) _ _, ?_, h.nge, h.oge, h.hge⟩
  obtain ⟨rows, a, b, c⟩ := h.rows
  have a1 := blk_grown a hgr (Kd.R_ne h.list a (by decide))
  refine ⟨rows, blk_far a1 (blk_ne a1 hob (by decide)) _, b, fun i hi => ?_⟩
  obtain ⟨v, d, e⟩ := c i hi
  exact ⟨v, d, Kd.R_set (R_grownO (R_ownTo (j := 0) (Nat.le_refl _) e) (fun k hk => (R_ownTo (j := 0) (Nat.le_refl _) h.list).1 k hk) (by omega) hgr) hob (by decide) _ _⟩
/-- One of the heads: its slice, in the row's cell. -/
theorem OrdMem.headAt (h : OrdMem w0 w nb og hg nbc vs vw vl vp n O s place) (y : Int) (h0 : 0 ≤ y) (h1 : y < n) :
    ∃ v, w.cell? ⟨hg, y.toNat, none⟩ = some v ∧ w.frozen? ⟨hg, y.toNat, none⟩ = false ∧ Kd.R (Kd.int .i64) 3 w w0.heap.size (fun k => O k = y.toNat + 2) v (headsAt s.heads y) := by
  obtain ⟨rows, a, b, c⟩ := h.rows
  obtain ⟨v, d, e⟩ := c y.toNat (by omega)
  exact ⟨v, by rw [blk_cell a]; simpa using d, blk_frozen a _, e⟩
/-- Behind an append to one of the heads, and its store into the row. -/
theorem OrdMem.appHead (h : OrdMem w0 w nb og hg nbc vs vw vl vp n O s place) (hn : s.heads.length = n) {w1 : World} {v v1 : Value} {x y : Int} (h0 : 0 ≤ y) (h1 : y < n) (hv : w.cell? ⟨hg, y.toNat, none⟩ = some v)
    (ho : Kd.R (Kd.int .i64) 3 w1 w0.heap.size (fun k => ownTo O w.heap.size (y.toNat + 2) k = y.toNat + 2) v1 (headsAt s.heads y ++ [x])) (hb : Below w0.heap.size w0 w1) (hgr : w.grownBy w1 v.ownBlock) :
    w1.cell? ⟨hg, y.toNat, none⟩ = some v ∧ w1.frozen? ⟨hg, y.toNat, none⟩ = false ∧ OrdMem w0 (w1.setCell ⟨hg, y.toNat, none⟩ v1) nb og hg nbc vs vw vl vp n (ownTo O w.heap.size (y.toNat + 2)) { s with heads := addHead s.heads y x } place := by
  obtain ⟨rows, a, b, c⟩ := h.rows
  have hvr : Kd.R (Kd.int .i64) 3 w w0.heap.size (fun k => O k = y.toNat + 2) v (headsAt s.heads y) := by
    obtain ⟨v', d, e⟩ := c y.toNat (by omega)
    rw [blk_cell a] at hv
    simp only [List.getElem?_toArray] at hv
    rw [d] at hv; cases hv; exact e
  have hob := blk_grown h.ob hgr (Kd.R_ne hvr h.ob (by decide))
  have hnb := blk_grown h.nbk hgr (Kd.R_ne hvr h.nbk (by decide))
  have a1 := blk_grown a hgr (Kd.R_ne hvr a (by decide))
  have hvO : ∀ k, v.ownBlock = some k → ownTo O w.heap.size (y.toNat + 2) k = y.toNat + 2 := (R_ownTo (j := y.toNat + 2) (Nat.le_refl _) hvr).1
  refine ⟨by rw [blk_cell a1, ← blk_cell a]; exact hv, blk_frozen a1 _, hb.setCell h.hge _, blk_far hnb (blk_ne hnb a1 (by decide)) _, blk_far hob (blk_ne hob a1 (by decide)) _,
    Kd.R_set (Kd.R_over' h.seen (Kd.R_typed hvr) (by decide) hgr) a1 (by decide) _ _, Kd.R_set (Kd.R_over' h.way (Kd.R_typed hvr) (by decide) hgr) a1 (by decide) _ _,
    Kd.R_set (R_grownO (R_ownTo (j := y.toNat + 2) (Nat.le_refl _) h.list) hvO (by omega) hgr) a1 (by decide) _ _, Kd.R_set (R_grownO (R_ownTo (j := y.toNat + 2) (Nat.le_refl _) h.place) hvO (by omega) hgr) a1 (by decide) _ _, ?_, h.nge, h.oge, h.hge⟩
  refine ⟨rows.set y.toNat v1, by have := blk_set a1 y.toNat v1; simpa using this, by simpa using b, fun i hi => ?_⟩
  rw [List.getElem?_set]
  unfold addHead
  by_cases ci : y.toNat = i
  · rw [if_pos ci, if_pos (by omega)]
    refine ⟨v1, rfl, ?_⟩
    rw [List.getD_eq_getElem?_getD, List.getElem?_set, if_pos ci, if_pos (by omega), ← ci]
    exact Kd.R_set ho a1 (by decide) _ _
  · rw [if_neg ci]
    obtain ⟨v', d, e⟩ := c i hi
    refine ⟨v', d, ?_⟩
    rw [List.getD_eq_getElem?_getD, List.getElem?_set, if_neg ci, ← List.getD_eq_getElem?_getD]
    exact Kd.R_set (R_grownO (R_ownTo (j := y.toNat + 2) (Nat.le_refl _) e) hvO (by omega) hgr) a1 (by decide) _ _
/-- The step on top: its two cells. -/
theorem OrdMem.top (h : OrdMem w0 w nb og hg nbc vs vw vl vp n O s place) (wy : List (Int × Int)) (x k : Int) (hw : s.way = wy ++ [(x, k)]) :
    ∃ g cap, vw = .slice (some ⟨g, 0, none⟩) (wy.length + 1) cap ∧ w0.heap.size ≤ g ∧ w.cell? ⟨g, wy.length * 2, none⟩ = some (.int .i64 x) ∧ w.cell? ⟨g, wy.length * 2 + 1, none⟩ = some (.int .i64 k) ∧
      w.frozen? ⟨g, wy.length * 2 + 1, none⟩ = false ∧
      OrdMem w0 (w.setCell ⟨g, wy.length * 2 + 1, none⟩ (.int .i64 (k + 1))) nb og hg nbc vs vw vl vp n O { s with way := wy ++ [(x, k + 1)] } place := by
  have hl : s.way.length = wy.length + 1 := by rw [hw]; simp
  obtain ⟨g, cap, hvs, hbg, hgl, cells, hgc⟩ := Kd.R_form h.way (by omega)
  rw [hl] at hvs
  subst hvs
  have hR := h.way
  obtain ⟨_, _, hC⟩ := Kd.R_reads' hR
  obtain ⟨ad, cs, e, hcl, hK, hcell⟩ := Kd.C_get hC (0, 0) (wy.length : Int) (by omega) (by omega)
  cases e
  have hx : s.way.getD (wy.length : Int).toNat (0, 0) = (x, k) := by rw [hw, Int.toNat_natCast, List.getD_eq_getElem?_getD]; simp
  rw [hx] at hK
  have hcs := kS_cells hK
  subst hcs
  rw [Int.toNat_natCast, kS_sz] at hcell
  have c0 := hcell 0 _ rfl
  have c1 := hcell 1 _ rfl
  rw [add_plain] at c0 c1
  have hseg := Kd.R_seg (okp := fun _ => False) (seg := [.int .i64 (k + 1)]) (j := 1) (x' := (x, k + 1)) (c := [.int .i64 x, .int .i64 k]) hR (wy.length : Int) (by omega) (by omega) rfl
    (fun j u hu => by rw [Int.toNat_natCast, kS_sz]; have := hcell j u hu; rwa [add_plain] at this) (Nat.le_refl 2) ⟨[.int .i64 x], [.int .i64 (k + 1)], rfl, rfl, rfl⟩ (fun _ hk => hk.elim)
  rw [Int.toNat_natCast, kS_sz] at hseg
  have hset : s.way.set wy.length (x, k + 1) = wy ++ [(x, k + 1)] := by rw [hw]; simp
  rw [hset] at hseg
  refine ⟨g, cap, rfl, hbg, c0, c1, blk_frozen hgc _, h.below.setCell hbg _, blk_far h.nbk (blk_ne h.nbk hgc (by decide)) _, blk_far h.ob (blk_ne h.ob hgc (by decide)) _, Kd.R_set h.seen hgc (by decide) _ _, hseg.1,
    Kd.R_set h.list hgc (by decide) _ _, Kd.R_set h.place hgc (by decide) _ _, h.rowsSet hgc (by decide) (by decide) _ _, h.nge, h.oge, h.hge⟩
theorem OrdMem.popWay (h : OrdMem w0 w nb og hg nbc vs vw vl vp n O s place) (wy : List (Int × Int)) (x k : Int) (hw : s.way = wy ++ [(x, k)]) {g cap : Nat} (hv : vw = .slice (some ⟨g, 0, none⟩) (wy.length + 1) cap) :
    OrdMem w0 w nb og hg nbc vs (.slice (some ⟨g, 0, none⟩) wy.length cap) vl vp n O { s with way := wy } place := by
  subst hv
  have := Kd.R_take (m := wy.length) h.way (by rw [hw]; simp)
  rw [hw] at this
  simp only [List.take_left'] at this
  exact { h with way := this }
/-- Another way. -/
theorem OrdMem.onWay (h : OrdMem w0 w nb og hg nbc vs vw vl vp n O s place) {vw' : Value} {way' : List (Int × Int)} (hr : Kd.R kS 102 w w0.heap.size (fun _ => True) vw' way') :
    OrdMem w0 w nb og hg nbc vs vw' vl vp n O { s with way := way' } place := { h with way := hr }
/-- Behind an append to the way. -/
theorem OrdMem.appWay (h : OrdMem w0 w nb og hg nbc vs vw vl vp n O s place) {w1 : World} {v1 : Value} {p : Int × Int} (ho : Kd.R kS 102 w1 w0.heap.size (fun _ => True) v1 (s.way ++ [p])) (hb : Below w0.heap.size w0 w1) (hgr : w.grownBy w1 vw.ownBlock) :
    OrdMem w0 w1 nb og hg nbc vs v1 vl vp n O { s with way := s.way ++ [p] } place :=
  ⟨hb, blk_grown h.nbk hgr (Kd.R_ne h.way h.nbk (by decide)), blk_grown h.ob hgr (Kd.R_ne h.way h.ob (by decide)), Kd.R_over' h.seen (Kd.R_typed h.way) (by decide) hgr, ho, Kd.R_over' h.list (Kd.R_typed h.way) (by decide) hgr, Kd.R_over' h.place (Kd.R_typed h.way) (by decide) hgr, by
    obtain ⟨rows, a, b, c⟩ := h.rows
    exact ⟨rows, blk_grown a hgr (Kd.R_ne h.way a (by decide)), b, fun i hi => by obtain ⟨v, d, e⟩ := c i hi; exact ⟨v, d, Kd.R_over' e (Kd.R_typed h.way) (by decide) hgr⟩⟩, h.nge, h.oge, h.hge⟩
/-- A way of one step, in a block of its own. -/
theorem R_way1 (w0 w : World) (hb : w0.heap.size ≤ w.heap.size) (x k : Int) : Kd.R kS 102 (w.alloc (.cells #[.int .i64 x, .int .i64 k] 102)) w0.heap.size (fun _ => True) (.slice (some ⟨w.heap.size, 0, none⟩) 1 1) [(x, k)] := by
  refine ⟨fun _ _ => trivial, [.int .i64 x, .int .i64 k], ⟨rfl, .inr ⟨w.heap.size, 1, _, rfl, hb, blk_new w _, Nat.le_refl _, by simp [maxLen], rfl, rfl⟩⟩, rfl, fun j p hj => ?_⟩
  cases j with
  | zero => simp only [List.getElem?_cons_zero, Option.some.injEq] at hj; subst hj; exact ⟨_, _, rfl, rfl, rfl⟩
  | succ j => simp at hj
end
end Go.Proofs.Ytgbmebnfbhdpiaa
