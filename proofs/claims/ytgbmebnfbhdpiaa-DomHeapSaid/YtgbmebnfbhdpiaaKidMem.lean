/- The memory of dom.Retained: the lists of those that a node is the closest of, while they grow. -/
import Derived.Test.YtgbmebnfbhdpiaaRetF
import Derived.Test.YtgbmebnfbhdpiaaOrderedF
set_option linter.unusedSimpArgs false
set_option linter.unusedVariables false
namespace Go.Proofs.Ytgbmebnfbhdpiaa
open Go.RowKit Go.Proofs.YtgbmebnfbhdpiaaW.PrintWords Go.Proofs.YtgbmebnfbhdpiaaW.PrintLast

structure KidMem (w0 w : World) (hg kb : Nat) (vi : Value) (n : Nat) (O : Nat → Nat) (id : List Int) (kids : List (List Int)) : Prop where
  below : Below w0.heap.size w0 w
  kbk : w.heap[kb]? = some (.cells #[.slice (some ⟨hg, 0, none⟩) n n] 22 (0, 0))
  idom : Kd.R (Kd.int .i64) 3 w w0.heap.size (fun k => O k = 0) vi id
  rows : ∃ rows : List Value, w.heap[hg]? = some (.cells rows.toArray 23 (0, 0)) ∧ rows.length = n ∧ ∀ i : Nat, i < n → ∃ v, rows[i]? = some v ∧ Kd.R (Kd.int .i64) 3 w w0.heap.size (fun k => O k = i + 1) v (kids.getD i [])
  hge : w0.heap.size ≤ hg
  kge : w0.heap.size ≤ kb
section
variable {w0 w : World} {hg kb : Nat} {vi : Value} {n : Nat} {O : Nat → Nat} {id : List Int} {kids : List (List Int)}
theorem KidMem.drew (h : KidMem w0 w hg kb vi n O id kids) : KidMem w0 w.drew hg kb vi n O id kids :=
  ⟨below_drew h.below, h.kbk, Kd.R_drew h.idom, by
    obtain ⟨rows, h1, h2, h3⟩ := h.rows
    exact ⟨rows, h1, h2, fun i hi => by obtain ⟨v, a, b⟩ := h3 i hi; exact ⟨v, a, Kd.R_drew b⟩⟩, h.hge, h.kge⟩
theorem KidMem.kidAt (h : KidMem w0 w hg kb vi n O id kids) (y : Int) (h0 : 0 ≤ y) (h1 : y < n) :
    ∃ v, w.cell? ⟨hg, y.toNat, none⟩ = some v ∧ w.frozen? ⟨hg, y.toNat, none⟩ = false ∧ Kd.R (Kd.int .i64) 3 w w0.heap.size (fun k => O k = y.toNat + 1) v (headsAt kids y) := by
  obtain ⟨rows, a, b, c⟩ := h.rows
  obtain ⟨v, d, e⟩ := c y.toNat (by omega)
  exact ⟨v, by rw [blk_cell a]; simpa using d, blk_frozen a _, e⟩
/-- Behind an append to one of the lists, and its store into the row. -/
theorem KidMem.app (h : KidMem w0 w hg kb vi n O id kids) (hn : kids.length = n) {w1 : World} {v v1 : Value} {x y : Int} (h0 : 0 ≤ y) (h1 : y < n) (hv : w.cell? ⟨hg, y.toNat, none⟩ = some v)
    (ho : Kd.R (Kd.int .i64) 3 w1 w0.heap.size (fun k => ownTo O w.heap.size (y.toNat + 1) k = y.toNat + 1) v1 (headsAt kids y ++ [x])) (hb : Below w0.heap.size w0 w1) (hgr : w.grownBy w1 v.ownBlock) :
    w1.cell? ⟨hg, y.toNat, none⟩ = some v ∧ w1.frozen? ⟨hg, y.toNat, none⟩ = false ∧ KidMem w0 (w1.setCell ⟨hg, y.toNat, none⟩ v1) hg kb vi n (ownTo O w.heap.size (y.toNat + 1)) id (addHead kids y x) := by
  obtain ⟨rows, a, b, c⟩ := h.rows
  have hvr : Kd.R (Kd.int .i64) 3 w w0.heap.size (fun k => O k = y.toNat + 1) v (headsAt kids y) := by
    obtain ⟨v', d, e⟩ := c y.toNat (by omega)
    rw [blk_cell a] at hv
    simp only [List.getElem?_toArray] at hv
    rw [d] at hv; cases hv; exact e
  have hkb := blk_grown h.kbk hgr (Kd.R_ne hvr h.kbk (by decide))
  have a1 := blk_grown a hgr (Kd.R_ne hvr a (by decide))
  have hvO : ∀ k, v.ownBlock = some k → ownTo O w.heap.size (y.toNat + 1) k = y.toNat + 1 := (R_ownTo (j := y.toNat + 1) (Nat.le_refl _) hvr).1
  refine ⟨by rw [blk_cell a1, ← blk_cell a]; exact hv, blk_frozen a1 _, hb.setCell h.hge _, blk_far hkb (blk_ne hkb a1 (by decide)) _,
    Kd.R_set (R_grownO (R_ownTo (j := y.toNat + 1) (Nat.le_refl _) h.idom) hvO (by omega) hgr) a1 (by decide) _ _, ?_, h.hge, h.kge⟩
  refine ⟨rows.set y.toNat v1, by have := blk_set a1 y.toNat v1; simpa using this, by simpa using b, fun i hi => ?_⟩
  rw [List.getElem?_set]
  unfold addHead
  by_cases ci : y.toNat = i
  · rw [if_pos ci, if_pos (by omega)]
    refine ⟨v1, rfl, ?_⟩
    rw [List.getD_eq_getElem?_getD, List.getElem?_set, if_pos ci, if_pos (by omega), ← ci]
    exact Kd.R_set ho a1 (by decide) _ _
  · rw [if_neg ci]
    obtain ⟨v', d, e⟩ := c i hi
    refine ⟨v', d, ?_⟩
    rw [List.getD_eq_getElem?_getD, List.getElem?_set, if_neg ci, ← List.getD_eq_getElem?_getD]
    exact Kd.R_set (R_grownO (R_ownTo (j := y.toNat + 1) (Nat.le_refl _) e) hvO (by omega) hgr) a1 (by decide) _ _
/-- The lists as they are read. -/
theorem KidMem.kidsC (h : KidMem w0 w hg kb vi n O id kids) (hn : kids.length = n) (hm : n ≤ 8192) : Kd.C (Kd.slice 3 (Kd.int .i64)) w (some ⟨hg, 0, none⟩) n kids := by
  obtain ⟨rows, a, b, c⟩ := h.rows
  refine ⟨hn, by omega, fun _ => ⟨_, rfl, fun j p hj => ?_⟩⟩
  have hjl := (List.getElem?_eq_some_iff.1 hj).1
  obtain ⟨v, d, e⟩ := c j (by omega)
  have hp : kids.getD j [] = p := by rw [List.getD_eq_getElem?_getD, hj]; rfl
  rw [hp] at e
  obtain ⟨A, k, rfl, h1, h2⟩ := Kd.R_reads e
  refine ⟨[.slice A p.length k], rfl, ⟨A, k, rfl, h1, h2⟩, fun i u hu => ?_⟩
  cases i with
  | zero =>
    simp only [List.getElem?_cons_zero, Option.some.injEq] at hu
    subst hu
    have : (Kd.slice 3 (Kd.int .i64)).sz = 1 := rfl
    rw [this, Nat.mul_one, Nat.add_zero, add_plain, blk_cell a]
    simpa using d
  | succ i => simp at hu
end
/-- At the start all lists are empty. -/
theorem kidMem0 {w0 w w2 : World} {hg kb : Nat} {vi : Value} {n : Nat} {id : List Int} (hn : n ≤ 8192) (h2 : w.heap[hg]? = some (.cells (List.replicate n (Value.slice none 0 0)).toArray 23 (0, 0))) (h3 : w.heap[kb]? = some (.cells #[.slice (some ⟨hg, 0, none⟩) n n] 22 (0, 0)))
    (hb : Below w0.heap.size w0 w) (hge : w0.heap.size ≤ hg) (kge : w0.heap.size ≤ kb) (hb2 : Below w.heap.size w w2) (hi : Kd.R (Kd.int .i64) 3 w2 w0.heap.size (fun _ => True) vi id) :
    KidMem w0 w2 hg kb vi n (fun _ => 0) id (List.replicate n []) := by
  refine ⟨hb.trans (hb2.mono hb.size), blk_below h3 hb2, Kd.R_mono hi (fun _ _ => rfl), ⟨_, blk_below h2 hb2, by simp, fun i hi => ⟨.slice none 0 0, by rw [List.getElem?_replicate, if_pos hi], ?_⟩⟩, hge, kge⟩
  have : (List.replicate n ([] : List Int)).getD i [] = [] := by simp [List.getD_eq_getElem?_getD, List.getElem?_replicate, hi]
  rw [this]; exact Kd.R_nil _ _ _ _ _

theorem info2 : (Try.prog.info? 2).map (fun i => (i.zero, i.size, i.bytes)) = some (some (.int .i64 0), 1, 8) := by kernel_rfl
theorem run_make38 (n : Nat) (hn : n ≤ 8192) (W : World) : (Instr.makeSlice 38 (.int .i64 (n : Int)) (.int .i64 (n : Int))).run Try.prog W = .ok (.slice (some ⟨W.heap.size, 0, none⟩) n n) (W.alloc (.cells (List.replicate n (Value.int .i64 0)).toArray 2)) := by
  obtain ⟨i0, hi, hzz⟩ := Option.map_eq_some_iff.1 info2
  simp only [Prod.mk.injEq] at hzz
  obtain ⟨hz0, hz1, hz2⟩ := hzz
  have := run_make (P := Try.prog) W 38 2 i0 _ Try.underlying38 hi hz0 .i64 .i64 (n : Int) (n : Int) (by omega) (by omega) (by rw [hz2]; omega) (by omega)
  rw [this, Int.toNat_natCast, hz1, Nat.mul_one, made1 _ rfl]
end Go.Proofs.Ytgbmebnfbhdpiaa
