/- A net without a node: its mathematics, and the copy's memory while it is made. -/
import Derived.Test.YtgbmebnfbhdpiaaDelF
import Derived.Test.YtgbmebnfbhdpiaaCloneG
import Derived.Test.YtgbmebnfbhdpiaaRetM
set_option linter.unusedSimpArgs false
set_option linter.unusedVariables false
namespace Go.Proofs.Ytgbmebnfbhdpiaa
open Go.RowKit Go.Proofs.YtgbmebnfbhdpiaaW.PrintWords Go.Proofs.YtgbmebnfbhdpiaaW.PrintLast

/-- Nothing goes on to the node. -/
def lessN (a : Int) (nx : List (List Int)) : List (List Int) := nx.map (del a)
theorem lessN_len (a : Int) (nx : List (List Int)) : (lessN a nx).length = nx.length := by simp [lessN]
theorem lessN_get (a : Int) (nx : List (List Int)) (k : Nat) : (lessN a nx).getD k [] = del a (nx.getD k []) := by
  unfold lessN
  rw [List.getD_eq_getElem?_getD, List.getElem?_map, List.getD_eq_getElem?_getD]
  cases nx[k]? <;> rfl
theorem succs_less (a : Int) (nx : List (List Int)) (x : Int) : succs (lessN a nx) x = del a (succs nx x) := lessN_get a nx x.toNat
theorem reach_less {nx : List (List Int)} {st : List Int} (hg : Good nx st) (a x : Int) : Reach (lessN a nx) (del a st) (-1) x ↔ Reach nx st a x := by
  constructor
  · intro h
    induction h with
    | start h _ => exact .start (mem_del.1 h).1 (mem_del.1 h).2
    | step _ h _ ih => rw [succs_less] at h; exact .step ih (mem_del.1 h).1 (mem_del.1 h).2
  · intro h
    induction h with
    | start h hb => exact .start (mem_del.2 ⟨h, hb⟩) (by have := hg.starts _ h; omega)
    | step hx h hb ih => exact .step ih (by rw [succs_less]; exact mem_del.2 ⟨h, hb⟩) (by have := hg.next _ _ h; omega)
theorem reachB_less {nx : List (List Int)} {st : List Int} (hg : Good nx st) (a : Int) : reachB (lessN a nx) (del a st) (-1) = reachB nx st a :=
  eq_reachB (by rw [reachB_len, lessN_len]) fun x h0 h1 => by
    rw [rdOf_reachB _ _ _ x h0 (by rw [lessN_len]; exact h1), reach_less hg]
theorem sumLen_less (a : Int) : ∀ nx : List (List Int), sumLen (lessN a nx) ≤ sumLen nx
  | [] => Nat.le_refl _
  | l :: nx => by
    have h1 := sumLen_less a nx
    have h2 := del_len a l
    simp only [lessN, sumLen, List.map_cons, List.sum_cons] at *
    omega
theorem netOk_less {nx : List (List Int)} {st : List Int} (h : netOk nx st = true) (a : Int) : netOk (lessN a nx) (del a st) = true := by
  have hg := good_of_ok h
  have hs : st.length + sumLen nx ≤ 65536 := by
    unfold netOk at h
    simp only [Bool.and_eq_true, decide_eq_true_eq, Bool.not_eq_true'] at h
    exact h.1.1.2
  have h1 := del_len a st
  have h2 := sumLen_less a nx
  refine ok_of (by rw [lessN_len]; have := hg.len; omega) (by omega) (fun k hk => ?_) ?_
  · rw [lessN_get, lessN_len, List.any_eq_false]
    intro y hy
    have := hg.next k y (mem_del.1 hy).1
    simp [wrongB]; omega
  · rw [lessN_len, List.any_eq_false]
    intro y hy
    have := hg.starts y (mem_del.1 hy).1
    simp [wrongB]; omega
/-- The first i rows are done. -/
def rowsAt (a : Int) (nx : List (List Int)) (i : Nat) : List (List Int) := (nx.take i).map (del a) ++ nx.drop i
theorem rowsAt_len (a : Int) (nx : List (List Int)) (i : Nat) (h : i ≤ nx.length) : (rowsAt a nx i).length = nx.length := by
  unfold rowsAt; rw [List.length_append, List.length_map, List.length_take, List.length_drop]; omega
theorem rowsAt_zero (a : Int) (nx : List (List Int)) : rowsAt a nx 0 = nx := by simp [rowsAt]
theorem rowsAt_end (a : Int) (nx : List (List Int)) : rowsAt a nx nx.length = lessN a nx := by simp [rowsAt, lessN]
theorem rowsAt_at (a : Int) (nx : List (List Int)) (i : Nat) (h : i < nx.length) : (rowsAt a nx i).getD i [] = nx.getD i [] := by
  unfold rowsAt
  rw [List.getD_eq_getElem?_getD, List.getElem?_append_right (by rw [List.length_map, List.length_take]; omega), List.length_map, List.length_take, List.getElem?_drop, List.getD_eq_getElem?_getD]
  congr 2; omega
theorem rowsAt_succ (a : Int) (nx : List (List Int)) (i : Nat) (h : i < nx.length) : (rowsAt a nx i).set i (del a (nx.getD i [])) = rowsAt a nx (i + 1) := by
  unfold rowsAt
  rw [List.set_append_right _ _ (by rw [List.length_map, List.length_take]; omega), List.length_map, List.length_take, show i - min i nx.length = 0 from by omega]
  rw [List.drop_eq_getElem_cons h, List.set_cons_zero, List.take_succ_eq_append_getElem h, List.map_append, List.append_assoc]
  simp [List.getD_eq_getElem?_getD, List.getElem?_eq_getElem h]

section
variable {w0 w : World} {ob : Nat} {vn vs : Value} {H : List Hdr} {rows : List (List Int)} {st : List Int} {O : Nat → Nat}
/-- The copy in a new box. -/
theorem CloSt.rebox (h : CloSt w0 w ob vn vs H rows st O) : CloSt w0 (w.alloc (.cells #[vn, vs] 25)) w.heap.size vn vs H rows st O := by
  have h1 := h.step ((Below.refl _ _).alloc (Nat.le_refl _) (.cells #[vn, vs] 25))
  exact ⟨h1.below, blk_new _ _, h1.heads, h1.len, h1.rows, h1.start, h.below.size⟩
/-- Fewer starts. -/
theorem CloSt.delStart {w1 : World} {vs' : Value} {st' : List Int} (h : CloSt w0 w ob vn vs H rows st O) (hr : Kd.R (Kd.int .i64) 3 w1 w0.heap.size (fun z => O z = 1) vs' st') (hg : w.grownBy w1 vs.ownBlock) :
    w1.heap[ob]? = some (.cells #[vn, vs] 25 (0, 0)) ∧ CloSt w0 (w1.setCell ⟨ob, 1, none⟩ vs') ob vn vs' H rows st' O := by
  have hob := blk_grown h.obk hg (Kd.R_ne h.start h.obk (by decide))
  refine ⟨hob, (h.below.grown hg h.below.size (fun k e => Kd.R_base h.start k e)).setCell h.oge _, blk_put hob 1 vs' rfl, Kd.R_set (Kd.R_over' h.heads (Kd.R_typed h.start) (by decide) hg) hob (by decide) _ _, h.len, fun i hd hi => ⟨(h.rows i hd hi).1, ?_⟩, Kd.R_set hr hob (by decide) _ _, h.oge⟩
  exact Kd.R_set (R_grownO (h.rows i hd hi).2 (fun k hk => h.start.1 k hk) (by omega) hg) hob (by decide) _ _
/-- A shorter row. -/
theorem CloSt.delRow {w1 : World} {g n cap i k : Nat} {hd : Hdr} {l' : List Int} (h : CloSt w0 w ob (.slice (some ⟨g, 0, none⟩) n cap) vs H rows st O) (hi : H[i]? = some hd) (hk : k = l'.length)
    (hr : Kd.R (Kd.int .i64) 3 w1 w0.heap.size (fun z => O z = i + 2) (encH (hd.1, k, hd.2.2)) l') (hg : w.grownBy w1 (encH hd).ownBlock) :
    w1.heap[ob]? = some (.cells #[.slice (some ⟨g, 0, none⟩) n cap, vs] 25 (0, 0)) ∧ (w1.cell? ⟨g, i, none⟩ = some (encH hd) ∧ w1.frozen? ⟨g, i, none⟩ = false) ∧
      CloSt w0 (w1.setCell ⟨g, i, none⟩ (encH (hd.1, k, hd.2.2))) ob (.slice (some ⟨g, 0, none⟩) n cap) vs (H.set i (hd.1, k, hd.2.2)) (rows.set i l') st O := by
  have hil := (List.getElem?_eq_some_iff.1 hi).1
  have hrow := (h.rows i hd hi).2
  have hob := blk_grown h.obk hg (Kd.R_ne hrow h.obk (by decide))
  have hh := Kd.R_over' h.heads (Kd.R_typed hrow) (by decide) hg
  obtain ⟨g', cap', hvs, hbg, hgl, cells, hgc⟩ := Kd.R_form hh (by omega)
  have hv1 := (Value.slice.inj hvs).1
  have hgg : g = g' := by injection hv1 with e; injection e
  subst hgg
  have hn : n = H.length := (Kd.R_reads' hh).1
  have hc := Kd.R_celln hd hh (i : Int) (by omega) (by omega)
  have hhd : rdOf hd H (i : Int) = hd := by unfold rdOf; rw [Int.toNat_natCast, List.getD_eq_getElem?_getD, hi]; rfl
  rw [hhd, Int.toNat_natCast] at hc
  have hp := Kd.R_putn hh (i : Int) (hd.1, k, hd.2.2)
  rw [Int.toNat_natCast] at hp
  refine ⟨hob, hc, (h.below.grown hg h.below.size (fun k e => Kd.R_base hrow k e)).setCell hbg _, blk_far hob (blk_ne hob hgc (by decide)) _, hp, by rw [List.length_set, List.length_set]; exact h.len, fun j hd' hj => ?_, Kd.R_set (R_grownO h.start (fun k hk => hrow.1 k hk) (by omega) hg) hgc (by decide) _ _, h.oge⟩
  rw [List.getElem?_set] at hj
  by_cases c : i = j
  · rw [if_pos c, if_pos hil] at hj
    cases hj
    subst c
    have e : (rows.set i l').getD i [] = l' := by rw [List.getD_eq_getElem?_getD, List.getElem?_set, if_pos rfl, if_pos (by rw [← h.len]; exact hil)]; rfl
    rw [e]
    exact ⟨hk, Kd.R_set hr hgc (by decide) _ _⟩
  · rw [if_neg c] at hj
    have e : (rows.set i l').getD j [] = rows.getD j [] := by rw [List.getD_eq_getElem?_getD, List.getElem?_set, if_neg c, List.getD_eq_getElem?_getD]
    rw [e]
    exact ⟨(h.rows j hd' hj).1, Kd.R_set (R_grownO (h.rows j hd' hj).2 (fun k hk => hrow.1 k hk) (by omega) hg) hgc (by decide) _ _⟩
end
end Go.Proofs.Ytgbmebnfbhdpiaa
