/- The mathematics of the document's Idom: of those that dominate a node the one that dominates the fewest is the closest. -/
import Derived.Test.YtgbmebnfbhdpiaaHoldsF
set_option linter.unusedSimpArgs false
set_option linter.unusedVariables false
namespace Go.Proofs.Ytgbmebnfbhdpiaa
open Go.Proofs.YtgbmebnfbhdpiaaW.PrintWords

/-- As many ones. -/
def ones (n : Nat) : List Int := List.replicate n 1
theorem rd_ones {n : Nat} {x : Int} (h0 : 0 ≤ x) (h1 : x < n) : rd (ones n) x = 1 := by
  unfold rd ones; rw [List.getD_eq_getElem?_getD, List.getElem?_replicate, if_pos (by omega)]; rfl
theorem ones_bound (n : Nat) (x : Int) : 0 ≤ rd (ones n) x ∧ rd (ones n) x ≤ 1048576 := by
  unfold rd ones; rw [List.getD_eq_getElem?_getD, List.getElem?_replicate]; split <;> simp
/-- How many of a list are true. -/
def cnt (l : List Bool) : Int := sumIf (rdOf false l) (ones l.length) l.length
section
variable {nx : List (List Int)} {st id : List Int}
/-- How many a node dominates. -/
noncomputable def manyI (nx : List (List Int)) (st : List Int) (a : Int) : Int := sumIf (domC nx st a) (ones nx.length) nx.length
theorem cnt_gone (hg : Good nx st) (a : Int) : cnt (goneB nx st a) = manyI nx st a := by
  unfold cnt manyI
  rw [goneB_len]
  exact sumIf_congr nx.length (fun x h0 h1 => (domC_gone hg a x h0 h1).symm)
/-- It dominates another one. -/
def SDom (nx : List (List Int)) (st : List Int) (a b : Int) : Prop := Dom nx st a b ∧ b ≠ a
theorem many_lt (hg : Good nx st) {z d : Int} (h : Dom nx st z d) (hne : z ≠ d) : manyI nx st d < manyI nx st z := by
  have hz := dom_reached h
  obtain ⟨z0, z1⟩ := Reach.lt hg hz
  have hzz : domC nx st z z = true := domC_iff.2 (Dom.self hz)
  have hdz : domC nx st d z ≠ true := fun e => hne (dom_antisymm h (domC_iff.1 e))
  have h1 : sumIf (fun x => domC nx st d x || x == z) (ones nx.length) nx.length = manyI nx st d + sumIf (fun x => x == z) (ones nx.length) nx.length :=
    sumIf_or nx.length (fun x _ _ => by
      rintro ⟨e1, e2⟩
      have : x = z := by simpa using e2
      subst this; exact hdz e1)
  have h2 : sumIf (fun x => x == z) (ones nx.length) nx.length = 1 := by rw [sumIf_one z0, if_pos z1, rd_ones z0 z1]
  have h3 : sumIf (fun x => domC nx st d x || x == z) (ones nx.length) nx.length ≤ manyI nx st z :=
    sumIf_mono (ones_bound _) nx.length (fun x _ _ hx => by
      rcases Bool.or_eq_true _ _ ▸ hx with e | e
      · exact domC_iff.2 (h.trans (domC_iff.1 e))
      · have : x = z := by simpa using e
        subst this; exact hzz)
  omega
/-- What is known of one node's answer when the first a have been looked at. -/
def Best (nx : List (List Int)) (st : List Int) (a b o : Int) : Prop :=
  (¬ Reach nx st (-1) b → o = -2) ∧ (Reach nx st (-1) b → (o = -1 ∧ ∀ z : Int, 0 ≤ z → z < a → ¬ SDom nx st z b) ∨ (0 ≤ o ∧ SDom nx st o b ∧ ∀ z : Int, 0 ≤ z → z < a → SDom nx st z b → manyI nx st o ≤ manyI nx st z))
theorem best_start (b : Int) (hr : Reach nx st (-1) b) : Best nx st 0 b (-1) := ⟨fun h => absurd hr h, fun _ => .inl ⟨rfl, fun z h0 h1 => by omega⟩⟩
theorem best_none {a b : Int} (hr : ¬ Reach nx st (-1) b) : Best nx st a b (-2) := ⟨fun _ => rfl, fun h => absurd h hr⟩
theorem best_new {a b o : Int} (h : Best nx st a b o) (h0 : 0 ≤ a) (hd : SDom nx st a b) (hc : o < 0 ∨ manyI nx st a < manyI nx st o) : Best nx st (a + 1) b a := by
  have hr : Reach nx st (-1) b := hd.1.1
  refine ⟨fun hn => absurd hr hn, fun _ => .inr ⟨h0, hd, fun z z0 z1 hz => ?_⟩⟩
  by_cases c : z = a
  · subst c; exact Int.le_refl _
  · rcases h.2 hr with ⟨e1, e2⟩ | ⟨e1, e2, e3⟩
    · exact absurd hz (e2 z z0 (by omega))
    · have := e3 z z0 (by omega) hz
      rcases hc with hc | hc <;> omega
theorem best_old {a b o : Int} (h : Best nx st a b o) (hc : SDom nx st a b → ¬ (o < 0 ∨ manyI nx st a < manyI nx st o)) : Best nx st (a + 1) b o := by
  refine ⟨h.1, fun hr => ?_⟩
  rcases h.2 hr with ⟨e1, e2⟩ | ⟨e1, e2, e3⟩
  · refine .inl ⟨e1, fun z z0 z1 hz => ?_⟩
    by_cases c : z = a
    · subst c; exact hc hz (.inl (by omega))
    · exact e2 z z0 (by omega) hz
  · refine .inr ⟨e1, e2, fun z z0 z1 hz => ?_⟩
    by_cases c : z = a
    · subst c; have := hc hz; omega
    · exact e3 z z0 (by omega) hz
theorem best_skip {a b o : Int} (h : Best nx st a b o) (hn : ¬ Reach nx st (-1) a) : Best nx st (a + 1) b o := best_old h (fun hd => absurd (dom_reached hd.1) hn)
theorem best_end (hg : Good nx st) (h : IdomX nx st id) {b o : Int} (h0 : 0 ≤ b) (h1 : b < nx.length) (hb : Best nx st nx.length b o) : o = rd id b := by
  by_cases hr : Reach nx st (-1) b
  case neg => rw [hb.1 hr, (h.none b h0 h1).2 hr]
  have hu := h.up hg hr
  have hsd : 0 ≤ rd id b → SDom nx st (rd id b) b := fun e => ⟨(h.dom_up hg h0 h1 e).1, fun c => (h.dom_up hg h0 h1 e).2 c.symm⟩
  rcases hb.2 hr with ⟨e1, e2⟩ | ⟨e1, e2, e3⟩
  · by_cases c : 0 ≤ rd id b
    · exact absurd (hsd c) (e2 _ c hu.2.1)
    · omega
  · have hd : 0 ≤ rd id b ∧ Anc id o (rd id b) := by
      rcases Anc.or ((h.anc o b hr).2 e2.1) with e | e
      · exact absurd e.symm e2.2
      · exact e
    have hdo : Dom nx st o (rd id b) := (h.anc _ _ (hu.2.2.2 hd.1)).1 hd.2
    by_cases c : o = rd id b
    · exact c
    · have := many_lt hg hdo c
      have := e3 _ hd.1 hu.2.1 (hsd hd.1)
      omega
theorem best_dom_lt (hg : Good nx st) {a b o : Int} (h : Best nx st a b o) (hr : Reach nx st (-1) b) (h0 : 0 ≤ o) : o < nx.length ∧ Reach nx st (-1) o := by
  rcases h.2 hr with ⟨e1, _⟩ | ⟨_, e2, _⟩
  · omega
  · have := dom_reached e2.1
    exact ⟨(Reach.lt hg this).2, this⟩
theorem idoms_end (hg : Good nx st) (h : IdomX nx st id) {O : List Int} (hl : O.length = nx.length) (hb : ∀ b : Int, 0 ≤ b → b < nx.length → Best nx st nx.length b (rd O b)) : O = id := by
  apply List.ext_getElem?
  intro i
  rcases Nat.lt_or_ge i nx.length with hi | hi
  · have := best_end hg h (b := i) (by omega) (by omega) (hb i (by omega) (by omega))
    unfold rd at this
    simp only [Int.toNat_natCast, List.getD_eq_getElem?_getD] at this
    rw [List.getElem?_eq_getElem (by omega), List.getElem?_eq_getElem (by rw [h.len]; omega)] at this ⊢
    simpa using this
  · rw [List.getElem?_eq_none (by omega), List.getElem?_eq_none (by rw [h.len]; omega)]
end
end Go.Proofs.Ytgbmebnfbhdpiaa
