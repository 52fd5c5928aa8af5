/- What is reached in a net, without a node or with all: the plain relation, the list of bools that tells it, and the list that grows. -/
import Derived.Test.YtgbmebnfbhdpiaaReachF
namespace Go.Proofs.Ytgbmebnfbhdpiaa
open Go.Proofs.YtgbmebnfbhdpiaaW.PrintWords

/-- What a node goes on to. -/
def succs (nx : List (List Int)) (x : Int) : List Int := nx.getD x.toNat []
inductive Reach (nx : List (List Int)) (st : List Int) (but : Int) : Int → Prop
  | start {x : Int} : x ∈ st → x ≠ but → Reach nx st but x
  | step {x y : Int} : Reach nx st but x → y ∈ succs nx x → y ≠ but → Reach nx st but y
theorem Reach.ne {nx : List (List Int)} {st : List Int} {but x : Int} (h : Reach nx st but x) : x ≠ but := by cases h <;> assumption

/-- All numbers of a net are nodes. -/
structure Good (nx : List (List Int)) (st : List Int) : Prop where
  len : nx.length ≤ 8192
  starts : ∀ x ∈ st, 0 ≤ x ∧ x < nx.length
  next : ∀ k, ∀ y ∈ nx.getD k [], 0 ≤ y ∧ y < nx.length
theorem wrongB_false {n x : Int} (h : wrongB n x = false) : 0 ≤ x ∧ x < n := by
  unfold wrongB at h
  simp only [Bool.or_eq_false_iff, decide_eq_false_iff_not] at h
  omega
theorem any_wrong_false {n : Int} {l : List Int} (h : l.any (wrongB n) = false) : ∀ x ∈ l, 0 ≤ x ∧ x < n := by
  intro x hx
  rw [List.any_eq_false] at h
  exact wrongB_false (by have := h x hx; simpa using this)
theorem good_of_ok {nx : List (List Int)} {st : List Int} (h : netOk nx st = true) : Good nx st := by
  unfold netOk at h
  simp only [Bool.and_eq_true, decide_eq_true_eq, Bool.not_eq_true'] at h
  obtain ⟨⟨⟨h1, _⟩, h3⟩, h4⟩ := h
  refine ⟨h1, any_wrong_false h4, fun k y hy => ?_⟩
  rcases Nat.lt_or_ge k nx.length with hk | hk
  · rw [List.all_eq_true] at h3
    have := h3 (nx.getD k []) (by rw [List.getD_eq_getElem?_getD, List.getElem?_eq_getElem hk]; exact List.getElem_mem hk)
    exact any_wrong_false (by simpa using this) y hy
  · rw [List.getD_eq_getElem?_getD, List.getElem?_eq_none hk] at hy
    simp at hy
theorem Reach.lt {nx : List (List Int)} {st : List Int} {but x : Int} (hg : Good nx st) (h : Reach nx st but x) : 0 ≤ x ∧ x < nx.length := by
  cases h with
  | start h _ => exact hg.starts _ h
  | step _ h _ => exact hg.next _ _ h

open Classical in
/-- Of each node whether it is reached, but by 'but'. -/
noncomputable def reachB (nx : List (List Int)) (st : List Int) (but : Int) : List Bool := (List.range nx.length).map fun (i : Nat) => decide (Reach nx st but (i : Int))
theorem reachB_len (nx : List (List Int)) (st : List Int) (but : Int) : (reachB nx st but).length = nx.length := by simp [reachB]
theorem rdOf_reachB (nx : List (List Int)) (st : List Int) (but x : Int) (h0 : 0 ≤ x) (h1 : x < nx.length) : rdOf false (reachB nx st but) x = true ↔ Reach nx st but x := by
  unfold rdOf reachB
  rw [List.getD_eq_getElem?_getD, List.getElem?_map, List.getElem?_range (by omega)]
  simp [Int.toNat_of_nonneg h0]
theorem eq_reachB {nx : List (List Int)} {st : List Int} {but : Int} {l : List Bool} (hl : l.length = nx.length) (h : ∀ x : Int, 0 ≤ x → x < nx.length → (rdOf false l x = true ↔ Reach nx st but x)) : l = reachB nx st but := by
  apply List.ext_getElem?
  intro i
  rcases Nat.lt_or_ge i nx.length with hi | hi
  · have h1 := h i (by omega) (by omega)
    have h2 := rdOf_reachB nx st but i (by omega) (by omega)
    rw [← h2] at h1
    unfold rdOf at h1
    simp only [Int.toNat_natCast, List.getD_eq_getElem?_getD] at h1
    rw [List.getElem?_eq_getElem (by omega), List.getElem?_eq_getElem (by rw [reachB_len]; exact hi)] at h1 ⊢
    simp only [Option.getD_some] at h1
    exact congrArg some (Bool.eq_iff_iff.2 h1)
  · rw [List.getElem?_eq_none (by omega), List.getElem?_eq_none (by rw [reachB_len]; exact hi)]

/-! ### The list that grows -/
theorem rdOf_set (l : List Bool) (x y : Int) (h0 : 0 ≤ x) (h1 : x < l.length) (hy : 0 ≤ y) : rdOf false (l.set x.toNat true) y = true ↔ y = x ∨ rdOf false l y = true := by
  unfold rdOf
  rw [List.getD_eq_getElem?_getD, List.getElem?_set]
  by_cases h : x.toNat = y.toNat
  · rw [if_pos h, if_pos (by omega)]
    have : y = x := by omega
    simp [this]
  · rw [if_neg h]
    have : y ≠ x := by omega
    simp [this, List.getD_eq_getElem?_getD]
theorem meet1_seen (but x : Int) (s : List Bool × List Int) (h0 : 0 ≤ x) (h1 : x < s.1.length) (y : Int) (hy : 0 ≤ y) : rdOf false (meet1 but x s).1 y = true ↔ rdOf false s.1 y = true ∨ (y = x ∧ y ≠ but) := by
  unfold meet1
  by_cases hb : x = but
  · rw [if_pos hb]; constructor
    · exact .inl
    · rintro (h | ⟨rfl, h⟩)
      · exact h
      · exact absurd hb h
  · rw [if_neg hb]
    by_cases hs : rdOf false s.1 x = true
    · rw [if_pos hs]; constructor
      · exact .inl
      · rintro (h | ⟨rfl, h⟩)
        · exact h
        · exact hs
    · rw [if_neg hs]
      show rdOf false (s.1.set x.toNat true) y = true ↔ _
      rw [rdOf_set _ _ _ h0 h1 hy]
      constructor
      · rintro (rfl | h)
        · exact .inr ⟨rfl, hb⟩
        · exact .inl h
      · rintro (h | ⟨h, _⟩)
        · exact .inr h
        · exact .inl h
theorem meetL_seen (but : Int) (l : List Int) (s : List Bool × List Int) (hr : ∀ x ∈ l, 0 ≤ x ∧ x < s.1.length) (y : Int) (hy : 0 ≤ y) : rdOf false (meetL but l s).1 y = true ↔ rdOf false s.1 y = true ∨ (y ∈ l ∧ y ≠ but) := by
  induction l generalizing s with
  | nil => simp [meetL]
  | cons x l ih =>
    have hx := hr x (by simp)
    show rdOf false (meetL but l (meet1 but x s)).1 y = true ↔ _
    rw [ih _ (fun z hz => by rw [meet1_len]; exact hr z (by simp [hz])), meet1_seen but x s hx.1 hx.2 y hy]
    simp only [List.mem_cons]
    constructor
    · rintro ((h | ⟨h, h'⟩) | ⟨h, h'⟩)
      · exact .inl h
      · exact .inr ⟨.inl h, h'⟩
      · exact .inr ⟨.inr h, h'⟩
    · rintro (h | ⟨h | h, h'⟩)
      · exact .inl (.inl h)
      · exact .inl (.inr ⟨h, h'⟩)
      · exact .inr ⟨h, h'⟩
/-- The list holds just what is seen. -/
def Lists (s : List Bool × List Int) : Prop := ∀ x : Int, x ∈ s.2 ↔ 0 ≤ x ∧ x < s.1.length ∧ rdOf false s.1 x = true
theorem meet1_lists (but x : Int) (s : List Bool × List Int) (h0 : 0 ≤ x) (h1 : x < s.1.length) (h : Lists s) : Lists (meet1 but x s) := by
  intro y
  unfold meet1
  split
  · exact h y
  · split
    · exact h y
    · show y ∈ s.2 ++ [x] ↔ 0 ≤ y ∧ y < (s.1.set x.toNat true).length ∧ rdOf false (s.1.set x.toNat true) y = true
      rw [List.mem_append, List.mem_singleton, h y, List.length_set]
      constructor
      · rintro (⟨a, b, c⟩ | rfl)
        · exact ⟨a, b, (rdOf_set _ _ _ h0 h1 a).2 (.inr c)⟩
        · exact ⟨h0, h1, (rdOf_set _ _ _ h0 h1 h0).2 (.inl rfl)⟩
      · rintro ⟨a, b, c⟩
        rcases (rdOf_set _ _ _ h0 h1 a).1 c with rfl | c
        · exact .inr rfl
        · exact .inl ⟨a, b, c⟩
theorem meetL_lists (but : Int) (l : List Int) (s : List Bool × List Int) (hr : ∀ x ∈ l, 0 ≤ x ∧ x < s.1.length) (h : Lists s) : Lists (meetL but l s) := by
  induction l generalizing s with
  | nil => exact h
  | cons x l ih =>
    have hx := hr x (by simp)
    exact ih (meet1 but x s) (fun z hz => by rw [meet1_len]; exact hr z (by simp [hz])) (meet1_lists but x s hx.1 hx.2 h)
theorem meet1_prefix (but x : Int) (s : List Bool × List Int) : ∃ t, (meet1 but x s).2 = s.2 ++ t := by
  unfold meet1
  split
  · exact ⟨[], by simp⟩
  · split
    · exact ⟨[], by simp⟩
    · exact ⟨[x], rfl⟩
theorem meetL_prefix (but : Int) (l : List Int) (s : List Bool × List Int) : ∃ t, (meetL but l s).2 = s.2 ++ t := by
  induction l generalizing s with
  | nil => exact ⟨[], by simp [meetL]⟩
  | cons x l ih =>
    obtain ⟨t, ht⟩ := ih (meet1 but x s)
    obtain ⟨t', ht'⟩ := meet1_prefix but x s
    exact ⟨t' ++ t, by show (meetL but l (meet1 but x s)).2 = _; rw [ht, ht', List.append_assoc]⟩

/-- What holds while the list is gone through: k of its nodes are done. -/
structure Going (nx : List (List Int)) (st : List Int) (but : Int) (k : Nat) (s : List Bool × List Int) : Prop where
  len : s.1.length = nx.length
  cnt : Cnt s
  lists : Lists s
  sound : ∀ x : Int, 0 ≤ x → x < nx.length → rdOf false s.1 x = true → Reach nx st but x
  starts : ∀ x ∈ st, x ≠ but → rdOf false s.1 x = true
  done : ∀ j x, j < k → s.2[j]? = some x → ∀ y ∈ succs nx x, y ≠ but → rdOf false s.1 y = true
theorem going_start {nx : List (List Int)} {st : List Int} (hg : Good nx st) (but : Int) : Going nx st but 0 (meetL but st (List.replicate nx.length false, [])) := by
  have hz : ∀ y : Int, ¬ rdOf false (List.replicate nx.length false) y = true := fun y => by
    unfold rdOf; rw [List.getD_eq_getElem?_getD, List.getElem?_replicate]; split <;> simp
  have hr : ∀ x ∈ st, 0 ≤ x ∧ x < ((List.replicate nx.length false).length : Int) := fun x hx => by rw [List.length_replicate]; exact hg.starts x hx
  refine ⟨by rw [meetL_len]; simp, ?_, meetL_lists but st _ hr (fun x => by simp [hz]), fun x h0 h1 hx => ?_, fun x hx hb => ?_, fun j x hj => absurd hj (Nat.not_lt_zero _)⟩
  · have : ∀ (l : List Int) (s : List Bool × List Int), (∀ x ∈ l, 0 ≤ x ∧ x < (s.1.length : Int)) → Cnt s → Cnt (meetL but l s) := by
      intro l
      induction l with
      | nil => exact fun s _ h => h
      | cons x l ih => exact fun s hr h => ih _ (fun z hz => by rw [meet1_len]; exact hr z (by simp [hz])) (meet1_cnt but x s (hr x (by simp)).1 (hr x (by simp)).2 h)
    exact this st _ hr (by simp [Cnt, List.count_replicate])
  · rcases (meetL_seen but st _ hr x h0).1 hx with h | ⟨h, hb⟩
    · exact absurd h (hz x)
    · exact .start h hb
  · exact (meetL_seen but st _ hr x (hg.starts x hx).1).2 (.inr ⟨hx, hb⟩)
theorem going_step {nx : List (List Int)} {st : List Int} (hg : Good nx st) {but : Int} {k : Nat} {s : List Bool × List Int} (h : Going nx st but k s) {x : Int} (hx : s.2[k]? = some x) (hc : Cnt (meetL but (succs nx x) s)) :
    Going nx st but (k + 1) (meetL but (succs nx x) s) := by
  have hr : ∀ y ∈ succs nx x, 0 ≤ y ∧ y < (s.1.length : Int) := fun y hy => by rw [h.len]; exact hg.next _ _ hy
  have hxl := (h.lists x).1 (List.mem_of_getElem? hx)
  have hRx : Reach nx st but x := h.sound x hxl.1 (by rw [← h.len]; exact hxl.2.1) hxl.2.2
  refine ⟨by rw [meetL_len]; exact h.len, hc, meetL_lists but _ s hr h.lists, fun y h0 h1 hy => ?_, fun y hy hb => ?_, fun j y hj hy z hz hb => ?_⟩
  · rcases (meetL_seen but _ s hr y h0).1 hy with hy | ⟨hy, hb⟩
    · exact h.sound y h0 h1 hy
    · exact .step hRx hy hb
  · exact (meetL_seen but _ s hr y (hg.starts y hy).1).2 (.inl (h.starts y hy hb))
  · obtain ⟨t, ht⟩ := meetL_prefix but (succs nx x) s
    have hkl : k < s.2.length := (List.getElem?_eq_some_iff.1 hx).1
    rw [ht, List.getElem?_append_left (by omega)] at hy
    have hz0 : 0 ≤ z := (hg.next _ _ hz).1
    rw [meetL_seen but _ s hr z hz0]
    by_cases hjk : j < k
    · exact .inl (h.done j y hjk hy z hz hb)
    · obtain rfl : j = k := by omega
      rw [hx] at hy
      injection hy with hy
      subst hy
      exact .inr ⟨hz, hb⟩
theorem going_end {nx : List (List Int)} {st : List Int} (hg : Good nx st) {but : Int} {k : Nat} {s : List Bool × List Int} (h : Going nx st but k s) (hk : s.2.length ≤ k) : s.1 = reachB nx st but := by
  refine eq_reachB h.len fun x h0 h1 => ⟨h.sound x h0 h1, fun hx => ?_⟩
  induction hx with
  | start hx hb => exact h.starts _ hx hb
  | @step x y hx hy hb ih =>
    have hl := hx.lt hg
    have hm := (h.lists x).2 ⟨hl.1, by rw [h.len]; exact hl.2, ih hl.1 hl.2⟩
    obtain ⟨j, hj, hjx⟩ := List.getElem_of_mem hm
    exact h.done j x (by omega) (by rw [List.getElem?_eq_getElem hj, hjx]) y hy hb

end Go.Proofs.Ytgbmebnfbhdpiaa
