/- What each node holds: the weights of all that it dominates; its own, and what those hold that it is the closest of. Plain lists and numbers. -/
import Derived.Test.YtgbmebnfbhdpiaaKidsF
set_option linter.unusedSimpArgs false
set_option linter.unusedVariables false
namespace Go.Proofs.Ytgbmebnfbhdpiaa
open Go.Proofs.YtgbmebnfbhdpiaaW.PrintWords

/-- The sum of the weights of those of the first that are wanted. -/
def sumIf (p : Int → Bool) (ws : List Int) : Nat → Int
  | 0 => 0
  | i + 1 => sumIf p ws i + if p i then rd ws i else 0
theorem sumIf_congr {p q : Int → Bool} {ws : List Int} : ∀ n : Nat, (∀ x : Int, 0 ≤ x → x < n → p x = q x) → sumIf p ws n = sumIf q ws n
  | 0, _ => rfl
  | n + 1, h => by
    simp only [sumIf]
    rw [sumIf_congr n (fun x h0 h1 => h x h0 (by omega)), h n (by omega) (by omega)]
theorem sumIf_none {p : Int → Bool} {ws : List Int} : ∀ n : Nat, (∀ x : Int, 0 ≤ x → x < n → p x = false) → sumIf p ws n = 0
  | 0, _ => rfl
  | n + 1, h => by
    simp only [sumIf]
    rw [sumIf_none n (fun x h0 h1 => h x h0 (by omega)), h n (by omega) (by omega)]; rfl
theorem sumIf_or {p q : Int → Bool} {ws : List Int} : ∀ n : Nat, (∀ x : Int, 0 ≤ x → x < n → ¬ (p x = true ∧ q x = true)) → sumIf (fun x => p x || q x) ws n = sumIf p ws n + sumIf q ws n
  | 0, _ => rfl
  | n + 1, h => by
    simp only [sumIf]
    rw [sumIf_or n (fun x h0 h1 => h x h0 (by omega))]
    have := h n (by omega) (by omega)
    by_cases hp : p n = true
    · by_cases hq : q n = true
      · exact absurd ⟨hp, hq⟩ this
      · rw [if_pos (by simp [hp]), if_pos hp, if_neg hq]; omega
    · by_cases hq : q n = true
      · rw [if_pos (by simp [hq]), if_neg hp, if_pos hq]; omega
      · rw [if_neg (by simp [hp, hq]), if_neg hp, if_neg hq]; omega
theorem sumIf_one {ws : List Int} {a : Int} (h0 : 0 ≤ a) : ∀ n : Nat, sumIf (fun x => x == a) ws n = if a < n then rd ws a else 0
  | 0 => by rw [if_neg (by omega)]; rfl
  | n + 1 => by
    simp only [sumIf]
    rw [sumIf_one h0 n]
    by_cases c : (n : Int) = a
    · subst c; rw [if_neg (by omega), if_pos (by simp), if_pos (by omega)]; omega
    · by_cases c2 : a < (n : Int)
      · rw [if_pos c2, if_neg (by simpa using c), if_pos (by omega)]; omega
      · rw [if_neg c2, if_neg (by simpa using c), if_neg (by omega)]; omega
theorem sumIf_bound {p : Int → Bool} {ws : List Int} (hw : ∀ x : Int, 0 ≤ rd ws x ∧ rd ws x ≤ 1048576) : ∀ n : Nat, 0 ≤ sumIf p ws n ∧ sumIf p ws n ≤ n * 1048576
  | 0 => ⟨Int.le_refl _, by simp [sumIf]⟩
  | n + 1 => by
    have ⟨h1, h2⟩ := sumIf_bound (p := p) hw n
    have h3 := hw n
    simp only [sumIf]
    split <;> omega
theorem sumIf_mono {p q : Int → Bool} {ws : List Int} (hw : ∀ x : Int, 0 ≤ rd ws x ∧ rd ws x ≤ 1048576) : ∀ n : Nat, (∀ x : Int, 0 ≤ x → x < n → p x = true → q x = true) → sumIf p ws n ≤ sumIf q ws n
  | 0, _ => Int.le_refl _
  | n + 1, h => by
    have h1 := sumIf_mono hw n (fun x h0 h1 => h x h0 (by omega))
    have h3 := hw n
    have h4 := h n (by omega) (by omega)
    simp only [sumIf]
    cases hp : p n
    · simp; split <;> omega
    · rw [h4 hp]; simp; omega

open Classical in
noncomputable def domC (nx : List (List Int)) (st : List Int) (a x : Int) : Bool := decide (Dom nx st a x)
/-- What a node holds. -/
noncomputable def retW (nx : List (List Int)) (st ws : List Int) (a : Int) : Int := sumIf (domC nx st a) ws nx.length
def sumL (f : Int → Int) (ks : List Int) : Int := (ks.map f).sum
theorem sumL_snoc (f : Int → Int) (ks : List Int) (k : Int) : sumL f (ks ++ [k]) = sumL f ks + f k := by simp [sumL, List.map_append]

section
variable {nx : List (List Int)} {st id : List Int}
theorem domC_iff {a x : Int} : domC nx st a x = true ↔ Dom nx st a x := by classical
  unfold domC
  simp
theorem domC_gone (hg : Good nx st) (a x : Int) (h0 : 0 ≤ x) (h1 : x < nx.length) : domC nx st a x = rdOf false (goneB nx st a) x := by
  unfold goneB
  rw [rdOf_zip _ _ (by rw [reachB_len, reachB_len]) x h0 (by rw [reachB_len]; exact h1), Bool.eq_iff_iff, domC_iff, Bool.and_eq_true, rdOf_reachB nx st (-1) x h0 h1, Bool.not_eq_true', ← Bool.not_eq_true, rdOf_reachB nx st a x h0 h1]
  rfl
theorem dom_reached {a x : Int} (h : Dom nx st a x) : Reach nx st (-1) a := by
  rcases h.1.part a with r | r
  · exact absurd r h.2
  · exact r
theorem IdomX.dom_up (hg : Good nx st) (h : IdomX nx st id) {k : Int} (h0 : 0 ≤ k) (h1 : k < nx.length) (hk : 0 ≤ rd id k) : Dom nx st (rd id k) k ∧ rd id k ≠ k := by
  have hr : Reach nx st (-1) k := Classical.byContradiction fun c => by
    have := (h.none k h0 h1).2 c; omega
  exact ⟨(h.anc _ _ hr).1 (.up h0 hk (.self hk)), (h.up hg hr).2.2.1⟩
/-- Whom a node dominates: itself, and whom those dominate that it is the closest of. -/
theorem anc_kid {z x : Int} (h : Anc id z x) : z = x ∨ ∃ k, 0 ≤ k ∧ rd id k = z ∧ Anc id k x := by
  induction h with
  | self _ => exact .inl rfl
  | @up x h0 h1 ha ih =>
    rcases ih with e | ⟨k, k0, k1, k2⟩
    · exact .inr ⟨x, h0, e.symm, .self h0⟩
    · exact .inr ⟨k, k0, k1, .up h0 h1 k2⟩
theorem dom_split (hg : Good nx st) (h : IdomX nx st id) {i x : Int} (hi : Reach nx st (-1) i) (hx0 : 0 ≤ x) (hx1 : x < nx.length) : Dom nx st i x ↔ x = i ∨ ∃ k : Int, 0 ≤ k ∧ k < nx.length ∧ rd id k = i ∧ Dom nx st k x := by
  constructor
  · intro hd
    rcases anc_kid ((h.anc _ _ hd.1).2 hd) with e | ⟨k, k0, k1, k2⟩
    · exact .inl e.symm
    · have hk := (h.anc _ _ hd.1).1 k2
      exact .inr ⟨k, k0, (Reach.lt hg (dom_reached hk)).2, k1, hk⟩
  · rintro (e | ⟨k, k0, k1, k2, k3⟩)
    · rw [e]; exact Dom.self hi
    · have hi0 := (Reach.lt hg hi).1
      have := (h.dom_up hg k0 k1 (by omega)).1
      rw [k2] at this
      exact this.trans k3
theorem dom_apart (hg : Good nx st) (h : IdomX nx st id) {i k k' x : Int} (hk0 : 0 ≤ k) (hk1 : k < nx.length) (hk0' : 0 ≤ k') (hk1' : k' < nx.length) (hi : 0 ≤ i ∨ i = -1) (hk : rd id k = i) (hk' : rd id k' = i) (hd : Dom nx st k x) (hd' : Dom nx st k' x) : k = k' := by
  have key : ∀ {a b : Int}, 0 ≤ a → a < nx.length → 0 ≤ b → b < nx.length → rd id a = i → rd id b = i → Anc id a b → Reach nx st (-1) b → a = b := fun ha0 ha1 hb0 hb1 ea eb hab hb => by
    rcases hab.or with e | ⟨e1, e2⟩
    · exact e
    · rw [eb] at e1 e2
      have h2 := h.dom_up hg ha0 ha1 (by omega)
      rw [ea] at h2
      have hbi := (h.up hg hb).2.2.2 (by omega)
      rw [eb] at hbi
      have := dom_antisymm h2.1 ((h.anc _ _ hbi).1 e2)
      exact absurd this h2.2
  have a1 := (h.anc _ _ hd.1).2 hd
  have a2 := (h.anc _ _ hd.1).2 hd'
  rcases Anc.total a1 a2 with c | c
  · exact key hk0 hk1 hk0' hk1' hk hk' c (dom_reached hd')
  · exact (key hk0' hk1' hk0 hk1 hk' hk c (dom_reached hd)).symm
theorem kidsN_nodup (id : List Int) (a : Int) (i : Nat) : (kidsN id a i).Nodup := by
  unfold kidsN
  have h1 : List.Pairwise (fun a b : Nat => a ≠ b) ((List.range i).filter (fun j : Nat => rd id (j : Int) == a)) := List.Pairwise.filter _ List.nodup_range
  exact List.Pairwise.map (fun j : Nat => (j : Int)) (fun a b h e => h (by omega)) h1
/-- What some of the closest hold together. -/
theorem sum_kids (hg : Good nx st) (h : IdomX nx st id) (ws : List Int) {i : Int} (hi : 0 ≤ i ∨ i = -1) (ks : List Int) (hnd : ks.Nodup) (hm : ∀ k ∈ ks, 0 ≤ k ∧ k < nx.length ∧ rd id k = i) :
    sumL (retW nx st ws) ks = sumIf (fun x => ks.any fun k => domC nx st k x) ws nx.length := by
  induction ks with
  | nil => rw [sumIf_none (p := fun x => ([] : List Int).any fun k => domC nx st k x) nx.length (fun x _ _ => rfl)]; rfl
  | cons k ks ih =>
    rw [List.nodup_cons] at hnd
    have h1 := ih hnd.2 (fun j hj => hm j (by simp [hj]))
    have e : sumL (retW nx st ws) (k :: ks) = retW nx st ws k + sumL (retW nx st ws) ks := by simp [sumL]
    rw [e, h1]
    unfold retW
    rw [← sumIf_or (p := domC nx st k) (q := fun x => ks.any fun k => domC nx st k x) nx.length]
    · exact sumIf_congr nx.length (fun x _ _ => by simp)
    · rintro x h0 h1 ⟨e1, e2⟩
      obtain ⟨k', hk', e3⟩ := List.any_eq_true.1 e2
      have m1 := hm k (by simp)
      have m2 := hm k' (by simp [hk'])
      have := dom_apart hg h m1.1 m1.2.1 m2.1 m2.2.1 hi m1.2.2 m2.2.2 (domC_iff.1 e1) (domC_iff.1 e3)
      exact hnd.1 (this ▸ hk')
theorem retW_eq (hg : Good nx st) (h : IdomX nx st id) (ws : List Int) {i : Int} (hi : Reach nx st (-1) i) : retW nx st ws i = rd ws i + sumL (retW nx st ws) (kidsN id i nx.length) := by
  obtain ⟨hi0, hi1⟩ := Reach.lt hg hi
  rw [sum_kids hg h ws (.inl hi0) _ (kidsN_nodup id i nx.length) (fun k hk => (kidsN_mem id i nx.length k).1 hk)]
  have e1 : sumIf (fun x => x == i) ws nx.length = rd ws i := by rw [sumIf_one hi0, if_pos hi1]
  rw [← e1, ← sumIf_or]
  · unfold retW
    refine sumIf_congr nx.length (fun x h0 h1 => ?_)
    rw [Bool.eq_iff_iff, domC_iff, dom_split hg h hi h0 h1, Bool.or_eq_true, beq_iff_eq, List.any_eq_true]
    constructor
    · rintro (e | ⟨k, k0, k1, k2, k3⟩)
      · exact .inl e
      · exact .inr ⟨k, (kidsN_mem id i nx.length k).2 ⟨k0, k1, k2⟩, domC_iff.2 k3⟩
    · rintro (e | ⟨k, hk, k3⟩)
      · exact .inl e
      · obtain ⟨k0, k1, k2⟩ := (kidsN_mem id i nx.length k).1 hk
        exact .inr ⟨k, k0, k1, k2, domC_iff.1 k3⟩
  · rintro x h0 h1 ⟨e1, e2⟩
    obtain ⟨k, hk, k3⟩ := List.any_eq_true.1 e2
    obtain ⟨k0, k1, k2⟩ := (kidsN_mem id i nx.length k).1 hk
    have hxi : x = i := by simpa using e1
    subst hxi
    have h5 := h.dom_up hg k0 k1 (by omega)
    rw [k2] at h5
    exact h5.2 (dom_antisymm h5.1 (domC_iff.1 k3))
theorem retW_none (ws : List Int) {a : Int} (h : ¬ Reach nx st (-1) a) : retW nx st ws a = 0 := by
  refine sumIf_none nx.length (fun x _ _ => ?_)
  rw [← Bool.not_eq_true, domC_iff]
  exact fun hd => h (dom_reached hd)
/-- Each node that is reached stands under one that the root is the closest of. -/
theorem under_root (hg : Good nx st) (h : IdomX nx st id) {x : Int} (hx : Reach nx st (-1) x) : ∃ r, r ∈ kidsN id (-1) nx.length ∧ Dom nx st r x := by
  obtain ⟨pl, ht⟩ := h.tree
  have : ∀ (m : Nat) (y : Int), Reach nx st (-1) y → Pn pl y ≤ m → Dom nx st y x → ∃ r, r ∈ kidsN id (-1) nx.length ∧ Dom nx st r x := by
    intro m
    induction m with
    | zero =>
      intro y hy hp hd
      obtain ⟨h0, h1⟩ := Reach.lt hg hy
      have h2 : rd id y ≠ -2 := fun e => (h.none y h0 h1).1 e hy
      have := Pn_pos ht (.inr ⟨h0, h1, h2⟩) (by omega)
      omega
    | succ m ih =>
      intro y hy hp hd
      obtain ⟨h0, h1⟩ := Reach.lt hg hy
      have hu := h.up hg hy
      by_cases c : rd id y = -1
      · exact ⟨y, (kidsN_mem _ _ _ _).2 ⟨h0, h1, c⟩, hd⟩
      · have h3 : 0 ≤ rd id y := by omega
        have h2 : rd id y ≠ -2 := by omega
        exact ih (rd id y) (hu.2.2.2 h3) (by have := (ht.up y h0 h1 h2).2; omega) ((h.dom_up hg h0 h1 h3).1.trans hd)
  exact this _ x hx (Nat.le_refl _) (Dom.self hx)
end
end Go.Proofs.Ytgbmebnfbhdpiaa
