/- The tree that closest nodes make: where two ways up meet. Plain lists and numbers. -/
import Derived.Test.YtgbmebnfbhdpiaaNet
namespace Go.Proofs.Ytgbmebnfbhdpiaa
open Go.Proofs.YtgbmebnfbhdpiaaW.PrintWords

/-- How far from the root a number stands, at most: -1 is the root. -/
def Pn (pl : List Int) (x : Int) : Nat := if x = -1 then 0 else (rd pl x + 1).toNat
/-- A number that may be walked up from: the root, or a node that has a closest one. -/
def Okn (n : Nat) (id : List Int) (x : Int) : Prop := x = -1 ∨ (0 ≤ x ∧ x < n ∧ rd id x ≠ -2)
/-- What stands above a node stands nearer to the root. -/
structure Tree (n : Nat) (pl id : List Int) : Prop where
  len : id.length = n
  plen : pl.length = n
  pos : ∀ x : Int, 0 ≤ x → x < n → rd id x ≠ -2 → 0 ≤ rd pl x ∧ rd pl x < n
  up : ∀ x : Int, 0 ≤ x → x < n → rd id x ≠ -2 → Okn n id (rd id x) ∧ Pn pl (rd id x) < Pn pl x

def meetF (pl id : List Int) : Nat → Int → Int → Int
  | 0, a, _ => a
  | k + 1, a, b => if a = b then a else if a = -1 ∨ b = -1 then -1 else if rd pl a > rd pl b then meetF pl id k (rd id a) b else meetF pl id k a (rd id b)

theorem Okn.root (n : Nat) (id : List Int) : Okn n id (-1) := .inl rfl
theorem Tree.okUp {n : Nat} {pl id : List Int} (h : Tree n pl id) {x : Int} (hx : Okn n id x) (h0 : x ≠ -1) : Okn n id (rd id x) ∧ Pn pl (rd id x) < Pn pl x := by
  rcases hx with rfl | ⟨h1, h2, h3⟩
  · exact absurd rfl h0
  · exact h.up x h1 h2 h3
theorem meetF_fuel {n : Nat} {pl id : List Int} (ht : Tree n pl id) (m : Nat) : ∀ (k : Nat) (a b : Int), Okn n id a → Okn n id b → Pn pl a + Pn pl b ≤ m → m ≤ k → meetF pl id k a b = meetF pl id m a b := by
  induction m with
  | zero =>
    intro k a b ha hb hm _
    have h1 : a = -1 := by
      rcases ha with h | ⟨h1, h2, h3⟩
      · exact h
      · have := ht.pos a h1 h2 h3; unfold Pn at hm; rw [if_neg (by omega)] at hm; omega
    have h2 : b = -1 := by
      rcases hb with h | ⟨h1, h2, h3⟩
      · exact h
      · have := ht.pos b h1 h2 h3; unfold Pn at hm; rw [if_neg (by omega : b ≠ -1)] at hm; omega
    subst h1 h2
    cases k <;> simp [meetF]
  | succ m ih =>
    intro k a b ha hb hm hk
    obtain ⟨k, rfl⟩ : ∃ j, k = j + 1 := ⟨k - 1, by omega⟩
    simp only [meetF]
    by_cases c1 : a = b
    · rw [if_pos c1, if_pos c1]
    · rw [if_neg c1, if_neg c1]
      by_cases c2 : a = -1 ∨ b = -1
      · rw [if_pos c2, if_pos c2]
      · rw [if_neg c2, if_neg c2]
        have ua := ht.okUp ha (fun e => c2 (.inl e))
        have ub := ht.okUp hb (fun e => c2 (.inr e))
        by_cases c3 : rd pl a > rd pl b
        · rw [if_pos c3, if_pos c3]; exact ih k _ _ ua.1 hb (by omega) (by omega)
        · rw [if_neg c3, if_neg c3]; exact ih k _ _ ha ub.1 (by omega) (by omega)
/-- Where the ways up from two numbers meet. -/
def meetT (pl id : List Int) (a b : Int) : Int := meetF pl id (Pn pl a + Pn pl b) a b
section
variable {n : Nat} {pl id : List Int} (ht : Tree n pl id) {a b : Int}
include ht
theorem Pn_pos (ha : Okn n id a) (h : a ≠ -1) : 0 < Pn pl a := by
  have := (ht.okUp ha h).2; omega
theorem meetT_eq (ha : Okn n id a) (hb : Okn n id b) : meetT pl id a b = if a = b then a else if a = -1 ∨ b = -1 then -1 else if rd pl a > rd pl b then meetT pl id (rd id a) b else meetT pl id a (rd id b) := by
  by_cases c1 : a = b
  · rw [if_pos c1]; unfold meetT; subst c1
    cases Pn pl a + Pn pl a <;> simp [meetF]
  · rw [if_neg c1]
    by_cases c2 : a = -1 ∨ b = -1
    · rw [if_pos c2]
      have : 0 < Pn pl a + Pn pl b := by
        rcases c2 with rfl | rfl
        · have := Pn_pos ht hb (fun e => c1 e.symm); omega
        · have := Pn_pos ht ha c1; omega
      unfold meetT
      obtain ⟨k, hk⟩ : ∃ k, Pn pl a + Pn pl b = k + 1 := ⟨_, (Nat.succ_pred_eq_of_pos this).symm⟩
      rw [hk]; simp only [meetF]; rw [if_neg c1, if_pos c2]
    · rw [if_neg c2]
      have ua := ht.okUp ha (fun e => c2 (.inl e))
      have ub := ht.okUp hb (fun e => c2 (.inr e))
      unfold meetT
      obtain ⟨k, hk⟩ : ∃ k, Pn pl a + Pn pl b = k + 1 := ⟨Pn pl a + Pn pl b - 1, by omega⟩
      rw [hk]; simp only [meetF]; rw [if_neg c1, if_neg c2]
      by_cases c3 : rd pl a > rd pl b
      · rw [if_pos c3, if_pos c3]; exact meetF_fuel ht _ _ _ _ ua.1 hb (Nat.le_refl _) (by omega)
      · rw [if_neg c3, if_neg c3]; exact meetF_fuel ht _ _ _ _ ha ub.1 (Nat.le_refl _) (by omega)
end
end Go.Proofs.Ytgbmebnfbhdpiaa
