/- Going round till nothing changes any more: what holds of the closest nodes while it is done. Plain lists and numbers. -/
import Derived.Test.YtgbmebnfbhdpiaaTreeM
import Derived.Test.YtgbmebnfbhdpiaaDfs
set_option linter.unusedSimpArgs false
namespace Go.Proofs.Ytgbmebnfbhdpiaa
open Go.Proofs.YtgbmebnfbhdpiaaW.PrintWords

theorem rd_setL (l : List Int) (i k : Int) (x : Int) (h0 : 0 ≤ i) (h1 : i < l.length) (h2 : 0 ≤ k) : rd (l.set i.toNat x) k = if k = i then x else rd l k := by
  unfold rd
  rw [List.getD_eq_getElem?_getD, List.getElem?_set]
  by_cases h : i.toNat = k.toNat
  · rw [if_pos h, if_pos (by omega), if_pos (by omega)]; rfl
  · rw [if_neg h, if_neg (by omega), List.getD_eq_getElem?_getD]

/-- z stands on the way up from a node. -/
inductive Anc (id : List Int) (z : Int) : Int → Prop
  | self : 0 ≤ z → Anc id z z
  | up {x : Int} : 0 ≤ x → 0 ≤ rd id x → Anc id z (rd id x) → Anc id z x
theorem Anc.nonneg {id : List Int} {z x : Int} (h : Anc id z x) : 0 ≤ x ∧ 0 ≤ z := by
  induction h with
  | self h => exact ⟨h, h⟩
  | up h _ _ ih => exact ⟨h, ih.2⟩
theorem Anc.trans {id : List Int} {a b c : Int} (h : Anc id a b) (k : Anc id b c) : Anc id a c := by
  induction k with
  | self _ => exact h
  | up h0 h1 _ ih => exact .up h0 h1 ih

theorem Okn.lt {n : Nat} {id : List Int} {x : Int} (hx : Okn n id x) (h : 0 ≤ x) : x < n ∧ rd id x ≠ -2 := by
  rcases hx with rfl | ⟨_, h1, h2⟩
  · omega
  · exact ⟨h1, h2⟩
theorem Anc.total {id : List Int} {a b x : Int} (ha : Anc id a x) (hb : Anc id b x) : Anc id a b ∨ Anc id b a := by
  induction ha with
  | self h => exact .inr hb
  | @up x h0 h1 hax ih =>
    cases hb with
    | self h => exact .inl (.up h0 h1 hax)
    | up _ _ hbx => exact ih hbx

section
variable {n : Nat} {pl id : List Int} (ht : Tree n pl id)
include ht
theorem Anc.ok {z x : Int} (h : Anc id z x) (hx : Okn n id x) : Okn n id z ∧ Pn pl z ≤ Pn pl x ∧ (z ≠ x → Pn pl z < Pn pl x) := by
  induction h with
  | self h => exact ⟨hx, Nat.le_refl _, fun e => absurd rfl e⟩
  | @up x h0 h1 _ ih =>
    have hu := ht.okUp hx (by omega)
    obtain ⟨a, b, c⟩ := ih hu.1
    exact ⟨a, by omega, fun _ => by omega⟩
theorem Anc.antisymm {a b : Int} (h : Anc id a b) (k : Anc id b a) (hb : Okn n id b) : a = b := by
  by_cases e : a = b
  · exact e
  · have h1 := Anc.ok ht h hb
    have h2 := Anc.ok ht k h1.1
    have := h1.2.2 e
    omega
/-- Where two ways up meet: on both, and below all that is on both. -/
theorem meet_spec (m : Nat) : ∀ a b : Int, Okn n id a → Okn n id b → Pn pl a + Pn pl b ≤ m →
    Okn n id (meetT pl id a b) ∧ (0 ≤ meetT pl id a b → Anc id (meetT pl id a b) a ∧ Anc id (meetT pl id a b) b) ∧ (∀ z : Int, Anc id z a → Anc id z b → 0 ≤ meetT pl id a b ∧ Anc id z (meetT pl id a b)) ∧
      Pn pl (meetT pl id a b) ≤ Pn pl a ∧ Pn pl (meetT pl id a b) ≤ Pn pl b := by
  induction m with
  | zero =>
    intro a b ha hb hm
    have h1 : a = -1 := by
      by_cases e : a = -1
      · exact e
      · have := Pn_pos ht ha e; omega
    have h2 : b = -1 := by
      by_cases e : b = -1
      · exact e
      · have := Pn_pos ht hb e; omega
    subst h1 h2
    rw [meetT_eq ht ha hb, if_pos rfl]
    exact ⟨.root _ _, fun h => absurd h (by omega), fun z hz => absurd hz.nonneg.1 (by omega), Nat.le_refl _, Nat.le_refl _⟩
  | succ m ih =>
    intro a b ha hb hm
    rw [meetT_eq ht ha hb]
    by_cases c1 : a = b
    · rw [if_pos c1]; subst c1
      exact ⟨ha, fun h => ⟨.self h, .self h⟩, fun z hz _ => ⟨hz.nonneg.1, hz⟩, Nat.le_refl _, Nat.le_refl _⟩
    · rw [if_neg c1]
      by_cases c2 : a = -1 ∨ b = -1
      · rw [if_pos c2]
        refine ⟨.root _ _, fun h => absurd h (by omega), fun z hza hzb => ?_, by simp [Pn], by simp [Pn]⟩
        have h1 := hza.nonneg.1
        have h2 := hzb.nonneg.1
        rcases c2 with rfl | rfl <;> omega
      · rw [if_neg c2]
        have na : a ≠ -1 := fun e => c2 (.inl e)
        have nb : b ≠ -1 := fun e => c2 (.inr e)
        have ua := ht.okUp ha na
        have ub := ht.okUp hb nb
        have ra : 0 ≤ a := by rcases ha with h | h; exact absurd h na; exact h.1
        have rb : 0 ≤ b := by rcases hb with h | h; exact absurd h nb; exact h.1
        have la := Okn.lt ha ra
        have lb := Okn.lt hb rb
        have pa := ht.pos a ra la.1 la.2
        have pb := ht.pos b rb lb.1 lb.2
        have ea : Pn pl a = (rd pl a + 1).toNat := if_neg na
        have eb : Pn pl b = (rd pl b + 1).toNat := if_neg nb
        by_cases c3 : rd pl a > rd pl b
        · rw [if_pos c3]
          obtain ⟨h1, h2, h3, h4, h5⟩ := ih (rd id a) b ua.1 hb (by omega)
          refine ⟨h1, fun h => ⟨.up ra (h2 h).1.nonneg.1 (h2 h).1, (h2 h).2⟩, fun z hza hzb => ?_, by omega, h5⟩
          cases hza with
          | self _ => have := (Anc.ok ht hzb hb).2.1; omega
          | up _ _ h => exact h3 z h hzb
        · rw [if_neg c3]
          obtain ⟨h1, h2, h3, h4, h5⟩ := ih a (rd id b) ha ub.1 (by omega)
          refine ⟨h1, fun h => ⟨(h2 h).1, .up rb (h2 h).2.nonneg.1 (h2 h).2⟩, fun z hza hzb => ?_, h4, by omega⟩
          cases hzb with
          | self _ =>
            have h6 := (Anc.ok ht hza ha)
            have := h6.2.2 (fun e => c1 e.symm)
            omega
          | up _ _ h => exact h3 z hza h
end

/-- The closest of some heads, of those that have one. -/
def best1 (pl id : List Int) (best h : Int) : Int := if rd id h = -2 then best else if best = -2 then h else meetT pl id best h
def bestC (pl id : List Int) (hs : List Int) : Int := hs.foldl (best1 pl id) (-2)
/-- What is known of the best of some heads. -/
structure BestOk (n : Nat) (pl id : List Int) (hs : List Int) (b : Int) : Prop where
  none : b = -2 → ∀ h ∈ hs, rd id h = -2
  ok : b ≠ -2 → Okn n id b
  anc : 0 ≤ b → ∀ h ∈ hs, rd id h ≠ -2 → Anc id b h
  low : ∀ z : Int, b ≠ -2 → (∀ h ∈ hs, rd id h ≠ -2 → Anc id z h) → 0 ≤ b ∧ Anc id z b
  pn : b ≠ -2 → ∀ h ∈ hs, rd id h ≠ -2 → Pn pl b ≤ Pn pl h
theorem best_nil (n : Nat) (pl id : List Int) : BestOk n pl id [] (-2) :=
  ⟨fun _ h hh => by simp at hh, fun h => absurd rfl h, fun h => absurd h (by omega), fun z h => absurd rfl h, fun h => absurd rfl h⟩
theorem best_step {n : Nat} {pl id : List Int} (ht : Tree n pl id) {hs : List Int} {b h : Int} (hb : BestOk n pl id hs b) (h0 : 0 ≤ h) (h1 : h < n) : BestOk n pl id (hs ++ [h]) (best1 pl id b h) := by
  unfold best1
  by_cases c1 : rd id h = -2
  · rw [if_pos c1]
    refine ⟨fun e g hg => ?_, hb.ok, fun e g hg hn => ?_, fun z e hz => hb.low z e fun g hg => hz g (List.mem_append_left _ hg), fun e g hg hn => ?_⟩
    · rcases List.mem_append.1 hg with hg | hg
      · exact hb.none e g hg
      · rw [List.mem_singleton] at hg; rw [hg]; exact c1
    · rcases List.mem_append.1 hg with hg | hg
      · exact hb.anc e g hg hn
      · rw [List.mem_singleton] at hg; subst hg; exact absurd c1 hn
    · rcases List.mem_append.1 hg with hg | hg
      · exact hb.pn e g hg hn
      · rw [List.mem_singleton] at hg; subst hg; exact absurd c1 hn
  · rw [if_neg c1]
    have okh : Okn n id h := .inr ⟨h0, h1, c1⟩
    by_cases c2 : b = -2
    · rw [if_pos c2]
      refine ⟨fun e => by omega, fun _ => okh, fun _ g hg hn => ?_, fun z _ hz => ⟨h0, hz h (by simp) c1⟩, fun _ g hg hn => ?_⟩
      · rcases List.mem_append.1 hg with hg | hg
        · exact absurd (hb.none c2 g hg) hn
        · rw [List.mem_singleton] at hg; subst hg; exact .self h0
      · rcases List.mem_append.1 hg with hg | hg
        · exact absurd (hb.none c2 g hg) hn
        · rw [List.mem_singleton] at hg; subst hg; exact Nat.le_refl _
    · rw [if_neg c2]
      obtain ⟨m1, m2, m3, m4, m5⟩ := meet_spec ht _ b h (hb.ok c2) okh (Nat.le_refl _)
      have m0 : meetT pl id b h ≠ -2 := by rcases m1 with e | e <;> omega
      refine ⟨fun e => absurd e m0, fun _ => m1, fun e g hg hn => ?_, fun z _ hz => ?_, fun _ g hg hn => ?_⟩
      · rcases List.mem_append.1 hg with hg | hg
        · have hbn := (m2 e).1.nonneg.1
          exact (m2 e).1.trans (hb.anc hbn g hg hn)
        · rw [List.mem_singleton] at hg; subst hg; exact (m2 e).2
      · have := hb.low z c2 fun g hg => hz g (List.mem_append_left _ hg)
        exact m3 z this.2 (hz h (by simp) c1)
      · rcases List.mem_append.1 hg with hg | hg
        · exact Nat.le_trans m4 (hb.pn c2 g hg hn)
        · rw [List.mem_singleton] at hg; subst hg; exact m5
theorem best_all {n : Nat} {pl id : List Int} (ht : Tree n pl id) (hs : List Int) (hr : ∀ h ∈ hs, 0 ≤ h ∧ h < n) : BestOk n pl id hs (bestC pl id hs) := by
  have : ∀ (r q : List Int) (b : Int), (∀ h ∈ r, 0 ≤ h ∧ h < n) → BestOk n pl id q b → BestOk n pl id (q ++ r) (r.foldl (best1 pl id) b) := by
    intro r
    induction r with
    | nil => intro q b _ h; simpa using h
    | cons h r ih =>
      intro q b hr hb
      have := ih (q ++ [h]) (best1 pl id b h) (fun g hg => hr g (by simp [hg])) (best_step ht hb (hr h (by simp)).1 (hr h (by simp)).2)
      rw [List.append_assoc] at this
      exact this
  exact this hs [] (-2) hr (best_nil n pl id)
end Go.Proofs.Ytgbmebnfbhdpiaa
