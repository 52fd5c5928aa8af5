/- Going round till nothing changes any more: each round, what is left wrong needs one step more that leads back; the end is the closest nodes. Plain lists and numbers. -/
import Derived.Test.YtgbmebnfbhdpiaaClosest
set_option linter.unusedSimpArgs false
namespace Go.Proofs.Ytgbmebnfbhdpiaa
open Go.Proofs.YtgbmebnfbhdpiaaW.PrintWords

/-- A node is reached, and not without z. -/
def Dom (nx : List (List Int)) (st : List Int) (z x : Int) : Prop := Reach nx st (-1) x ∧ ¬ Reach nx st z x
theorem Dom.self {nx : List (List Int)} {st : List Int} {x : Int} (h : Reach nx st (-1) x) : Dom nx st x x := ⟨h, fun k => k.ne rfl⟩
theorem Reach.part {nx : List (List Int)} {st : List Int} {z y : Int} (x : Int) (h : Reach nx st z y) : Reach nx st x y ∨ Reach nx st z x := by
  induction h with
  | @start y hy hz =>
    by_cases c : y = x
    · exact .inr (c ▸ .start hy hz)
    · exact .inl (.start hy c)
  | @step u y hu hy hz ih =>
    rcases ih with ih | ih
    · by_cases c : y = x
      · exact .inr (c ▸ .step hu hy hz)
      · exact .inl (.step ih hy c)
    · exact .inr ih
theorem Dom.trans {nx : List (List Int)} {st : List Int} {a b c : Int} (h : Dom nx st a b) (k : Dom nx st b c) : Dom nx st a c :=
  ⟨k.1, fun r => by rcases r.part b with r | r; exact k.2 r; exact h.2 r⟩
theorem dom_antisymm {nx : List (List Int)} {st : List Int} {a b : Int} (h : Dom nx st a b) (k : Dom nx st b a) : a = b := by
  by_cases e : a = b
  · exact e
  · have : ∀ x : Int, Reach nx st (-1) x → Reach nx st a x ∧ Reach nx st b x := by
      intro x hx
      induction hx with
      | @start x hx _ =>
        refine ⟨.start hx fun c => ?_, .start hx fun c => ?_⟩
        · subst c; exact k.2 (.start hx e)
        · subst c; exact h.2 (.start hx fun c => e c.symm)
      | @step u x _ hx _ ih =>
        refine ⟨.step ih.1 hx fun c => ?_, .step ih.2 hx fun c => ?_⟩
        · subst c; exact k.2 (.step ih.2 hx e)
        · subst c; exact h.2 (.step ih.1 hx fun c => e c.symm)
    exact absurd (this b h.1).1 h.2

/-- Reached without z, with fewer than k steps that lead back. -/
inductive RK (nx : List (List Int)) (st pl : List Int) (z : Int) : Nat → Int → Prop
  | start {k : Nat} {x : Int} : x ∈ st → x ≠ z → RK nx st pl z (k + 1) x
  | fwd {k : Nat} {x y : Int} : RK nx st pl z k x → y ∈ succs nx x → y ≠ z → rd pl x < rd pl y → RK nx st pl z k y
  | back {k : Nat} {x y : Int} : RK nx st pl z k x → y ∈ succs nx x → y ≠ z → RK nx st pl z (k + 1) y
section
variable {nx : List (List Int)} {st pl : List Int}
theorem RK.zero {z x : Int} {k : Nat} (h : RK nx st pl z k x) : k ≠ 0 := by
  induction h with
  | start _ _ => omega
  | fwd _ _ _ _ ih => exact ih
  | back _ _ _ _ => omega
theorem RK.ne {z x : Int} {k : Nat} (h : RK nx st pl z k x) : x ≠ z := by cases h <;> assumption
theorem RK.up1 {z x : Int} {k : Nat} (h : RK nx st pl z k x) : RK nx st pl z (k + 1) x := by
  induction h with
  | start h1 h2 => exact .start h1 h2
  | fwd _ h2 h3 h4 ih => exact .fwd ih h2 h3 h4
  | back _ h2 h3 ih => exact .back ih h2 h3
theorem RK.mono {z x : Int} {k m : Nat} (h : RK nx st pl z k x) (hm : k ≤ m) : RK nx st pl z m x := by
  induction hm with
  | refl => exact h
  | step _ ih => exact ih.up1
theorem RK.of {z x : Int} (h : Reach nx st z x) : ∃ k, RK nx st pl z k x := by
  induction h with
  | start h1 h2 => exact ⟨1, .start h1 h2⟩
  | step _ h2 h3 ih => obtain ⟨k, hk⟩ := ih; exact ⟨k + 1, .back hk h2 h3⟩
theorem RK.part {z y : Int} {k : Nat} (x : Int) (h : RK nx st pl z k y) : RK nx st pl x k y ∨ RK nx st pl z k x := by
  induction h with
  | @start k y hy hz =>
    by_cases c : y = x
    · exact .inr (c ▸ .start hy hz)
    · exact .inl (.start hy c)
  | @fwd k u y hu hy hz hp ih =>
    rcases ih with ih | ih
    · by_cases c : y = x
      · exact .inr (c ▸ .fwd hu hy hz hp)
      · exact .inl (.fwd ih hy c hp)
    · exact .inr ih
  | @back k u y hu hy hz ih =>
    rcases ih with ih | ih
    · by_cases c : y = x
      · exact .inr (c ▸ .back hu hy hz)
      · exact .inl (.back ih hy c)
    · exact .inr ih.up1

/-- A way down: all behind v stand farther than v. -/
inductive Up (nx : List (List Int)) (pl : List Int) (v : Int) : Int → Prop
  | one {x : Int} : x ∈ succs nx v → rd pl v < rd pl x → Up nx pl v x
  | on {x y : Int} : Up nx pl v x → y ∈ succs nx x → rd pl v < rd pl y → Up nx pl v y
theorem Up.lt {v x : Int} (h : Up nx pl v x) : rd pl v < rd pl x := by cases h <;> assumption
theorem Up.trans {a b c : Int} (h : Up nx pl a b) (k : Up nx pl b c) : Up nx pl a c := by
  have h0 := h.lt
  induction k with
  | one h1 h2 => exact .on h h1 (by omega)
  | on _ h1 h2 ih => exact .on ih h1 (by omega)
theorem Up.reach {z u x : Int} (h : Up nx pl u x) (hu : Reach nx st z u) (hz : rd pl z < rd pl u) : Reach nx st z x := by
  induction h with
  | one h1 h2 => exact .step hu h1 fun e => by rw [e] at h2; omega
  | on _ h1 h2 ih => exact .step ih h1 fun e => by rw [e] at h2; omega

/-- What holds when i nodes of the list are done, in round m. -/
structure CInv (nx : List (List Int)) (st pl list : List Int) (i m : Nat) (id : List Int) : Prop where
  tree : Tree nx.length pl id
  starts : ∀ x ∈ st, rd id x = -1
  reach : ∀ x : Int, 0 ≤ x → x < nx.length → rd id x ≠ -2 → Reach nx st (-1) x
  link : ∀ x : Int, 0 ≤ x → x < nx.length → 0 ≤ rd id x → Up nx pl (rd id x) x
  done : ∀ (j : Nat) (x : Int), j < i → list[j]? = some x → rd id x ≠ -2
  all : m ≠ 0 → ∀ x : Int, Reach nx st (-1) x → rd id x ≠ -2
  safe : ∀ z x : Int, 0 ≤ x → x < nx.length → rd id x ≠ -2 → Dom nx st z x → Anc id z x
  now : ∀ (j : Nat) (x : Int), j < i → list[j]? = some x → ∀ z : Int, Anc id z x → ¬ RK nx st pl z (m + 1) x
  old : ∀ x z : Int, 0 ≤ x → x < nx.length → rd id x ≠ -2 → Anc id z x → ¬ RK nx st pl z m x

theorem Ord.lenLe {list : List Int} {heads : List (List Int)} (hg : Good nx st) (ho : Ord nx st list pl heads) : list.length ≤ nx.length := by
  have hsub : list ⊆ (List.range nx.length).map (fun i : Nat => (i : Int)) := fun x hx => by
    have h2 := Reach.lt hg ((ho.mem x).1 hx)
    exact List.mem_map.2 ⟨x.toNat, List.mem_range.2 (by omega), by omega⟩
  have h3 := List.Nodup.length_le_of_subset ho.nodup hsub
  simpa using h3
theorem Ord.pos {list : List Int} {heads : List (List Int)} (hg : Good nx st) (ho : Ord nx st list pl heads) {x : Int} (h : Reach nx st (-1) x) : ∃ i : Nat, list[i]? = some x ∧ rd pl x = i ∧ i < list.length ∧ i < nx.length := by
  obtain ⟨i, hi, he⟩ := List.getElem_of_mem ((ho.mem x).2 h)
  have h1 : list[i]? = some x := by rw [List.getElem?_eq_getElem hi, he]
  have h3 := ho.lenLe hg
  exact ⟨i, h1, ho.at_ i x h1, hi, by omega⟩

/-- The step at a node that is no start. -/
theorem anc_or {id : List Int} {x b : Int} (hx0 : 0 ≤ x) (hx1 : x < id.length) {z y : Int} (h : Anc (id.set x.toNat b) z y) : Anc id z y ∨ (Anc id x y ∧ Anc (id.set x.toNat b) z x) := by
  induction h with
  | self h => exact .inl (.self h)
  | @up y h0 h1 ha ih =>
    by_cases c : y = x
    · subst c; exact .inr ⟨.self hx0, .up h0 h1 ha⟩
    · rw [rd_setL id x y b hx0 hx1 h0, if_neg c] at h1 ih
      rcases ih with ih | ih
      · exact .inl (.up h0 h1 ih)
      · exact .inr ⟨.up h0 h1 ih.1, ih.2⟩
theorem anc_or' {id : List Int} {x b : Int} (hx0 : 0 ≤ x) (hx1 : x < id.length) {z y : Int} (h : Anc id z y) : Anc (id.set x.toNat b) z y ∨ (Anc (id.set x.toNat b) x y ∧ 0 ≤ rd id x ∧ Anc id z (rd id x)) := by
  induction h with
  | self h => exact .inl (.self h)
  | @up y h0 h1 ha ih =>
    by_cases c : y = x
    · subst c; exact .inr ⟨.self hx0, h1, ha⟩
    · have e : rd (id.set x.toNat b) y = rd id y := by rw [rd_setL id x y b hx0 hx1 h0, if_neg c]
      rcases ih with ih | ih
      · exact .inl (.up h0 (by rw [e]; exact h1) (by rw [e]; exact ih))
      · exact .inr ⟨.up h0 (by rw [e]; exact h1) (by rw [e]; exact ih.1), ih.2⟩
/-- Below a place nothing changes. -/
theorem anc_low {n : Nat} {id : List Int} (ht : Tree n pl id) {x b : Int} (hx0 : 0 ≤ x) (hx1 : x < id.length) {z y : Int} (hy : Okn n id y) (hp : Pn pl y < Pn pl x) : Anc (id.set x.toNat b) z y ↔ Anc id z y := by
  constructor
  · intro h
    induction h with
    | self h => exact .self h
    | @up y h0 h1 ha ih =>
      have c : y ≠ x := fun e => by rw [e] at hp; omega
      rw [rd_setL id x y b hx0 hx1 h0, if_neg c] at h1 ih
      have hu := ht.okUp hy (by omega)
      exact .up h0 h1 (ih hu.1 (by omega))
  · intro h
    induction h with
    | self h => exact .self h
    | @up y h0 h1 ha ih =>
      have c : y ≠ x := fun e => by rw [e] at hp; omega
      have e : rd (id.set x.toNat b) y = rd id y := by rw [rd_setL id x y b hx0 hx1 h0, if_neg c]
      have hu := ht.okUp hy (by omega)
      exact .up h0 (by rw [e]; exact h1) (by rw [e]; exact ih hu.1 (by omega))
theorem anc_upE {n : Nat} {id : List Int} (ht : Tree n pl id) (hl : ∀ x : Int, 0 ≤ x → x < n → 0 ≤ rd id x → Up nx pl (rd id x) x) {v x : Int} (h : Anc id v x) (hx : Okn n id x) : v = x ∨ Up nx pl v x := by
  induction h with
  | self h => exact .inl rfl
  | @up x h0 h1 ha ih =>
    have hu := ht.okUp hx (by omega)
    have h2 := hl x h0 (hx.lt h0).1 h1
    rcases ih hu.1 with e | e
    · rw [e]; exact .inr h2
    · exact .inr (e.trans h2)
end
end Go.Proofs.Ytgbmebnfbhdpiaa
