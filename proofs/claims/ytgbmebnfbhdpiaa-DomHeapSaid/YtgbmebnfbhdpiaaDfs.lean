/- Going through a net in depth: what holds while the stack of nodes stands, and what the finished list tells. Plain lists and numbers. -/
import Derived.Test.YtgbmebnfbhdpiaaNet
set_option linter.unusedSimpArgs false
namespace Go.Proofs.Ytgbmebnfbhdpiaa
open Go.Proofs.YtgbmebnfbhdpiaaW.PrintWords

structure DS where
  seen : List Bool
  way : List (Int × Int)
  heads : List (List Int)
  list : List Int

def headsAt (h : List (List Int)) (y : Int) : List Int := h.getD y.toNat []
def addHead (h : List (List Int)) (y x : Int) : List (List Int) := h.set y.toNat (headsAt h y ++ [x])
theorem addHead_len (h : List (List Int)) (y x : Int) : (addHead h y x).length = h.length := by simp [addHead]
theorem headsAt_add (h : List (List Int)) (y x z : Int) (h0 : 0 ≤ y) (h1 : y < h.length) (hz : 0 ≤ z) : headsAt (addHead h y x) z = if z = y then headsAt h y ++ [x] else headsAt h z := by
  unfold headsAt addHead
  rw [List.getD_eq_getElem?_getD, List.getElem?_set]
  by_cases c : y.toNat = z.toNat
  · rw [if_pos c, if_pos (by omega), if_pos (by omega)]; rfl
  · rw [if_neg c, if_neg (by omega), List.getD_eq_getElem?_getD]

/-- How much is left to do. -/
def muSeen (nx : List (List Int)) (seen : List Bool) : Nat := ((List.range nx.length).map fun i => if seen.getD i false then 0 else (nx.getD i []).length + 2).sum
def muWay (nx : List (List Int)) (way : List (Int × Int)) : Nat := (way.map fun p => (((succs nx p.1).length : Int) - p.2 + 1).toNat).sum
def mu (nx : List (List Int)) (s : DS) : Nat := muSeen nx s.seen + muWay nx s.way

theorem sum_set {n : Nat} (f g : Nat → Nat) (k : Nat) (hk : k < n) (h : ∀ i, i ≠ k → g i = f i) : ((List.range n).map g).sum + f k = ((List.range n).map f).sum + g k := by
  induction n with
  | zero => omega
  | succ n ih =>
    rw [List.range_succ, List.map_append, List.map_append, List.sum_append, List.sum_append]
    simp only [List.map_cons, List.map_nil, List.sum_cons, List.sum_nil]
    by_cases c : k = n
    · subst c
      have : (List.range k).map g = (List.range k).map f := List.map_congr_left fun i hi => h i (by have := List.mem_range.1 hi; omega)
      rw [this]; omega
    · have := ih (by omega)
      rw [h n (fun e => c e.symm)]; omega
theorem muSeen_set (nx : List (List Int)) (seen : List Bool) (y : Int) (h0 : 0 ≤ y) (h1 : y < nx.length) (hl : seen.length = nx.length) (hf : rdOf false seen y = false) :
    muSeen nx (seen.set y.toNat true) + (succs nx y).length + 2 = muSeen nx seen := by
  unfold muSeen succs
  have := sum_set (n := nx.length) (fun i => if seen.getD i false then 0 else (nx.getD i []).length + 2) (fun i => if (seen.set y.toNat true).getD i false then 0 else (nx.getD i []).length + 2) y.toNat (by omega) (fun i hi => by
    simp only [List.getD_eq_getElem?_getD]; rw [List.getElem?_set_ne (fun e => hi e.symm)])
  have e1 : (seen.set y.toNat true).getD y.toNat false = true := by
    rw [List.getD_eq_getElem?_getD, List.getElem?_set_self (by omega)]; rfl
  have e2 : seen.getD y.toNat false = false := hf
  simp only [e1, e2, if_true, Bool.false_eq_true, if_false] at this
  omega
theorem muWay_snoc (nx : List (List Int)) (way : List (Int × Int)) (p : Int × Int) : muWay nx (way ++ [p]) = muWay nx way + (((succs nx p.1).length : Int) - p.2 + 1).toNat := by simp [muWay]

structure Dfs (nx : List (List Int)) (st : List Int) (M : Nat) (s : DS) : Prop where
  slen : s.seen.length = nx.length
  hlen : s.heads.length = nx.length
  nodup : (s.list ++ s.way.map Prod.fst).Nodup
  mem : ∀ x : Int, x ∈ s.list ++ s.way.map Prod.fst ↔ 0 ≤ x ∧ x < nx.length ∧ rdOf false s.seen x = true
  reach : ∀ x : Int, x ∈ s.list ++ s.way.map Prod.fst → Reach nx st (-1) x
  done : ∀ x ∈ s.list, ∀ y ∈ succs nx x, rdOf false s.seen y = true
  part : ∀ p ∈ s.way, 0 ≤ p.2 ∧ p.2 ≤ (succs nx p.1).length ∧ ∀ y ∈ (succs nx p.1).take p.2.toNat, rdOf false s.seen y = true
  heads : ∀ y h : Int, 0 ≤ y → y < nx.length → (h ∈ headsAt s.heads y ↔ (h ∈ s.list ∧ y ∈ succs nx h) ∨ ∃ k, (h, k) ∈ s.way ∧ y ∈ (succs nx h).take k.toNat)
  par : ∀ x ∈ s.list, x ∉ st → ∃ p : Int, x ∈ succs nx p ∧ (p ∈ s.way.map Prod.fst ∨ ∃ i j : Nat, i < j ∧ s.list[i]? = some x ∧ s.list[j]? = some p)
  chain : ∀ (i : Nat) (p q : Int × Int), s.way[i]? = some p → s.way[i + 1]? = some q → q.1 ∈ succs nx p.1
  bottom : ∀ p : Int × Int, s.way[0]? = some p → p.1 ∈ st
  bound : ∀ y : Int, 0 ≤ y → y < nx.length → (headsAt s.heads y).length + mu nx s ≤ M

theorem take_succ_mem {l : List Int} {k : Int} (h0 : 0 ≤ k) (h1 : k < l.length) (y : Int) : y ∈ l.take (k + 1).toNat ↔ y ∈ l.take k.toNat ∨ y = rd l k := by
  rw [show (k + 1).toNat = k.toNat + 1 from by omega, List.take_succ_eq_append_getElem (by omega), List.mem_append, List.mem_singleton]
  simp [rd, List.getD_eq_getElem?_getD, List.getElem?_eq_getElem (by omega : k.toNat < l.length)]
theorem rd_mem {l : List Int} {k : Int} (h0 : 0 ≤ k) (h1 : k < l.length) : rd l k ∈ l := by
  unfold rd; rw [List.getD_eq_getElem?_getD, List.getElem?_eq_getElem (by omega)]; exact List.getElem_mem _

section
variable {nx : List (List Int)} {st : List Int} {M : Nat} {s : DS}
/-- The node on top is done. -/
theorem Dfs.pop (h : Dfs nx st M s) (wy : List (Int × Int)) (x k : Int) (hw : s.way = wy ++ [(x, k)]) (hk : k = (succs nx x).length) :
    Dfs nx st M { s with way := wy, list := s.list ++ [x] } := by
  have hm : ∀ z : Int, z ∈ (s.list ++ [x]) ++ wy.map Prod.fst ↔ z ∈ s.list ++ s.way.map Prod.fst := fun z => by
    rw [hw]; simp only [List.map_append, List.map_cons, List.map_nil, List.mem_append, List.mem_singleton]
    constructor
    · rintro ((h | h) | h)
      · exact .inl h
      · exact .inr (.inr h)
      · exact .inr (.inl h)
    · rintro (h | h | h)
      · exact .inl (.inl h)
      · exact .inr h
      · exact .inl (.inr h)
  have hxw : (x, k) ∈ s.way := by rw [hw]; simp
  have hxl : x ∈ s.list ++ s.way.map Prod.fst := by rw [hw]; simp
  have hsub : ∀ p, p ∈ wy → p ∈ s.way := fun p hp => by rw [hw]; simp [hp]
  have hmu : mu nx { s with way := wy, list := s.list ++ [x] } ≤ mu nx s := by unfold mu; simp only; rw [hw, muWay_snoc]; omega
  refine ⟨h.slen, h.hlen, ?_, fun z => (hm z).trans (h.mem z), fun z hz => h.reach z ((hm z).1 hz), fun z hz y hy => ?_, fun p hp => h.part p (hsub p hp), fun y g h0 h1 => ?_, fun z hz hst => ?_, fun i p q hp hq => ?_, fun p hp => ?_, fun y h0 h1 => Nat.le_trans (Nat.add_le_add_left hmu _) (h.bound y h0 h1)⟩
  · have := h.nodup
    rw [hw, List.map_append] at this
    simp only [List.map_cons, List.map_nil] at this
    rw [List.append_assoc]
    exact (List.Perm.append_left s.list List.perm_append_comm).nodup_iff.1 this
  · rcases List.mem_append.1 hz with hz | hz
    · exact h.done z hz y hy
    · rw [List.mem_singleton] at hz; subst hz
      have := (h.part _ hxw).2.2 y
      simp only at this
      rw [hk, Int.toNat_natCast, List.take_length] at this
      exact this hy
  · show g ∈ headsAt s.heads y ↔ _
    rw [h.heads y g h0 h1, hw]
    simp only [List.mem_append, List.mem_singleton]
    constructor
    · rintro (⟨h2, h3⟩ | ⟨j, h2 | h2, h3⟩)
      · exact .inl ⟨.inl h2, h3⟩
      · exact .inr ⟨j, h2, h3⟩
      · cases h2; exact .inl ⟨.inr rfl, List.mem_of_mem_take h3⟩
    · rintro (⟨h2 | h2, h3⟩ | ⟨j, h2, h3⟩)
      · exact .inl ⟨h2, h3⟩
      · subst h2; exact .inr ⟨k, .inr rfl, by rw [hk, Int.toNat_natCast, List.take_length]; exact h3⟩
      · exact .inr ⟨j, .inl h2, h3⟩
  · have hz : z ∈ s.list ++ [x] := hz
    rcases List.mem_append.1 hz with hz1 | hz1
    · obtain ⟨p, h2, h3⟩ := h.par z hz1 hst
      refine ⟨p, h2, ?_⟩
      rcases h3 with h3 | ⟨i, j, hij, h4, h5⟩
      · rw [hw, List.map_append, List.mem_append] at h3
        rcases h3 with h3 | h3
        · exact .inl h3
        · simp only [List.map_cons, List.map_nil, List.mem_singleton] at h3
          subst h3
          obtain ⟨i, hi, hiz⟩ := List.getElem_of_mem hz1
          exact .inr ⟨i, s.list.length, hi, by show (s.list ++ [p])[i]? = _; rw [List.getElem?_append_left hi, List.getElem?_eq_getElem hi, hiz], by show (s.list ++ [p])[s.list.length]? = _; simp⟩
      · have hj := (List.getElem?_eq_some_iff.1 h5).1
        exact .inr ⟨i, j, hij, by show (s.list ++ [x])[i]? = _; rw [List.getElem?_append_left (by omega)]; exact h4, by show (s.list ++ [x])[j]? = _; rw [List.getElem?_append_left hj]; exact h5⟩
    · rw [List.mem_singleton] at hz1; subst hz1
      rcases Nat.eq_zero_or_pos wy.length with h0 | h0
      · have := h.bottom (z, k) (by rw [hw, List.eq_nil_of_length_eq_zero h0]; rfl)
        exact absurd this hst
      · obtain ⟨p, hp⟩ : ∃ p, wy[wy.length - 1]? = some p := ⟨_, List.getElem?_eq_getElem (by omega)⟩
        have hc := h.chain (wy.length - 1) p (z, k) (by rw [hw, List.getElem?_append_left (by omega)]; exact hp) (by rw [hw, show wy.length - 1 + 1 = wy.length from by omega]; simp)
        exact ⟨p.1, hc, .inl (List.mem_map.2 ⟨p, List.mem_of_getElem? hp, rfl⟩)⟩
  · have hp : wy[i]? = some p := hp
    have hq : wy[i + 1]? = some q := hq
    have hq' := (List.getElem?_eq_some_iff.1 hq).1
    exact h.chain i p q (by rw [hw, List.getElem?_append_left (by omega)]; exact hp) (by rw [hw, List.getElem?_append_left hq']; exact hq)
  · have hp : wy[0]? = some p := hp
    have hp' := (List.getElem?_eq_some_iff.1 hp).1
    exact h.bottom p (by rw [hw, List.getElem?_append_left hp']; exact hp)
theorem mu_pop (wy : List (Int × Int)) (x k : Int) (hw : s.way = wy ++ [(x, k)]) (hk : k = (succs nx x).length) : mu nx { s with way := wy, list := s.list ++ [x] } < mu nx s := by
  unfold mu; simp only; rw [hw, muWay_snoc]; simp only; omega
/-- A node that was not seen comes on top. -/
theorem Dfs.push (hg : Good nx st) (h : Dfs nx st M s) (y : Int) (h0 : 0 ≤ y) (h1 : y < nx.length) (hf : rdOf false s.seen y = false) (hr : Reach nx st (-1) y)
    (hc : ∀ (i : Nat) (p : Int × Int), s.way[i]? = some p → i + 1 = s.way.length → y ∈ succs nx p.1) (hb : s.way = [] → y ∈ st) :
    Dfs nx st M { s with seen := s.seen.set y.toNat true, way := s.way ++ [(y, 0)] } ∧ mu nx { s with seen := s.seen.set y.toNat true, way := s.way ++ [(y, 0)] } < mu nx s := by
  have hsl : y < s.seen.length := by rw [h.slen]; exact h1
  have hm : ∀ z : Int, z ∈ s.list ++ (s.way ++ [(y, (0 : Int))]).map Prod.fst ↔ z ∈ s.list ++ s.way.map Prod.fst ∨ z = y := fun z => by
    simp only [List.map_append, List.map_cons, List.map_nil, List.mem_append, List.mem_singleton]
    constructor
    · rintro (h | h | h)
      · exact .inl (.inl h)
      · exact .inl (.inr h)
      · exact .inr h
    · rintro ((h | h) | h)
      · exact .inl h
      · exact .inr (.inl h)
      · exact .inr (.inr h)
  have hseen : ∀ z : Int, 0 ≤ z → rdOf false s.seen z = true → rdOf false (s.seen.set y.toNat true) z = true := fun z hz hs => (rdOf_set _ _ _ h0 hsl hz).2 (.inr hs)
  have hmu : mu nx { s with seen := s.seen.set y.toNat true, way := s.way ++ [(y, 0)] } + 1 = mu nx s := by
    unfold mu; simp only; rw [muWay_snoc]; have := muSeen_set nx s.seen y h0 h1 h.slen hf; simp only; omega
  refine ⟨⟨by simp [h.slen], h.hlen, ?_, fun z => ?_, fun z hz => ?_, fun z hz v hv => ?_, fun p hp => ?_, fun v g h2 h3 => ?_, fun z hz hst => ?_, fun i p q hp hq => ?_, fun p hp => ?_, fun v h2 h3 => ?_⟩, by omega⟩
  · show (s.list ++ (s.way ++ [(y, (0 : Int))]).map Prod.fst).Nodup
    rw [List.map_append, ← List.append_assoc]
    refine List.nodup_append.2 ⟨h.nodup, by simp, fun a ha b hb' => ?_⟩
    simp only [List.map_cons, List.map_nil, List.mem_singleton] at hb'
    subst hb'
    rintro rfl
    have := ((h.mem a).1 ha).2.2
    rw [hf] at this
    cases this
  · rw [hm z, h.mem z]
    show _ ↔ 0 ≤ z ∧ z < nx.length ∧ rdOf false (s.seen.set y.toNat true) z = true
    constructor
    · rintro (⟨a, b, c⟩ | rfl)
      · exact ⟨a, b, hseen z a c⟩
      · exact ⟨h0, h1, (rdOf_set _ _ _ h0 hsl h0).2 (.inl rfl)⟩
    · rintro ⟨a, b, c⟩
      rcases (rdOf_set _ _ _ h0 hsl a).1 c with c | c
      · exact .inr c
      · exact .inl ⟨a, b, c⟩
  · rcases (hm z).1 hz with hz | rfl
    · exact h.reach z hz
    · exact hr
  · exact hseen v (hg.next _ _ hv).1 (h.done z hz v hv)
  · rcases List.mem_append.1 hp with hp | hp
    · obtain ⟨a, b, c⟩ := h.part p hp
      exact ⟨a, b, fun v hv => hseen v (hg.next _ _ (List.mem_of_mem_take hv)).1 (c v hv)⟩
    · rw [List.mem_singleton] at hp; subst hp
      exact ⟨Int.le_refl _, by simp only; omega, fun v hv => by simp at hv⟩
  · show g ∈ headsAt s.heads v ↔ _
    rw [h.heads v g h2 h3]
    constructor
    · rintro (a | ⟨j, a, b⟩)
      · exact .inl a
      · exact .inr ⟨j, List.mem_append_left _ a, b⟩
    · rintro (a | ⟨j, a, b⟩)
      · exact .inl a
      · rcases List.mem_append.1 a with a | a
        · exact .inr ⟨j, a, b⟩
        · rw [List.mem_singleton] at a; cases a; simp at b
  · obtain ⟨p, a, b⟩ := h.par z hz hst
    refine ⟨p, a, ?_⟩
    rcases b with b | b
    · exact .inl (by show p ∈ (s.way ++ [(y, (0 : Int))]).map Prod.fst; rw [List.map_append]; exact List.mem_append_left _ b)
    · exact .inr b
  · have hp : (s.way ++ [(y, (0 : Int))])[i]? = some p := hp
    have hq : (s.way ++ [(y, (0 : Int))])[i + 1]? = some q := hq
    have hql := (List.getElem?_eq_some_iff.1 hq).1
    rw [List.length_append, List.length_singleton] at hql
    rw [List.getElem?_append_left (by omega)] at hp
    rcases Nat.lt_or_ge (i + 1) s.way.length with hi | hi
    · rw [List.getElem?_append_left hi] at hq
      exact h.chain i p q hp hq
    · rw [List.getElem?_append_right hi, show i + 1 - s.way.length = 0 from by omega] at hq
      simp only [List.getElem?_cons_zero, Option.some.injEq] at hq
      subst hq
      exact hc i p hp (by omega)
  · have hp : (s.way ++ [(y, (0 : Int))])[0]? = some p := hp
    rcases Nat.eq_zero_or_pos s.way.length with hl | hl
    · have := List.eq_nil_of_length_eq_zero hl
      rw [this] at hp
      simp only [List.nil_append, List.getElem?_cons_zero, Option.some.injEq] at hp
      subst hp
      exact hb this
    · rw [List.getElem?_append_left hl] at hp
      exact h.bottom p hp
  · have := h.bound v h2 h3
    show (headsAt s.heads v).length + _ ≤ M
    omega

/-- One of a node's numbers is looked at, and is seen. -/
theorem Dfs.edge (h : Dfs nx st M s) (wa wb : List (Int × Int)) (x k : Int) (hw : s.way = wa ++ (x, k) :: wb) (hk : k < (succs nx x).length) (hy0 : 0 ≤ rd (succs nx x) k) (hy1 : rd (succs nx x) k < nx.length)
    (hy : rdOf false s.seen (rd (succs nx x) k) = true) :
    Dfs nx st M { s with way := wa ++ (x, k + 1) :: wb, heads := addHead s.heads (rd (succs nx x) k) x } ∧ mu nx { s with way := wa ++ (x, k + 1) :: wb, heads := addHead s.heads (rd (succs nx x) k) x } < mu nx s := by
  obtain ⟨y, hyd⟩ : ∃ y, y = rd (succs nx x) k := ⟨_, rfl⟩
  rw [← hyd] at hy0 hy1 hy ⊢
  have hxw : (x, k) ∈ s.way := by rw [hw]; simp
  have hk0 : 0 ≤ k := (h.part _ hxw).1
  have hmap : (wa ++ (x, k + 1) :: wb).map Prod.fst = s.way.map Prod.fst := by rw [hw]; simp
  have hyh : y < s.heads.length := by rw [h.hlen]; exact hy1
  have htk : ∀ z : Int, z ∈ (succs nx x).take (k + 1).toNat ↔ z ∈ (succs nx x).take k.toNat ∨ z = y := fun z => by rw [take_succ_mem hk0 hk z, hyd]
  have hmu : mu nx { s with way := wa ++ (x, k + 1) :: wb, heads := addHead s.heads y x } + 1 = mu nx s := by
    unfold mu muWay; simp only; rw [hw]; simp only [List.map_append, List.map_cons, List.sum_append, List.sum_cons]; omega
  have hin : ∀ p : Int × Int, p ∈ wa ++ (x, k + 1) :: wb → p = (x, k + 1) ∨ p ∈ s.way := fun p hp => by
    rw [hw]; simp only [List.mem_append, List.mem_cons] at hp ⊢
    rcases hp with h | h | h
    · exact .inr (.inl h)
    · exact .inl h
    · exact .inr (.inr (.inr h))
  have huniq : ∀ j, (x, j) ∈ s.way → j = k := fun j hj => by
    have hnd := (List.nodup_append.1 h.nodup).2.1
    rw [hw, List.map_append, List.map_cons] at hnd
    obtain ⟨_, h2, h3⟩ := List.nodup_append.1 hnd
    rw [hw] at hj
    rcases List.mem_append.1 hj with hj | hj
    · exact absurd rfl (h3 x (List.mem_map.2 ⟨_, hj, rfl⟩) x (by simp))
    · rcases List.mem_cons.1 hj with hj | hj
      · cases hj; rfl
      · exact absurd (List.mem_map.2 ⟨_, hj, rfl⟩) (List.nodup_cons.1 h2).1
  have hat : ∀ (i : Nat), (wa ++ (x, k + 1) :: wb)[i]? = if i = wa.length then some (x, k + 1) else s.way[i]? := fun i => by
    rw [hw]
    rcases Nat.lt_trichotomy i wa.length with hi | hi | hi
    · rw [if_neg (by omega), List.getElem?_append_left hi, List.getElem?_append_left hi]
    · rw [if_pos hi, hi]; simp
    · rw [if_neg (by omega), List.getElem?_append_right (by omega), List.getElem?_append_right (by omega)]
      obtain ⟨m, hm⟩ : ∃ m, i - wa.length = m + 1 := ⟨i - wa.length - 1, by omega⟩
      rw [hm]; rfl
  have hatx : s.way[wa.length]? = some (x, k) := by rw [hw]; simp
  refine ⟨⟨h.slen, by show (addHead _ _ _).length = _; rw [addHead_len]; exact h.hlen, by show (s.list ++ (wa ++ (x, k + 1) :: wb).map Prod.fst).Nodup; rw [hmap]; exact h.nodup,
    fun z => by show z ∈ s.list ++ (wa ++ (x, k + 1) :: wb).map Prod.fst ↔ _; rw [hmap]; exact h.mem z, fun z hz => h.reach z (by rw [← hmap]; exact hz), h.done, fun p hp => ?_, fun v g h2 h3 => ?_, fun z hz hst => ?_, fun i p q hp hq => ?_, fun p hp => ?_, fun v h2 h3 => ?_⟩, by omega⟩
  · rcases hin p hp with rfl | hp
    · obtain ⟨_, _, c⟩ := h.part _ hxw
      refine ⟨by simp only; omega, by simp only; omega, fun v hv => ?_⟩
      rcases (htk v).1 hv with hv | rfl
      · exact c v hv
      · exact hy
    · exact h.part p hp
  · show g ∈ headsAt (addHead s.heads y x) v ↔ _
    rw [headsAt_add _ _ _ _ hy0 hyh h2]
    have hold := h.heads v g h2 h3
    have hway : (∃ j, (g, j) ∈ wa ++ (x, k + 1) :: wb ∧ v ∈ (succs nx g).take j.toNat) ↔ (∃ j, (g, j) ∈ s.way ∧ v ∈ (succs nx g).take j.toNat) ∨ (g = x ∧ v = y) := by
      constructor
      · rintro ⟨j, a, b⟩
        rcases hin _ a with a | a
        · cases a
          rcases (htk v).1 b with b | b
          · exact .inl ⟨k, hxw, b⟩
          · exact .inr ⟨rfl, b⟩
        · exact .inl ⟨j, a, b⟩
      · rintro (⟨j, a, b⟩ | ⟨rfl, rfl⟩)
        · by_cases c : g = x
          · subst c
            obtain rfl := huniq j a
            exact ⟨j + 1, by simp, (htk v).2 (.inl b)⟩
          · refine ⟨j, ?_, b⟩
            rw [hw] at a
            simp only [List.mem_append, List.mem_cons] at a ⊢
            rcases a with a | a | a
            · exact .inl a
            · cases a; exact absurd rfl c
            · exact .inr (.inr a)
        · exact ⟨k + 1, by simp, (htk v).2 (.inr rfl)⟩
    rw [hway]
    by_cases c : v = y
    · rw [if_pos c, List.mem_append, List.mem_singleton, ← c, hold]
      constructor
      · rintro ((a | a) | a)
        · exact .inl a
        · exact .inr (.inl a)
        · exact .inr (.inr ⟨a, by first | exact c | rfl⟩)
      · rintro (a | a | ⟨a, _⟩)
        · exact .inl (.inl a)
        · exact .inl (.inr a)
        · exact .inr a
    · rw [if_neg c, hold]
      constructor
      · rintro (a | a)
        · exact .inl a
        · exact .inr (.inl a)
      · rintro (a | a | ⟨_, a⟩)
        · exact .inl a
        · exact .inr a
        · exact absurd a c
  · obtain ⟨p, a, b⟩ := h.par z hz hst
    refine ⟨p, a, ?_⟩
    rcases b with b | b
    · exact .inl (by show p ∈ (wa ++ (x, k + 1) :: wb).map Prod.fst; rw [hmap]; exact b)
    · exact .inr b
  · have hp : (wa ++ (x, k + 1) :: wb)[i]? = some p := hp
    have hq : (wa ++ (x, k + 1) :: wb)[i + 1]? = some q := hq
    rw [hat] at hp hq
    by_cases c1 : i = wa.length
    · rw [if_pos c1] at hp
      rw [if_neg (by omega)] at hq
      cases hp
      exact h.chain i (x, k) q (by rw [c1]; exact hatx) hq
    · rw [if_neg c1] at hp
      by_cases c2 : i + 1 = wa.length
      · rw [if_pos c2] at hq
        cases hq
        exact h.chain i p (x, k) hp (by rw [c2]; exact hatx)
      · rw [if_neg c2] at hq
        exact h.chain i p q hp hq
  · have hp : (wa ++ (x, k + 1) :: wb)[0]? = some p := hp
    rw [hat] at hp
    by_cases c1 : 0 = wa.length
    · rw [if_pos c1] at hp
      cases hp
      exact h.bottom (x, k) (by rw [c1]; exact hatx)
    · rw [if_neg c1] at hp
      exact h.bottom p hp
  · show (headsAt (addHead s.heads y x) v).length + _ ≤ M
    rw [headsAt_add _ _ _ _ hy0 hyh h2]
    have hbv := h.bound v h2 h3
    by_cases c : v = y
    · rw [if_pos c, List.length_append, List.length_singleton]
      have : (headsAt s.heads y).length = (headsAt s.heads v).length := by rw [c]
      omega
    · rw [if_neg c]; omega
end

/-- What the finished list, its places and the heads tell. -/
structure Ord (nx : List (List Int)) (st : List Int) (list place : List Int) (heads : List (List Int)) : Prop where
  mem : ∀ x : Int, x ∈ list ↔ Reach nx st (-1) x
  nodup : list.Nodup
  plen : place.length = nx.length
  hlen : heads.length = nx.length
  at_ : ∀ (i : Nat) (x : Int), list[i]? = some x → rd place x = i
  heads : ∀ y h : Int, 0 ≤ y → y < nx.length → (h ∈ headsAt heads y ↔ Reach nx st (-1) h ∧ y ∈ succs nx h)
  par : ∀ x ∈ list, x ∉ st → ∃ p : Int, p ∈ list ∧ x ∈ succs nx p ∧ rd place p < rd place x

theorem ord_of {nx : List (List Int)} {st : List Int} (hg : Good nx st) {M : Nat} {s : DS} (h : Dfs nx st M s) (hw : s.way = []) (hs : ∀ x ∈ st, rdOf false s.seen x = true) {place : List Int} (hpl : place.length = nx.length)
    (hp : ∀ (i : Nat) (x : Int), s.list.reverse[i]? = some x → rd place x = i) : Ord nx st s.list.reverse place s.heads := by
  have hmem : ∀ x : Int, x ∈ s.list ↔ 0 ≤ x ∧ x < nx.length ∧ rdOf false s.seen x = true := fun x => by
    have := h.mem x; rw [hw] at this; simpa using this
  have hreach : ∀ x : Int, x ∈ s.list ↔ Reach nx st (-1) x := fun x => by
    constructor
    · intro hx; exact h.reach x (List.mem_append_left _ hx)
    · intro hx
      induction hx with
      | start hx _ => exact (hmem _).2 ⟨(hg.starts _ hx).1, (hg.starts _ hx).2, hs _ hx⟩
      | step _ hy _ ih => exact (hmem _).2 ⟨(hg.next _ _ hy).1, (hg.next _ _ hy).2, h.done _ ih _ hy⟩
  refine ⟨fun x => by rw [List.mem_reverse]; exact hreach x, ?_, hpl, h.hlen, hp, fun y g h0 h1 => ?_, fun x hx hst => ?_⟩
  · have := (List.nodup_append.1 h.nodup).1
    exact (List.reverse_perm s.list).nodup_iff.2 this
  · rw [h.heads y g h0 h1, hw, hreach]
    simp
  · rw [List.mem_reverse] at hx
    obtain ⟨p, h1, h2⟩ := h.par x hx hst
    rw [hw] at h2
    rcases h2 with h2 | ⟨i, j, hij, h3, h4⟩
    · simp at h2
    · have hj := (List.getElem?_eq_some_iff.1 h4).1
      refine ⟨p, by rw [List.mem_reverse]; exact List.mem_of_getElem? h4, h1, ?_⟩
      have e1 := hp (s.list.length - 1 - i) x (by rw [List.getElem?_reverse (by omega), show s.list.length - 1 - (s.list.length - 1 - i) = i from by omega]; exact h3)
      have e2 := hp (s.list.length - 1 - j) p (by rw [List.getElem?_reverse (by omega), show s.list.length - 1 - (s.list.length - 1 - j) = j from by omega]; exact h4)
      rw [e1, e2]; omega

end Go.Proofs.Ytgbmebnfbhdpiaa
