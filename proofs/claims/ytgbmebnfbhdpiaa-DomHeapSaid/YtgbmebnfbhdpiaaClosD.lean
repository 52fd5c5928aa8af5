/- All rounds of 'closest': they end, and what stands then is the closest nodes; these are the only ones. Plain lists and numbers. -/
import Derived.Test.YtgbmebnfbhdpiaaClosC
set_option linter.unusedSimpArgs false
namespace Go.Proofs.Ytgbmebnfbhdpiaa
open Go.Proofs.YtgbmebnfbhdpiaaW.PrintWords

/-- Of each node its closest one: -1 is the root, -2 that it is not reached. -/
structure IdomX (nx : List (List Int)) (st id : List Int) : Prop where
  len : id.length = nx.length
  none : ∀ x : Int, 0 ≤ x → x < nx.length → (rd id x = -2 ↔ ¬ Reach nx st (-1) x)
  tree : ∃ pl, Tree nx.length pl id
  anc : ∀ z x : Int, Reach nx st (-1) x → (Anc id z x ↔ Dom nx st z x)
theorem IdomX.up {nx : List (List Int)} {st id : List Int} (hg : Good nx st) (h : IdomX nx st id) {x : Int} (hx : Reach nx st (-1) x) : -1 ≤ rd id x ∧ rd id x < nx.length ∧ rd id x ≠ x ∧ (0 ≤ rd id x → Reach nx st (-1) (rd id x)) := by
  obtain ⟨pl, ht⟩ := h.tree
  obtain ⟨h0, h1⟩ := Reach.lt hg hx
  have h2 : rd id x ≠ -2 := fun e => ((h.none x h0 h1).1 e) hx
  obtain ⟨hu, hp⟩ := ht.up x h0 h1 h2
  have h3 : rd id x ≠ x := fun e => by rw [e] at hp; omega
  rcases hu with e | ⟨e0, e1, e2⟩
  · exact ⟨by omega, by omega, h3, fun e' => by omega⟩
  · refine ⟨by omega, e1, h3, fun _ => ?_⟩
    exact Classical.byContradiction fun c => e2 ((h.none _ e0 e1).2 c)
theorem Anc.or {id : List Int} {z x : Int} (h : Anc id z x) : z = x ∨ (0 ≤ rd id x ∧ Anc id z (rd id x)) := by
  cases h with
  | self _ => exact .inl rfl
  | up _ h1 h2 => exact .inr ⟨h1, h2⟩
theorem idomX_half {nx : List (List Int)} {st a b : List Int} (hg : Good nx st) (ha : IdomX nx st a) (hb : IdomX nx st b) {x : Int} (hx : Reach nx st (-1) x) (h : 0 ≤ rd a x) : 0 ≤ rd b x ∧ Dom nx st (rd a x) (rd b x) := by
  obtain ⟨h0, h1⟩ := Reach.lt hg hx
  have h2 := ha.up hg hx
  have h3 := hb.up hg hx
  have h4 : Anc a (rd a x) x := .up h0 h (.self h)
  have h5 := (hb.anc _ _ hx).2 ((ha.anc _ _ hx).1 h4)
  rcases h5.or with e | ⟨h6, h7⟩
  · exact absurd e h2.2.2.1
  · exact ⟨h6, (hb.anc _ _ (h3.2.2.2 h6)).1 h7⟩
theorem idomX_unique {nx : List (List Int)} {st a b : List Int} (hg : Good nx st) (ha : IdomX nx st a) (hb : IdomX nx st b) : a = b := by
  apply List.ext_getElem?
  intro k
  rcases Nat.lt_or_ge k nx.length with hk | hk
  · have hla := ha.len
    have hlb := hb.len
    have : rd a k = rd b k := by
      by_cases hr : Reach nx st (-1) k
      · have h1 := ha.up hg hr
        have h2 := hb.up hg hr
        by_cases c : 0 ≤ rd a k
        · have h3 := idomX_half hg ha hb hr c
          have h4 := idomX_half hg hb ha hr h3.1
          exact dom_antisymm h3.2 h4.2
        · by_cases c' : 0 ≤ rd b k
          · have := (idomX_half hg hb ha hr c').1
            omega
          · omega
      · rw [(ha.none k (by omega) (by omega)).2 hr, (hb.none k (by omega) (by omega)).2 hr]
    simp only [rd, Int.toNat_natCast, List.getD_eq_getElem?_getD] at this
    rw [List.getElem?_eq_getElem (by omega : k < a.length), List.getElem?_eq_getElem (by omega : k < b.length)] at this ⊢
    exact congrArg some this
  · rw [List.getElem?_eq_none (by rw [ha.len]; exact hk), List.getElem?_eq_none (by rw [hb.len]; exact hk)]

/-! ### The rounds -/
def stepC (st pl : List Int) (heads : List (List Int)) (id : List Int) (x : Int) : List Int := if x ∈ st then id else id.set x.toNat (bestC pl id (headsAt heads x))
def passN (st pl : List Int) (heads : List (List Int)) (list : List Int) (i : Nat) (id : List Int) : List Int := (list.take i).foldl (stepC st pl heads) id
theorem passN_zero (st pl : List Int) (heads : List (List Int)) (list id : List Int) : passN st pl heads list 0 id = id := rfl
theorem passN_succ (st pl : List Int) (heads : List (List Int)) (list id : List Int) {i : Nat} {x : Int} (hx : list[i]? = some x) : passN st pl heads list (i + 1) id = stepC st pl heads (passN st pl heads list i id) x := by
  unfold passN
  obtain ⟨hi, he⟩ := List.getElem?_eq_some_iff.1 hx
  rw [List.take_succ_eq_append_getElem hi, List.foldl_append, he]; rfl
def itC (st pl : List Int) (heads : List (List Int)) (list id0 : List Int) : Nat → List Int
  | 0 => id0
  | k + 1 => passN st pl heads list list.length (itC st pl heads list id0 k)
/-- What starts stand in. -/
def putAll {α : Type} (x : α) (st : List Int) (l : List α) : List α := st.foldl (fun l s => l.set s.toNat x) l
theorem putAll_len {α : Type} (x : α) (st : List Int) (l : List α) : (putAll x st l).length = l.length := by
  unfold putAll
  induction st generalizing l with
  | nil => rfl
  | cons s st ih => rw [List.foldl_cons, ih, List.length_set]
theorem putAll_getD {α : Type} (d x : α) (st : List Int) (l : List α) (hs : ∀ s ∈ st, 0 ≤ s ∧ s < l.length) (y : Int) (hy : 0 ≤ y) : (putAll x st l).getD y.toNat d = if y ∈ st then x else l.getD y.toNat d := by
  unfold putAll
  induction st generalizing l with
  | nil => rfl
  | cons s st ih =>
    have h1 := hs s (by simp)
    rw [List.foldl_cons, ih _ (fun t ht => by rw [List.length_set]; exact hs t (by simp [ht]))]
    by_cases c : y ∈ st
    · rw [if_pos c, if_pos (by simp [c])]
    · rw [if_neg c]
      by_cases c' : y = s
      · subst c'
        rw [if_pos (by simp), List.getD_eq_getElem?_getD, List.getElem?_set_self (by omega)]; rfl
      · rw [if_neg (by simp [c, c']), List.getD_eq_getElem?_getD, List.getD_eq_getElem?_getD, List.getElem?_set_ne (by omega)]
def idom0 (n : Nat) (st : List Int) : List Int := putAll (-1) st (List.replicate n (-2))

section
variable {nx : List (List Int)} {st pl list : List Int} {heads : List (List Int)} {i m M : Nat} {id : List Int}
theorem cinv_zero (hg : Good nx st) (ho : Ord nx st list pl heads) : CInv nx st pl list 0 0 (idom0 nx.length st) := by
  have hl : (idom0 nx.length st).length = nx.length := by unfold idom0; rw [putAll_len, List.length_replicate]
  have hrd : ∀ y : Int, 0 ≤ y → y < nx.length → rd (idom0 nx.length st) y = if y ∈ st then -1 else -2 := fun y h0 h1 => by
    unfold rd idom0
    rw [putAll_getD 0 (-1) st _ (fun s hs => by rw [List.length_replicate]; exact hg.starts s hs) y h0]
    have e : (List.replicate nx.length (-2 : Int)).getD y.toNat 0 = -2 := by rw [List.getD_eq_getElem?_getD, List.getElem?_replicate, if_pos (by omega)]; rfl
    rw [e]
  have hst : ∀ y : Int, 0 ≤ y → y < nx.length → rd (idom0 nx.length st) y ≠ -2 → y ∈ st := fun y h0 h1 hy => by
    rw [hrd y h0 h1] at hy
    by_cases c : y ∈ st
    · exact c
    · rw [if_neg c] at hy; exact absurd rfl hy
  have hs1 : ∀ s ∈ st, rd (idom0 nx.length st) s = -1 := fun s hs => by
    have := hg.starts s hs
    rw [hrd s this.1 this.2, if_pos hs]
  have hsr : ∀ s ∈ st, Reach nx st (-1) s := fun s hs => .start hs (by have := (hg.starts s hs).1; omega)
  refine ⟨⟨hl, ho.plen, fun y h0 h1 hy => ?_, fun y h0 h1 hy => ?_⟩, hs1, fun y h0 h1 hy => hsr y (hst y h0 h1 hy), fun y h0 h1 hy => ?_, fun j x hj => absurd hj (Nat.not_lt_zero _), fun h => absurd rfl h, fun z y h0 h1 hy hd => ?_, fun j x hj => absurd hj (Nat.not_lt_zero _), fun x z _ _ _ _ hk => absurd rfl hk.zero⟩
  · obtain ⟨j, _, e, _, hj⟩ := ho.pos hg (hsr y (hst y h0 h1 hy))
    omega
  · obtain ⟨j, _, e, _, hj⟩ := ho.pos hg (hsr y (hst y h0 h1 hy))
    rw [hs1 y (hst y h0 h1 hy)]
    refine ⟨.root _ _, ?_⟩
    rw [Pn_of h0, e]; simp [Pn]
  · have : rd (idom0 nx.length st) y ≠ -2 := by omega
    rw [hs1 y (hst y h0 h1 this)] at hy; omega
  · have hys := hst y h0 h1 hy
    by_cases c : y = z
    · rw [c]; exact .self (by omega)
    · exact absurd (.start hys c) hd.2
theorem cinv_pass (hg : Good nx st) (ho : Ord nx st list pl heads) (h : CInv nx st pl list 0 m id) : ∀ i : Nat, i ≤ list.length → CInv nx st pl list i m (passN st pl heads list i id) := by
  intro i
  induction i with
  | zero => intro _; exact h
  | succ i ih =>
    intro hi
    obtain ⟨x, hx⟩ : ∃ x, list[i]? = some x := ⟨list[i]'(by omega), List.getElem?_eq_getElem (by omega)⟩
    have h1 := ih (by omega)
    rw [passN_succ st pl heads list id hx]
    unfold stepC
    by_cases c : x ∈ st
    · rw [if_pos c]; exact h1.start hx c
    · rw [if_neg c]; exact (h1.step hg ho hx c).1
theorem cinv_it (hg : Good nx st) (ho : Ord nx st list pl heads) (m : Nat) : CInv nx st pl list 0 m (itC st pl heads list (idom0 nx.length st) m) := by
  induction m with
  | zero => exact cinv_zero hg ho
  | succ m ih => exact (cinv_pass hg ho ih list.length (Nat.le_refl _)).next hg ho

theorem upto_all (P : Nat → Nat → Prop) (hm : ∀ i k k', k ≤ k' → P i k → P i k') (h : ∀ i, ∃ k, P i k) (N : Nat) : ∃ K, ∀ i < N, P i K := by
  induction N with
  | zero => exact ⟨0, fun i hi => absurd hi (Nat.not_lt_zero _)⟩
  | succ N ih =>
    obtain ⟨K, hK⟩ := ih
    obtain ⟨k, hk⟩ := h N
    refine ⟨max K k, fun i hi => ?_⟩
    by_cases c : i = N
    · subst c; exact hm _ _ _ (Nat.le_max_right _ _) hk
    · exact hm _ _ _ (Nat.le_max_left _ _) (hK i (by omega))
/-- A number of steps that lead back that is enough for all. -/
theorem rk_bound (hg : Good nx st) (pl : List Int) : ∃ K, ∀ z x : Int, 0 ≤ z → z < nx.length → Reach nx st z x → RK nx st pl z K x := by
  have h1 : ∀ i : Nat, ∃ k, ∀ j < nx.length, Reach nx st (i : Int) (j : Int) → RK nx st pl i k j := fun i => by
    refine upto_all (fun j k => Reach nx st (i : Int) (j : Int) → RK nx st pl i k j) (fun j k k' hk hp hr => (hp hr).mono hk) (fun j => ?_) nx.length
    by_cases hr : Reach nx st (i : Int) (j : Int)
    · obtain ⟨k, hk⟩ := RK.of (pl := pl) hr; exact ⟨k, fun _ => hk⟩
    · exact ⟨0, fun h => absurd h hr⟩
  obtain ⟨K, hK⟩ := upto_all (fun i k => ∀ j < nx.length, Reach nx st (i : Int) (j : Int) → RK nx st pl i k j) (fun i k k' hk hp j hj hr => (hp j hj hr).mono hk) h1 nx.length
  refine ⟨K, fun z x h0 h1 hr => ?_⟩
  have hx := Reach.lt hg hr
  have := hK z.toNat (by omega) x.toNat (by omega)
  rw [Int.toNat_of_nonneg h0, Int.toNat_of_nonneg hx.1] at this
  exact this hr
theorem idomX_of (hg : Good nx st) (h : CInv nx st pl list 0 m id) (hm : m ≠ 0) (hK : ∀ z x : Int, 0 ≤ z → z < nx.length → Reach nx st z x → RK nx st pl z m x) : IdomX nx st id := by
  refine ⟨h.tree.len, fun x h0 h1 => ⟨fun e hr => h.all hm x hr e, fun hr => Classical.byContradiction fun c => hr (h.reach x h0 h1 c)⟩, ⟨pl, h.tree⟩, fun z x hx => ?_⟩
  obtain ⟨h0, h1⟩ := Reach.lt hg hx
  have h2 := h.all hm x hx
  constructor
  · intro ha
    have hz0 := ha.nonneg.2
    have hz := ((Anc.ok h.tree ha (.inr ⟨h0, h1, h2⟩)).1.lt hz0).1
    exact ⟨hx, fun hr => h.old x z h0 h1 h2 ha (hK z x hz0 hz hr)⟩
  · exact h.safe z x h0 h1 h2
/-- From some round on what stands is the closest nodes. -/
theorem it_end (hg : Good nx st) (ho : Ord nx st list pl heads) : ∃ M, ∀ m, M ≤ m → IdomX nx st (itC st pl heads list (idom0 nx.length st) m) := by
  obtain ⟨K, hK⟩ := rk_bound hg pl
  exact ⟨K + 1, fun m hm => idomX_of hg (cinv_it hg ho m) (by omega) fun z x h0 h1 hr => (hK z x h0 h1 hr).mono (by omega)⟩

/-! ### What is changed -/
theorem passN_len (i : Nat) : (passN st pl heads list i id).length = id.length := by
  unfold passN
  generalize list.take i = l
  induction l generalizing id with
  | nil => rfl
  | cons x l ih => rw [List.foldl_cons, ih]; unfold stepC; split <;> simp
theorem passN_out (hl : ∀ x ∈ list, 0 ≤ x ∧ x < id.length) (i : Nat) (y : Int) (hy : 0 ≤ y) (hn : y ∉ list.take i) : rd (passN st pl heads list i id) y = rd id y := by
  have : ∀ (l id : List Int), (∀ x ∈ l, 0 ≤ x ∧ x < id.length) → y ∉ l → rd (l.foldl (stepC st pl heads) id) y = rd id y := by
    intro l
    induction l with
    | nil => intros; rfl
    | cons x l ih =>
      intro id hl hn
      have hx := hl x (by simp)
      have hlen : (stepC st pl heads id x).length = id.length := by unfold stepC; split <;> simp
      rw [List.foldl_cons, ih _ (fun z hz => by rw [hlen]; exact hl z (by simp [hz])) (fun c => hn (by simp [c]))]
      unfold stepC
      split
      · rfl
      · rw [rd_setL id x y _ hx.1 hx.2 hy, if_neg (fun c => hn (by simp [c]))]
  exact this _ _ (fun x hx => hl x (List.mem_of_mem_take hx)) hn
/-- Whether something was changed among the first i. -/
def ChOk (st pl : List Int) (heads : List (List Int)) (list id : List Int) (i : Nat) (ch : Bool) : Prop := (ch = false → passN st pl heads list i id = id) ∧ (ch = true → ∃ y ∈ list.take i, rd (passN st pl heads list i id) y ≠ rd id y)
theorem ch_zero : ChOk st pl heads list id 0 false := ⟨fun _ => rfl, fun h => absurd h (by decide)⟩
theorem ch_same {ch : Bool} (h : ChOk st pl heads list id i ch) (he : passN st pl heads list (i + 1) id = passN st pl heads list i id) : ChOk st pl heads list id (i + 1) ch := by
  unfold ChOk
  rw [he]
  refine ⟨h.1, fun c => ?_⟩
  obtain ⟨y, hy, hn⟩ := h.2 c
  exact ⟨y, List.Subset.trans (by rw [List.take_add_one]; exact List.subset_append_left _ _) (fun _ h => h) hy, hn⟩
theorem set_same (l : List Int) (x : Int) (h0 : 0 ≤ x) (h1 : x < l.length) : l.set x.toNat (rd l x) = l := by
  unfold rd
  rw [List.getD_eq_getElem?_getD, List.getElem?_eq_getElem (by omega)]
  exact List.set_getElem_self (by omega)
theorem ch_new (hl : ∀ x ∈ list, 0 ≤ x ∧ x < id.length) (hnd : list.Nodup) {x : Int} (hx : list[i]? = some x) (hs : x ∉ st) (hne : bestC pl (passN st pl heads list i id) (headsAt heads x) ≠ rd (passN st pl heads list i id) x) : ChOk st pl heads list id (i + 1) true := by
  have hx0 := hl x (List.mem_of_getElem? hx)
  obtain ⟨hi, he⟩ := List.getElem?_eq_some_iff.1 hx
  have hout : x ∉ list.take i := fun c => by
    obtain ⟨j, hj, hje⟩ := List.getElem_of_mem c
    rw [List.length_take] at hj
    rw [List.getElem_take] at hje
    have := (List.getElem_inj hnd).1 (hje.trans he.symm)
    omega
  refine ⟨fun h => absurd h (by decide), fun _ => ⟨x, by rw [List.take_succ_eq_append_getElem hi]; simp [he], ?_⟩⟩
  rw [passN_succ st pl heads list id hx]
  unfold stepC
  rw [if_neg hs, rd_setL _ x x _ hx0.1 (by rw [passN_len]; exact hx0.2) hx0.1, if_pos rfl]
  rw [passN_out hl i x hx0.1 hout] at hne
  exact hne

/-- What stands before a round: M rounds are enough. -/
structure RoundOk (nx : List (List Int)) (st pl : List Int) (heads : List (List Int)) (list : List Int) (M m : Nat) (id : List Int) (ag : Bool) : Prop where
  inv : CInv nx st pl list 0 m id
  it : id = itC st pl heads list (idom0 nx.length st) m
  le : ag = true → m ≤ M
  fin : ag = false → IdomX nx st id
theorem round_zero (hg : Good nx st) (ho : Ord nx st list pl heads) : RoundOk nx st pl heads list M 0 (idom0 nx.length st) true :=
  ⟨cinv_zero hg ho, rfl, fun _ => Nat.zero_le _, fun h => absurd h (by decide)⟩
theorem round_next (hg : Good nx st) (ho : Ord nx st list pl heads) (hM : ∀ m, M ≤ m → IdomX nx st (itC st pl heads list (idom0 nx.length st) m)) {ag ch : Bool} (h : RoundOk nx st pl heads list M m id ag)
    (hc : ChOk st pl heads list id list.length ch) : RoundOk nx st pl heads list M (m + 1) (passN st pl heads list list.length id) ch := by
  have hit : passN st pl heads list list.length id = itC st pl heads list (idom0 nx.length st) (m + 1) := by rw [h.it]; rfl
  refine ⟨(cinv_pass hg ho h.inv list.length (Nat.le_refl _)).next hg ho, hit, fun c => ?_, fun c => ?_⟩
  · obtain ⟨y, _, hn⟩ := hc.2 c
    refine Nat.not_lt.1 fun hlt => hn ?_
    have h1 := hM m (by omega)
    have h2 := hM (m + 1) (by omega)
    rw [hit, h.it, idomX_unique hg h1 h2]
  · have hfix := hc.1 c
    have hall : ∀ k, itC st pl heads list (idom0 nx.length st) (m + k) = id := by
      intro k
      induction k with
      | zero => exact h.it.symm
      | succ k ih => rw [← Nat.add_assoc]; show passN st pl heads list list.length _ = _; rw [ih]; exact hfix
    have := hM (m + M) (by omega)
    rw [hall M] at this
    rw [hfix]; exact this
end
end Go.Proofs.Ytgbmebnfbhdpiaa
