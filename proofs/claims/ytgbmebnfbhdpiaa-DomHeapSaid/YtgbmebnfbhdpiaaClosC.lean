/- One round of 'closest', and the end of all rounds. Plain lists and numbers. -/
import Derived.Test.YtgbmebnfbhdpiaaClosB
set_option linter.unusedSimpArgs false
namespace Go.Proofs.Ytgbmebnfbhdpiaa
open Go.Proofs.YtgbmebnfbhdpiaaW.PrintWords

section
variable {nx : List (List Int)} {st pl list : List Int} {heads : List (List Int)} {i m : Nat} {id : List Int}
theorem Pn_of {x : Int} (h : 0 ≤ x) : Pn pl x = (rd pl x + 1).toNat := if_neg (by omega)

theorem CInv.start (h : CInv nx st pl list i m id) {x : Int} (hx : list[i]? = some x) (hs : x ∈ st) : CInv nx st pl list (i + 1) m id := by
  have e := h.starts x hs
  refine ⟨h.tree, h.starts, h.reach, h.link, fun j y hj hy => ?_, h.all, h.safe, fun j y hj hy z hz hk => ?_, h.old⟩
  · by_cases c : j < i
    · exact h.done j y c hy
    · have : j = i := by omega
      subst this; rw [hx] at hy; injection hy with hy; subst hy; omega
  · by_cases c : j < i
    · exact h.now j y c hy z hz hk
    · have : j = i := by omega
      subst this; rw [hx] at hy; injection hy with hy; subst hy
      cases hz with
      | self _ => exact hk.ne rfl
      | up _ h1 _ => omega

theorem CInv.step (hg : Good nx st) (ho : Ord nx st list pl heads) (h : CInv nx st pl list i m id) {x : Int} (hx : list[i]? = some x) (hs : x ∉ st) : CInv nx st pl list (i + 1) m (id.set x.toNat (bestC pl id (headsAt heads x))) ∧ -2 < bestC pl id (headsAt heads x) ∧ bestC pl id (headsAt heads x) < nx.length := by
  have hxl : x ∈ list := List.mem_of_getElem? hx
  have hxr : Reach nx st (-1) x := (ho.mem x).1 hxl
  obtain ⟨hx0, hxn⟩ := Reach.lt hg hxr
  have hpx : rd pl x = i := ho.at_ i x hx
  have hin : i < nx.length := by
    have := ho.lenLe hg
    have := (List.getElem?_eq_some_iff.1 hx).1
    omega
  have hlen := h.tree.len
  have hhr : ∀ g ∈ headsAt heads x, 0 ≤ g ∧ g < nx.length := fun g hg' => Reach.lt hg ((ho.heads x g hx0 hxn).1 hg').1
  have hb := best_all h.tree (headsAt heads x) hhr
  generalize hbe : bestC pl id (headsAt heads x) = b at hb ⊢
  clear hbe
  obtain ⟨p, hpl, hpx', hpp⟩ := ho.par x hxl hs
  have hpr : Reach nx st (-1) p := (ho.mem p).1 hpl
  obtain ⟨hp0, hpn⟩ := Reach.lt hg hpr
  obtain ⟨ip, hip, hipe, _, _⟩ := ho.pos hg hpr
  have hpid : rd id p ≠ -2 := h.done ip p (by omega) hip
  have hph : p ∈ headsAt heads x := (ho.heads x p hx0 hxn).2 ⟨hpr, hpx'⟩
  have hb2 : b ≠ -2 := fun e => hpid (hb.none e p hph)
  have hbok := hb.ok hb2
  have hbp := hb.pn hb2 p hph hpid
  have hPp : Pn pl p = ip + 1 := by rw [Pn_of hp0, hipe]; omega
  have hPx : Pn pl x = i + 1 := by rw [Pn_of hx0, hpx]; omega
  have hbx : Pn pl b < Pn pl x := by omega
  have hbne : b ≠ x := fun e => by rw [e] at hbx; omega
  have hrd : ∀ y : Int, 0 ≤ y → rd (id.set x.toNat b) y = if y = x then b else rd id y := fun y hy => rd_setL id x y b hx0 (by rw [hlen]; exact hxn) hy
  have hrx : rd (id.set x.toNat b) x = b := by rw [hrd x hx0, if_pos rfl]
  have hne : ∀ y : Int, 0 ≤ y → y ≠ x → rd (id.set x.toNat b) y = rd id y := fun y hy c => by rw [hrd y hy, if_neg c]
  have hok' : ∀ y : Int, Okn nx.length id y → Okn nx.length (id.set x.toNat b) y := fun y hy => by
    rcases hy with e | ⟨h0, h1, h2⟩
    · exact .inl e
    · refine .inr ⟨h0, h1, ?_⟩
      rw [hrd y h0]; split
      · exact hb2
      · exact h2
  have hxid : (id.set x.toNat b).length = nx.length := by rw [List.length_set]; exact hlen
  have hlow : ∀ {z y : Int}, Okn nx.length id y → Pn pl y < Pn pl x → (Anc (id.set x.toNat b) z y ↔ Anc id z y) := fun hy hp => anc_low h.tree hx0 (by rw [hlen]; exact hxn) hy hp
  have htree : Tree nx.length pl (id.set x.toNat b) := by
    refine ⟨hxid, h.tree.plen, fun y h0 h1 hy => ?_, fun y h0 h1 hy => ?_⟩
    · rw [hrd y h0] at hy
      split at hy
      · rename_i c; rw [c, hpx]; omega
      · exact h.tree.pos y h0 h1 hy
    · rw [hrd y h0] at hy ⊢
      split at hy
      · rename_i c; rw [if_pos c, c]; exact ⟨hok' _ hbok, hbx⟩
      · rename_i c; rw [if_neg c]
        have := h.tree.up y h0 h1 hy
        exact ⟨hok' _ this.1, this.2⟩
  have hlink : ∀ y : Int, 0 ≤ y → y < nx.length → 0 ≤ rd (id.set x.toNat b) y → Up nx pl (rd (id.set x.toNat b) y) y := fun y h0 h1 hy => by
    rw [hrd y h0] at hy ⊢
    split at hy
    · rename_i c; rw [if_pos c, c]
      have ha := hb.anc hy p hph hpid
      rcases anc_upE h.tree h.link ha (.inr ⟨hp0, hpn, hpid⟩) with e | e
      · rw [e]; exact .one hpx' hpp
      · exact .on e hpx' (by have := e.lt; omega)
    · rename_i c; rw [if_neg c]; exact h.link y h0 h1 hy
  have hstarts : ∀ s ∈ st, rd (id.set x.toNat b) s = -1 := fun s hs' => by
    rw [hne s (hg.starts s hs').1 (fun e => hs (e ▸ hs'))]; exact h.starts s hs'
  have hdone : ∀ (j : Nat) (y : Int), j < i + 1 → list[j]? = some y → rd (id.set x.toNat b) y ≠ -2 := fun j y hj hy => by
    have hy0 := (Reach.lt hg ((ho.mem y).1 (List.mem_of_getElem? hy))).1
    rw [hrd y hy0]; split
    · exact hb2
    · rename_i c
      refine h.done j y ?_ hy
      have : j ≠ i := fun e => by subst e; rw [hx] at hy; injection hy with hy; exact c hy.symm
      omega
  -- what is above x by the new link
  have hxsafe : ∀ z : Int, Dom nx st z x → Anc (id.set x.toNat b) z x := fun z hz => by
    by_cases c : z = x
    · rw [c]; exact .self hx0
    · have hall : ∀ g ∈ headsAt heads x, rd id g ≠ -2 → Anc id z g := fun g hgm hgn => by
        have hgr := (ho.heads x g hx0 hxn).1 hgm
        refine h.safe z g (hhr g hgm).1 (hhr g hgm).2 hgn ⟨hgr.1, fun r => hz.2 (.step r hgr.2 fun e => c e.symm)⟩
      obtain ⟨h0, h1⟩ := hb.low z hb2 hall
      exact .up hx0 (by rw [hrx]; exact h0) (by rw [hrx]; exact (hlow hbok hbx).2 h1)
  have hxnow : ∀ z : Int, Anc (id.set x.toNat b) z x → ¬ RK nx st pl z (m + 1) x := fun z hz hk => by
    have hzb : 0 ≤ b ∧ Anc id z b := by
      cases hz with
      | self _ => exact absurd rfl hk.ne
      | up _ h1 h2 => rw [hrx] at h1 h2; exact ⟨h1, (hlow hbok hbx).1 h2⟩
    have hhd : ∀ g : Int, Reach nx st (-1) g → x ∈ succs nx g → rd id g ≠ -2 → Anc id z g := fun g hgr hgx hgn => hzb.2.trans (hb.anc hzb.1 g ((ho.heads x g hx0 hxn).2 ⟨hgr, hgx⟩) hgn)
    have hreach : ∀ {k : Nat} {g : Int}, RK nx st pl z k g → Reach nx st (-1) g := fun hk => by
      induction hk with
      | start h1 _ => exact .start h1 (by have := (hg.starts _ h1).1; omega)
      | fwd _ h1 _ _ ih => exact .step ih h1 (by have := (hg.next _ _ h1).1; omega)
      | back _ h1 _ ih => exact .step ih h1 (by have := (hg.next _ _ h1).1; omega)
    cases hk with
    | start h1 _ => exact hs h1
    | @fwd _ g _ hkg h1 _ h3 =>
      have hgr := hreach hkg
      obtain ⟨ig, hig, hige, _, _⟩ := ho.pos hg hgr
      have hgd : ig < i := by omega
      exact h.now ig g hgd hig z (hhd g hgr h1 (h.done ig g hgd hig)) hkg
    | @back _ g _ hkg h1 _ =>
      have hgr := hreach hkg
      have hm := hkg.zero
      have hgn := h.all hm g hgr
      have hgl := Reach.lt hg hgr
      exact h.old g z hgl.1 hgl.2 hgn (hhd g hgr h1 hgn) hkg
  refine ⟨⟨htree, hstarts, fun y h0 h1 hy => ?_, hlink, hdone, fun hm y hy => ?_, fun z y h0 h1 hy hd => ?_, fun j y hj hy z hz => ?_, fun y z h0 h1 hy hz hk => ?_⟩, ?_⟩
  · rw [hrd y h0] at hy
    split at hy
    · rename_i c; rw [c]; exact hxr
    · exact h.reach y h0 h1 hy
  · have := (Reach.lt hg hy).1
    rw [hrd y this]; split
    · exact hb2
    · exact h.all hm y hy
  · by_cases c : y = x
    · subst c; exact hxsafe z hd
    · rw [hne y h0 c] at hy
      rcases anc_or' (b := b) hx0 (by rw [hlen]; exact hxn) (h.safe z y h0 h1 hy hd) with ha | ⟨ha, hb0, hb1⟩
      · exact ha
      · refine (hxsafe z ⟨hxr, fun r => ?_⟩).trans ha
        have hxid2 : rd id x ≠ -2 := by omega
        have hu := h.tree.up x hx0 hxn hxid2
        have hz := Anc.ok h.tree hb1 hu.1
        have hz0 := hb1.nonneg.2
        have hzl := hz.1.lt hz0
        have hzp := h.tree.pos z hz0 hzl.1 hzl.2
        have : Pn pl z = (rd pl z + 1).toNat := Pn_of hz0
        have hyr : Reach nx st z y := by
          rcases anc_upE htree hlink ha (.inr ⟨h0, h1, by rw [hne y h0 c]; exact hy⟩) with e | e
          · exact absurd e.symm c
          · exact e.reach r (by omega)
        exact hd.2 hyr
  · by_cases c : j < i
    · have hyr := (ho.mem y).1 (List.mem_of_getElem? hy)
      have hyl := Reach.lt hg hyr
      have hyp := ho.at_ j y hy
      have hyd := h.done j y c hy
      exact h.now j y c hy z ((hlow (.inr ⟨hyl.1, hyl.2, hyd⟩) (by rw [Pn_of hyl.1]; omega)).1 hz)
    · have : j = i := by omega
      subst this; rw [hx] at hy; injection hy with hy; subst hy
      exact hxnow z hz
  · by_cases c : y = x
    · subst c; exact hxnow z hz hk.up1
    · rw [hne y h0 c] at hy
      rcases anc_or hx0 (by rw [hlen]; exact hxn) hz with ha | ⟨ha, hb1⟩
      · exact h.old y z h0 h1 hy ha hk
      · rcases hk.part x with hk | hk
        · exact h.old y x h0 h1 hy ha hk
        · exact hxnow z hb1 hk.up1
  · rcases hbok with e | ⟨e0, e1, _⟩ <;> omega

theorem CInv.next (hg : Good nx st) (ho : Ord nx st list pl heads) (h : CInv nx st pl list list.length m id) : CInv nx st pl list 0 (m + 1) id := by
  have hall : ∀ x : Int, Reach nx st (-1) x → rd id x ≠ -2 := fun x hx => by
    obtain ⟨j, hj, _, hl, _⟩ := ho.pos hg hx
    exact h.done j x hl hj
  refine ⟨h.tree, h.starts, h.reach, h.link, fun j x hj => absurd hj (Nat.not_lt_zero _), fun _ => hall, h.safe, fun j x hj => absurd hj (Nat.not_lt_zero _), fun x z h0 h1 hx hz => ?_⟩
  obtain ⟨j, hj, _, hl, _⟩ := ho.pos hg (h.reach x h0 h1 hx)
  exact h.now j x hl hj z hz
end
end Go.Proofs.Ytgbmebnfbhdpiaa
