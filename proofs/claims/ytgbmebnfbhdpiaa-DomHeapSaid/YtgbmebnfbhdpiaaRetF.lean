/- The walk of dom.Retained's inner function, which calls itself: what a node and all under it hold. -/
import Derived.Test.YtgbmebnfbhdpiaaRetM
import Derived.Deep.RegionHeld
set_option linter.unusedSimpArgs false
set_option linter.unusedVariables false
namespace Go.Proofs.Ytgbmebnfbhdpiaa
open Go.RowKit Go.Proofs.YtgbmebnfbhdpiaaW.PrintWords Go.Proofs.YtgbmebnfbhdpiaaW.PrintLast

/-- What stands ahead of the calls: the weights, the closest ones' lists. -/
structure RetFix (w5 : World) (wb kb : Nat) (AW : Option Addr) (kW : Nat) (AK : Option Addr) (kK n : Nat) (ws : List Int) (kids : List (List Int)) : Prop where
  wbk : w5.heap[wb]? = some (.cells #[.slice AW n kW] 23 (0, 0))
  kbk : w5.heap[kb]? = some (.cells #[.slice AK n kK] 22 (0, 0))
  wts : Kd.C (Kd.int .i64) w5 AW n ws
  kids : Kd.C (Kd.slice 3 (Kd.int .i64)) w5 AK n kids
/-- What the calls write. -/
structure RetMem (w5 w : World) (wb kb ob ab og n cO : Nat) (out : List Int) : Prop where
  below : Below w5.heap.size w5 w
  obk : w.heap[ob]? = some (.cells #[.slice (some ⟨og, 0, none⟩) n cO] 38 (0, 0))
  abk : w.heap[ab]? = some (.cells #[.func (.func 50) #[] #[.pointer (some ⟨wb, 0, none⟩), .pointer (some ⟨ob, 0, none⟩), .pointer (some ⟨kb, 0, none⟩), .pointer (some ⟨ab, 0, none⟩)]] 80 (0, 0))
  ogk : w.heap[og]? = some (.cells (out.map (Value.int .i64)).toArray 2 (0, 0))
  len : out.length = n
  oge : w5.heap.size ≤ og
  bge : w5.heap.size ≤ ob
  age : w5.heap.size ≤ ab
section
variable {w5 w : World} {wb kb ob ab og n cO : Nat} {out : List Int}
theorem RetMem.at (h : RetMem w5 w wb kb ob ab og n cO out) (i : Int) (h0 : 0 ≤ i) (h1 : i < n) : w.cell? ⟨og, i.toNat, none⟩ = some (.int .i64 (rd out i)) ∧ w.frozen? ⟨og, i.toNat, none⟩ = false := by
  refine ⟨?_, blk_frozen h.ogk _⟩
  rw [blk_cell h.ogk]
  have := h.len
  simp [rd, List.getD_eq_getElem?_getD, List.getElem?_eq_getElem (by omega : i.toNat < out.length)]
theorem RetMem.put (h : RetMem w5 w wb kb ob ab og n cO out) (i x : Int) : RetMem w5 (w.setCell ⟨og, i.toNat, none⟩ (.int .i64 x)) wb kb ob ab og n cO (out.set i.toNat x) := by
  refine ⟨h.below.setCell h.oge _, blk_far h.obk (blk_ne h.obk h.ogk (by decide)) _, blk_far h.abk (blk_ne h.abk h.ogk (by decide)) _, ?_, by rw [List.length_set]; exact h.len, h.oge, h.bge, h.age⟩
  have := blk_set h.ogk i.toNat (.int .i64 x)
  rw [this]
  simp [List.map_set]
theorem RetMem.drew (h : RetMem w5 w wb kb ob ab og n cO out) : RetMem w5 w.drew wb kb ob ab og n cO out :=
  ⟨below_drew h.below, h.obk, h.abk, h.ogk, h.len, h.oge, h.bge, h.age⟩
end

/-- Nothing is changed but cells of one block. -/
structure KeepsBut (og : Nat) (W W' : World) : Prop where
  others : KeepsOthers W W'
  cells : ∀ p v, p.block ≠ og → W.cell? p = some v → W'.cell? p = some v
theorem KeepsBut.trans {og : Nat} {A B C : World} (h : KeepsBut og A B) (k : KeepsBut og B C) : KeepsBut og A C := ⟨h.others.trans k.others, fun p v hp hv => k.cells p v hp (h.cells p v hp hv)⟩
theorem KeepsBut.drew {og : Nat} (W : World) : KeepsBut og W W.drew := ⟨KeepsOthers.drew _, fun _ _ _ h => h⟩
theorem KeepsBut.set {og : Nat} (W : World) (i : Nat) (v : Value) : KeepsBut og W (W.setCell ⟨og, i, none⟩ v) :=
  ⟨KeepsOthers.setCell _ _ _, fun p u hp hu => (World.cell?_setCell_far W ⟨og, i, none⟩ p v (fun e => hp e.symm)).trans hu⟩

set_option maxRecDepth 100000 in
set_option maxHeartbeats 4000000 in
theorem f50_rec {nx : List (List Int)} {st id ws : List Int} (hg : Good nx st) (hx : IdomX nx st id) {pl : List Int} (ht : Tree nx.length pl id) (hws : ∀ x : Int, 0 ≤ rd ws x ∧ rd ws x ≤ 1048576)
    {w5 : World} {wb kb : Nat} {AW : Option Addr} {kW : Nat} {AK : Option Addr} {kK : Nat} {kids : List (List Int)} (hfix : RetFix w5 wb kb AW kW AK kK nx.length ws kids) (hkids : ∀ i : Int, 0 ≤ i → i < nx.length → kids.getD i.toNat [] = kidsN id i nx.length)
    (ob ab og cO : Nat) (m : Nat) : ∀ (i : Int) (out : List Int) (w : World), Reach nx st (-1) i → nx.length + 1 - Pn pl i ≤ m → RetMem w5 w wb kb ob ab og nx.length cO out →
    Calls Try.prog 50 #[.int .i64 i, .pointer (some ⟨wb, 0, none⟩), .pointer (some ⟨ob, 0, none⟩), .pointer (some ⟨kb, 0, none⟩), .pointer (some ⟨ab, 0, none⟩)] w fun e w' => e = .returned (.int .i64 (retW nx st ws i)) ∧
      ∃ out', RetMem w5 w' wb kb ob ab og nx.length cO out' ∧ KeepsBut og w w' ∧ ∀ j : Int, 0 ≤ j → j < nx.length → rd out' j = if domC nx st i j = true then retW nx st ws j else rd out j := by
  have HG := Aside0.mk hg
  have HX := Aside0.mk hx
  have HT := Aside0.mk ht
  have HWS := Aside0.mk hws
  have HF := Aside0.mk hfix
  have HKI := Aside0.mk hkids
  have hnl := hg.len
  clear hg hx ht hws hfix hkids
  induction m with
  | zero =>
    intro i out w hi hm
    obtain ⟨h0, h1⟩ := Reach.lt HG.out hi
    have h2 : rd id i ≠ -2 := fun e => (HX.out.none i h0 h1).1 e hi
    have h3 := HT.out.pos i h0 h1 h2
    rw [Pn_of h0] at hm
    omega
  | succ m ih =>
    have HIH := Aside0.mk ih
    clear ih
    intro i out w hi hm hmem
    obtain ⟨hi0, hi1⟩ := Reach.lt HG.out hi
    have HI := Aside0.mk hi
    have HM := Aside0.mk hmem
    have HMM := Aside0.mk hm
    clear hi hm hmem
    obtain ⟨ad, e, hwc⟩ := Kd.at_int (Kd.C_below HF.out.wts HM.out.below) i hi0 hi1
    cases e
    obtain ⟨x, hx⟩ : ∃ x, x = rd ws i := ⟨_, rfl⟩
    rw [← hx] at hwc
    have HXX := Aside0.mk hx
    clear hx
    obtain ⟨hoc, hof⟩ := HM.out.at i hi0 hi1
    have hob : w.cell? ⟨ob, 0, none⟩ = some (.slice (some ⟨og, 0, none⟩) nx.length cO) := (blk_cell HM.out.obk 0).trans rfl
    have hwb : w.cell? ⟨wb, 0, none⟩ = some (.slice (some ad) nx.length kW) := (blk_cell (blk_below HF.out.wbk HM.out.below) 0).trans rfl
    have hL0 : nx.length ≤ 9223372036854775807 := by omega
    obtain ⟨y, hy⟩ : ∃ y, y = rd out i := ⟨_, rfl⟩
    rw [← hy] at hoc
    clear hy
    go_enter Try.func50, Try.ntmps50
    have HM1 := Aside0.mk (HM.out.put i x).drew
    have HK1 := Aside0.mk ((KeepsBut.set (og := og) w i.toNat (.int .i64 x)).trans (KeepsBut.drew _))
    obtain ⟨kad, B, c, ks, e, HKS, hkc0, hkl, hkr⟩ := at_slice_n HF.out.kids i hi0 hi1
    cases e
    have hkc := (HM1.out.below.cell (World.block_lt_of_cell? _ _ hkc0)).trans hkc0
    clear hkc0
    have hkb : ((w.setCell ⟨og, i.toNat, none⟩ (.int .i64 x)).drew).cell? ⟨kb, 0, none⟩ = some (.slice (some kad) nx.length kK) := (blk_cell (blk_below HF.out.kbk HM1.out.below) 0).trans rfl
    have hks : ks = kidsN id i nx.length := HKS.out.trans (HKI.out i hi0 hi1)
    have HKL := Aside0.mk hks
    have hkn : ks.length ≤ 8192 := by rw [hks]; have := kidsN_len id i nx.length; omega
    have HKR := Aside0.mk hkr
    clear hks hkr HKS
    have HO1 : Aside0 (∀ j : Int, 0 ≤ j → j < nx.length → rd (out.set i.toNat x) j = if j = i then x else rd out j) := ⟨fun j h0 h1 => rd_setL out i j x hi0 (by rw [HM.out.len]; exact hi1) h0⟩
    go_wp2_with fail
    go_still_tail 7, (by kernel_rfl)
    go_wp2_with fail
    generalize ((w.setCell ⟨og, i.toNat, none⟩ (.int .i64 x)).drew) = w1 at HM1 HK1 hkb hkc ⊢
    obtain ⟨o1, ho1⟩ : ∃ o1, o1 = out.set i.toNat x := ⟨_, rfl⟩
    rw [← ho1] at HM1 HO1
    clear ho1 hoc hof hob hwb hwc
    obtain ⟨wo, hwo⟩ : ∃ wo : World, wo = w1 := ⟨_, rfl⟩
    subst hwo
    go_loopw [22] (fun v22 wr => ∃ (c : Int) (o2 : List Int), v22 = .int .i64 c ∧ 0 ≤ c ∧ c ≤ ks.length ∧ Aside0 (RetMem w5 wr wb kb ob ab og nx.length cO o2) ∧ Aside0 (KeepsBut og w wr) ∧
      Aside0 (∀ j : Int, 0 ≤ j → j < nx.length → rd o2 j = if j = i then x + sumL (retW nx st ws) (ks.take c.toNat) else if (ks.take c.toNat).any (fun k => domC nx st k j) = true then retW nx st ws j else rd out j)) (fun v _ => ks.length - (intOf v).toNat)
    case atStart => exact ⟨0, o1, rfl, by omega, by omega, HM1, HK1, ⟨fun j h0 h1 => by rw [HO1.out j h0 h1]; simp [sumL]⟩⟩
    case round =>
      clear HM1 HK1 hkb hkc HO1
      obtain ⟨c, o2, rfl, hc0, hc1, HM2, HK2, HO2⟩ := hrel
      have hbnd : 0 ≤ sumL (retW nx st ws) (ks.take c.toNat) ∧ sumL (retW nx st ws) (ks.take c.toNat) ≤ 8589934592 := by
        rw [sum_kids HG.out HX.out ws (.inl hi0) _ (List.Nodup.sublist (List.take_sublist _ _) (by rw [HKL.out]; exact kidsN_nodup id i nx.length)) (fun k hk => (kidsN_mem id i nx.length k).1 (by rw [← HKL.out]; exact List.mem_of_mem_take hk))]
        have := sumIf_bound (p := fun x => (ks.take c.toNat).any fun k => domC nx st k x) HWS.out nx.length
        omega
      have hx9 : 0 ≤ x ∧ x ≤ 1048576 := by rw [HXX.out]; exact HWS.out i
      obtain ⟨hoc, hof⟩ := HM2.out.at i hi0 hi1
      rw [HO2.out i hi0 hi1, if_pos rfl] at hoc
      have hob : wr.cell? ⟨ob, 0, none⟩ = some (.slice (some ⟨og, 0, none⟩) nx.length cO) := (blk_cell HM2.out.obk 0).trans rfl
      have hkl2 : ks.length ≤ 9223372036854775807 := by omega
      by_cases hcl : c < ks.length
      · obtain ⟨ad2, e, hc⟩ := Kd.at_int (Kd.C_below HKR.out HM2.out.below) c hc0 hcl
        cases e
        have hkm : rd ks c ∈ ks := rd_mem hc0 hcl
        have hsn : ks.take (c + 1).toNat = ks.take c.toNat ++ [rd ks c] := by
          rw [show (c + 1).toNat = c.toNat + 1 from by omega, List.take_succ_eq_append_getElem (by omega)]
          simp [rd, List.getD_eq_getElem?_getD, List.getElem?_eq_getElem (by omega : c.toNat < ks.length)]
        obtain ⟨k, hk⟩ : ∃ k, k = rd ks c := ⟨_, rfl⟩
        rw [← hk] at hc hkm hsn
        rw [HKL.out] at hkm
        have hkk := (kidsN_mem id i nx.length k).1 hkm
        have hdu := HX.out.dom_up HG.out hkk.1 hkk.2.1 (by rw [hkk.2.2]; exact hi0)
        have hkr : Reach nx st (-1) k := hdu.1.1
        have hkp : nx.length + 1 - Pn pl k ≤ m := by
          have h2 : rd id k ≠ -2 := by rw [hkk.2.2]; omega
          have h3 := (HT.out.up k hkk.1 hkk.2.1 h2).2
          have h4 := HT.out.pos k hkk.1 hkk.2.1 h2
          rw [hkk.2.2] at h3
          have h5 := Pn_of (pl := pl) hkk.1
          have := HMM.out
          omega
        have hki : domC nx st k i = false := by
          rw [← Bool.not_eq_true, domC_iff]
          intro hd
          rw [hkk.2.2] at hdu
          exact hdu.2 (dom_antisymm hdu.1 hd)
        have hab : wr.cell? ⟨ab, 0, none⟩ = some (.func (.func 50) #[] #[.pointer (some ⟨wb, 0, none⟩), .pointer (some ⟨ob, 0, none⟩), .pointer (some ⟨kb, 0, none⟩), .pointer (some ⟨ab, 0, none⟩)]) := (blk_cell HM2.out.abk 0).trans rfl
        have HKKR := Aside0.mk (And.intro hkr hkp)
        have HKI2 := Aside0.mk hki
        have HSN := Aside0.mk hsn
        clear hk hkm hkk hdu hkr hkp hki hsn
        go_wp2_with fail
        refine (HIH.out k o2 wr HKKR.out.1 HKKR.out.2 HM2.out).mono ?_
        rintro e w3 ⟨rfl, o3, hm3, hk3, ho3⟩
        have HM3 := Aside0.mk hm3
        have HK3 := Aside0.mk (HK2.out.trans hk3)
        have HO3 := Aside0.mk ho3
        clear hm3 hk3 ho3 hoc hof hob hab hc
        have hbnd2 : 0 ≤ retW nx st ws k ∧ retW nx st ws k ≤ 8589934592 := by
          have := sumIf_bound (p := domC nx st k) HWS.out nx.length
          unfold retW
          omega
        obtain ⟨S, hS⟩ : ∃ S, S = sumL (retW nx st ws) (ks.take c.toNat) := ⟨_, rfl⟩
        have HSD := Aside0.mk hS
        rw [← hS] at hbnd
        obtain ⟨r, hr⟩ : ∃ r, r = retW nx st ws k := ⟨_, rfl⟩
        rw [← hr] at hbnd2
        have hSn : Aside0 (sumL (retW nx st ws) (ks.take (c + 1).toNat) = S + r) := ⟨by rw [HSN.out, sumL_snoc, hS, hr]⟩
        obtain ⟨hoc, hof⟩ := HM3.out.at i hi0 hi1
        rw [HO3.out i hi0 hi1, HKI2.out, if_neg (by decide), HO2.out i hi0 hi1, if_pos rfl, ← hS] at hoc
        have hob : w3.cell? ⟨ob, 0, none⟩ = some (.slice (some ⟨og, 0, none⟩) nx.length cO) := (blk_cell HM3.out.obk 0).trans rfl
        have HRR := Aside0.mk hr
        obtain ⟨hb1, hb2⟩ := hbnd
        obtain ⟨hb3, hb4⟩ := hbnd2
        obtain ⟨hb5, hb6⟩ := hx9
        rw [← hr]
        clear hS hr
        go_wp2_with fail
        go_roundw
        case rel =>
          refine ⟨c + 1, o3.set i.toNat (x + S + r), rfl, by omega, by omega, ⟨HM3.out.put i (x + S + r)⟩, ⟨HK3.out.trans (KeepsBut.set _ _ _)⟩, ⟨fun j h0 h1 => ?_⟩⟩
          rw [rd_setL o3 i j _ hi0 (by rw [HM3.out.len]; exact hi1) h0]
          by_cases cj : j = i
          · rw [if_pos cj, if_pos cj, hSn.out]; omega
          · rw [if_neg cj, if_neg cj, HO3.out j h0 h1, HO2.out j h0 h1, if_neg cj, HSN.out, List.any_append]
            by_cases c1 : domC nx st k j = true
            · rw [if_pos c1, if_pos (by simp [c1])]
            · rw [if_neg c1]
              by_cases c2 : ((ks.take c.toNat).any fun k => domC nx st k j) = true
              · rw [if_pos c2, if_pos (by rw [c2]; rfl)]
              · rw [if_neg c2, if_neg (by rw [Bool.not_eq_true] at c1 c2; rw [c2]; simp [c1])]
        case measure => simp [intOf]; omega
      · have hret := retW_eq HG.out HX.out ws HI.out
        rw [show c.toNat = ks.length from by omega, List.take_length, HKL.out, HXX.out, ← hret] at hoc
        have HR := Aside0.mk hret
        have hfin : Aside0 (∀ j : Int, 0 ≤ j → j < nx.length → rd o2 j = if domC nx st i j = true then retW nx st ws j else rd out j) := ⟨fun j h0 h1 => by
          have h := HO2.out j h0 h1
          rw [show c.toNat = ks.length from by omega, List.take_length, HKL.out] at h
          rw [h]
          by_cases cj : j = i
          · rw [if_pos cj, if_pos (by rw [cj]; exact domC_iff.2 (Dom.self HI.out)), cj, hret, HXX.out]
          · rw [if_neg cj]
            have hs := dom_split HG.out HX.out HI.out h0 h1
            by_cases cd : domC nx st i j = true
            · rw [if_pos cd, if_pos]
              rcases hs.1 (domC_iff.1 cd) with e | ⟨k, k0, k1, k2, k3⟩
              · exact absurd e cj
              · exact List.any_eq_true.2 ⟨k, (kidsN_mem _ _ _ _).2 ⟨k0, k1, k2⟩, domC_iff.2 k3⟩
            · rw [if_neg cd, if_neg]
              intro e
              obtain ⟨k, hk, k3⟩ := List.any_eq_true.1 e
              obtain ⟨k0, k1, k2⟩ := (kidsN_mem _ _ _ _).1 hk
              exact cd (domC_iff.2 (hs.2 (.inr ⟨k, k0, k1, k2, domC_iff.1 k3⟩)))⟩
        clear hret hbnd hx9
        obtain ⟨r, hr⟩ : ∃ r, r = retW nx st ws i := ⟨_, rfl⟩
        rw [← hr] at hoc
        have HRR := Aside0.mk hr
        clear hr
        go_wp2_with fail
        go_ret
        exact ⟨ret_int HRR.out, o2, HM2.out, HK2.out, hfin.out⟩
end Go.Proofs.Ytgbmebnfbhdpiaa
