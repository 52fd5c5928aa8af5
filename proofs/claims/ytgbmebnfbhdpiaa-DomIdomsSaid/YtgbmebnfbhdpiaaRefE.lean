/- The walks of the document's count, Idom and Kids: they answer as the program's own do. -/
import Derived.Test.YtgbmebnfbhdpiaaRefC
import Derived.Test.YtgbmebnfbhdpiaaRefM
set_option linter.unusedSimpArgs false
set_option linter.unusedVariables false
namespace Go.Proofs.Ytgbmebnfbhdpiaa
open Go.RowKit Go.Proofs.YtgbmebnfbhdpiaaW.PrintWords Go.Proofs.YtgbmebnfbhdpiaaW.PrintLast

set_option maxHeartbeats 1000000 in
theorem f46_any (A : Option Addr) (c : Nat) (l : List Bool) (w : World) (hx : Kd.C Kd.bool w A l.length l) (hl : l.length ≤ 8192) :
    Calls Try.prog 46 #[.slice A l.length c] w fun e w' => e = .returned (.int .i64 (cnt l)) ∧ w' = w := by
  have HX := Aside0.mk hx
  clear hx
  go_enter Try.func46, Try.ntmps46
  go_wp2
  go_loop [4, 3] (fun v4 v3 => ∃ i : Int, v4 = .int .i64 i ∧ v3 = .int .i64 (sumIf (rdOf false l) (ones l.length) i.toNat) ∧ 0 ≤ i ∧ i ≤ l.length) (fun v _ => l.length - (intOf v).toNat)
  case atStart => exact ⟨0, rfl, rfl, Int.le_refl _, by omega⟩
  case round =>
    obtain ⟨i, rfl, rfl, h0, hk⟩ := hrel
    have hb := sumIf_bound (p := rdOf false l) (ones_bound l.length) i.toNat
    by_cases hlt : i < l.length
    case neg =>
      go_wp2
      go_ret
      refine ⟨ret_int ?_, rfl⟩
      unfold cnt
      rw [show i.toNat = l.length from by omega]
    obtain ⟨ad, e, hc⟩ := Kd.at_bool HX.out i h0 hlt
    cases e
    have hsn : sumIf (rdOf false l) (ones l.length) (i + 1).toNat = sumIf (rdOf false l) (ones l.length) i.toNat + (if rdOf false l i = true then 1 else 0) := by
      rw [show (i + 1).toNat = i.toNat + 1 from by omega]
      simp only [sumIf]
      rw [Int.toNat_of_nonneg h0, rd_ones h0 hlt]
    obtain ⟨S, hS⟩ : ∃ S, S = sumIf (rdOf false l) (ones l.length) i.toNat := ⟨_, rfl⟩
    rw [← hS] at hb hsn ⊢
    obtain ⟨b, hbb⟩ : ∃ b, b = rdOf false l i := ⟨_, rfl⟩
    rw [← hbb] at hc hsn
    have HSN := Aside0.mk hsn
    clear hS hbb hsn
    cases b
    · go_wp2
      go_round
      case rel => exact ⟨i + 1, rfl, by rw [HSN.out]; simp, by omega, by omega⟩
      case measure => simp [intOf]; omega
    · go_wp2
      go_round
      case rel => exact ⟨i + 1, rfl, by rw [HSN.out]; simp, by omega, by omega⟩
      case measure => simp [intOf]; omega

theorem R_away1 {w : World} {base X g n cap i : Nat} {O M : List Int} {vm : Value} (ho : Kd.R (Kd.int .i64) 3 w base (fun k => k < X) (.slice (some ⟨g, 0, none⟩) n cap) O) (hm : Kd.R (Kd.int .i64) 3 w X (fun _ => True) vm M) (u : Value) :
    Kd.R (Kd.int .i64) 3 (w.setCell ⟨g, i, none⟩ u) X (fun _ => True) vm M :=
  Kd.R_mono (Kd.R_far (p := ⟨g, i, none⟩) (Kd.R_bound hm) (fun k hk e => by
    have h1 : g < X := ho.1 g rfl
    have h2 := hk.2.1
    have h3 : k = g := e
    omega) u) (fun _ _ => trivial)
theorem R_away2 {w : World} {base X g n cap i : Nat} {O M : List Int} {vo : Value} (hg : X ≤ g) (ho : Kd.R (Kd.int .i64) 3 w base (fun k => k < X) vo O) (u : Value) :
    Kd.R (Kd.int .i64) 3 (w.setCell ⟨g, i, none⟩ u) base (fun k => k < X) vo O :=
  Kd.R_far (p := ⟨g, i, none⟩) ho (fun k hk e => by
    have h3 : k = g := e
    omega) u
theorem rd_replicate0 (n : Nat) (i : Int) : rd (List.replicate n (0 : Int)) i = 0 := by
  unfold rd; rw [List.getD_eq_getElem?_getD, List.getElem?_replicate]; split <;> rfl
theorem rdOf0 (l : List Int) (i : Int) : rdOf 0 l i = rd l i := rfl

set_option maxRecDepth 100000 in
set_option maxHeartbeats 8000000 in
theorem f14_any (A0 : Option Addr) (c0 : Nat) (A1 : Option Addr) (c1 : Nat) (nx : List (List Int)) (st : List Int) (w : World) (hn : NetC w A0 c0 A1 c1 nx st) :
    Calls Try.prog 14 #[.agg #[.slice A0 nx.length c0, .slice A1 st.length c1]] w fun e w' => ∃ v, e = .returned (.tuple #[v, .int .i64 (checkE nx st)]) ∧ Kd.R (Kd.int .i64) 3 w' w.heap.size (fun _ => True) v (idomL nx st) ∧ Below w.heap.size w w' := by
  have HN := Aside0.mk hn
  clear hn
  have HB0 : Aside0 (∀ cs : Array Value, Below w.heap.size w (w.alloc (.cells cs 25))) := ⟨fun _ => (Below.refl _ _).alloc (Nat.le_refl _) _⟩
  go_enter Try.func14, Try.ntmps14
  go_wp2_with fail
  refine (f26_any A0 c0 A1 c1 nx st _ (HN.out.below (HB0.out _))).mono ?_
  rintro e w1 ⟨vs, rfl, hr, hb⟩
  obtain ⟨hbk, hz, hb1⟩ := boxed hb
  have HB1 := Aside0.mk hb1
  have HBK := Aside0.mk hbk
  clear hb1 hbk hb
  by_cases hok : netOk nx st = true
  case neg =>
    rw [Bool.not_eq_true] at hok
    rw [checkE_bad hok]
    have HOK := Aside0.mk hok
    clear hok hr
    go_wp2_with fail
    go_ret2
    exact ⟨_, ret_vi (checkE_bad HOK.out).symm, by rw [idomL_bad HOK.out]; exact Kd.R_nil _ _ _ _ _, HB1.out⟩
  rw [reachA_ok hok] at hr
  rw [checkE_ok hok]
  obtain ⟨AS, kS, eS⟩ := Kd.R_slice hr
  rw [reachB_len] at eS
  subst eS
  have hcs := (Kd.R_reads' hr).2.2
  rw [reachB_len] at hcs
  have HCS := Aside0.mk hcs
  clear hcs hr
  have HOK := Aside0.mk hok
  have HG := Aside0.mk (good_of_ok hok)
  have hnl := HG.out.len
  have HX := Aside0.mk (idomX_net HN.out hok)
  obtain ⟨sn, hsn⟩ : ∃ sn, sn = reachB nx st (-1) := ⟨_, rfl⟩
  rw [← hsn] at HCS
  have HSN : Aside0 (∀ x : Int, 0 ≤ x → x < nx.length → (rdOf false sn x = true ↔ Reach nx st (-1) x)) := ⟨fun x h0 h1 => by rw [hsn]; exact rdOf_reachB nx st (-1) x h0 h1⟩
  clear hsn hok
  obtain ⟨wo, rfl⟩ : ∃ wo : World, wo = w1 := ⟨_, rfl⟩
  have HBR : Aside0 (Below wo.heap.size wo wo) := ⟨Below.refl _ _⟩
  go_wp2_with (first
    | ((with_reducible refine gate_dst (N := 26) rfl ?_); go_loud (refine Kd.R_make (Kd.int .i64) (w0 := wo) wo.heap.size 3 rfl (N := 26) rfl 23 _ _ rfl (nx.length : Int) rfl rfl Try.underlying23 (.int .i64 0) 8 info3 rfl (by decide) (by omega) 0 (ok := fun _ => True) (okp := fun _ => True) rfl (fun _ hk => hk) trivial (by omega) (by omega) HBR.out (Nat.le_refl _) ?_; intro v26 w3 ho hb hgr hnew; clear hnew; obtain ⟨AO, kO, eO⟩ := Kd.R_slice ho; rw [List.length_replicate, Int.toNat_natCast] at eO; subst eO; rw [Int.toNat_natCast] at ho; have HO := Aside0.mk ho; have HB3 := Aside0.mk hb; have HB33 : Aside0 (Below w3.heap.size w3 w3) := ⟨Below.refl _ _⟩; clear ho hb hgr))
    | ((with_reducible refine gate_dst (N := 29) rfl ?_); go_loud (refine Kd.R_make (Kd.int .i64) (w0 := w3) w3.heap.size 3 rfl (N := 29) rfl 23 _ _ rfl (nx.length : Int) rfl rfl Try.underlying23 (.int .i64 0) 8 info3 rfl (by decide) (by omega) 0 (ok := fun _ => True) (okp := fun _ => True) rfl (fun _ hk => hk) trivial (by omega) (by omega) HB33.out (Nat.le_refl _) ?_; intro v29 w4 ho hb hgr hnew; clear hnew; obtain ⟨AM, kM, eM⟩ := Kd.R_slice ho; rw [List.length_replicate, Int.toNat_natCast] at eM; subst eM; rw [Int.toNat_natCast] at ho; have HM := Aside0.mk ho; have HO4 := Aside0.mk (Kd.R_grown (Kd.R_mono (ok' := fun k => k < w3.heap.size) (Kd.R_bound HO.out) (fun k hk => hk.2.2.1)) hgr (fun k hk e => by cases e)); have HB4 := Aside0.mk (below_trans HB3.out hb); clear ho hb hgr)))
  have HSZ : Aside0 (wo.heap.size ≤ w3.heap.size) := ⟨HB3.out.size⟩
  obtain ⟨X, hX⟩ : ∃ X, X = w3.heap.size := ⟨_, rfl⟩
  rw [← hX] at HM HO4 HSZ
  clear hX HB3 HB33 HO HBR
  go_loopw [8] (fun v8 wr => ∃ (i : Int) (O : List Int), v8 = .int .i64 i ∧ 0 ≤ i ∧ i ≤ nx.length ∧ Aside0 (O.length = nx.length ∧ ∀ j : Int, 0 ≤ j → j < i → rd O j = if rdOf false sn j = true then -1 else -2) ∧ Aside0 (Kd.R (Kd.int .i64) 3 wr wo.heap.size (fun k => k < X) (.slice AO nx.length kO) O) ∧ Aside0 (Kd.R (Kd.int .i64) 3 wr X (fun _ => True) (.slice AM nx.length kM) (List.replicate nx.length 0)) ∧ Aside0 (Below wo.heap.size wo wr)) (fun v _ => nx.length - (intOf v).toNat)
  case atStart => exact ⟨0, List.replicate nx.length 0, rfl, by omega, by omega, ⟨by simp, fun j h0 h1 => by omega⟩, HO4, HM, HB4⟩
  case round =>
    clear HO4 HM HB4
    obtain ⟨i, O, rfl, hi0, hi1, HP, HO, HM, HB⟩ := hrel
    by_cases hil : i < nx.length
    case pos =>
      have hif : decide (i < (nx.length : Int)) = true := decide_eq_true hil
      obtain ⟨g, cap, hvs, hbg, hgl, cells, hgc⟩ := Kd.R_form HO.out (by have := HP.out.1; omega)
      have hv1 := (Value.slice.inj hvs).1
      subst hv1
      clear hvs cells hgc hgl cap
      obtain ⟨hoc, hof⟩ := R_celln 0 HO.out i hi0 hil
      have HO2 := Aside0.mk (Kd.R_putn HO.out i (-2))
      have HM2 := Aside0.mk (R_away1 (i := i.toNat) HO.out HM.out (.int .i64 (-2)))
      have HB2 := Aside0.mk (HB.out.setCell (p := ⟨g, i.toNat, none⟩) hbg (.int .i64 (-2)))
      obtain ⟨hoc2, hof2⟩ := R_celln 0 HO2.out i hi0 hil
      obtain ⟨ads, e, hsc⟩ := Kd.at_bool (Kd.C_below HCS.out HB2.out) i hi0 hil
      cases e
      obtain ⟨b, hb⟩ : ∃ b, b = rdOf false sn i := ⟨_, rfl⟩
      rw [← hb] at hsc
      have HBB := Aside0.mk hb
      clear hb
      have HBG := Aside0.mk hbg
      have hset : ∀ x y : Int, (O.set i.toNat x).length = nx.length ∧ ∀ j : Int, 0 ≤ j → j < i + 1 → rd (O.set i.toNat x) j = if j = i then x else (if rdOf false sn j = true then -1 else -2) := fun x _ => ⟨by rw [List.length_set]; exact HP.out.1, fun j j0 j1 => by
        rw [rd_setL O i j x hi0 (by rw [HP.out.1]; exact hil) j0]
        by_cases c : j = i
        · rw [if_pos c, if_pos c]
        · rw [if_neg c, if_neg c]; exact HP.out.2 j j0 (by omega)⟩
      have HSET := Aside0.mk hset
      clear hset hbg
      cases b
      · go_wp2_with fail
        go_roundw
        case rel => exact ⟨i + 1, O.set i.toNat (-2), rfl, by omega, by omega, ⟨(HSET.out (-2) 0).1, fun j j0 j1 => by
          rw [(HSET.out (-2) 0).2 j j0 j1]
          by_cases c : j = i
          · subst c; rw [if_pos rfl, ← HBB.out]; rfl
          · rw [if_neg c]⟩, HO2, HM2, HB2⟩
        case measure => simp [intOf]; omega
      · have HO3 := Aside0.mk (Kd.R_putn HO2.out i (-1))
        have HM3 := Aside0.mk (R_away1 (i := i.toNat) HO2.out HM2.out (.int .i64 (-1)))
        have HB3 := Aside0.mk (HB2.out.setCell (p := ⟨g, i.toNat, none⟩) HBG.out (.int .i64 (-1)))
        rw [List.set_set] at HO3
        go_wp2_with fail
        go_roundw
        case rel => exact ⟨i + 1, O.set i.toNat (-1), rfl, by omega, by omega, ⟨(HSET.out (-1) 0).1, fun j j0 j1 => by
          rw [(HSET.out (-1) 0).2 j j0 j1]
          by_cases c : j = i
          · subst c; rw [if_pos rfl, ← HBB.out]; rfl
          · rw [if_neg c]⟩, HO3, HM3, HB3⟩
        case measure => simp [intOf]; omega
    have hif : decide (i < (nx.length : Int)) = false := decide_eq_false hil
    have HP1 : Aside0 (O.length = nx.length ∧ ∀ j : Int, 0 ≤ j → j < nx.length → Best nx st 0 j (rd O j)) := ⟨HP.out.1, fun j j0 j1 => by
      rw [HP.out.2 j j0 (by omega)]
      by_cases c : rdOf false sn j = true
      · rw [if_pos c]; exact best_start j ((HSN.out j j0 j1).1 c)
      · rw [if_neg c]; exact best_none (fun h => c ((HSN.out j j0 j1).2 h))⟩
    clear HP
    go_wp2_with fail
    go_loopw [9] (fun v9 wr => ∃ (a : Int) (M : List Int), v9 = .int .i64 a ∧ 0 ≤ a ∧ a ≤ nx.length ∧ Aside0 (M.length = nx.length ∧ ∀ j : Int, 0 ≤ j → j < a → Reach nx st (-1) j → rd M j = manyI nx st j) ∧ Aside0 (Kd.R (Kd.int .i64) 3 wr wo.heap.size (fun k => k < X) (.slice AO nx.length kO) O) ∧ Aside0 (Kd.R (Kd.int .i64) 3 wr X (fun _ => True) (.slice AM nx.length kM) M) ∧ Aside0 (Below wo.heap.size wo wr)) (fun v _ => nx.length - (intOf v).toNat)
    case atStart => exact ⟨0, List.replicate nx.length 0, rfl, by omega, by omega, ⟨by simp, fun j h0 h1 => by omega⟩, HO, HM, HB⟩
    case round =>
      clear HO HM HB
      obtain ⟨a, M, rfl, ha0, ha1, HQ, HO, HM, HB⟩ := hrel
      by_cases hal : a < nx.length
      case pos =>
        obtain ⟨ads, e, hsc⟩ := Kd.at_bool (Kd.C_below HCS.out HB.out) a ha0 hal
        cases e
        obtain ⟨b, hb⟩ : ∃ b, b = rdOf false sn a := ⟨_, rfl⟩
        rw [← hb] at hsc
        have HBB := Aside0.mk hb
        clear hb
        cases b
        · go_wp2_with fail
          go_roundw
          case rel => exact ⟨a + 1, M, rfl, by omega, by omega, ⟨HQ.out.1, fun j j0 j1 hj => by
            by_cases c : j = a
            · subst c; rw [← HSN.out j j0 hal, ← HBB.out] at hj; cases hj
            · exact HQ.out.2 j j0 (by omega) hj⟩, HO, HM, HB⟩
          case measure => simp [intOf]; omega
        obtain ⟨hn0, hn1⟩ := box2 (blk_below HBK.out HB.out)
        go_wp2_with fail
        refine (f28_any A0 c0 A1 c1 nx st a _ (HN.out.below (below_trans HB1.out HB.out))).mono ?_
        rintro e w5 ⟨v5, rfl, hr, hb⟩
        have hia : inNet nx a = true := by simp [inNet]; omega
        rw [(gone_ok HOK.out hia).2] at hr
        rw [(gone_ok HOK.out hia).1]
        clear hia
        obtain ⟨AG, kG, eG⟩ := Kd.R_slice hr
        rw [goneB_len] at eG
        subst eG
        have hcg := (Kd.R_reads' hr).2.2
        have HCG := Aside0.mk hcg
        have HO5 := Aside0.mk (Kd.R_below HO.out hb)
        have HM5 := Aside0.mk (Kd.R_below HM.out hb)
        have HB5 := Aside0.mk (below_trans HB.out hb)
        clear hr hb hn0 hn1 hcg hsc HO HM HB
        go_wp2_with fail
        have hgg := HCG.out
        rw [goneB_len] at hgg
        refine (show Calls Try.prog 46 #[.slice AG nx.length kG] w5 fun e w' => e = .returned (.int .i64 (manyI nx st a)) ∧ w' = w5 from by
          have := f46_any AG kG (goneB nx st a) w5 HCG.out (by rw [goneB_len]; exact HG.out.len)
          rw [goneB_len, cnt_gone HG.out] at this
          exact this).mono ?_
        rintro e w6 ⟨rfl, rfl⟩
        obtain ⟨g, cap, hvs, hbg, hgl, cells, hgc⟩ := Kd.R_form HM5.out (by have := HQ.out.1; omega)
        have hv1 := (Value.slice.inj hvs).1
        subst hv1
        clear hvs cells hgc hgl cap hgg
        obtain ⟨hmc, hmf⟩ := R_celln 0 HM5.out a ha0 hal
        obtain ⟨m, hm⟩ : ∃ m, m = manyI nx st a := ⟨_, rfl⟩
        rw [← hm]
        have HM6 := Aside0.mk (Kd.R_putn HM5.out a m)
        have HO6 := Aside0.mk (R_away2 (M := []) (n := 0) (cap := 0) (i := a.toNat) hbg HO5.out (.int .i64 m))
        have HB6 := Aside0.mk (HB5.out.setCell (p := ⟨g, a.toNat, none⟩) (Nat.le_trans HSZ.out hbg) (.int .i64 m))
        have HMM := Aside0.mk hm
        clear hm hbg
        go_wp2_with fail
        go_roundw
        case rel => exact ⟨a + 1, M.set a.toNat m, rfl, by omega, by omega, ⟨by rw [List.length_set]; exact HQ.out.1, fun j j0 j1 hj => by
          rw [rd_setL M a j m ha0 (by rw [HQ.out.1]; exact hal) j0]
          by_cases c : j = a
          · subst c; rw [if_pos rfl]; exact HMM.out
          · rw [if_neg c]; exact HQ.out.2 j j0 (by omega) hj⟩, HO6, HM6, HB6⟩
        case measure => simp [intOf]; omega
      have HQ1 : Aside0 (M.length = nx.length ∧ ∀ j : Int, 0 ≤ j → j < nx.length → Reach nx st (-1) j → rd M j = manyI nx st j) := ⟨HQ.out.1, fun j j0 j1 hj => HQ.out.2 j j0 (by omega) hj⟩
      clear HQ
      go_wp2_with fail
      go_loopw [12] (fun v12 wr => ∃ (a : Int) (O : List Int), v12 = .int .i64 a ∧ 0 ≤ a ∧ a ≤ nx.length ∧ Aside0 (O.length = nx.length ∧ ∀ j : Int, 0 ≤ j → j < nx.length → Best nx st a j (rd O j)) ∧ Aside0 (Kd.R (Kd.int .i64) 3 wr wo.heap.size (fun k => k < X) (.slice AO nx.length kO) O) ∧ Aside0 (Kd.R (Kd.int .i64) 3 wr X (fun _ => True) (.slice AM nx.length kM) M) ∧ Aside0 (Below wo.heap.size wo wr)) (fun v _ => nx.length - (intOf v).toNat)
      case atStart => exact ⟨0, O, rfl, by omega, by omega, HP1, HO, HM, HB⟩
      case round =>
        clear HO HM HB HP1
        obtain ⟨a, O, rfl, ha0, ha1, HP, HO, HM, HB⟩ := hrel
        by_cases hal : a < nx.length
        case neg =>
          have HE : Aside0 (O = idomA nx st) := ⟨idoms_end HG.out HX.out HP.out.1 (fun b b0 b1 => by
            have := HP.out.2 b b0 b1
            rw [show a = (nx.length : Int) from by omega] at this
            exact this)⟩
          go_wp2_with fail
          go_ret2
          refine ⟨_, ret_vi (checkE_ok HOK.out).symm, ?_, below_trans HB1.out HB.out⟩
          rw [idomL_ok HOK.out, ← HE.out]
          exact Kd.R_lower (Kd.R_mono HO.out (fun _ _ => trivial)) HB1.out.size
        obtain ⟨ads, e, hsc⟩ := Kd.at_bool (Kd.C_below HCS.out HB.out) a ha0 hal
        cases e
        obtain ⟨b, hb⟩ : ∃ b, b = rdOf false sn a := ⟨_, rfl⟩
        rw [← hb] at hsc
        have HBB := Aside0.mk hb
        clear hb
        cases b
        · have hnr : ¬ Reach nx st (-1) a := fun h => by rw [← HSN.out a ha0 hal, ← HBB.out] at h; cases h
          have HP2 : Aside0 (O.length = nx.length ∧ ∀ j : Int, 0 ≤ j → j < nx.length → Best nx st (a + 1) j (rd O j)) := ⟨HP.out.1, fun j j0 j1 => best_skip (HP.out.2 j j0 j1) hnr⟩
          clear hnr
          go_wp2_with fail
          go_roundw
          case rel => exact ⟨a + 1, O, rfl, by omega, by omega, HP2, HO, HM, HB⟩
          case measure => simp [intOf]; omega
        have HRA : Aside0 (Reach nx st (-1) a) := ⟨(HSN.out a ha0 hal).1 HBB.out.symm⟩
        obtain ⟨hn0, hn1⟩ := box2 (blk_below HBK.out HB.out)
        go_wp2_with fail
        refine (f28_any A0 c0 A1 c1 nx st a _ (HN.out.below (below_trans HB1.out HB.out))).mono ?_
        rintro e w5 ⟨v5, rfl, hr, hb⟩
        have hia : inNet nx a = true := by simp [inNet]; omega
        rw [(gone_ok HOK.out hia).2] at hr
        rw [(gone_ok HOK.out hia).1]
        clear hia
        obtain ⟨AG, kG, eG⟩ := Kd.R_slice hr
        rw [goneB_len] at eG
        subst eG
        have hcg := (Kd.R_reads' hr).2.2
        rw [goneB_len] at hcg
        have HRG := Aside0.mk hr
        have HO5 := Aside0.mk (Kd.R_below HO.out hb)
        have HM5 := Aside0.mk (Kd.R_below HM.out hb)
        have HB5 := Aside0.mk (below_trans HB.out hb)
        have HXL : Aside0 (∀ k, k < X → k < wr.heap.size ∨ True) := ⟨fun _ _ => .inr trivial⟩
        clear hr hb hn0 hn1 hcg hsc HO HM HB HXL
        have HGD : Aside0 (∀ j : Int, 0 ≤ j → j < nx.length → (rdOf false (goneB nx st a) j = true ↔ Dom nx st a j)) := ⟨fun j j0 j1 => by rw [← domC_gone HG.out a j j0 j1, domC_iff]⟩
        have hgl0 : (goneB nx st a).length = nx.length := goneB_len nx st a
        obtain ⟨G, hG⟩ : ∃ G, G = goneB nx st a := ⟨_, rfl⟩
        rw [← hG] at HRG HGD hgl0
        have HGL := Aside0.mk hgl0
        clear hG hgl0
        have hmr := HQ1.out.2 a ha0 hal HRA.out
        have HMA := Aside0.mk hmr
        clear hmr
        have HP3 : Aside0 (O.length = nx.length ∧ ∀ j : Int, 0 ≤ j → j < nx.length → Best nx st (if j < 0 then a + 1 else a) j (rd O j)) := ⟨HP.out.1, fun j j0 j1 => by rw [if_neg (by omega)]; exact HP.out.2 j j0 j1⟩
        go_wp2_with fail
        obtain ⟨wp, hwp⟩ : ∃ wp : World, wp = wr := ⟨_, rfl⟩
        subst hwp
        go_loopw [15] (fun v15 wr => ∃ (b : Int) (O : List Int), v15 = .int .i64 b ∧ 0 ≤ b ∧ b ≤ nx.length ∧ Aside0 (O.length = nx.length ∧ ∀ j : Int, 0 ≤ j → j < nx.length → Best nx st (if j < b then a + 1 else a) j (rd O j)) ∧ Aside0 (Kd.R (Kd.int .i64) 3 wr wo.heap.size (fun k => k < X) (.slice AO nx.length kO) O) ∧ Aside0 (Kd.R (Kd.int .i64) 3 wr X (fun _ => True) (.slice AM nx.length kM) M) ∧ Aside0 (Kd.R Kd.bool 4 wr wp.heap.size (fun _ => True) (.slice AG nx.length kG) G) ∧ Aside0 (Below wo.heap.size wo wr)) (fun v _ => nx.length - (intOf v).toNat)
        case atStart => exact ⟨0, O, rfl, by omega, by omega, HP3, HO5, HM5, HRG, HB5⟩
        case round =>
          clear HO5 HM5 HB5 HP3 HP HRG
          obtain ⟨b, O, rfl, hb0, hb1, HP, HO, HM, HR, HB⟩ := hrel
          by_cases hbl : b < nx.length
          case neg =>
            have hbf : decide (b < (nx.length : Int)) = false := decide_eq_false hbl
            have HP2 : Aside0 (O.length = nx.length ∧ ∀ j : Int, 0 ≤ j → j < nx.length → Best nx st (a + 1) j (rd O j)) := ⟨HP.out.1, fun j j0 j1 => by
              have := HP.out.2 j j0 j1
              rw [if_pos (by omega)] at this
              exact this⟩
            go_wp2_with fail
            go_roundw
            case rel => exact ⟨a + 1, O, rfl, by omega, by omega, HP2, HO, HM, HB⟩
            case measure => simp [intOf]; omega
          have hbf : decide (b < (nx.length : Int)) = true := decide_eq_true hbl
          have HBE := Aside0.mk (show Best nx st a b (rd O b) from by
            have := HP.out.2 b hb0 hbl
            rw [if_neg (by omega)] at this
            exact this)
          -- how the next round's facts come: the b-th number is turned or not
          have HKEEP : Aside0 (Best nx st (a + 1) b (rd O b) → O.length = nx.length ∧ ∀ j : Int, 0 ≤ j → j < nx.length → Best nx st (if j < b + 1 then a + 1 else a) j (rd O j)) := ⟨fun h => ⟨HP.out.1, fun j j0 j1 => by
            by_cases c : j = b
            · subst c; rw [if_pos (by omega)]; exact h
            · have := HP.out.2 j j0 j1
              by_cases c2 : j < b
              · rw [if_pos c2] at this; rw [if_pos (by omega)]; exact this
              · rw [if_neg c2] at this; rw [if_neg (by omega)]; exact this⟩⟩
          have HTURN : Aside0 (Best nx st (a + 1) b a → (O.set b.toNat a).length = nx.length ∧ ∀ j : Int, 0 ≤ j → j < nx.length → Best nx st (if j < b + 1 then a + 1 else a) j (rd (O.set b.toNat a) j)) := ⟨fun h => ⟨by rw [List.length_set]; exact HP.out.1, fun j j0 j1 => by
            rw [rd_setL O b j a hb0 (by rw [HP.out.1]; exact hbl) j0]
            by_cases c : j = b
            · subst c; rw [if_pos rfl, if_pos (by omega)]; exact h
            · rw [if_neg c]
              have := HP.out.2 j j0 j1
              by_cases c2 : j < b
              · rw [if_pos c2] at this; rw [if_pos (by omega)]; exact this
              · rw [if_neg c2] at this; rw [if_neg (by omega)]; exact this⟩⟩
          have HOL := Aside0.mk HP.out.1
          clear HP
          obtain ⟨adg, e, hgc⟩ := Kd.at_bool (Kd.R_reads' HR.out).2.2 b hb0 (by have := HGL.out; omega)
          cases e
          by_cases hg : rdOf false G b = true
          case neg =>
            rw [Bool.not_eq_true] at hg
            rw [hg] at hgc
            have HNX := Aside0.mk (HKEEP.out (best_old HBE.out (fun hd => absurd ((HGD.out b hb0 hbl).2 hd.1) (by rw [hg]; decide))))
            clear hg
            go_wp2_with fail
            go_quiet (fail)
            go_wp2_with fail
            go_roundw
            case rel => exact ⟨b + 1, O, rfl, by omega, by omega, HNX, ⟨Kd.R_drewN HO.out nq⟩, ⟨Kd.R_drewN HM.out nq⟩, ⟨Kd.R_drewN HR.out nq⟩, ⟨pw_below_drewN HB.out nq⟩⟩
            case measure => simp [intOf]; omega
          rw [hg] at hgc
          have HDM := Aside0.mk ((HGD.out b hb0 hbl).1 hg)
          clear hg
          by_cases hba : b = a
          · have hbab : (b != a) = false := by simp [hba]
            have HNX := Aside0.mk (HKEEP.out (best_old HBE.out (fun hd => absurd hba hd.2)))
            clear hba
            go_wp2_with fail
            go_quiet (fail)
            go_wp2_with fail
            go_roundw
            case rel => exact ⟨b + 1, O, rfl, by omega, by omega, HNX, ⟨Kd.R_drewN HO.out nq⟩, ⟨Kd.R_drewN HM.out nq⟩, ⟨Kd.R_drewN HR.out nq⟩, ⟨pw_below_drewN HB.out nq⟩⟩
            case measure => simp [intOf]; omega
          have hbab : (b != a) = true := by simp [hba]
          have HSD : Aside0 (SDom nx st a b) := ⟨HDM.out, hba⟩
          clear hba
          obtain ⟨g, cap, hvs, hbg, hgl, cells, hgcx⟩ := Kd.R_form HO.out (by have := HOL.out; omega)
          have hv1 := (Value.slice.inj hvs).1
          subst hv1
          clear hvs hgl cap
          obtain ⟨hoc, hof⟩ := R_celln 0 HO.out b hb0 hbl
          rw [rdOf0] at hoc
          obtain ⟨o, ho⟩ : ∃ o, o = rd O b := ⟨_, rfl⟩
          rw [← ho] at hoc HBE HKEEP
          clear ho
          have HO7 := Aside0.mk (fun m : Nat => Kd.R_putn (Kd.R_drewN HO.out m) b a)
          have HM7 := Aside0.mk (fun m : Nat => R_away1 (i := b.toNat) (Kd.R_drewN HO.out m) (Kd.R_drewN HM.out m) (.int .i64 a))
          have HR7 := Aside0.mk (fun m : Nat => Kd.R_set (Kd.R_drewN HR.out m) (show (wr.drewN m).heap[g]? = _ from hgcx) (by decide) b.toNat (.int .i64 a))
          have HB7 := Aside0.mk (fun m : Nat => (pw_below_drewN HB.out m).setCell (p := ⟨g, b.toNat, none⟩) hbg (.int .i64 a))
          clear hgcx cells hbg
          by_cases ho0 : o < 0
          · have ho0b : decide (o < 0) = true := decide_eq_true ho0
            have HNX := Aside0.mk (HTURN.out (best_new HBE.out ha0 HSD.out (.inl ho0)))
            clear ho0
            go_wp2_with fail
            go_quiet (fail)
            go_wp2_with fail
            go_roundw
            case rel => exact ⟨b + 1, O.set b.toNat a, rfl, by omega, by omega, HNX, ⟨HO7.out nq⟩, ⟨HM7.out nq⟩, ⟨HR7.out nq⟩, ⟨HB7.out nq⟩⟩
            case measure => simp [intOf]; omega
          have ho0b : decide (o < 0) = false := decide_eq_false ho0
          have hod := best_dom_lt HG.out HBE.out HSD.out.1.1 (by omega)
          have hol := hod.1
          have hor := HQ1.out.2 o (by omega) hol hod.2
          obtain ⟨adm, e, hma⟩ := Kd.at_int (Kd.R_reads' HM.out).2.2 a ha0 (by have := HQ1.out.1; omega)
          cases e
          obtain ⟨adm2, e, hmo⟩ := Kd.at_int (Kd.R_reads' HM.out).2.2 o (by omega) (by have := HQ1.out.1; omega)
          cases e
          rw [HMA.out] at hma
          rw [hor] at hmo
          have ho1 : 0 ≤ o := by omega
          clear hor hod ho0
          obtain ⟨ma, hmae⟩ : ∃ ma, ma = manyI nx st a := ⟨_, rfl⟩
          obtain ⟨mo, hmoe⟩ : ∃ mo, mo = manyI nx st o := ⟨_, rfl⟩
          rw [← hmae] at hma
          rw [← hmoe] at hmo
          have HME := Aside0.mk (And.intro hmae hmoe)
          clear hmae hmoe
          by_cases hlt : ma < mo
          · have hltb : decide (ma < mo) = true := decide_eq_true hlt
            have HNX := Aside0.mk (HTURN.out (best_new HBE.out ha0 HSD.out (.inr (by rw [← HME.out.1, ← HME.out.2]; exact hlt))))
            clear hlt
            go_wp2_with fail
            go_quiet (fail)
            go_wp2_with fail
            go_roundw
            case rel => exact ⟨b + 1, O.set b.toNat a, rfl, by omega, by omega, HNX, ⟨HO7.out nq⟩, ⟨HM7.out nq⟩, ⟨HR7.out nq⟩, ⟨HB7.out nq⟩⟩
            case measure => simp [intOf]; omega
          · have hltb : decide (ma < mo) = false := decide_eq_false hlt
            have HNX := Aside0.mk (HKEEP.out (best_old HBE.out (fun _ hc => by
              rcases hc with hc | hc
              · omega
              · rw [← HME.out.1, ← HME.out.2] at hc; exact hlt hc)))
            clear hlt
            go_wp2_with fail
            go_quiet (fail)
            go_wp2_with fail
            go_roundw
            case rel => exact ⟨b + 1, O, rfl, by omega, by omega, HNX, ⟨Kd.R_drewN HO.out nq⟩, ⟨Kd.R_drewN HM.out nq⟩, ⟨Kd.R_drewN HR.out nq⟩, ⟨pw_below_drewN HB.out nq⟩⟩
            case measure => simp [intOf]; omega
end Go.Proofs.Ytgbmebnfbhdpiaa
