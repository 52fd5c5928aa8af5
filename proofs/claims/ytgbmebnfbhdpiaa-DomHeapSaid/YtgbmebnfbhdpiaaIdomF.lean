/- The walks of dom.Idom and dom.Dominates. -/
import Derived.Test.YtgbmebnfbhdpiaaClosestF
import Derived.Test.YtgbmebnfbhdpiaaGoneF
set_option linter.unusedSimpArgs false
set_option linter.unusedVariables false
namespace Go.Proofs.Ytgbmebnfbhdpiaa
open Go.RowKit Go.Proofs.YtgbmebnfbhdpiaaW.PrintWords Go.Proofs.YtgbmebnfbhdpiaaW.PrintLast

open Classical in
/-- Each node's closest one. -/
noncomputable def idomA (nx : List (List Int)) (st : List Int) : List Int := if h : ∃ id, IdomX nx st id then Classical.choose h else []
theorem idomA_eq {nx : List (List Int)} {st id : List Int} (hg : Good nx st) (h : IdomX nx st id) : id = idomA nx st := by
  have hx : ∃ id, IdomX nx st id := ⟨id, h⟩
  unfold idomA
  rw [dif_pos hx]
  exact idomX_unique hg h (Classical.choose_spec hx)
theorem sum_of_ok {nx : List (List Int)} {st : List Int} (h : netOk nx st = true) : sumLen nx ≤ 65536 := by
  unfold netOk at h
  simp only [Bool.and_eq_true, decide_eq_true_eq, Bool.not_eq_true'] at h
  omega
/-- What Idom answers. -/
noncomputable def idomL (nx : List (List Int)) (st : List Int) : List Int := if netOk nx st then idomA nx st else []
theorem idomL_ok {nx : List (List Int)} {st : List Int} (h : netOk nx st = true) : idomL nx st = idomA nx st := if_pos h
theorem idomL_bad {nx : List (List Int)} {st : List Int} (h : netOk nx st = false) : idomL nx st = [] := if_neg (by rw [h]; decide)

/-- The closest ones, as a list that is known. -/
theorem f45_idom (A0 : Option Addr) (c0 : Nat) (A1 : Option Addr) (c1 : Nat) (nx : List (List Int)) (st : List Int) (w : World) (hn : NetC w A0 c0 A1 c1 nx st) (hok : netOk nx st = true) :
    Calls Try.prog 45 #[.agg #[.slice A0 nx.length c0, .slice A1 st.length c1]] w fun e w' => ∃ A k, e = .returned (.slice A nx.length k) ∧ IdomX nx st (idomA nx st) ∧ Kd.R (Kd.int .i64) 3 w' w.heap.size (fun _ => True) (.slice A nx.length k) (idomA nx st) ∧ Below w.heap.size w w' := by
  refine (f45_any A0 c0 A1 c1 nx st w hn (good_of_ok hok) (sum_of_ok hok)).mono ?_
  rintro e w' ⟨v, id, rfl, hx, hr, hb⟩
  have := idomA_eq (good_of_ok hok) hx
  subst this
  obtain ⟨A, k, e⟩ := Kd.R_slice hr
  rw [hx.len] at e
  subst e
  exact ⟨A, k, rfl, hx, hr, hb⟩

set_option maxHeartbeats 1000000 in
theorem f13_any (A0 : Option Addr) (c0 : Nat) (A1 : Option Addr) (c1 : Nat) (nx : List (List Int)) (st : List Int) (w : World) (hn : NetC w A0 c0 A1 c1 nx st) :
    Calls Try.prog 13 #[.agg #[.slice A0 nx.length c0, .slice A1 st.length c1]] w fun e w' => ∃ v, e = .returned (.tuple #[v, .int .i64 (checkE nx st)]) ∧ Kd.R (Kd.int .i64) 3 w' w.heap.size (fun _ => True) v (idomL nx st) ∧ Below w.heap.size w w' ∧ (netOk nx st = true → IdomX nx st (idomA nx st)) := by
  have HN := Aside0.mk hn
  clear hn
  have HB0 : Aside0 (∀ cs : Array Value, Below w.heap.size w (w.alloc (.cells cs 25))) := ⟨fun _ => (Below.refl _ _).alloc (Nat.le_refl _) _⟩
  go_enter Try.func13, Try.ntmps13
  go_wp2_with fail
  refine (f23_any A0 c0 A1 c1 nx st _ (HN.out.below (HB0.out _))).mono ?_
  rintro e w1 ⟨rfl, hb⟩
  obtain ⟨hbk, hz, hb1⟩ := boxed hb
  obtain ⟨hn0, hn1⟩ := box2 hbk
  have HB1 := Aside0.mk hb1
  clear hb hb1 hbk
  by_cases hok : netOk nx st = true
  · rw [checkE_ok hok]
    have HOK := Aside0.mk hok
    clear hok
    go_wp2_with fail
    refine (f45_idom A0 c0 A1 c1 nx st _ (HN.out.below HB1.out) HOK.out).mono ?_
    rintro e w2 ⟨A, k, rfl, hix, hr, hb2⟩
    have HIX := Aside0.mk hix
    have HR := Aside0.mk hr
    have HB2 := Aside0.mk hb2
    clear hr hb2 hix
    go_wp2
    go_ret2
    refine ⟨_, ret_vi (checkE_ok HOK.out).symm, ?_, below_trans HB1.out HB2.out, fun _ => HIX.out⟩
    rw [idomL_ok HOK.out]
    exact Kd.R_lower HR.out HB1.out.size
  · rw [Bool.not_eq_true] at hok
    rw [checkE_bad hok]
    have HOK := Aside0.mk hok
    clear hok
    go_wp2_with fail
    go_ret2
    exact ⟨_, ret_vi (checkE_bad HOK.out).symm, by rw [idomL_bad HOK.out]; exact Kd.R_nil _ _ _ _ _, HB1.out, fun h => absurd (HOK.out.symm.trans h) (by decide)⟩

open Classical in
/-- What Dominates answers. -/
noncomputable def domB (nx : List (List Int)) (st : List Int) (a b : Int) : Bool := netOk nx st && inNet nx a && inNet nx b && decide (Dom nx st a b)
/-- How far it still is up from a node. -/
def upMu (pl id : List Int) (c : Int) : Nat := if c < 0 then 0 else if rd id c = -2 then 1 else Pn pl c + 1
theorem up_step {nx : List (List Int)} {st id pl : List Int} (hg : Good nx st) (h : IdomX nx st id) (ht : Tree nx.length pl id) {a c : Int} (h0 : 0 ≤ c) (h1 : c < nx.length) (hc : c ≠ a) :
    (Dom nx st a c ↔ 0 ≤ rd id c ∧ Dom nx st a (rd id c)) ∧ rd id c < nx.length ∧ upMu pl id (rd id c) < upMu pl id c := by
  by_cases hr : Reach nx st (-1) c
  · have hu := h.up hg hr
    have hn : rd id c ≠ -2 := by omega
    refine ⟨⟨fun hd => ?_, fun hd => ?_⟩, hu.2.1, ?_⟩
    · rcases ((h.anc a c hr).2 hd).or with e | ⟨e1, e2⟩
      · exact absurd e.symm hc
      · exact ⟨e1, (h.anc _ _ (hu.2.2.2 e1)).1 e2⟩
    · exact (h.anc a c hr).1 (.up h0 hd.1 ((h.anc _ _ (hu.2.2.2 hd.1)).2 hd.2))
    · have ⟨hk, hp⟩ := ht.up c h0 h1 hn
      unfold upMu
      rw [if_neg (by omega : ¬ c < 0), if_neg hn]
      rcases hk with e | ⟨e0, e1, e2⟩
      · rw [e, if_pos (by decide)]; omega
      · rw [if_neg (by omega), if_neg e2]; omega
  · have hn := (h.none c h0 h1).2 hr
    rw [hn]
    refine ⟨⟨fun hd => absurd hd.1 hr, fun hd => by omega⟩, by omega, ?_⟩
    unfold upMu
    rw [if_pos (by decide), if_neg (by omega : ¬ c < 0), if_pos hn]; omega

set_option maxRecDepth 100000 in
set_option maxHeartbeats 2000000 in
theorem f24_any (A0 : Option Addr) (c0 : Nat) (A1 : Option Addr) (c1 : Nat) (nx : List (List Int)) (st : List Int) (a b : Int) (w : World) (hn : NetC w A0 c0 A1 c1 nx st) :
    Calls Try.prog 24 #[.agg #[.slice A0 nx.length c0, .slice A1 st.length c1], .int .i64 a, .int .i64 b] w fun e w' => e = .returned (.bool (domB nx st a b)) ∧ Below w.heap.size w w' := by
  have HN := Aside0.mk hn
  have hL0 : nx.length ≤ 9223372036854775807 := hn.next.2.1
  clear hn
  have HB0 : Aside0 (∀ cs : Array Value, Below w.heap.size w (w.alloc (.cells cs 25))) := ⟨fun _ => (Below.refl _ _).alloc (Nat.le_refl _) _⟩
  go_enter Try.func24, Try.ntmps24
  go_wp2_with fail
  refine (f23_any A0 c0 A1 c1 nx st _ (HN.out.below (HB0.out _))).mono ?_
  rintro e w1 ⟨rfl, hb⟩
  obtain ⟨hbk, hz, hb1⟩ := boxed hb
  obtain ⟨hn0, hn1⟩ := box2 hbk
  have HB1 := Aside0.mk hb1
  clear hb hb1 hbk
  by_cases hok : netOk nx st = true
  case neg =>
    rw [Bool.not_eq_true] at hok
    rw [checkE_bad hok]
    have HOK := Aside0.mk hok
    clear hok
    go_wp2_with fail
    go_ret
    exact ⟨ret_bool (by unfold domB; rw [HOK.out]; rfl), HB1.out⟩
  rw [checkE_ok hok]
  have HOK := Aside0.mk hok
  clear hok
  by_cases ha0 : a < 0
  · have ha0b : decide (a < 0) = true := decide_eq_true ha0
    go_wp2_with fail
    go_ret
    have hi : inNet nx a = false := by simp [inNet]; omega
    exact ⟨ret_bool (by unfold domB; rw [hi]; simp), HB1.out⟩
  have ha0b : decide (a < 0) = false := decide_eq_false ha0
  by_cases ha1 : a ≥ nx.length
  · have ha1b : decide (a ≥ (nx.length : Int)) = true := decide_eq_true ha1
    go_wp2_with fail
    go_ret
    have hi : inNet nx a = false := by simp [inNet]; omega
    exact ⟨ret_bool (by unfold domB; rw [hi]; simp), HB1.out⟩
  have ha1b : decide (a ≥ (nx.length : Int)) = false := decide_eq_false ha1
  have hia : Aside0 (inNet nx a = true) := ⟨by simp [inNet]; omega⟩
  by_cases hb0 : b < 0
  · have hb0b : decide (b < 0) = true := decide_eq_true hb0
    go_wp2_with fail
    go_ret
    have hi : inNet nx b = false := by simp [inNet]; omega
    exact ⟨ret_bool (by unfold domB; rw [hi]; simp), HB1.out⟩
  have hb0b : decide (b < 0) = false := decide_eq_false hb0
  by_cases hb1 : b ≥ nx.length
  · have hb1b : decide (b ≥ (nx.length : Int)) = true := decide_eq_true hb1
    go_wp2_with fail
    go_ret
    have hi : inNet nx b = false := by simp [inNet]; omega
    exact ⟨ret_bool (by unfold domB; rw [hi]; simp), HB1.out⟩
  have hb1b : decide (b ≥ (nx.length : Int)) = false := decide_eq_false hb1
  have hib : Aside0 (inNet nx b = true) := ⟨by simp [inNet]; omega⟩
  go_wp2_with fail
  refine (f45_idom A0 c0 A1 c1 nx st _ (HN.out.below HB1.out) HOK.out).mono ?_
  rintro e w2 ⟨A, k, rfl, hx, hr, hb2⟩
  have HX := Aside0.mk hx
  have HR := Aside0.mk hr
  have HB2 := Aside0.mk (below_trans HB1.out hb2)
  have HG := Aside0.mk (good_of_ok HOK.out)
  clear hr hb2 hx
  obtain ⟨pl, hpl⟩ := HX.out.tree
  have HT := Aside0.mk hpl
  clear hpl
  go_wp2_with fail
  clear hn0 hn1
  obtain ⟨id, hid⟩ : ∃ id, id = idomA nx st := ⟨_, rfl⟩
  rw [← hid] at HX HR HT
  clear hid
  obtain ⟨D, hD⟩ : ∃ D, D = domB nx st a b := ⟨_, rfl⟩
  have HD : Aside0 (D = true ↔ 0 ≤ b ∧ Dom nx st a b) := ⟨by
    rw [hD]; unfold domB; rw [HOK.out, hia.out, hib.out]
    simp [hb0]⟩
  have HDE := Aside0.mk hD
  clear hD hia hib ha0b ha1b hb0b hb1b hb0
  obtain ⟨wo, rfl⟩ : ∃ wo : World, wo = w2 := ⟨_, rfl⟩
  go_loopw [2] (fun v2 wr => ∃ c : Int, v2 = .int .i64 c ∧ c < nx.length ∧ Aside0 (D = true ↔ 0 ≤ c ∧ Dom nx st a c) ∧ wr = wo) (fun v _ => upMu pl id (intOf v))
  case atStart => exact ⟨b, rfl, hb1, HD, rfl⟩
  case round =>
    obtain ⟨c, rfl, hc1, HC, rfl⟩ := hrel
    clear HD hb1
    by_cases hc0 : 0 ≤ c
    · have hc0b : decide (c ≥ 0) = true := decide_eq_true hc0
      by_cases hca : c = a
      · subst hca
        have hcab : (c != c) = false := by simp
        have hcab2 : (c == c) = true := by simp
        obtain ⟨ad, e, hc⟩ := Kd.at_int (Kd.R_reads' HR.out).2.2 c hc0 (by rw [HX.out.len]; exact hc1)
        cases e
        have hfin : Aside0 ((rd id c != -2) = D) := ⟨by
          rw [Bool.eq_iff_iff, HC.out]
          have := HX.out.none c hc0 hc1
          constructor
          · intro h
            have h1 : rd id c ≠ -2 := by simpa using h
            exact ⟨hc0, Dom.self (Classical.byContradiction fun k => h1 (this.2 k))⟩
          · intro h
            have h1 : rd id c ≠ -2 := fun k => this.1 k h.2.1
            simpa using h1⟩
        obtain ⟨u, hu⟩ : ∃ u, u = rd id c := ⟨_, rfl⟩
        rw [← hu] at hc hfin
        clear hu
        go_wp2_with fail
        go_ret
        exact ⟨ret_bool (hfin.out.trans HDE.out), HB2.out⟩
      · have hcab : (c != a) = true := by simp [hca]
        have hs := up_step HG.out HX.out HT.out (a := a) hc0 hc1 hca
        obtain ⟨ad, e, hc⟩ := Kd.at_int (Kd.R_reads' HR.out).2.2 c hc0 (by rw [HX.out.len]; exact hc1)
        cases e
        obtain ⟨u, hu⟩ : ∃ u, u = rd id c := ⟨_, rfl⟩
        rw [← hu] at hc hs
        have HS := Aside0.mk hs
        clear hu hs hca
        go_wp2_with fail
        go_roundw
        case rel => exact ⟨u, rfl, HS.out.2.1, ⟨by rw [HC.out]; exact ⟨fun h => HS.out.1.1 h.2, fun h => ⟨hc0, HS.out.1.2 h⟩⟩⟩, trivial⟩
        case measure => exact HS.out.2.2
    · have hc0b : decide (c ≥ 0) = false := decide_eq_false hc0
      have hcab2 : (c == a) = false := by simp; omega
      have hf : Aside0 (false = D) := ⟨by
        rw [Bool.eq_iff_iff, HC.out]
        constructor
        · intro h; exact absurd h (by decide)
        · intro h; exact absurd h.1 hc0⟩
      go_wp2_with fail
      go_ret
      exact ⟨ret_bool (hf.out.trans HDE.out), HB2.out⟩
end Go.Proofs.Ytgbmebnfbhdpiaa
