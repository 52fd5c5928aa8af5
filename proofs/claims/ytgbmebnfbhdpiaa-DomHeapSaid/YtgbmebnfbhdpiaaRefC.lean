/- The walks of the document's Gone and Dominates: they answer as the program's own do. -/
import Derived.Test.YtgbmebnfbhdpiaaRefB
import Derived.Test.YtgbmebnfbhdpiaaRetM
set_option linter.unusedSimpArgs false
set_option linter.unusedVariables false
namespace Go.Proofs.Ytgbmebnfbhdpiaa
open Go.RowKit Go.Proofs.YtgbmebnfbhdpiaaW.PrintWords Go.Proofs.YtgbmebnfbhdpiaaW.PrintLast

set_option maxRecDepth 100000 in
set_option maxHeartbeats 2000000 in
theorem f28_any (A0 : Option Addr) (c0 : Nat) (A1 : Option Addr) (c1 : Nat) (nx : List (List Int)) (st : List Int) (a : Int) (w : World) (hn : NetC w A0 c0 A1 c1 nx st) :
    Calls Try.prog 28 #[.agg #[.slice A0 nx.length c0, .slice A1 st.length c1], .int .i64 a] w fun e w' => ∃ v, e = .returned (.tuple #[v, .int .i64 (goneE nx st a)]) ∧ Kd.R Kd.bool 4 w' w.heap.size (fun _ => True) v (goneA nx st a) ∧ Below w.heap.size w w' := by
  have HN := Aside0.mk hn
  have hL0 : nx.length ≤ 9223372036854775807 := hn.next.2.1
  clear hn
  have HB0 : Aside0 (∀ cs : Array Value, Below w.heap.size w (w.alloc (.cells cs 25))) := ⟨fun _ => (Below.refl _ _).alloc (Nat.le_refl _) _⟩
  go_enter Try.func28, Try.ntmps28
  go_wp2_with fail
  refine (f29_any A0 c0 A1 c1 nx st _ (HN.out.below (HB0.out _))).mono ?_
  rintro e w1 ⟨rfl, hb⟩
  obtain ⟨hbk, hz, hb1⟩ := boxed hb
  obtain ⟨hn0, hn1⟩ := box2 hbk
  have HB1 := Aside0.mk hb1
  have HBK := Aside0.mk hbk
  clear hb hb1 hbk
  by_cases hok : netOk nx st = true
  case neg =>
    rw [Bool.not_eq_true] at hok
    rw [checkE_bad hok]
    have HOK := Aside0.mk hok
    clear hok
    go_wp2_with fail
    go_ret2
    exact ⟨_, ret_vi (gone_bad a HOK.out).1.symm, by rw [(gone_bad a HOK.out).2]; exact Kd.R_nil _ _ _ _ _, HB1.out⟩
  rw [checkE_ok hok]
  have HOK := Aside0.mk hok
  clear hok
  by_cases ha0 : a < 0
  · have ha0b : decide (a < 0) = true := decide_eq_true ha0
    go_wp2_with fail
    go_ret2
    have hi : inNet nx a = false := by simp [inNet]; omega
    exact ⟨_, ret_vi (gone_arg HOK.out hi).1.symm, by rw [(gone_arg HOK.out hi).2]; exact Kd.R_nil _ _ _ _ _, HB1.out⟩
  have ha0b : decide (a < 0) = false := decide_eq_false ha0
  by_cases ha1 : a ≥ nx.length
  · have ha1b : decide (a ≥ (nx.length : Int)) = true := decide_eq_true ha1
    go_wp2_with fail
    go_ret2
    have hi : inNet nx a = false := by simp [inNet]; omega
    exact ⟨_, ret_vi (gone_arg HOK.out hi).1.symm, by rw [(gone_arg HOK.out hi).2]; exact Kd.R_nil _ _ _ _ _, HB1.out⟩
  have ha1b : decide (a ≥ (nx.length : Int)) = false := decide_eq_false ha1
  have hi : inNet nx a = true := by simp [inNet]; omega
  have HI := Aside0.mk hi
  clear hi
  go_wp2_with fail
  refine (f54_any A0 c0 A1 c1 nx st (-1) _ (HN.out.below HB1.out) HOK.out).mono ?_
  rintro e w3 ⟨v3, rfl, hr3, hb3⟩
  have HBK3 := Aside0.mk (blk_below HBK.out hb3)
  have HR3 := Aside0.mk hr3
  have HB3 := Aside0.mk (below_trans HB1.out hb3)
  have HBX := Aside0.mk hb3
  clear hr3 hb3 hn0 hn1
  obtain ⟨hn0, hn1⟩ := box2 HBK3.out
  go_wp2_with fail
  refine (f54_any A0 c0 A1 c1 nx st a _ (HN.out.below HB3.out) HOK.out).mono ?_
  rintro e w4 ⟨v4, rfl, hr, hb⟩
  have HX := Aside0.mk (Kd.R_lower (Kd.R_mono (Kd.R_elder (d := Kd.bool) HR3.out hr hb) (fun _ _ => (trivial : (fun _ => True) _))) HB1.out.size)
  have HY := Aside0.mk (Kd.R_lower (Kd.R_mono (Kd.R_newR hr HR3.out) (fun _ hk => hk.2)) (Nat.le_trans HB1.out.size HBX.out.size))
  have HB2 := Aside0.mk (below_trans HB3.out hb)
  clear hr hb hn0 hn1 HBK HB0 HBK3 HR3 HBX
  obtain ⟨AX, kX, eX⟩ := Kd.R_slice HX.out
  obtain ⟨AY, kY, eY⟩ := Kd.R_slice HY.out
  rw [reachB_len] at eX eY
  subst eX eY
  obtain ⟨X, hX⟩ : ∃ X, X = reachB nx st (-1) := ⟨_, rfl⟩
  obtain ⟨Y, hY⟩ : ∃ Y, Y = reachB nx st a := ⟨_, rfl⟩
  obtain ⟨G, hG⟩ : ∃ G, G = goneB nx st a := ⟨_, rfl⟩
  rw [← hX] at HX
  rw [← hY] at HY
  have hXl : X.length = nx.length := by rw [hX, reachB_len]
  have hYl : Y.length = nx.length := by rw [hY, reachB_len]
  have hGl : G.length = X.length := by rw [hG, goneB_len, hXl]
  have HGat : Aside0 (∀ i : Int, 0 ≤ i → i < nx.length → rdOf false G i = (rdOf false X i && !rdOf false Y i)) := ⟨fun i h0 h1 => by rw [hG, hX, hY]; exact rdOf_zip _ _ (by rw [reachB_len, reachB_len]) i h0 (by rw [reachB_len]; exact h1)⟩
  have HL := Aside0.mk (And.intro hXl (And.intro hYl hGl))
  have HG := Aside0.mk hG
  clear hXl hYl hGl hX hY hG
  go_wp2_with fail
  go_loopw [9] (fun v9 wr => ∃ i : Int, v9 = .int .i64 i ∧ 0 ≤ i ∧ i ≤ nx.length ∧ Aside0 (Kd.R Kd.bool 4 wr w.heap.size (fun _ => True) (.slice AX nx.length kX) (zl G X i)) ∧ Aside0 (Kd.R Kd.bool 4 wr w.heap.size (fun k => some k ≠ (Value.slice AX nx.length kX).ownBlock) (.slice AY nx.length kY) Y) ∧ Aside0 (Below w.heap.size w wr)) (fun v _ => nx.length - (intOf v).toNat)
  case atStart => exact ⟨0, rfl, by omega, by omega, ⟨by simpa [zl] using HX.out⟩, HY, HB2⟩
  case round =>
    obtain ⟨i, rfl, h0, h1, HX1, HY1, HB3⟩ := hrel
    clear HX HY HB2
    by_cases hlt : i < nx.length
    · obtain ⟨g, cap, hvs, hbg, hgl, cells, hgc⟩ := Kd.R_form HX1.out (by rw [zl_len HL.out.2.2 i (by have := HL.out.1; omega)]; have := HL.out.1; omega)
      rw [zl_len HL.out.2.2 i (by have := HL.out.1; omega), HL.out.1] at hvs
      cases hvs
      obtain ⟨hxc, hxf⟩ := R_celln false HX1.out i h0 hlt
      rw [zl_at HL.out.2.2 i h0 (by have := HL.out.1; omega)] at hxc
      have hset := zl_set HL.out.2.2 i h0 (by have := HL.out.1; omega)
      rw [HGat.out i h0 hlt] at hset
      have HSET := Aside0.mk hset
      clear hset cells hgc
      have HB4 := Aside0.mk (fun u : Value => HB3.out.setCell (p := ⟨g, i.toNat, none⟩) hbg u)
      have HY2 := Aside0.mk (fun u : Value => Kd.R_far HY1.out (p := ⟨g, i.toNat, none⟩) (fun k hk e => hk (by rw [e]; rfl)) u)
      have HX2 := Aside0.mk (fun b : Bool => Kd.R_putn HX1.out i b)
      by_cases hb : rdOf false X i = true
      · rw [hb] at hxc HSET
        clear hb
        obtain ⟨ad, e, hyc⟩ := Kd.at_bool (Kd.R_reads' HY1.out).2.2 i h0 (by have := HL.out.2.1; omega)
        cases e
        obtain ⟨y, hy⟩ : ∃ y, y = rdOf false Y i := ⟨_, rfl⟩
        rw [← hy] at hyc HSET
        clear hy
        go_wp2_with fail
        go_roundw
        case rel => exact ⟨i + 1, rfl, by omega, by omega, ⟨by rw [← HSET.out]; exact HX2.out _⟩, ⟨HY2.out _⟩, ⟨HB4.out _⟩⟩
        case measure => simp [intOf]; omega
      · rw [Bool.not_eq_true] at hb
        rw [hb] at hxc HSET
        clear hb
        go_wp2_with fail
        go_roundw
        case rel => exact ⟨i + 1, rfl, by omega, by omega, ⟨by rw [← HSET.out]; exact HX2.out _⟩, ⟨HY2.out _⟩, ⟨HB4.out _⟩⟩
        case measure => simp [intOf]; omega
    · go_wp2_with fail
      go_ret2
      refine ⟨_, ret_vi (gone_ok HOK.out HI.out).1.symm, ?_, HB3.out⟩
      rw [(gone_ok HOK.out HI.out).2, ← HG.out]
      have : zl G X i = G := by unfold zl; rw [List.take_of_length_le (by have := HL.out; omega), List.drop_eq_nil_of_le (by have := HL.out; omega), List.append_nil]
      rw [← this]; exact HX1.out

theorem domB_gone {nx : List (List Int)} {st : List Int} (hok : netOk nx st = true) {a b : Int} (ha : inNet nx a = true) (hb : inNet nx b = true) : domB nx st a b = rdOf false (goneB nx st a) b := by
  have hb' : 0 ≤ b ∧ b < nx.length := by simp [inNet] at hb; exact hb
  unfold domB
  rw [hok, ha, hb, ← domC_gone (good_of_ok hok) a b hb'.1 hb'.2]
  simp [domC]

set_option maxRecDepth 100000 in
set_option maxHeartbeats 2000000 in
theorem f31_any (A0 : Option Addr) (c0 : Nat) (A1 : Option Addr) (c1 : Nat) (nx : List (List Int)) (st : List Int) (a b : Int) (w : World) (hn : NetC w A0 c0 A1 c1 nx st) :
    Calls Try.prog 31 #[.agg #[.slice A0 nx.length c0, .slice A1 st.length c1], .int .i64 a, .int .i64 b] w fun e w' => e = .returned (.bool (domB nx st a b)) ∧ Below w.heap.size w w' := by
  have HN := Aside0.mk hn
  have hL0 : nx.length ≤ 9223372036854775807 := hn.next.2.1
  clear hn
  have HB0 : Aside0 (∀ cs : Array Value, Below w.heap.size w (w.alloc (.cells cs 25))) := ⟨fun _ => (Below.refl _ _).alloc (Nat.le_refl _) _⟩
  go_enter Try.func31, Try.ntmps31
  go_wp2_with fail
  refine (f28_any A0 c0 A1 c1 nx st a _ (HN.out.below (HB0.out _))).mono ?_
  rintro e w1 ⟨v, rfl, hr, hb⟩
  obtain ⟨hbk, hz, hb1⟩ := boxed hb
  have HB1 := Aside0.mk hb1
  have HR := Aside0.mk hr
  clear hb hb1 hbk hr
  obtain ⟨A, k, e⟩ := Kd.R_slice HR.out
  subst e
  by_cases hok : netOk nx st = true
  case neg =>
    rw [Bool.not_eq_true] at hok
    rw [(gone_bad a hok).1]
    have HD : Aside0 (domB nx st a b = false) := ⟨by unfold domB; rw [hok]; rfl⟩
    clear hok
    go_wp2_with fail
    go_ret
    exact ⟨ret_bool HD.out.symm, HB1.out⟩
  by_cases hia : inNet nx a = true
  case neg =>
    rw [Bool.not_eq_true] at hia
    rw [(gone_arg hok hia).1]
    have HD : Aside0 (domB nx st a b = false) := ⟨by unfold domB; rw [hia]; simp⟩
    clear hok hia
    go_wp2_with fail
    go_ret
    exact ⟨ret_bool HD.out.symm, HB1.out⟩
  have hc := (Kd.R_reads' HR.out).2.2
  rw [(gone_ok hok hia).2] at hc ⊢
  rw [(gone_ok hok hia).1]
  rw [goneB_len] at hc ⊢
  have HC := Aside0.mk hc
  clear hc HR
  by_cases hb0 : b ≥ 0
  case neg =>
    have hb0b : decide (b ≥ 0) = false := decide_eq_false hb0
    have HD : Aside0 (domB nx st a b = false) := ⟨by unfold domB; rw [show inNet nx b = false from by simp [inNet]; omega]; simp⟩
    clear hok hia
    go_wp2_with fail
    go_ret
    exact ⟨ret_bool HD.out.symm, HB1.out⟩
  have hb0b : decide (b ≥ 0) = true := decide_eq_true hb0
  by_cases hbl : b < nx.length
  case neg =>
    have hblb : decide (b < (nx.length : Int)) = false := decide_eq_false hbl
    have HD : Aside0 (domB nx st a b = false) := ⟨by unfold domB; rw [show inNet nx b = false from by simp [inNet]; omega]; simp⟩
    clear hok hia
    go_wp2_with fail
    go_ret
    exact ⟨ret_bool HD.out.symm, HB1.out⟩
  have hblb : decide (b < (nx.length : Int)) = true := decide_eq_true hbl
  have HD : Aside0 (domB nx st a b = rdOf false (goneB nx st a) b) := ⟨domB_gone hok hia (by simp [inNet]; omega)⟩
  clear hok hia
  obtain ⟨ad, e, hxc⟩ := Kd.at_bool HC.out b hb0 hbl
  cases e
  obtain ⟨y, hy⟩ : ∃ y, y = rdOf false (goneB nx st a) b := ⟨_, rfl⟩
  rw [← hy] at hxc HD
  clear hy
  go_wp2_with fail
  go_ret
  exact ⟨ret_bool HD.out.symm, HB1.out⟩
end Go.Proofs.Ytgbmebnfbhdpiaa
