/- The walk of dom.Kids: it hands back a value that goes through the nodes whose closest one a node is. -/
import Derived.Test.YtgbmebnfbhdpiaaValuesF
set_option linter.unusedSimpArgs false
set_option linter.unusedVariables false
namespace Go.Proofs.Ytgbmebnfbhdpiaa
open Go.RowKit Go.Proofs.YtgbmebnfbhdpiaaW.PrintWords Go.Proofs.YtgbmebnfbhdpiaaW.PrintLast

/-- The nodes before i whose number in a list is a. -/
def kidsN (id : List Int) (a : Int) (i : Nat) : List Int := ((List.range i).filter (fun j : Nat => rd id (j : Int) == a)).map (fun j : Nat => (j : Int))
theorem kidsN_zero (id : List Int) (a : Int) : kidsN id a 0 = [] := rfl
theorem kidsN_succ (id : List Int) (a : Int) (i : Int) (h0 : 0 ≤ i) : kidsN id a (i + 1).toNat = if rd id i = a then kidsN id a i.toNat ++ [i] else kidsN id a i.toNat := by
  unfold kidsN
  rw [show (i + 1).toNat = i.toNat + 1 from by omega, List.range_succ, List.filter_append, List.map_append]
  have e : ((i.toNat : Nat) : Int) = i := Int.toNat_of_nonneg h0
  by_cases h : rd id i = a
  · rw [if_pos h]; simp [List.filter_cons, e, h]
  · rw [if_neg h]; simp [List.filter_cons, e, h]
theorem kidsN_len (id : List Int) (a : Int) (i : Nat) : (kidsN id a i).length ≤ i := by
  unfold kidsN
  rw [List.length_map]
  have := List.length_filter_le (fun j : Nat => rd id (j : Int) == a) (List.range i)
  rwa [List.length_range] at this
theorem kidsN_mem (id : List Int) (a : Int) (i : Nat) (x : Int) : x ∈ kidsN id a i ↔ 0 ≤ x ∧ x < i ∧ rd id x = a := by
  unfold kidsN
  simp only [List.mem_map, List.mem_filter, List.mem_range, beq_iff_eq]
  constructor
  · rintro ⟨j, ⟨h1, h2⟩, rfl⟩; exact ⟨by omega, by omega, h2⟩
  · rintro ⟨h0, h1, h2⟩; exact ⟨x.toNat, ⟨by omega, by rw [Int.toNat_of_nonneg h0]; exact h2⟩, by omega⟩
/-- What Kids goes through. -/
noncomputable def kidsL (nx : List (List Int)) (st : List Int) (a : Int) : List Int := if netOk nx st && (a == -1 || inNet nx a) then kidsN (idomA nx st) a nx.length else []
theorem kidsL_ok {nx : List (List Int)} {st : List Int} {a : Int} (h : netOk nx st = true) (ha : (a == -1 || inNet nx a) = true) : kidsL nx st a = kidsN (idomA nx st) a nx.length := by
  unfold kidsL; rw [h, ha]; rfl
theorem kidsL_bad {nx : List (List Int)} {st : List Int} (a : Int) (h : netOk nx st = false) : kidsL nx st a = [] := by
  unfold kidsL; rw [h]; rfl
theorem kidsL_arg {nx : List (List Int)} {st : List Int} {a : Int} (ha : (a == -1 || inNet nx a) = false) : kidsL nx st a = [] := by
  unfold kidsL; rw [ha, Bool.and_false]; rfl
theorem C_nil (w : World) : Kd.C (Kd.int .i64) w none ([] : List Int).length [] := (Kd.R_reads' (Kd.R_nil _ _ _ _ _ : Kd.R (Kd.int .i64) 3 w 0 (fun _ => True) (.slice none 0 0) [])).2.2

set_option maxRecDepth 100000 in
set_option maxHeartbeats 4000000 in
theorem f18_any (A0 : Option Addr) (c0 : Nat) (A1 : Option Addr) (c1 : Nat) (nx : List (List Int)) (st : List Int) (a : Int) (w : World) (hn : NetC w A0 c0 A1 c1 nx st) :
    Calls Try.prog 18 #[.agg #[.slice A0 nx.length c0, .slice A1 st.length c1], .int .i64 a] w fun e w' => ∃ Bs, e = .returned (.func (.func 67) #[] #[.pointer (some ⟨Bs, 0, none⟩)]) ∧ ValsC w' w.heap.size Bs (kidsL nx st a) ∧ Below w.heap.size w w' := by
  have HN := Aside0.mk hn
  have hL0 : nx.length ≤ 9223372036854775807 := hn.next.2.1
  clear hn
  have HB0 : Aside0 (∀ cs : Array Value, Below w.heap.size w (w.alloc (.cells cs 25))) := ⟨fun _ => (Below.refl _ _).alloc (Nat.le_refl _) _⟩
  go_enter Try.func18, Try.ntmps18
  go_wp2_with fail
  refine (f23_any A0 c0 A1 c1 nx st _ (HN.out.below (HB0.out _))).mono ?_
  rintro e w1 ⟨rfl, hb⟩
  obtain ⟨hbk, hz, hb1⟩ := boxed hb
  obtain ⟨hn0, hn1⟩ := box2 hbk
  have HB1 := Aside0.mk hb1
  clear hb hb1 hbk
  by_cases hok : netOk nx st = true
  case neg =>
    rw [Bool.not_eq_true] at hok
    rw [checkE_bad hok]
    have HOK := Aside0.mk hok
    clear hok
    go_wp2_with fail
    refine (f47_any w.heap.size none [] 0 _ (Kd.R_nil _ _ _ _ _) HB1.out.size).mono ?_
    rintro e w2 ⟨Bs, rfl, hv, hb⟩
    have HV := Aside0.mk hv
    have HB2 := Aside0.mk (below_trans HB1.out hb)
    clear hv hb
    go_wp2
    go_ret
    exact ⟨Bs, rfl, by rw [kidsL_bad a HOK.out]; exact HV.out, HB2.out⟩
  rw [checkE_ok hok]
  have HOK := Aside0.mk hok
  clear hok
  by_cases hin : (a == -1 || inNet nx a) = true
  case neg =>
    rw [Bool.not_eq_true] at hin
    have HIN := Aside0.mk hin
    rw [Bool.or_eq_false_iff] at hin
    obtain ⟨ha1, ha2⟩ := hin
    by_cases ha0 : a ≥ 0
    · have ha0b : decide (a ≥ 0) = true := decide_eq_true ha0
      have ha3b : decide (a < (nx.length : Int)) = false := decide_eq_false (by intro h; simp [inNet] at ha2; omega)
      clear ha2
      go_wp2_with fail
      refine (f47_any w.heap.size none [] 0 _ (Kd.R_nil _ _ _ _ _) HB1.out.size).mono ?_
      rintro e w2 ⟨Bs, rfl, hv, hb⟩
      have HV := Aside0.mk hv
      have HB2 := Aside0.mk (below_trans HB1.out hb)
      clear hv hb
      go_wp2
      go_ret
      exact ⟨Bs, rfl, by rw [kidsL_arg HIN.out]; exact HV.out, HB2.out⟩
    · have ha0b : decide (a ≥ 0) = false := decide_eq_false ha0
      clear ha2
      go_wp2_with fail
      refine (f47_any w.heap.size none [] 0 _ (Kd.R_nil _ _ _ _ _) HB1.out.size).mono ?_
      rintro e w2 ⟨Bs, rfl, hv, hb⟩
      have HV := Aside0.mk hv
      have HB2 := Aside0.mk (below_trans HB1.out hb)
      clear hv hb
      go_wp2
      go_ret
      exact ⟨Bs, rfl, by rw [kidsL_arg HIN.out]; exact HV.out, HB2.out⟩
  have HIN := Aside0.mk hin
  have hcut : ∀ (P : Prop), ((a == -1) = true → P) → ((a == -1) = false → decide (a ≥ 0) = true → decide (a < (nx.length : Int)) = true → P) → P := fun P h1 h2 => by
    by_cases c : a = -1
    · exact h1 (by simp [c])
    · have c2 : (a == -1) = false := by simp [c]
      rw [c2, Bool.false_or] at hin
      simp [inNet] at hin
      exact h2 c2 (decide_eq_true hin.1) (decide_eq_true hin.2)
  clear hin
  have HG := Aside0.mk (good_of_ok HOK.out)
  have hnl := HG.out.len
  refine hcut _ (fun c1b => ?_) (fun c1b c2b c3b => ?_)
  all_goals clear hcut
  all_goals go_wp2_with fail
  all_goals (
    refine (f45_idom A0 c0 A1 c1 nx st _ (HN.out.below HB1.out) HOK.out).mono ?_
    rintro e w2 ⟨A, k, rfl, hx, hr, hb2⟩
    have HX := Aside0.mk hx
    have hcid := (Kd.R_reads' hr).2.2
    rw [hx.len] at hcid
    have HCI := Aside0.mk hcid
    have HB2 := Aside0.mk (below_trans HB1.out hb2)
    clear hr hb2 hx hcid hn0 hn1
    obtain ⟨id, hid⟩ : ∃ id, id = idomA nx st := ⟨_, rfl⟩
    have HID := Aside0.mk hid
    rw [← hid] at HX HCI
    clear hid
    go_wp2_with fail
    obtain ⟨wo, rfl⟩ : ∃ wo : World, wo = w2 := ⟨_, rfl⟩
    go_loopw [5, 29] (fun v5 v29 wr => ∃ (i : Int) (ks : List Int) (AL : Option Addr) (kL : Nat), v29 = .int .i64 i ∧ v5 = .slice AL ks.length kL ∧ 0 ≤ i ∧ i ≤ nx.length ∧ Aside0 (ks = kidsN id a i.toNat) ∧ Aside0 (Kd.R (Kd.int .i64) 3 wr wo.heap.size (fun _ => True) (.slice AL ks.length kL) ks) ∧ Aside0 (Below wo.heap.size wo wr)) (fun _ v _ => nx.length - (intOf v).toNat)
    case atStart => exact ⟨0, [], none, 0, rfl, rfl, by omega, by omega, ⟨rfl⟩, ⟨Kd.R_nil _ _ _ _ _⟩, ⟨Below.refl _ _⟩⟩
    case round =>
      obtain ⟨i, ks, AL, kL, rfl, rfl, hi0, hi1, HK, HL, HB⟩ := hrel
      by_cases hil : i < nx.length
      · obtain ⟨ad, e, hc⟩ := Kd.at_int (Kd.C_below HCI.out HB.out) i hi0 hil
        cases e
        have hs := kidsN_succ id a i hi0
        obtain ⟨d, hd⟩ : ∃ d, d = rd id i := ⟨_, rfl⟩
        rw [← hd, ← HK.out] at hs
        rw [← hd] at hc
        clear hd
        by_cases hda : d = a
        · have hdab : (d == a) = true := by simp [hda]
          rw [if_pos hda] at hs
          have HS := Aside0.mk hs
          clear hda hs
          have hkl : (ks.length + 1) * 8 ≤ 140737488355328 := by
            have := kidsN_len id a i.toNat
            rw [← HK.out] at this
            omega
          have HKL := Aside0.mk hkl
          clear hkl
          go_wp2_with (at_builtin; go_loud (refine Kd.R_append (Kd.int .i64) (w0 := wo) wo.heap.size rfl (.tmp 37) (.tmp 39) 23 3 (.int .i64 0) 8 rfl Try.underlying23 info3 rfl (by decide) (by omega) (.slice AL ks.length kL) ks i [.int .i64 i] (fun _ => True) (fun _ => False) rfl ?aX ?aP (fun _ hk => hk.elim) (fun _ _ => trivial) ?aO ?aB ?aS ?aL ?_; (case aP => exact rfl); (case aX => go_simp); (case aB => exact HB.out); (case aO => exact HL.out); (case aS => exact HB.out.size); (case aL => exact HKL.out); intro v1 w1 ho hb hg hat; obtain ⟨A1, k1, e1⟩ := Kd.R_slice ho; rw [List.length_append, List.length_singleton] at e1; subst e1; have H1 := Aside0.mk (And.intro ho hb); clear ho hb hg hat))
          go_roundw
          case rel => exact ⟨i + 1, ks ++ [i], A1, k1, rfl, by rw [List.length_append, List.length_singleton], by omega, by omega, ⟨HS.out.symm⟩, ⟨by rw [List.length_append, List.length_singleton]; exact H1.out.1⟩, ⟨H1.out.2⟩⟩
          case measure => simp [intOf]; omega
        · have hdab : (d == a) = false := by simp [hda]
          rw [if_neg hda] at hs
          have HS := Aside0.mk hs
          clear hda hs
          go_wp2_with fail
          go_roundw
          case rel => exact ⟨i + 1, ks, AL, kL, rfl, rfl, by omega, by omega, ⟨HS.out.symm⟩, HL, HB⟩
          case measure => simp [intOf]; omega
      · have hkk : Aside0 (ks = kidsL nx st a) := ⟨by rw [kidsL_ok HOK.out HIN.out, HK.out, show i.toNat = nx.length from by omega, HID.out]⟩
        clear HK
        go_wp2_with fail
        refine (f47_any w.heap.size AL ks kL _ (Kd.R_lower HL.out HB2.out.size) (Nat.le_trans HB2.out.size HB.out.size)).mono ?_
        rintro e w4 ⟨Bs, rfl, hv, hb⟩
        have HV := Aside0.mk hv
        have HB4 := Aside0.mk (below_trans (below_trans HB2.out HB.out) hb)
        clear hv hb
        go_wp2
        go_ret
        exact ⟨Bs, rfl, by rw [← hkk.out]; exact HV.out, HB4.out⟩)
end Go.Proofs.Ytgbmebnfbhdpiaa
