/- The walk of the document's Kids: it answers what the program's own goes through. -/
import Derived.Test.YtgbmebnfbhdpiaaRefE
set_option linter.unusedSimpArgs false
set_option linter.unusedVariables false
namespace Go.Proofs.Ytgbmebnfbhdpiaa
open Go.RowKit Go.Proofs.YtgbmebnfbhdpiaaW.PrintWords Go.Proofs.YtgbmebnfbhdpiaaW.PrintLast

theorem kids_far {nx : List (List Int)} {st id : List Int} (hg : Good nx st) (h : IdomX nx st id) {a : Int} (ha : (a == -1 || inNet nx a) = false) (h1 : -1 ≤ a) : kidsN id a nx.length = [] := by
  rw [List.eq_nil_iff_forall_not_mem]
  intro k hk
  obtain ⟨k0, k1, k2⟩ := (kidsN_mem id a nx.length k).1 hk
  rw [Bool.or_eq_false_iff] at ha
  have ha1 : a ≠ -1 := by simpa using ha.1
  have ha2 : ¬ (0 ≤ a ∧ a < nx.length) := by have := ha.2; simp [inNet] at this; omega
  by_cases hr : Reach nx st (-1) k
  · have := h.up hg hr; omega
  · have := (h.none k k0 k1).2 hr; omega
theorem kidsL_ref {nx : List (List Int)} {st : List Int} (hg : Good nx st) (h : IdomX nx st (idomA nx st)) (hok : netOk nx st = true) {a : Int} (h1 : -1 ≤ a) : kidsN (idomA nx st) a nx.length = kidsL nx st a := by
  by_cases ha : (a == -1 || inNet nx a) = true
  · rw [kidsL_ok hok ha]
  · rw [Bool.not_eq_true] at ha
    rw [kidsL_arg ha, kids_far hg h ha h1]

set_option maxRecDepth 100000 in
set_option maxHeartbeats 2000000 in
theorem f15_any (A0 : Option Addr) (c0 : Nat) (A1 : Option Addr) (c1 : Nat) (nx : List (List Int)) (st : List Int) (a : Int) (w : World) (hn : NetC w A0 c0 A1 c1 nx st) :
    Calls Try.prog 15 #[.agg #[.slice A0 nx.length c0, .slice A1 st.length c1], .int .i64 a] w fun e w' => ∃ v, e = .returned v ∧ Kd.R (Kd.int .i64) 3 w' w.heap.size (fun _ => True) v (kidsL nx st a) ∧ Below w.heap.size w w' := by
  have HN := Aside0.mk hn
  clear hn
  have HB0 : Aside0 (∀ cs : Array Value, Below w.heap.size w (w.alloc (.cells cs 25))) := ⟨fun _ => (Below.refl _ _).alloc (Nat.le_refl _) _⟩
  go_enter Try.func15, Try.ntmps15
  go_wp2_with fail
  refine (f14_any A0 c0 A1 c1 nx st _ (HN.out.below (HB0.out _))).mono ?_
  rintro e w1 ⟨vs, rfl, hr, hb⟩
  obtain ⟨hbk, hz, hb1⟩ := boxed hb
  have HB1 := Aside0.mk hb1
  clear hb1 hbk hb
  by_cases hok : netOk nx st = true
  case neg =>
    rw [Bool.not_eq_true] at hok
    rw [checkE_bad hok]
    have HOK := Aside0.mk hok
    clear hok hr
    go_wp2_with fail
    go_ret
    exact ⟨_, rfl, by rw [kidsL_bad a HOK.out]; exact Kd.R_nil _ _ _ _ _, HB1.out⟩
  rw [idomL_ok hok] at hr
  rw [checkE_ok hok]
  have HX := Aside0.mk (idomX_net HN.out hok)
  have HOK := Aside0.mk hok
  have HG := Aside0.mk (good_of_ok hok)
  have hnl := HG.out.len
  clear hok
  by_cases ha : a < -1
  · have hab : decide (a < -1) = true := decide_eq_true ha
    have HK : Aside0 (kidsL nx st a = []) := ⟨kidsL_arg (by simp [inNet]; omega)⟩
    clear hr
    go_wp2_with fail
    go_ret
    exact ⟨_, rfl, by rw [HK.out]; exact Kd.R_nil _ _ _ _ _, HB1.out⟩
  have hab : decide (a < -1) = false := decide_eq_false ha
  have HK := Aside0.mk (kidsL_ref HG.out HX.out HOK.out (a := a) (by omega))
  obtain ⟨AI, kI, eI⟩ := Kd.R_slice hr
  rw [HX.out.len] at eI
  subst eI
  have hci := (Kd.R_reads' hr).2.2
  rw [HX.out.len] at hci
  have HCI := Aside0.mk hci
  clear hci hr
  obtain ⟨id, hid⟩ : ∃ id, id = idomA nx st := ⟨_, rfl⟩
  rw [← hid] at HCI HK
  clear hid ha
  obtain ⟨wo, rfl⟩ : ∃ wo : World, wo = w1 := ⟨_, rfl⟩
  go_wp2_with fail
  go_loopw [8, 7] (fun v8 v7 wr => ∃ (i : Int) (ks : List Int) (AL : Option Addr) (kL : Nat), v8 = .int .i64 i ∧ v7 = .slice AL ks.length kL ∧ 0 ≤ i ∧ i ≤ nx.length ∧ Aside0 (ks = kidsN id a i.toNat) ∧ Aside0 (Kd.R (Kd.int .i64) 3 wr wo.heap.size (fun _ => True) (.slice AL ks.length kL) ks) ∧ Aside0 (Below wo.heap.size wo wr)) (fun v _ _ => nx.length - (intOf v).toNat)
  case atStart => exact ⟨0, [], none, 0, rfl, rfl, by omega, by omega, ⟨rfl⟩, ⟨Kd.R_nil _ _ _ _ _⟩, ⟨Below.refl _ _⟩⟩
  case round =>
    obtain ⟨i, ks, AL, kL, rfl, rfl, hi0, hi1, HKS, HL, HB⟩ := hrel
    by_cases hil : i < nx.length
    case neg =>
      go_wp2_with fail
      go_ret
      refine ⟨_, rfl, ?_, below_trans HB1.out HB.out⟩
      rw [← HK.out, show nx.length = i.toNat from by omega, ← HKS.out]
      exact Kd.R_lower HL.out HB1.out.size
    obtain ⟨ad, e, hc⟩ := Kd.at_int (Kd.C_below HCI.out HB.out) i hi0 hil
    cases e
    have hs := kidsN_succ id a i hi0
    obtain ⟨d, hd⟩ : ∃ d, d = rd id i := ⟨_, rfl⟩
    rw [← hd, ← HKS.out] at hs
    rw [← hd] at hc
    clear hd
    by_cases hda : d = a
    · have hdab : (d == a) = true := by simp [hda]
      rw [if_pos hda] at hs
      have HS := Aside0.mk hs
      clear hda hs
      have hkl : (ks.length + 1) * 8 ≤ 140737488355328 := by
        have := kidsN_len id a i.toNat
        rw [← HKS.out] at this
        omega
      have HKL := Aside0.mk hkl
      clear hkl
      go_wp2_with (at_builtin; go_loud (refine Kd.R_append (Kd.int .i64) (w0 := wo) wo.heap.size rfl (.tmp 32) (.tmp 34) 23 3 (.int .i64 0) 8 rfl Try.underlying23 info3 rfl (by decide) (by omega) (.slice AL ks.length kL) ks i [.int .i64 i] (fun _ => True) (fun _ => False) rfl ?aX ?aP (fun _ hk => hk.elim) (fun _ _ => trivial) ?aO ?aB ?aS ?aL ?_; (case aP => exact rfl); (case aX => go_simp); (case aB => exact HB.out); (case aO => exact HL.out); (case aS => exact HB.out.size); (case aL => exact HKL.out); intro v1 w1 ho hb hg hat; obtain ⟨A1, k1, e1⟩ := Kd.R_slice ho; rw [List.length_append, List.length_singleton] at e1; subst e1; have H1 := Aside0.mk (And.intro ho hb); clear ho hb hg hat))
      go_roundw
      case rel => exact ⟨i + 1, ks ++ [i], A1, k1, rfl, by rw [List.length_append, List.length_singleton], by omega, by omega, ⟨HS.out.symm⟩, ⟨by rw [List.length_append, List.length_singleton]; exact H1.out.1⟩, ⟨H1.out.2⟩⟩
      case measure => simp [intOf]; omega
    · have hdab : (d == a) = false := by simp [hda]
      rw [if_neg hda] at hs
      have HS := Aside0.mk hs
      clear hda hs
      go_wp2_with fail
      go_roundw
      case rel => exact ⟨i + 1, ks, AL, kL, rfl, rfl, by omega, by omega, ⟨HS.out.symm⟩, HL, HB⟩
      case measure => simp [intOf]; omega
end Go.Proofs.Ytgbmebnfbhdpiaa
