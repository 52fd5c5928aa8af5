/- The walk of dom's meets: it answers meetT. -/
import Derived.Test.YtgbmebnfbhdpiaaTreeM
import Derived.Deep.QuietTactic
import Derived.BigQuiet
set_option linter.unusedSimpArgs false
namespace Go.Proofs.Ytgbmebnfbhdpiaa
open Go.RowKit Go.Proofs.YtgbmebnfbhdpiaaW.PrintWords

set_option maxRecDepth 100000 in
set_option maxHeartbeats 1000000 in
theorem f66_any (og n : Nat) (vl vh : Value) (AP : Option Addr) (cp : Nat) (AI : Option Addr) (ci : Nat) (pl id : List Int) (a b : Int) (w : World)
    (ho : w.heap[og]? = some (.cells #[vl, .slice AP n cp, vh] 94 (0, 0))) (hp : Kd.C (Kd.int .i64) w AP n pl) (hi : Kd.C (Kd.int .i64) w AI n id)
    (ht : Tree n pl id) (ha : Okn n id a) (hb : Okn n id b) :
    Calls Try.prog 66 #[.pointer (some ⟨og, 0, none⟩), .slice AI n ci, .int .i64 a, .int .i64 b] w fun e w' => e = .returned (.int .i64 (meetT pl id a b)) ∧ Below w.heap.size w w' := by
  have HO := Aside0.mk ho
  have HP := Aside0.mk hp
  have HI := Aside0.mk hi
  have HT := Aside0.mk ht
  obtain ⟨r, hr⟩ : ∃ r, r = meetT pl id a b := ⟨_, rfl⟩
  rw [← hr]
  have hn : n ≤ 9223372036854775807 := hp.2.1
  have HA := Aside0.mk ha
  have HB := Aside0.mk hb
  have HR := Aside0.mk hr
  clear ho hp hi ht ha hb hr
  go_enter Try.func66, Try.ntmps66
  go_wp2_with fail
  go_loopw [2, 3] (fun v2 v3 wr => ∃ a' b' : Int, v2 = .int .i64 a' ∧ v3 = .int .i64 b' ∧ Aside0 (Okn n id a') ∧ Aside0 (Okn n id b') ∧ Aside0 (r = meetT pl id a' b') ∧ Aside0 (Below w.heap.size w wr)) (fun v2 v3 _ => Pn pl (intOf v2) + Pn pl (intOf v3))
  case atStart => exact ⟨a, b, rfl, rfl, HA, HB, HR, ⟨Below.refl _ _⟩⟩
  case round =>
    obtain ⟨a', b', rfl, rfl, HA1, HB1, HR1, HBW⟩ := hrel
    clear HA HB HR
    have hstep := meetT_eq HT.out HA1.out HB1.out
    by_cases c1 : a' = b'
    · rw [if_pos c1] at hstep
      have HS := Aside0.mk (HR1.out.trans hstep)
      have c1b : (a' != b') = false := by simp [c1]
      clear hstep c1
      go_wp2_with fail
      go_ret
      exact ⟨ret_int HS.out.symm, HBW.out⟩
    · rw [if_neg c1] at hstep
      have c1b : (a' != b') = true := by simp [c1]
      have hk1 : 0 < Pn pl a' + Pn pl b' := by
        by_cases h : a' = -1
        · have := Pn_pos HT.out HB1.out (fun e => c1 (h.trans e.symm)); omega
        · have := Pn_pos HT.out HA1.out h; omega
      clear c1
      by_cases c2 : a' = -1
      · rw [if_pos (.inl c2)] at hstep
        have HS := Aside0.mk (HR1.out.trans hstep)
        have c2b : (a' == -1) = true := by simp [c2]
        clear hstep c2
        go_wp2_with fail
        go_ret
        exact ⟨ret_int HS.out.symm, HBW.out⟩
      · have c2b : (a' == -1) = false := by simp [c2]
        by_cases c3 : b' = -1
        · rw [if_pos (.inr c3)] at hstep
          have HS := Aside0.mk (HR1.out.trans hstep)
          have c3b : (b' == -1) = true := by simp [c3]
          clear hstep c3 c2
          go_wp2_with fail
          go_ret
          exact ⟨ret_int HS.out.symm, HBW.out⟩
        · have c3b : (b' == -1) = false := by simp [c3]
          rw [if_neg (by rintro (h | h); exact c2 h; exact c3 h)] at hstep
          have ua := HT.out.okUp HA1.out c2
          have ub := HT.out.okUp HB1.out c3
          have ra : 0 ≤ a' ∧ a' < n := by rcases HA1.out with h | h; exact absurd h c2; exact ⟨h.1, h.2.1⟩
          have rb : 0 ≤ b' ∧ b' < n := by rcases HB1.out with h | h; exact absurd h c3; exact ⟨h.1, h.2.1⟩
          obtain ⟨ra0, ra1⟩ := ra
          obtain ⟨rb0, rb1⟩ := rb
          have HUA := Aside0.mk ua
          have HUB := Aside0.mk ub
          have HS := Aside0.mk (HR1.out.trans hstep)
          clear hstep ua ub c2 c3 HR1
          obtain ⟨ap, e, hpa⟩ := Kd.at_int (Kd.C_below HP.out HBW.out) a' ra0 ra1
          cases e
          obtain ⟨ap', e, hpb⟩ := Kd.at_int (Kd.C_below HP.out HBW.out) b' rb0 rb1
          cases e
          obtain ⟨ai, e, hia⟩ := Kd.at_int (Kd.C_below HI.out HBW.out) a' ra0 ra1
          cases e
          obtain ⟨ai', e, hib⟩ := Kd.at_int (Kd.C_below HI.out HBW.out) b' rb0 rb1
          cases e
          have ho1 : wr.cell? ⟨og, 1, none⟩ = some (.slice (some ap) n cp) := (blk_cell (blk_below HO.out HBW.out) 1).trans rfl
          by_cases c4 : rd pl a' > rd pl b'
          · rw [if_pos c4] at HS
            have c4b : decide (rd pl a' > rd pl b') = true := decide_eq_true c4
            clear c4
            go_wp2_with fail
            go_quiet (fail)
            go_wp2_with fail
            go_roundw
            case rel => exact ⟨rd id a', b', rfl, rfl, ⟨HUA.out.1⟩, HB1, HS, ⟨by first | exact pw_below_drewN HBW.out _ | exact below_drew HBW.out⟩⟩
            case measure => have := HUA.out.2; simp [intOf]; omega
          · rw [if_neg c4] at HS
            have c4b : decide (rd pl a' > rd pl b') = false := decide_eq_false c4
            clear c4
            go_wp2_with fail
            go_quiet (fail)
            go_wp2_with fail
            go_roundw
            case rel => exact ⟨a', rd id b', rfl, rfl, HA1, ⟨HUB.out.1⟩, HS, ⟨by first | exact pw_below_drewN HBW.out _ | exact below_drew HBW.out⟩⟩
            case measure => have := HUB.out.2; simp [intOf]; omega

end Go.Proofs.Ytgbmebnfbhdpiaa
