/- The walk of the law DomWeighs: it is true of every net, by any weights. -/
import Derived.Test.YtgbmebnfbhdpiaaRefD
import Derived.Test.YtgbmebnfbhdpiaaEqF
set_option linter.unusedSimpArgs false
set_option linter.unusedVariables false
namespace Go.Proofs.Ytgbmebnfbhdpiaa
open Go.RowKit Go.Proofs.YtgbmebnfbhdpiaaW.PrintWords Go.Proofs.YtgbmebnfbhdpiaaW.PrintLast

set_option maxRecDepth 100000 in
set_option maxHeartbeats 4000000 in
theorem f4_any (A0 : Option Addr) (c0 : Nat) (A1 : Option Addr) (c1 : Nat) (A2 : Option Addr) (c2 : Nat) (nx : List (List Int)) (st ws : List Int) (w : World) (hn : NetC w A0 c0 A1 c1 nx st) (hw : Kd.C (Kd.int .i64) w A2 ws.length ws) :
    Calls Try.prog 4 #[.agg #[.slice A0 nx.length c0, .slice A1 st.length c1], .slice A2 ws.length c2] w fun e w' => e = .returned (.bool true) ∧ Below w.heap.size w w' := by
  have HN := Aside0.mk hn
  have HW := Aside0.mk hw
  have hL0 : nx.length ≤ 9223372036854775807 := hn.next.2.1
  have hL2 : ws.length ≤ 9223372036854775807 := hw.2.1
  clear hn hw
  go_enter Try.func4, Try.ntmps4
  go_wp2_with fail
  refine (f11_any _).mono ?_
  rintro e w1 ⟨rfl, hb⟩
  obtain ⟨hbk, hz, hb1⟩ := boxed hb
  obtain ⟨hn0, hn1⟩ := box2 hbk
  have HB1 := Aside0.mk hb1
  have HBK := Aside0.mk hbk
  clear hb hb1 hbk
  go_wp2_with fail
  refine (f12_any A0 c0 A1 c1 nx st _ (HN.out.below HB1.out)).mono ?_
  rintro e w2 ⟨fb, rfl, hb⟩
  have HB2 := Aside0.mk (below_trans HB1.out hb)
  have HBK2 := Aside0.mk (blk_below HBK.out hb)
  clear hb hn0 hn1
  obtain ⟨hn0, hn1⟩ := box2 HBK2.out
  cases fb
  · go_wp2_with fail
    refine (f11_any _).mono ?_
    rintro e w3 ⟨rfl, hb⟩
    have HB3 := Aside0.mk (below_trans HB2.out hb)
    clear hb
    go_wp2_with fail
    go_ret
    exact ⟨rfl, HB3.out⟩
  by_cases h400 : ((ws.length : Int) > 400)
  · have h400b : decide ((ws.length : Int) > 400) = true := decide_eq_true h400
    go_wp2_with fail
    refine (f11_any _).mono ?_
    rintro e w3 ⟨rfl, hb⟩
    have HB3 := Aside0.mk (below_trans HB2.out hb)
    clear hb
    go_wp2_with fail
    go_ret
    exact ⟨rfl, HB3.out⟩
  have h400b : decide ((ws.length : Int) > 400) = false := decide_eq_false h400
  clear h400
  go_wp2_with fail
  refine (f19_any A0 c0 A1 c1 A2 c2 nx st ws _ (HN.out.below HB2.out) (Kd.C_below HW.out HB2.out)).mono ?_
  rintro e w3 ⟨vr, rfl, hr, hb⟩
  have HRW := Aside0.mk hr
  have HB3 := Aside0.mk (below_trans HB2.out hb)
  have HBK3 := Aside0.mk (blk_below HBK2.out hb)
  clear hb hr hn0 hn1 h400b
  obtain ⟨hn0, hn1⟩ := box2 HBK3.out
  obtain ⟨AW, kW, eW⟩ := Kd.R_slice HRW.out
  subst eW
  go_wp2_with fail
  refine (f20_any A0 c0 A1 c1 A2 c2 nx st ws _ (HN.out.below HB3.out) (Kd.C_below HW.out HB3.out)).mono ?_
  rintro e w4 ⟨vs, rfl, hr, hb⟩
  have HRS := Aside0.mk hr
  have HRW4 := Aside0.mk (Kd.R_below HRW.out hb)
  have HB4 := Aside0.mk (below_trans HB3.out hb)
  obtain ⟨AS, kS, eS⟩ := Kd.R_slice HRS.out
  subst eS
  clear hb hr hn0 hn1 HRW
  go_wp2_with fail
  refine (f21_any AW kW AS kS (retA nx st ws) (retA nx st ws) _ (Kd.R_reads' HRW4.out).2.2 (Kd.R_reads' HRS.out).2.2).mono ?_
  rintro e w5 ⟨rfl, hb⟩
  have HB5 := Aside0.mk (below_trans HB4.out hb)
  clear hb
  have hxx : decide (retA nx st ws = retA nx st ws) = true := decide_eq_true rfl
  rw [hxx]
  have hee : (retE nx st ws == retE nx st ws) = true := by simp
  go_wp2_with fail
  go_ret
  exact ⟨rfl, HB5.out⟩
end Go.Proofs.Ytgbmebnfbhdpiaa
