/- The walk of the law's few: it answers, and leaves what was. -/
import Derived.Test.YtgbmebnfbhdpiaaBase
set_option linter.unusedSimpArgs false
set_option linter.unusedVariables false
namespace Go.Proofs.Ytgbmebnfbhdpiaa
open Go.RowKit Go.Proofs.YtgbmebnfbhdpiaaW.PrintWords

/-- Some answer, and what was stays. -/
def AnyBool (w : World) (e : Ending) (w' : World) : Prop := ∃ b, e = .returned (.bool b) ∧ Below w.heap.size w w'
set_option maxRecDepth 100000 in
set_option maxHeartbeats 2000000 in
theorem f12_any (A0 : Option Addr) (c0 : Nat) (A1 : Option Addr) (c1 : Nat) (nx : List (List Int)) (st : List Int) (w : World) (hn : NetC w A0 c0 A1 c1 nx st) :
    Calls Try.prog 12 #[.agg #[.slice A0 nx.length c0, .slice A1 st.length c1]] w (AnyBool w) := by
  have HN := Aside0.mk hn
  have hL0 : nx.length ≤ 9223372036854775807 := hn.next.2.1
  have hL1 : st.length ≤ 9223372036854775807 := hn.start.2.1
  have hcap := hn.ncap
  clear hn
  have HB0 : Aside0 (∀ cs : Array Value, Below w.heap.size w (w.alloc (.cells cs 25))) := ⟨fun _ => (Below.refl _ _).alloc (Nat.le_refl _) _⟩
  have HK0 : Aside0 (∀ cs : Array Value, (w.alloc (.cells cs 25)).heap[w.heap.size]? = some (.cells cs 25 (0, 0))) := ⟨fun cs => blk_new _ _⟩
  go_enter Try.func12, Try.ntmps12
  go_wp2_with fail
  all_goals (
    go_loop [3, 18] (fun v3 v18 => ∃ i m : Int, v3 = .int .i64 m ∧ v18 = .int .i64 i ∧ 0 ≤ i ∧ i ≤ nx.length ∧ 0 ≤ m ∧ m ≤ 1048576) (fun _ v18 => nx.length - (intOf v18).toNat)
    case atStart => exact ⟨0, _, rfl, rfl, by omega, by omega, by omega, by omega⟩
    case round =>
      obtain ⟨i, m, rfl, rfl, hi0, hi1, hm0, hm1⟩ := hrel
      by_cases hil : i < nx.length
      · obtain ⟨ad, B, c, l, e, HL, hc2, hcl, hr⟩ := at_slice_n (Kd.C_below HN.out.next (HB0.out #[.slice A0 nx.length c0, .slice A1 st.length c1])) i hi0 hil
        cases e
        have hll : l.length ≤ 9223372036854775807 := hr.2.1
        clear hr
        go_wp2_with fail
        all_goals first | (go_round; (case rel => exact ⟨i + 1, _, rfl, rfl, by omega, by omega, by omega, by omega⟩); (case measure => simp [intOf]; omega)) | (go_ret; exact ⟨_, rfl, HB0.out _⟩)
      · go_wp2_with fail
        all_goals (go_ret; exact ⟨_, rfl, HB0.out _⟩))
end Go.Proofs.Ytgbmebnfbhdpiaa
