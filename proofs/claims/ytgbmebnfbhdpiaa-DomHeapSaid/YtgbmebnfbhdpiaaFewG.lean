/- The walk of the law's few once more: where it says true, the net is small. -/
import Derived.Test.YtgbmebnfbhdpiaaFewF
set_option linter.unusedSimpArgs false
set_option linter.unusedVariables false
namespace Go.Proofs.Ytgbmebnfbhdpiaa
open Go.RowKit Go.Proofs.YtgbmebnfbhdpiaaW.PrintWords

/-- A small net. -/
structure Few (nx : List (List Int)) (st : List Int) : Prop where
  len : nx.length ≤ 40
  starts : st.length ≤ 400
  next : ∀ k, (nx.getD k []).length ≤ 400
def FewBool (nx : List (List Int)) (st : List Int) (w : World) (e : Ending) (w' : World) : Prop := ∃ b, e = .returned (.bool b) ∧ (b = true → Few nx st) ∧ Below w.heap.size w w'
theorem few_of {nx : List (List Int)} {st : List Int} (h0 : nx.length ≤ 40) (h1 : st.length ≤ 400) (h2 : ∀ k, k < nx.length → (nx.getD k []).length ≤ 400) : Few nx st :=
  ⟨h0, h1, fun k => by
    rcases Nat.lt_or_ge k nx.length with h | h
    · exact h2 k h
    · rw [List.getD_eq_getElem?_getD, List.getElem?_eq_none h]; simp⟩
set_option maxRecDepth 100000 in
set_option maxHeartbeats 2000000 in
theorem f12_few (A0 : Option Addr) (c0 : Nat) (A1 : Option Addr) (c1 : Nat) (nx : List (List Int)) (st : List Int) (w : World) (hn : NetC w A0 c0 A1 c1 nx st) :
    Calls Try.prog 12 #[.agg #[.slice A0 nx.length c0, .slice A1 st.length c1]] w (FewBool nx st w) := by
  have HN := Aside0.mk hn
  have hL0 : nx.length ≤ 9223372036854775807 := hn.next.2.1
  have hL1 : st.length ≤ 9223372036854775807 := hn.start.2.1
  have hcap := hn.ncap
  clear hn
  have HB0 : Aside0 (∀ cs : Array Value, Below w.heap.size w (w.alloc (.cells cs 25))) := ⟨fun _ => (Below.refl _ _).alloc (Nat.le_refl _) _⟩
  have HK0 : Aside0 (∀ cs : Array Value, (w.alloc (.cells cs 25)).heap[w.heap.size]? = some (.cells cs 25 (0, 0))) := ⟨fun cs => blk_new _ _⟩
  go_enter Try.func12, Try.ntmps12
  go_wp2_with fail
  all_goals (
    go_loop [3, 18] (fun v3 v18 => ∃ i m : Int, v3 = .int .i64 m ∧ v18 = .int .i64 i ∧ 0 ≤ i ∧ i ≤ nx.length ∧ 0 ≤ m ∧ m ≤ 1048576 ∧ Aside0 (m ≤ 400 → st.length ≤ 400 ∧ ∀ k, k < i.toNat → (nx.getD k []).length ≤ 400)) (fun _ v18 => nx.length - (intOf v18).toNat)
    case atStart => exact ⟨0, _, rfl, rfl, by omega, by omega, by omega, by omega, ⟨fun h => ⟨by omega, fun k hk => absurd hk (by simp)⟩⟩⟩
    case round =>
      obtain ⟨i, m, rfl, rfl, hi0, hi1, hm0, hm1, HP⟩ := hrel
      by_cases hil : i < nx.length
      · obtain ⟨ad, B, c, l, e, HL, hc2, hcl, hr⟩ := at_slice_n (Kd.C_below HN.out.next (HB0.out #[.slice A0 nx.length c0, .slice A1 st.length c1])) i hi0 hil
        cases e
        have hll : l.length ≤ 9223372036854775807 := hr.2.1
        clear hr
        go_wp2_with fail
        all_goals first
          | (go_round
             (case rel => exact ⟨i + 1, _, rfl, rfl, by omega, by omega, by omega, by omega, ⟨fun h => by
                have hm4 : m ≤ 400 ∧ (l.length : Int) ≤ 400 := by omega
                obtain ⟨p1, p2⟩ := HP.out hm4.1
                refine ⟨p1, fun k hk => ?_⟩
                by_cases c : k < i.toNat
                · exact p2 k c
                · obtain rfl : k = i.toNat := by omega
                  rw [← HL.out]; omega⟩⟩)
             (case measure => simp [intOf]; omega))
          | (go_ret; exact ⟨false, rfl, (fun h => by cases h), HB0.out _⟩)
      · go_wp2_with fail
        all_goals first
          | (go_ret; exact ⟨false, rfl, (fun h => by cases h), HB0.out _⟩)
          | (go_ret; exact ⟨decide (m ≤ 400), rfl, (fun h => by
              obtain ⟨p1, p2⟩ := HP.out (of_decide_eq_true h)
              exact few_of (by omega) p1 (fun k hk => p2 k (by omega))), HB0.out _⟩))
end Go.Proofs.Ytgbmebnfbhdpiaa
