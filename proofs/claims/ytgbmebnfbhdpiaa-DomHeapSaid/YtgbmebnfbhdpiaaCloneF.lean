/- The walks of slices.Clone over numbers, and of the law's clone of a net: a copy of its own that reads the same. -/
import Derived.Test.YtgbmebnfbhdpiaaRefB
import Derived.Test.YtgbmebnfbhdpiaaFewG
set_option linter.unusedSimpArgs false
set_option linter.unusedVariables false
namespace Go.Proofs.Ytgbmebnfbhdpiaa
open Go.RowKit Go.Proofs.YtgbmebnfbhdpiaaW.PrintWords Go.Proofs.YtgbmebnfbhdpiaaW.PrintLast

theorem nil_of_C {w : World} {xs : List Int} (h : Kd.C (Kd.int .i64) w none xs.length xs) : xs = [] := by
  obtain ⟨_, _, h2⟩ := h
  cases xs with
  | nil => rfl
  | cons x xs => obtain ⟨a, e, _⟩ := h2 (by simp); cases e
theorem run_equalIn23 (w : World) (d : Nat) (a : Option Addr) (l c : Nat) : (Op.equalIn (d + 1) 23 (.slice a l c) (.slice none 0 0)).run Try.prog w = .ok a.isNone w := by
  have h : Try.prog.underlying 23 = some (.slice 3) := Try.underlying23
  cases a <;> simp [Op.equalIn, run_underlying h]
theorem run_equal23 (w : World) (a : Option Addr) (l c : Nat) : (Op.equal 23 (.slice a l c) (.slice none 0 0)).run Try.prog w = .ok a.isNone w := run_equalIn23 w 9999 a l c
theorem run_eql_nil23 (w : World) (a : Option Addr) (l c : Nat) : (binOp .eql 23 (.slice a l c) (.slice none 0 0)).run Try.prog w = .ok (.bool a.isNone) w := by
  simp [binOp, run_equal23 w a l c]
theorem R_empty (w : World) : Kd.R (Kd.int .i64) 3 (w.alloc (.cells #[] 3)) w.heap.size (fun _ => True) (.slice (some ⟨w.heap.size, 0, none⟩) 0 0) [] :=
  ⟨fun _ _ => trivial, [], by
    have := World.ownsRow_lit (base := w.heap.size) (e := 3) (size := 1) w #[] 0 (Nat.le_refl _) (by decide) (by simp)
    show World.ownsRow _ _ _ 1 _ _ _
    simpa using this, ⟨by simp, fun j p hj => by simp at hj⟩⟩
attribute [local go_sem] run_eql_nil23
set_option maxRecDepth 100000 in
set_option maxHeartbeats 1000000 in
theorem f53_any (A : Option Addr) (c : Nat) (xs : List Int) (w : World) (hx : Kd.C (Kd.int .i64) w A xs.length xs) (hl : xs.length ≤ 65536) :
    Calls Try.prog 53 #[.slice A xs.length c] w fun e w' => ∃ v, e = .returned v ∧ Kd.R (Kd.int .i64) 3 w' w.heap.size (fun _ => True) v xs ∧ Below w.heap.size w w' := by
  cases A with
  | none =>
    have := nil_of_C hx
    subst this
    go_enter Try.func53, Try.ntmps53
    go_wp2_with fail
    go_ret
    exact ⟨_, rfl, Kd.R_nil _ _ _ _ _, Below.refl _ _⟩
  | some ad =>
    have HX := Aside0.mk hx
    clear hx
    go_enter Try.func53, Try.ntmps53
    go_wp2_with (at_builtin; go_loud (refine R_append_ints (w0 := w) w.heap.size rfl (.tmp 5) (.tmp 6) 23 3 (.int .i64 0) 8 rfl Try.underlying23 info3 rfl (by decide) _ [] xs (some ad) xs.length c rfl rfl (R_empty w) (Kd.C_below HX.out ((Below.refl _ _).alloc (Nat.le_refl _) _)) ((Below.refl _ _).alloc (Nat.le_refl _) _) (by simp) (by simp; omega) ?_; intro v1 w1 ho hb hg; rw [List.nil_append] at ho; have H1 := Aside0.mk (And.intro ho hb); clear ho hb hg))
    go_ret
    exact ⟨_, rfl, H1.out.1, H1.out.2⟩
end Go.Proofs.Ytgbmebnfbhdpiaa
