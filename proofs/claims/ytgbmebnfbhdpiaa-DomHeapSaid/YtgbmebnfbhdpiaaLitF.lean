/- The walks of the law's own small functions: the net with a diamond, and whether a net is small. -/
import Derived.Test.YtgbmebnfbhdpiaaRetainF
import Derived.Test.YtgbmebnfbhdpiaaEqF
set_option linter.unusedSimpArgs false
set_option linter.unusedVariables false
namespace Go.Proofs.Ytgbmebnfbhdpiaa
open Go.RowKit Go.Proofs.YtgbmebnfbhdpiaaW.PrintWords Go.Proofs.YtgbmebnfbhdpiaaW.PrintLast

theorem intsC {w : World} {g t c : Nat} (xs : List Int) (hc : xs.length ≤ c) (hm : c ≤ 8192) (h : w.heap[g]? = some (.cells (xs.map (Value.int .i64)).toArray t (0, 0))) (hn : xs.length = c) : Kd.C (Kd.int .i64) w (some ⟨g, 0, none⟩) xs.length xs := by
  have hR : Kd.R (Kd.int .i64) t w 0 (fun _ => True) (.slice (some ⟨g, 0, none⟩) xs.length c) xs := by
    refine Kd.R_of_own (enc := Value.int .i64) ?_ (fun _ _ => trivial)
    exact ⟨by simp [encs], .inr ⟨g, c, _, rfl, Nat.zero_le _, h, hc, by simp only [maxLen]; omega, by simp [hn], by simp only [encs]; rw [List.take_of_length_le (by simp)]⟩⟩
  exact (Kd.R_reads' hR).2.2
theorem rowsC {w : World} {g t : Nat} {rows : List Value} {xs : List (List Int)} (h : w.heap[g]? = some (.cells rows.toArray t (0, 0))) (hl : rows.length = xs.length) (hm : xs.length ≤ 8192)
    (hr : ∀ i : Nat, i < xs.length → ∃ A k, rows[i]? = some (.slice A (xs.getD i []).length k) ∧ (xs.getD i []).length ≤ k ∧ Kd.C (Kd.int .i64) w A (xs.getD i []).length (xs.getD i [])) : Kd.C (Kd.slice 3 (Kd.int .i64)) w (some ⟨g, 0, none⟩) xs.length xs := by
  refine ⟨rfl, by omega, fun _ => ⟨_, rfl, fun j p hj => ?_⟩⟩
  have hjl := (List.getElem?_eq_some_iff.1 hj).1
  obtain ⟨A, k, d, e1, e2⟩ := hr j hjl
  have hp : xs.getD j [] = p := by rw [List.getD_eq_getElem?_getD, hj]; rfl
  rw [hp] at d e1 e2
  refine ⟨[.slice A p.length k], rfl, ⟨A, k, rfl, e1, e2⟩, fun i u hu => ?_⟩
  cases i with
  | zero =>
    simp only [List.getElem?_cons_zero, Option.some.injEq] at hu
    subst hu
    have : (Kd.slice 3 (Kd.int .i64)).sz = 1 := rfl
    rw [this, Nat.mul_one, Nat.add_zero, add_plain, blk_cell h]
    simpa using d
  | succ i => simp at hu

def someN : List (List Int) := [[1, 2], [3], [3], [4], []]
set_option maxRecDepth 100000 in
set_option maxHeartbeats 2000000 in
theorem f44_any (w : World) : Calls Try.prog 44 #[] w fun e w' => ∃ A0 A1, e = .returned (.agg #[.slice A0 5 5, .slice A1 1 1]) ∧ NetC w' A0 5 A1 1 someN [0] ∧ Below w.heap.size w w' := by
  go_enter Try.func44, Try.ntmps44
  go_wp2_with fail
  obtain ⟨g, hg⟩ : ∃ g, g = w.heap.size := ⟨_, rfl⟩
  have hb0 : Below w.heap.size w (w.alloc (.cells #[.slice (some ⟨w.heap.size + 1 + 1 + 1 + 1 + 1, 0, none⟩) 5 5, .slice (some ⟨w.heap.size + 1 + 1 + 1 + 1 + 1 + 1, 0, none⟩) 1 1] 25)) := (Below.refl _ _).alloc (Nat.le_refl _) _
  have hk0 := blk_new w (.cells #[.slice (some ⟨w.heap.size + 1 + 1 + 1 + 1 + 1, 0, none⟩) 5 5, .slice (some ⟨w.heap.size + 1 + 1 + 1 + 1 + 1 + 1, 0, none⟩) 1 1] 25)
  generalize hW0 : (w.alloc (.cells #[.slice (some ⟨w.heap.size + 1 + 1 + 1 + 1 + 1, 0, none⟩) 5 5, .slice (some ⟨w.heap.size + 1 + 1 + 1 + 1 + 1 + 1, 0, none⟩) 1 1] 25)) = W0 at hb0 hk0 ⊢
  have hs0 : W0.heap.size = w.heap.size + 1 := by rw [← hW0]; simp
  have hb1 := hb0.alloc (hb0.size) (.cells #[.int .i64 1, .int .i64 2] 3)
  have hk1 := blk_new W0 (.cells #[.int .i64 1, .int .i64 2] 3)
  have hk0 := blk_alloc hk0 (.cells #[.int .i64 1, .int .i64 2] 3)
  generalize hW1 : W0.alloc (.cells #[.int .i64 1, .int .i64 2] 3) = W1 at hb1 hk0 hk1 ⊢
  have hs1 : W1.heap.size = w.heap.size + 1 + 1 := by rw [← hW1]; simp [hs0]
  have hb2 := hb1.alloc (hb1.size) (.cells #[.int .i64 3] 3)
  have hk2 := blk_new W1 (.cells #[.int .i64 3] 3)
  have hk1 := blk_alloc hk1 (.cells #[.int .i64 3] 3)
  have hk0 := blk_alloc hk0 (.cells #[.int .i64 3] 3)
  generalize hW2 : W1.alloc (.cells #[.int .i64 3] 3) = W2 at hb2 hk0 hk1 hk2 ⊢
  have hs2 : W2.heap.size = w.heap.size + 1 + 1 + 1 := by rw [← hW2]; simp [hs1]
  have hb3 := hb2.alloc (hb2.size) (.cells #[.int .i64 3] 3)
  have hk3 := blk_new W2 (.cells #[.int .i64 3] 3)
  have hk2 := blk_alloc hk2 (.cells #[.int .i64 3] 3)
  have hk1 := blk_alloc hk1 (.cells #[.int .i64 3] 3)
  have hk0 := blk_alloc hk0 (.cells #[.int .i64 3] 3)
  generalize hW3 : W2.alloc (.cells #[.int .i64 3] 3) = W3 at hb3 hk0 hk1 hk2 hk3 ⊢
  have hs3 : W3.heap.size = w.heap.size + 1 + 1 + 1 + 1 := by rw [← hW3]; simp [hs2]
  have hb4 := hb3.alloc (hb3.size) (.cells #[.int .i64 4] 3)
  have hk4 := blk_new W3 (.cells #[.int .i64 4] 3)
  have hk3 := blk_alloc hk3 (.cells #[.int .i64 4] 3)
  have hk2 := blk_alloc hk2 (.cells #[.int .i64 4] 3)
  have hk1 := blk_alloc hk1 (.cells #[.int .i64 4] 3)
  have hk0 := blk_alloc hk0 (.cells #[.int .i64 4] 3)
  generalize hW4 : W3.alloc (.cells #[.int .i64 4] 3) = W4 at hb4 hk0 hk1 hk2 hk3 hk4 ⊢
  have hs4 : W4.heap.size = w.heap.size + 1 + 1 + 1 + 1 + 1 := by rw [← hW4]; simp [hs3]
  obtain ⟨rows, hrows⟩ : ∃ rows : List Value, rows = [.slice (some ⟨w.heap.size + 1, 0, none⟩) 2 2, .slice (some ⟨w.heap.size + 1 + 1, 0, none⟩) 1 1, .slice (some ⟨w.heap.size + 1 + 1 + 1, 0, none⟩) 1 1, .slice (some ⟨w.heap.size + 1 + 1 + 1 + 1, 0, none⟩) 1 1, .slice none 0 0] := ⟨_, rfl⟩
  have hra : (#[.slice (some ⟨w.heap.size + 1, 0, none⟩) 2 2, .slice (some ⟨w.heap.size + 1 + 1, 0, none⟩) 1 1, .slice (some ⟨w.heap.size + 1 + 1 + 1, 0, none⟩) 1 1, .slice (some ⟨w.heap.size + 1 + 1 + 1 + 1, 0, none⟩) 1 1, .slice none 0 0] : Array Value) = rows.toArray := by rw [hrows]
  rw [hra]
  have hb5 := (hb4.alloc (hb4.size) (.cells rows.toArray 23)).alloc (by simp [hs4]; omega) (.cells #[.int .i64 0] 3)
  have hk5 := blk_alloc (blk_new W4 (.cells rows.toArray 23)) (.cells #[.int .i64 0] 3)
  have hk6 := blk_new (W4.alloc (.cells rows.toArray 23)) (.cells #[.int .i64 0] 3)
  have hk4 := blk_alloc (blk_alloc hk4 (.cells rows.toArray 23)) (.cells #[.int .i64 0] 3)
  have hk3 := blk_alloc (blk_alloc hk3 (.cells rows.toArray 23)) (.cells #[.int .i64 0] 3)
  have hk2 := blk_alloc (blk_alloc hk2 (.cells rows.toArray 23)) (.cells #[.int .i64 0] 3)
  have hk1 := blk_alloc (blk_alloc hk1 (.cells rows.toArray 23)) (.cells #[.int .i64 0] 3)
  have hk0 := blk_alloc (blk_alloc hk0 (.cells rows.toArray 23)) (.cells #[.int .i64 0] 3)
  generalize (W4.alloc (.cells rows.toArray 23)).alloc (.cells #[.int .i64 0] 3) = W at hb5 hk0 hk1 hk2 hk3 hk4 hk5 hk6 ⊢
  rw [World.size_alloc, hs4] at hk6
  rw [hs4] at hk5
  rw [hs3] at hk4
  rw [hs2] at hk3
  rw [hs1] at hk2
  rw [hs0] at hk1
  obtain ⟨hc0, hc1⟩ := box2 hk0
  refine bodyPost_ret (v := .agg #[.slice (some ⟨w.heap.size + 1 + 1 + 1 + 1 + 1, 0, none⟩) 5 5, .slice (some ⟨w.heap.size + 1 + 1 + 1 + 1 + 1 + 1, 0, none⟩) 1 1]) ?_ rfl ⟨_, _, rfl, ⟨?_, Nat.le_refl _, ?_, Nat.le_refl _⟩, hb5⟩
  · simp [results, Try.f44, go_sem, hc0, hc1]
  · refine rowsC (xs := someN) hk5 (by rw [hrows]; rfl) (by decide) (fun i hi => ?_)
    rw [hrows]
    match i, hi with
    | 0, _ => exact ⟨_, _, rfl, Nat.le_refl _, intsC (c := 2) [1, 2] (by decide) (by decide) hk1 rfl⟩
    | 1, _ => exact ⟨_, _, rfl, Nat.le_refl _, intsC (c := 1) [3] (by decide) (by decide) hk2 rfl⟩
    | 2, _ => exact ⟨_, _, rfl, Nat.le_refl _, intsC (c := 1) [3] (by decide) (by decide) hk3 rfl⟩
    | 3, _ => exact ⟨_, _, rfl, Nat.le_refl _, intsC (c := 1) [4] (by decide) (by decide) hk4 rfl⟩
    | 4, _ => exact ⟨_, _, rfl, Nat.le_refl _, C_nil _⟩
  · exact intsC (c := 1) [0] (by decide) (by decide) hk6 rfl
end Go.Proofs.Ytgbmebnfbhdpiaa
