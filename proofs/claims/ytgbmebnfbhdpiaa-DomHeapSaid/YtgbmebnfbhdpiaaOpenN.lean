/- A net that comes in as an argument: that it is read. -/
import Derived.Test.YtgbmebnfbhdpiaaBegunF
import Derived.Test.YtgbmebnfbhdpiaaRows
import Derived.ProofKit
import Derived.Deep.Matrix
set_option linter.unusedSimpArgs false
set_option linter.unusedVariables false
namespace Go.Proofs.Ytgbmebnfbhdpiaa
open Go.ChangeShapes Go.WideShapes Go.ChangeAt Go.RowKit Go.Deep Go.Proofs.YtgbmebnfbhdpiaaW.PrintWords

theorem Try.own : ownKnob Try.prog.godebug = none := by kernel_rfl
theorem Try.laidOut : laidOutB Try.prog = true := by kernel_rfl

theorem cells_intsC {W : World} {a : Addr} {n : Nat} (xs : List Int) (hl : xs.length = n) (hm : n ≤ maxLen) (h : ∀ i, i < n → W.cell? (a.add i) = some (.int .i64 (xs.getD i 0))) : Kd.C (Kd.int .i64) W (some a) n xs := by
  refine ⟨hl, by simp only [maxLen] at hm; omega, fun _ => ⟨a, rfl, fun j p hj => ⟨[.int .i64 p], rfl, rfl, fun i u hu => ?_⟩⟩⟩
  have hjl := (List.getElem?_eq_some_iff.1 hj).1
  cases i with
  | zero =>
    simp only [List.getElem?_cons_zero, Option.some.injEq] at hu
    subst hu
    have e1 : (Kd.int .i64).sz = 1 := rfl
    rw [e1, Nat.mul_one, Nat.add_zero, h j (by omega), List.getD_eq_getElem?_getD, hj]; rfl
  | succ i => simp at hu
theorem C_none (W : World) : Kd.C (Kd.int .i64) W none 0 [] := C_nil W
section
variable {H : Type} {enc : TypeId × Value → H} {W : World} {base : Nat} {held : Bool}
theorem open_ints_C {fuel : Nat} {v : Value} {x : DataW H × List MemPlace} (h : DataW.trod enc Try.prog W base (fun _ => true) held fuel 23 [v] = some x) :
    ∃ A c xs, v = .slice A (xs : List Int).length c ∧ xs.length ≤ c ∧ Kd.C (Kd.int .i64) W A xs.length xs ∧ ∀ n ∈ xs, (Lit.int .i64 n).wf = true := by
  rcases open_ints Try.underlying23 Try.underlying3 (by kernel_rfl) h with ⟨hcs, _⟩ | ⟨a, len, cap, zs, hcs, _, hl, hm, hz, _, hcell, hwz⟩
  · simp only [List.cons.injEq, and_true] at hcs
    exact ⟨none, 0, [], hcs, Nat.le_refl _, C_none W, by simp⟩
  · simp only [List.cons.injEq, and_true] at hcs
    simp only [if_true] at hz
    have hlen : (zs.take len).length = len := by rw [List.length_take]; omega
    refine ⟨some a, cap, zs.take len, by rw [hlen]; exact hcs, by omega, ?_, fun n hn => hwz n (List.mem_of_mem_take hn)⟩
    refine cells_intsC _ rfl (by omega) (fun i hi => ?_)
    rw [hcell i (by omega), List.getD_eq_getElem?_getD, List.getD_eq_getElem?_getD, List.getElem?_take, if_pos (by omega)]
theorem open_rows_C {fuel : Nat} {v : Value} {x : DataW H × List MemPlace} (h : DataW.trod enc Try.prog W base (fun _ => true) held fuel 22 [v] = some x) :
    ∃ A c xs, v = .slice A (xs : List (List Int)).length c ∧ xs.length ≤ c ∧ Kd.C (Kd.slice 3 (Kd.int .i64)) W A xs.length xs := by
  rcases open_int_rows Try.underlying22 Try.underlying23 Try.underlying3 (by kernel_rfl) (by kernel_rfl) h with ⟨hcs, _⟩ | ⟨a, len, cap, A, L, C, Z, hcs, _, hl, hm, _, hrows⟩
  · simp only [List.cons.injEq, and_true] at hcs
    refine ⟨none, 0, [], hcs, Nat.le_refl _, (Kd.R_reads' (Kd.R_nil (Kd.slice 3 (Kd.int .i64)) 23 W 0 (fun _ => True))).2.2⟩
  · simp only [List.cons.injEq, and_true] at hcs
    have hlen : ((List.range len).map fun r => (Z r).take (L r)).length = len := by simp
    refine ⟨some a, cap, (List.range len).map fun r => (Z r).take (L r), by rw [hlen]; exact hcs, by omega, ?_⟩
    refine ⟨rfl, by simp only [maxLen] at hm; omega, fun _ => ⟨a, rfl, fun j p hj => ?_⟩⟩
    have hjl : j < len := by have := (List.getElem?_eq_some_iff.1 hj).1; omega
    rw [List.getElem?_map, List.getElem?_range hjl] at hj
    simp only [Option.map_some, Option.some.injEq] at hj
    subst hj
    obtain ⟨hc, h1, h2, h3, _, h5, h6⟩ := hrows j (by omega)
    have hpl : ((Z j).take (L j)).length = L j := by rw [List.length_take]; omega
    refine ⟨[.slice (A j) (L j) (C j)], rfl, ⟨A j, C j, by rw [hpl], by omega, ?_⟩, fun i u hu => ?_⟩
    · rw [hpl]
      cases hA : A j with
      | none =>
        have h0 := h5 hA
        have hL : L j = 0 := by omega
        rw [hL, List.take_zero]
        exact C_none W
      | some a' =>
        obtain ⟨_, hcell⟩ := h6 a' hA
        refine cells_intsC _ hpl (by omega) (fun i hi => ?_)
        rw [hcell i (by omega), List.getD_eq_getElem?_getD, List.getD_eq_getElem?_getD, List.getElem?_take, if_pos hi]
    · cases i with
      | zero =>
        simp only [List.getElem?_cons_zero, Option.some.injEq] at hu
        subst hu
        have e1 : (Kd.slice 3 (Kd.int .i64)).sz = 1 := rfl
        rw [e1, Nat.mul_one, Nat.add_zero]
        exact hc
      | succ i => simp at hu
set_option maxRecDepth 100000 in
/-- The net, by value. -/
theorem open_net {v : Value} {d : DataW H} {p : List MemPlace} {r : Go.Reach} {b0 : Nat} (hv : Value.okWide Try.prog W r b0 25 v) (h : DataW.Trod enc Try.prog W base (fun _ => true) held 25 v d p) :
    ∃ A0 c0 A1 c1 nx st, v = .agg #[.slice A0 (nx : List (List Int)).length c0, .slice A1 (st : List Int).length c1] ∧ NetC W A0 c0 A1 c1 nx st := by
  obtain ⟨cs, rfl, hcs⟩ := okWide_struct Try.underlying25 hv
  have h25 : Try.prog.cellsOf 25 = 2 := by kernel_rfl
  rw [h25] at hcs
  obtain ⟨fuel, hf⟩ := h
  obtain ⟨y0, y1, n, _, _, k0, k1⟩ := trod_struct2 Try.underlying25 hf
  obtain ⟨a, b, rfl⟩ : ∃ a b, cs = #[a, b] := by
    obtain ⟨l⟩ := cs
    match l, hcs with
    | [a, b], _ => exact ⟨a, b, rfl⟩
  have h22 : Try.prog.cellsOf 22 = 1 := by kernel_rfl
  have h23 : Try.prog.cellsOf 23 = 1 := by kernel_rfl
  simp [Value.cells, h22, h23] at k0 k1
  obtain ⟨A0, c0, nx, rfl, e1, e2⟩ := open_rows_C k0
  obtain ⟨A1, c1, st, rfl, e3, e4, _⟩ := open_ints_C k1
  exact ⟨A0, c0, A1, c1, nx, st, rfl, ⟨e2, e1, e4, e3⟩⟩
end
end Go.Proofs.Ytgbmebnfbhdpiaa
