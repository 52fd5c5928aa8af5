/- A graph that comes in as an argument: that it is read. -/
import Derived.Test.YtgbmebnfbhdpiaaOpenN
import Derived.Test.YtgbmebnfbhdpiaaGrA
import Derived.Deep.Strs
import Derived.Test.YtgbmebnfbhdpiaaOfX
import Derived.Test.YtgbmebnfbhdpiaaGrY
import Derived.WalkKit
import Derived.OpenShut
import Derived.ChangeOld
import Derived.Below
set_option linter.unusedSimpArgs false
set_option linter.unusedVariables false
namespace Go.Proofs.Ytgbmebnfbhdpiaa
open Go.ChangeShapes Go.WideShapes Go.ChangeAt Go.RowKit Go.Deep Go.Proofs.YtgbmebnfbhdpiaaW.PrintWords
section
variable {H : Type} {enc : TypeId × Value → H} {W : World} {base : Nat} {held : Bool}
theorem cells_bytesC {W : World} {a : Addr} {n : Nat} (xs : List Int) (hl : xs.length = n) (hm : n ≤ maxLen) (h : ∀ i, i < n → W.cell? (a.add i) = some (.int .u8 (xs.getD i 0))) : Kd.C (Kd.int .u8) W (some a) n xs := by
  refine ⟨hl, by simp only [maxLen] at hm; omega, fun _ => ⟨a, rfl, fun j p hj => ⟨[.int .u8 p], rfl, rfl, fun i u hu => ?_⟩⟩⟩
  have hjl := (List.getElem?_eq_some_iff.1 hj).1
  cases i with
  | zero =>
    simp only [List.getElem?_cons_zero, Option.some.injEq] at hu
    subst hu
    have e1 : (Kd.int .u8).sz = 1 := rfl
    rw [e1, Nat.mul_one, Nat.add_zero, h j (by omega), List.getD_eq_getElem?_getD, hj]; rfl
  | succ i => simp at hu
theorem open_bytes_C {fuel : Nat} {v : Value} {x : DataW H × List MemPlace} (h : DataW.trod enc Try.prog W base (fun _ => true) held fuel 59 [v] = some x) :
    ∃ A c xs, v = .slice A (xs : List Int).length c ∧ xs.length ≤ c ∧ Kd.C (Kd.int .u8) W A xs.length xs := by
  rcases open_ints Try.underlying59 Try.underlying5 (by kernel_rfl) h with ⟨hcs, _⟩ | ⟨a, len, cap, zs, hcs, _, hl, hm, hz, _, hcell, hwz⟩
  · simp only [List.cons.injEq, and_true] at hcs
    exact ⟨none, 0, [], hcs, Nat.le_refl _, (Kd.R_reads' (Kd.R_nil (Kd.int .u8) 5 W 0 (fun _ => True))).2.2⟩
  · simp only [List.cons.injEq, and_true] at hcs
    simp only [if_true] at hz
    have hlen : (zs.take len).length = len := by rw [List.length_take]; omega
    refine ⟨some a, cap, zs.take len, by rw [hlen]; exact hcs, by omega, ?_⟩
    refine cells_bytesC _ rfl (by omega) (fun i hi => ?_)
    rw [hcell i (by omega), List.getD_eq_getElem?_getD, List.getD_eq_getElem?_getD, List.getElem?_take, if_pos (by omega)]
set_option maxRecDepth 100000 in
theorem open_node {fuel : Nat} {cs : List Value} {x : DataW H × List MemPlace} (h : DataW.trod enc Try.prog W base (fun _ => true) held fuel 61 cs = some x) (hl : cs.length = 3) :
    ∃ y : GN, kN.K W y cs := by
  obtain ⟨y0, y1, y2, n, _, _, k0, k1, k2⟩ := trod_struct3 Try.underlying61 h
  obtain ⟨a, b, c, rfl⟩ : ∃ a b c, cs = [a, b, c] := by
    match cs, hl with
    | [a, b, c], _ => exact ⟨a, b, c, rfl⟩
  have h3 : Try.prog.cellsOf 3 = 1 := by kernel_rfl
  have h23 : Try.prog.cellsOf 23 = 1 := by kernel_rfl
  have h59 : Try.prog.cellsOf 59 = 1 := by kernel_rfl
  simp [h3, h23, h59] at k0 k1 k2
  obtain ⟨m, e, _, _⟩ := DataW.trod_int Try.underlying3 k0
  simp only [List.cons.injEq, and_true] at e
  subst e
  obtain ⟨AP, cp, ps, rfl, e1, e2, _⟩ := open_ints_C k1
  obtain ⟨AD, cd, ds, rfl, e3, e4⟩ := open_bytes_C k2
  exact ⟨(m, (ps, ds)), [.int .i64 m], [_, _], rfl, rfl, [_], [_], rfl, ⟨AP, cp, rfl, e1, e2⟩, ⟨AD, cd, rfl, e3, e4⟩⟩
set_option maxRecDepth 100000 in
theorem open_root {fuel : Nat} {cs : List Value} {x : DataW H × List MemPlace} (h : DataW.trod enc Try.prog W base (fun _ => true) held fuel 71 cs = some x) (hl : cs.length = 2) :
    ∃ y : GR, kR.K W y cs := by
  obtain ⟨y0, y1, n, _, _, k0, k1⟩ := trod_struct2 Try.underlying71 h
  obtain ⟨a, b, rfl⟩ : ∃ a b, cs = [a, b] := by
    match cs, hl with
    | [a, b], _ => exact ⟨a, b, rfl⟩
  have h3 : Try.prog.cellsOf 3 = 1 := by kernel_rfl
  have h9 : Try.prog.cellsOf 9 = 1 := by kernel_rfl
  simp [h3, h9] at k0 k1
  obtain ⟨s, e0, _, _⟩ := DataW.trod_string Try.underlying9 k0
  obtain ⟨m, e1, _, _⟩ := DataW.trod_int Try.underlying3 k1
  simp only [List.cons.injEq, and_true] at e0 e1
  subst e0 e1
  exact ⟨(s, m), [.string s], [.int .i64 m], rfl, rfl, rfl⟩
/-- A slice, of any kind of elements. -/
theorem open_any {α : Type} [Inhabited α] {k : Kd α} {t e : TypeId} {fuel : Nat} {v : Value} {x : DataW H × List MemPlace} (ht : Try.prog.underlying t = some (.slice e)) (hz : Try.prog.cellsOf e = k.sz)
    (hel : ∀ n cs y, DataW.trod enc Try.prog W base (fun _ => true) held n e cs = some y → cs.length = k.sz → ∃ z, k.K W z cs) (h : DataW.trod enc Try.prog W base (fun _ => true) held fuel t [v] = some x) :
    ∃ A c xs, v = .slice A (xs : List α).length c ∧ xs.length ≤ c ∧ Kd.C k W A xs.length xs := by
  rcases open_slice ht h with ⟨hcs, _⟩ | ⟨a, len, cap, m, n, D, Pl, hcs, _, hl, hm, hmm, _, hx⟩
  · simp only [List.cons.injEq, and_true] at hcs
    exact ⟨none, 0, [], hcs, Nat.le_refl _, rfl, by show (0:Nat) ≤ _; decide, fun hp => absurd hp (Nat.lt_irrefl 0)⟩
  · simp only [List.cons.injEq, and_true] at hcs
    simp only [if_true] at hmm
    subst hmm
    rw [hz] at hx
    obtain ⟨f, hf⟩ := choose_lt (n := m) (p := fun i (z : α) => ∃ cs', W.cells? base (a.add (i * k.sz)) k.sz = some cs' ∧ k.K W z cs') (fun i hi => by
      obtain ⟨cs', h1, h2⟩ := hx i hi
      obtain ⟨z, hz⟩ := hel _ _ _ h2 (World.cells?_some h1).2.1
      exact ⟨z, cs', h1, hz⟩)
    have hlen : ((List.range len).map f).length = len := by simp
    refine ⟨some a, m, (List.range len).map f, by rw [hlen]; exact hcs, by omega, rfl, by simp only [maxLen] at hm; omega, fun _ => ⟨a, rfl, fun j p hj => ?_⟩⟩
    have hjl : j < len := by have := (List.getElem?_eq_some_iff.1 hj).1; omega
    rw [List.getElem?_map, List.getElem?_range hjl] at hj
    simp only [Option.map_some, Option.some.injEq] at hj
    subst hj
    obtain ⟨cs', h1, h2⟩ := hf j (by omega)
    obtain ⟨_, h3, h4⟩ := World.cells?_some h1
    refine ⟨cs', h3, h2, fun i u hu => ?_⟩
    have hi : i < k.sz := by have := (List.getElem?_eq_some_iff.1 hu).1; omega
    have := h4 i hi
    rw [Go.Deep.add_add] at this
    rw [this, hu]
set_option maxRecDepth 100000 in
/-- The graph, by value. -/
theorem open_graph {v : Value} {d : DataW H} {p : List MemPlace} {r : Go.Reach} {b0 : Nat} (hv : Value.okWide Try.prog W r b0 58 v) (h : DataW.Trod enc Try.prog W base (fun _ => true) held 58 v d p) :
    ∃ A0 c0 A1 c1 ns rs, v = .agg #[.slice A0 (ns : List GN).length c0, .slice A1 (rs : List GR).length c1] ∧ GraphC W A0 c0 A1 c1 ns rs := by
  obtain ⟨cs, rfl, hcs⟩ := okWide_struct Try.underlying58 hv
  have h58 : Try.prog.cellsOf 58 = 2 := by kernel_rfl
  rw [h58] at hcs
  obtain ⟨fuel, hf⟩ := h
  obtain ⟨y0, y1, n, _, _, k0, k1⟩ := trod_struct2 Try.underlying58 hf
  obtain ⟨a, b, rfl⟩ : ∃ a b, cs = #[a, b] := by
    obtain ⟨l⟩ := cs
    match l, hcs with
    | [a, b], _ => exact ⟨a, b, rfl⟩
  have h55 : Try.prog.cellsOf 55 = 1 := by kernel_rfl
  have h56 : Try.prog.cellsOf 56 = 1 := by kernel_rfl
  simp [Value.cells, h55, h56] at k0 k1
  letI : Inhabited GN := ⟨noN⟩
  letI : Inhabited GR := ⟨noR⟩
  obtain ⟨A0, c0, nx, rfl, e1, e2⟩ := open_any (k := kN) Try.underlying55 (by kernel_rfl) (fun n cs y h1 h2 => open_node h1 h2) k0
  obtain ⟨A1, c1, st, rfl, e3, e4⟩ := open_any (k := kR) Try.underlying56 (by kernel_rfl) (fun n cs y h1 h2 => open_root h1 h2) k1
  exact ⟨A0, c0, A1, c1, nx, st, rfl, ⟨e2, e1, e4, e3⟩⟩
end
end Go.Proofs.Ytgbmebnfbhdpiaa
namespace Go.Proofs.Ytgbmebnfbhdpiaa
open Go.ChangeShapes Go.WideShapes Go.ChangeAt Go.RowKit

set_option maxRecDepth 100000 in
theorem domOf_lifted (os : Os) (started : os.Started) (H : Type) (enc : TypeId × Value → H) :
    ReturnsInHanded {} Try.checked os 9 .any (Rows.domOfSpec.pre6 enc Try.prog Try.f9 Rows.domOfRow.domain false) (Rows.domOfSpec.post enc Try.prog Try.f9 false true false false) := by
  refine returnsInHanded_of_change (C := Try.checked) Try.own started (by kernel_rfl) Try.func9
    (ChangeSpec.witness6 (enc := enc) (C := Try.checked) false ⟨#[], #[.agg #[.slice none 0 0, .slice none 0 0]], []⟩ 8 (by kernel_rfl) (by kernel_rfl) (by kernel_rfl) (by kernel_rfl)) ?_
  intro W base args ds gs before hval0 hW hcnd _
  have hval : ∀ (j : Nat) t v, Try.f9.params[j]? = some t → args[j]? = some v → Value.okWide Try.prog W .any base t v := hval0
  have hW' := hW
  obtain ⟨p, q, hA0, hV, rfl, hfz, hnd⟩ := hW
  have hA : DataW.TrodAll enc Try.prog W 0 (fun _ => true) true Try.f9.params.toList args.toList ds p := hA0
  rw [Try.params9] at hA hval
  obtain ⟨v0, d0, rfl, rfl, h0⟩ := trodAll_one hA
  obtain ⟨rfl, rfl⟩ := trodVars_none hV
  have lt0 : ∀ x ∈ p, x.block < W.heap.size := by obtain ⟨m, hm⟩ := h0; exact DataW.trod_lt m _ _ _ hm
  obtain ⟨A0, c0, A1, c1, nx, st, rfl, hn⟩ := open_graph (hval 0 58 v0 rfl rfl) h0
  clear hA0 hval0
  refine (f9_of f58_any f37_any A0 c0 A1 c1 nx st W hn).mono fun e W' ⟨he, bel⟩ => ?_
  subst he
  exact ⟨_, rfl, _, _, _, [], _, [], hW', trodAll_mk1 (shut_bool Try.underlying4 _), trodAll_mk1 (Below.trod Try.laidOut (by kernel_rfl) (of_decide_eq_true (by kernel_rfl)) h0 bel lt0), rfl, bel.frame _, fun h => by cases h⟩

theorem domOf_holds : Rows.DomOfSaid :=
  OpenClaim.holds_of_wide 9 Try.f9 rfl rfl rfl rfl rfl rfl rfl ⟨rfl, rfl, rfl, rfl, rfl⟩ rfl rfl rfl rfl rfl (by kernel_rfl) Try.func9 (by kernel_rfl)
    (of_decide_eq_true (by kernel_rfl)) (by unfold Func.isWrapper; first | (rw [if_pos (by decide +kernel)]; kernel_rfl) | (rw [if_neg (by decide +kernel)]; exact ⟨rfl, rfl⟩))
    (fun os started H enc _ => domOf_lifted os started H enc)
end Go.Proofs.Ytgbmebnfbhdpiaa
