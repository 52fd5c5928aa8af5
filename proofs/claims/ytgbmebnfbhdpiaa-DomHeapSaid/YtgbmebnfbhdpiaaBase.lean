/- Small lemmas that the walks of this seat share: the form of an ending, reading a net, a call through a function value. -/
import Derived.Test.YtgbmebnfbhdpiaaProg
import Derived.Test.YtgbmebnfbhdpiaaWWords
import Derived.Test.YtgbmebnfbhdpiaaWMore
import Derived.WalkSpells
import Derived.WalkLawsBesides
import Derived.Deep.CutBlock
import Derived.Deep.LoopGhost
namespace Go.Proofs.Ytgbmebnfbhdpiaa
open Go.RowKit Go.Proofs.YtgbmebnfbhdpiaaW.PrintWords

theorem ret_int {k : IntKind} {a b : Int} (h : a = b) : Ending.returned (.int k a) = Ending.returned (.int k b) := by rw [h]
theorem ret_bool {a b : Bool} (h : a = b) : Ending.returned (.bool a) = Ending.returned (.bool b) := by rw [h]

theorem ret_vi {v : Value} {k : IntKind} {a b : Int} (h : a = b) : Ending.returned (.tuple #[v, .int k a]) = Ending.returned (.tuple #[v, .int k b]) := by rw [h]

theorem callFunc_some {f : Nat} {fn : Func} (hf : Try.prog.funcs[f]? = some fn) (hn : (fn.name == "runtime.NumGoroutine") = false) (hb : fn.body.isNone = false) (args : Array Value) (w : World) :
    (callFunc f args).run Try.prog w = .ok (.enter f args) w := by
  have hb' : ¬ fn.body = none := by rw [← Option.isNone_iff_eq_none, hb]; simp
  have hn' : ¬ fn.name = "runtime.NumGoroutine" := by simpa using hn
  simp [callFunc, go_sem, hf, hn', hb']

/-- A net that is read: the lists' cells, and the capacities. -/
structure NetC (w : World) (A0 : Option Addr) (c0 : Nat) (A1 : Option Addr) (c1 : Nat) (nx : List (List Int)) (st : List Int) : Prop where
  next : Kd.C (Kd.slice 3 (Kd.int .i64)) w A0 nx.length nx
  ncap : nx.length ≤ c0
  start : Kd.C (Kd.int .i64) w A1 st.length st
  scap : st.length ≤ c1
theorem NetC.below {w w1 : World} {A0 c0 A1 c1 nx st} (h : NetC w A0 c0 A1 c1 nx st) (hb : Below w.heap.size w w1) : NetC w1 A0 c0 A1 c1 nx st :=
  ⟨Kd.C_below h.next hb, h.ncap, Kd.C_below h.start hb, h.scap⟩

/-- One of a slice's slices: where it stands, and that it is read. -/
theorem at_slice {w : World} {A : Option Addr} {n : Nat} {xs : List (List Int)} (h : Kd.C (Kd.slice 3 (Kd.int .i64)) w A n xs) (i : Int) (h0 : 0 ≤ i) (h1 : i < n) :
    ∃ ad B c, A = some ad ∧ w.cell? (ad.add i.toNat) = some (.slice B (xs.getD i.toNat []).length c) ∧ (xs.getD i.toNat []).length ≤ c ∧ Kd.C (Kd.int .i64) w B (xs.getD i.toNat []).length (xs.getD i.toNat []) := by
  obtain ⟨ad, cs, e, hl, ⟨B, c, rfl, hc, hr⟩, hcell⟩ := Kd.C_get h [] i h0 h1
  exact ⟨ad, B, c, e, by simpa [Kd.slice] using hcell 0 _ rfl, hc, hr⟩

/-- The same, the inner list under a name. -/
theorem at_slice_n {w : World} {A : Option Addr} {n : Nat} {xs : List (List Int)} (h : Kd.C (Kd.slice 3 (Kd.int .i64)) w A n xs) (i : Int) (h0 : 0 ≤ i) (h1 : i < n) :
    ∃ ad B c l, A = some ad ∧ Aside0 (l = xs.getD i.toNat []) ∧ w.cell? (ad.add i.toNat) = some (.slice B l.length c) ∧ l.length ≤ c ∧ Kd.C (Kd.int .i64) w B l.length l := by
  obtain ⟨ad, B, c, e, h2, h3, h4⟩ := at_slice h i h0 h1
  exact ⟨ad, B, c, _, e, ⟨rfl⟩, h2, h3, h4⟩

/-- Behind a box and a call that leaves what was: the box as it was, the elder world as it was. -/
theorem boxed {W w1 : World} {cs : Array Value} {t : TypeId} (hb : Below (W.alloc (.cells cs t)).heap.size (W.alloc (.cells cs t)) w1) :
    w1.heap[W.heap.size]? = some (.cells cs t (0, 0)) ∧ W.heap.size < w1.heap.size ∧ Below W.heap.size W w1 := by
  have h1 := blk_below (blk_new W (.cells cs t)) hb
  exact ⟨h1, blk_lt h1, ((Below.refl _ _).alloc (Nat.le_refl _) _).trans (hb.mono (by simp))⟩
theorem below_trans {W w1 w2 : World} (h : Below W.heap.size W w1) (h2 : Below w1.heap.size w1 w2) : Below W.heap.size W w2 := h.trans (h2.mono h.size)
theorem box2 {w : World} {g : Nat} {t : TypeId} {a b : Value} (h : w.heap[g]? = some (.cells #[a, b] t (0, 0))) : w.cell? ⟨g, 0, none⟩ = some a ∧ w.cell? ⟨g, 1, none⟩ = some b :=
  ⟨(blk_cell h 0).trans rfl, (blk_cell h 1).trans rfl⟩

theorem below_of_eq {w w' : World} (h : w' = w) : Below w.heap.size w w' := h ▸ Below.refl _ _

end Go.Proofs.Ytgbmebnfbhdpiaa
