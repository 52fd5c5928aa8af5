/- slices.Values over numbers: the function value that it hands back goes through the slice's numbers, for any loop's body; and dom.Kids, which hands back such a value. -/
import Derived.Test.YtgbmebnfbhdpiaaIdomF
import Derived.RangeFuncBox
import Derived.RangeFuncLeaves
import Derived.RangeFuncNested
import Derived.RangeFuncBound
import Derived.RangeFuncCalls
import Derived.Shelf.Abstract
import Derived.WalkKit
import Derived.OwnWalkIn
import Derived.TacticsInMore
import Derived.LoopNIn
import Derived.LoopIn
set_option linter.unusedSimpArgs false
set_option linter.unusedVariables false
namespace Go.Proofs.Ytgbmebnfbhdpiaa
open Go.RowKit Go.Shelf Go.Proofs.YtgbmebnfbhdpiaaW.PrintWords Go.Proofs.YtgbmebnfbhdpiaaW.PrintLast

attribute [local go_sem] Oper.semAt_some

set_option maxRecDepth 100000 in
set_option maxHeartbeats 2000000 in
theorem f67_in {α : Type} (f : α → Int) (F : Fence) (n : Nat) (h7 : F.fn 67) (hro : F.round = none) (hn : 1 ≤ n) (l Bs len cap : Nat) (A : Option Addr) (zs : List α) (hlen : zs.length = len) (hll : len ≤ 9223372036854775807) (Kp : World → World → Prop) (hKr : ∀ W, Kp W W) (hKt : ∀ {A B C : World}, Kp A B → Kp B C → Kp A C)
    (J Jx : List α → World → Prop)
    (hY : ∀ pre x W, J pre W → pre.length < len → YieldAt F (n - 1) Try.prog l #[.int .i64 (f x)] W fun e W' =>
      (e = .returned (.bool true) ∧ J (pre ++ [x]) W' ∧ Kp W W') ∨ (e = .returned (.bool false) ∧ Jx (pre ++ [x]) W'))
    (W : World) (hc : ∀ W', Kp W W' → ∀ i : Int, 0 ≤ i → i < len → ∃ ad, A = some ad ∧ W'.cell? (ad.add i.toNat) = some (.int .i64 (rd (zs.map f) i))) (hBs : W.cell? ⟨Bs, 0, none⟩ = some (.slice A len cap)) (h0 : J [] W) :
    CallsIn F n Try.prog 67 #[.func (.yield l) #[] #[], .pointer (some ⟨Bs, 0, none⟩)] W fun e W' => (∃ v, e = .returned v) ∧
      ((∃ ys, ys = zs ∧ J ys W') ∨ (∃ pre, pre <+: zs ∧ Jx pre W')) := by
  have HC := Aside0.mk hc
  have HK := Aside0.mk (And.intro hKr @hKt)
  clear hc hKr hKt
  refine callsIn_of_wp Try.func67 rfl h7 ?_ hro
  simp only [Try.ntmps67, List.size_toArray, List.length_cons, List.length_nil, Nat.reduceAdd, Nat.reduceSub, Array.replicate_succ, Array.replicate_zero, List.push_toArray, List.append_toArray, List.nil_append, List.cons_append]
  gi_wp2
  gi_loopw [7] (fun i wr => ∃ k : Nat, k ≤ len ∧ i = .int .i64 k ∧ J (zs.take k) wr ∧ Aside0 (Kp W wr))
    (fun i _ => len - (intOf i).toNat)
  case atStart => exact ⟨0, Nat.zero_le _, rfl, h0, ⟨HK.out.1 _⟩⟩
  case round =>
    obtain ⟨k, hk, rfl, hJs, hnx⟩ := hrel
    by_cases hlt : k < len
    · obtain ⟨ad, e, hc⟩ := HC.out wr hnx.out (k : Int) (by omega) (by omega)
      cases e
      obtain ⟨x, hx⟩ : ∃ x, x = zs[k]'(by omega) := ⟨_, rfl⟩
      have hz : zs.take (k + 1) = zs.take k ++ [x] := by
        rw [List.take_succ_eq_append_getElem (by omega), hx]
      have hr : rd (zs.map f) (k : Int) = f x := by
        simp [rd, List.getD_eq_getElem?_getD, List.getElem?_eq_getElem (by omega : k < zs.length), hx]
      rw [hr] at hc
      simp only [Int.toNat_natCast] at hc
      obtain ⟨fn, tmps, assign, body, hy, hR⟩ := hY _ x wr hJs (by rw [List.length_take]; omega)
      clear hx hr
      obtain ⟨u, hu⟩ : ∃ u, u = f x := ⟨_, rfl⟩
      rw [← hu] at hc hy
      clear hu
      gi_wp2
      refine hR.mono ?_
      rintro e W3 (⟨rfl, hJ3, hk3⟩ | ⟨rfl, hJx3⟩)
      · have hk4 := Aside0.mk (HK.out.2 hnx.out hk3)
        clear hk3
        gi_wp2
        go_roundw
        case rel => exact ⟨k + 1, by omega, by simp, by rw [hz]; exact hJ3, hk4⟩
        case measure => simp [intOf]; omega
      · gi_wp2
        refine bodyPost_ret (results_none rfl _ _ _) rfl ?_
        exact ⟨⟨_, rfl⟩, .inr ⟨_, by rw [← hz]; exact List.take_prefix _ _, hJx3⟩⟩
    · obtain rfl : k = len := by omega
      gi_wp2
      go_end0
      exact ⟨⟨_, rfl⟩, .inl ⟨_, by rw [← hlen, List.take_length], hJs⟩⟩

/-- What stands behind slices.Values: a box with the slice, and its numbers, in blocks from base on. -/
structure ValsC (w : World) (base Bs : Nat) (zs : List Int) : Prop where
  box : ∃ A k, w.cell? ⟨Bs, 0, none⟩ = some (.slice A zs.length k) ∧ Kd.R (Kd.int .i64) 3 w base (fun _ => True) (.slice A zs.length k) zs
  lt : Bs < w.heap.size
  ge : base ≤ Bs
/-- What a round must keep, for the numbers to stay: whatever cells lie from base on. -/
def CellsFrom (base : Nat) (W W' : World) : Prop := ∀ p v, base ≤ p.block → W.cell? p = some v → W'.cell? p = some v
theorem CellsFrom.refl {base : Nat} (W : World) : CellsFrom base W W := fun _ _ _ h => h
theorem CellsFrom.trans {base : Nat} {A B C : World} (h : CellsFrom base A B) (k : CellsFrom base B C) : CellsFrom base A C := fun p v hp hv => k p v hp (h p v hp hv)
theorem below_cell {W W' : World} {n : Nat} (h : Below n W W') (p : Addr) (v : Value) (hp : p.block < n) (hv : W.cell? p = some v) : W'.cell? p = some v := (h.cell hp).trans hv

theorem f67_stops {α : Type} (f : α → Int) (F : Fence) (n : Nat) (h7 : F.fn 67) (hro : F.round = none) (hn : 1 ≤ n) (base Bs : Nat) (zs : List α) (w : World) (hv : ValsC w base Bs (zs.map f)) (Kp : World → World → Prop) (hKr : ∀ W, Kp W W) (hKt : ∀ {A B C : World}, Kp A B → Kp B C → Kp A C)
    (hKc : ∀ W W', Kp W W' → ∀ p v, base ≤ p.block → p.block < w.heap.size → W.cell? p = some v → W'.cell? p = some v) :
    SeqStopsK F n Try.prog 67 #[.pointer (some ⟨Bs, 0, none⟩)] (fun x : α => #[Value.int .i64 (f x)]) Kp (fun ys => ys = zs) (fun pre => pre <+: zs) zs.length w := fun l J Jx W hW _ _ hY h0 => by
  obtain ⟨A, k, hc, hR⟩ := hv.box
  rw [List.length_map] at hc hR
  have hc' := (hW.cell (p := ⟨Bs, 0, none⟩) hv.lt).trans hc
  have hC := (Kd.R_reads' hR).2.2
  rw [List.length_map] at hC
  refine f67_in f F n h7 hro hn l Bs zs.length k A zs rfl hC.2.1 Kp hKr hKt J Jx hY W (fun W' hK i h0 h1 => ?_) hc' h0
  obtain ⟨ad, e, hcc⟩ := Kd.at_int hC i h0 h1
  obtain ⟨g, cap, hvs, hbg, _⟩ := Kd.R_form hR (by rw [List.length_map]; omega)
  have hA := (Value.slice.inj hvs).1
  refine ⟨ad, e, ?_⟩
  have had : ad = ⟨g, 0, none⟩ := by rw [e] at hA; exact Option.some.inj hA
  subst had
  rw [add_plain] at hcc ⊢
  have hlt : g < w.heap.size := World.block_lt_of_cell? w _ hcc
  exact hKc W W' hK _ _ hbg hlt (below_cell hW _ _ hlt hcc)

set_option maxHeartbeats 1000000 in
theorem f47_any (base : Nat) (A : Option Addr) (zs : List Int) (k : Nat) (w : World) (hR : Kd.R (Kd.int .i64) 3 w base (fun _ => True) (.slice A zs.length k) zs) (hb : base ≤ w.heap.size) :
    Calls Try.prog 47 #[.slice A zs.length k] w fun e w' => ∃ Bs, e = .returned (.func (.func 67) #[] #[.pointer (some ⟨Bs, 0, none⟩)]) ∧ ValsC w' base Bs zs ∧ Below w.heap.size w w' := by
  have hB : ∀ cs : Array Value, Below w.heap.size w (w.alloc (.cells cs 23)) := fun _ => (Below.refl _ _).alloc (Nat.le_refl _) _
  have HB := Aside0.mk hB
  have HR := Aside0.mk hR
  clear hB hR
  go_enter Try.func47, Try.ntmps47
  go_wp2_with fail
  go_ret
  exact ⟨_, rfl, ⟨⟨A, k, (blk_cell (blk_new _ _) 0).trans rfl, Kd.R_below HR.out (HB.out _)⟩, by simp, hb⟩, HB.out _⟩
end Go.Proofs.Ytgbmebnfbhdpiaa
