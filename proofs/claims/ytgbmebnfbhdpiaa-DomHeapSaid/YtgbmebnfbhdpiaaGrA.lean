/- The walks of what a shape may be, by the program and by the document: they answer the same. -/
import Derived.Test.YtgbmebnfbhdpiaaCheckF
import Derived.Test.YtgbmebnfbhdpiaaBase
import Derived.Lib.OthersKept
import Derived.Lib.TrimU
import Derived.Deep.LoopGhost
import Derived.Lib.RuneCount
import Derived.Lib.MapLaws
import Derived.Test.YtgbmebnfbhdpiaaRefA
import Derived.Test.YtgbmebnfbhdpiaaCloneG
set_option linter.unusedSimpArgs false
set_option linter.unusedVariables false
namespace Go.Proofs.Ytgbmebnfbhdpiaa
open Go.RowKit Go.Proofs.YtgbmebnfbhdpiaaW.PrintWords

/-- May a shape be? -/
def shapeOk (k : Int) (p b : Nat) : Bool := (k == 1 || k == 2 || (k == 3 && decide (1 ≤ p))) && decide (p ≤ 126) && decide (b ≤ 1008)
def shapeE (k : Int) (p b : Nat) : Int := if shapeOk k p b then 0 else 110
theorem shape_ok {k : Int} {p b : Nat} (h : shapeOk k p b = true) : shapeE k p b = 0 := by simp [shapeE, h]
theorem shape_bad {k : Int} {p b : Nat} (h : shapeOk k p b = false) : shapeE k p b = 110 := by simp [shapeE, h]

set_option maxHeartbeats 2000000 in
theorem f76_any (k : Int) (p b : Nat) (w : World) :
    Calls Try.prog 76 #[.agg #[.int .i64 k, .int .i64 (p : Int), .int .i64 (b : Int)]] w fun e w' => e = .returned (.int .i64 (shapeE k p b)) ∧ Below w.heap.size w w' := by
  have HB : Aside0 (∀ cs : Array Value, Below w.heap.size w (w.alloc (.cells cs 99))) := ⟨fun _ => (Below.refl _ _).alloc (Nat.le_refl _) _⟩
  have hp0 : decide ((p : Int) ≥ 0) = true := decide_eq_true (by omega)
  have hb0 : decide ((b : Int) ≥ 0) = true := decide_eq_true (by omega)
  have hfin : ∀ (hk : (k == 1 || k == 2 || (k == 3 && decide (1 ≤ p))) = true), shapeOk k p b = (decide (p ≤ 126) && decide (b ≤ 1008)) := fun hk => by unfold shapeOk; rw [hk, Bool.true_and]
  have HFIN := Aside0.mk hfin
  clear hfin
  by_cases hpm : (p : Int) ≤ 126
  case neg =>
    have hpb : decide ((p : Int) ≤ 126) = false := decide_eq_false hpm
    have HE : Aside0 (shapeE k p b = 110) := ⟨shape_bad (by unfold shapeOk; rw [decide_eq_false (by omega : ¬ p ≤ 126)]; simp)⟩
    have hp1 : ((p : Int) == 0) = false := by simp; omega
    clear hpm
    by_cases k3 : k = 3
    · subst k3
      go_enter Try.func76, Try.ntmps76
      go_wp2
      go_ret
      exact ⟨ret_int HE.out.symm, HB.out _⟩
    by_cases k1 : k = 1
    · subst k1
      go_enter Try.func76, Try.ntmps76
      go_wp2
      go_ret
      exact ⟨ret_int HE.out.symm, HB.out _⟩
    by_cases k2 : k = 2
    · subst k2
      go_enter Try.func76, Try.ntmps76
      go_wp2
      go_ret
      exact ⟨ret_int HE.out.symm, HB.out _⟩
    have e1 : (k == 1) = false := by simpa using k1
    have e2 : (k == 2) = false := by simpa using k2
    have e3 : (k == 3) = false := by simpa using k3
    go_enter Try.func76, Try.ntmps76
    go_wp2
    go_ret
    exact ⟨ret_int HE.out.symm, HB.out _⟩
  have hpb : decide ((p : Int) ≤ 126) = true := decide_eq_true hpm
  by_cases k3 : k = 3
  · subst k3
    by_cases hp1 : (p : Int) = 0
    · have hp1b : ((p : Int) == 0) = true := by simpa using hp1
      have HE : Aside0 (shapeE 3 p b = 110) := ⟨shape_bad (by unfold shapeOk; rw [decide_eq_false (by omega : ¬ 1 ≤ p)]; simp)⟩
      clear hp1
      go_enter Try.func76, Try.ntmps76
      go_wp2
      go_ret
      exact ⟨ret_int HE.out.symm, HB.out _⟩
    have hp1b : ((p : Int) == 0) = false := by simpa using hp1
    have HK := Aside0.mk (HFIN.out (by rw [decide_eq_true (by omega : 1 ≤ p)]; rfl))
    by_cases hbm : (b : Int) ≤ 1008
    · have hbb : decide ((b : Int) ≤ 1008) = true := decide_eq_true hbm
      have HE : Aside0 (shapeE 3 p b = 0) := ⟨shape_ok (by rw [HK.out, decide_eq_true (by omega : p ≤ 126), decide_eq_true (by omega : b ≤ 1008)]; rfl)⟩
      clear hp1 hbm hpm
      go_enter Try.func76, Try.ntmps76
      go_wp2
      go_ret
      exact ⟨ret_int HE.out.symm, HB.out _⟩
    · have hbb : decide ((b : Int) ≤ 1008) = false := decide_eq_false hbm
      have HE : Aside0 (shapeE 3 p b = 110) := ⟨shape_bad (by rw [HK.out, decide_eq_false (by omega : ¬ b ≤ 1008)]; simp)⟩
      clear hp1 hbm hpm
      go_enter Try.func76, Try.ntmps76
      go_wp2
      go_ret
      exact ⟨ret_int HE.out.symm, HB.out _⟩
  by_cases k12 : k = 1 ∨ k = 2
  · have HK := Aside0.mk (HFIN.out (by rcases k12 with h | h <;> rw [h] <;> rfl))
    by_cases hbm : (b : Int) ≤ 1008
    · have hbb : decide ((b : Int) ≤ 1008) = true := decide_eq_true hbm
      have HE : Aside0 (shapeE k p b = 0) := ⟨shape_ok (by rw [HK.out, decide_eq_true (by omega : p ≤ 126), decide_eq_true (by omega : b ≤ 1008)]; rfl)⟩
      clear hbm hpm
      rcases k12 with h | h <;> subst h
      all_goals (
        go_enter Try.func76, Try.ntmps76
        go_wp2
        go_ret
        exact ⟨ret_int HE.out.symm, HB.out _⟩)
    · have hbb : decide ((b : Int) ≤ 1008) = false := decide_eq_false hbm
      have HE : Aside0 (shapeE k p b = 110) := ⟨shape_bad (by rw [HK.out, decide_eq_false (by omega : ¬ b ≤ 1008)]; simp)⟩
      clear hbm hpm
      rcases k12 with h | h <;> subst h
      all_goals (
        go_enter Try.func76, Try.ntmps76
        go_wp2
        go_ret
        exact ⟨ret_int HE.out.symm, HB.out _⟩)
  have e1 : (k == 1) = false := by simpa using fun h => k12 (.inl h)
  have e2 : (k == 2) = false := by simpa using fun h => k12 (.inr h)
  have e3 : (k == 3) = false := by simpa using k3
  have HE : Aside0 (shapeE k p b = 110) := ⟨shape_bad (by unfold shapeOk; rw [e1, e2, e3]; rfl)⟩
  clear k12 k3 hpm
  go_enter Try.func76, Try.ntmps76
  go_wp2
  go_ret
  exact ⟨ret_int HE.out.symm, HB.out _⟩

set_option maxHeartbeats 2000000 in
theorem f72_any (k : Int) (p b : Nat) (w : World) :
    Calls Try.prog 72 #[.agg #[.int .i64 k, .int .i64 (p : Int), .int .i64 (b : Int)]] w fun e w' => e = .returned (.int .i64 (shapeE k p b)) ∧ Below w.heap.size w w' := by
  have HB : Aside0 (∀ cs : Array Value, Below w.heap.size w (w.alloc (.cells cs 99))) := ⟨fun _ => (Below.refl _ _).alloc (Nat.le_refl _) _⟩
  have hp0 : decide ((p : Int) < 0) = false := decide_eq_false (by omega)
  have hb0 : decide ((b : Int) < 0) = false := decide_eq_false (by omega)
  by_cases kl : k < 1
  · have klb : decide (k < 1) = true := decide_eq_true kl
    have HE : Aside0 (shapeE k p b = 110) := ⟨shape_bad (by
      unfold shapeOk
      rw [show (k == 1) = false from by simp; omega, show (k == 2) = false from by simp; omega, show (k == 3) = false from by simp; omega]; rfl)⟩
    clear kl
    go_enter Try.func72, Try.ntmps72
    go_wp2
    go_ret
    exact ⟨ret_int HE.out.symm, HB.out _⟩
  have klb : decide (k < 1) = false := decide_eq_false kl
  by_cases kg : k > 3
  · have kgb : decide (k > 3) = true := decide_eq_true kg
    have HE : Aside0 (shapeE k p b = 110) := ⟨shape_bad (by
      unfold shapeOk
      rw [show (k == 1) = false from by simp; omega, show (k == 2) = false from by simp; omega, show (k == 3) = false from by simp; omega]; rfl)⟩
    clear kl kg
    go_enter Try.func72, Try.ntmps72
    go_wp2
    go_ret
    exact ⟨ret_int HE.out.symm, HB.out _⟩
  have kgb : decide (k > 3) = false := decide_eq_false kg
  by_cases hpm : (p : Int) > 126
  · have hpb : decide ((p : Int) > 126) = true := decide_eq_true hpm
    have HE : Aside0 (shapeE k p b = 110) := ⟨shape_bad (by unfold shapeOk; rw [decide_eq_false (by omega : ¬ p ≤ 126)]; simp)⟩
    clear kl kg hpm
    go_enter Try.func72, Try.ntmps72
    go_wp2
    go_ret
    exact ⟨ret_int HE.out.symm, HB.out _⟩
  have hpb : decide ((p : Int) > 126) = false := decide_eq_false hpm
  by_cases hbm : (b : Int) > 1008
  · have hbb : decide ((b : Int) > 1008) = true := decide_eq_true hbm
    have HE : Aside0 (shapeE k p b = 110) := ⟨shape_bad (by unfold shapeOk; rw [decide_eq_false (by omega : ¬ b ≤ 1008)]; simp)⟩
    clear kl kg hpm hbm
    go_enter Try.func72, Try.ntmps72
    go_wp2
    go_ret
    exact ⟨ret_int HE.out.symm, HB.out _⟩
  have hbb : decide ((b : Int) > 1008) = false := decide_eq_false hbm
  by_cases k3 : k = 3
  · subst k3
    by_cases hp1 : (p : Int) < 1
    · have hp1b : decide ((p : Int) < 1) = true := decide_eq_true hp1
      have HE : Aside0 (shapeE 3 p b = 110) := ⟨shape_bad (by unfold shapeOk; rw [decide_eq_false (by omega : ¬ 1 ≤ p)]; simp)⟩
      clear kl kg hpm hbm hp1
      go_enter Try.func72, Try.ntmps72
      go_wp2
      go_ret
      exact ⟨ret_int HE.out.symm, HB.out _⟩
    · have hp1b : decide ((p : Int) < 1) = false := decide_eq_false hp1
      have HE : Aside0 (shapeE 3 p b = 0) := ⟨shape_ok (by unfold shapeOk; rw [decide_eq_true (by omega : 1 ≤ p), decide_eq_true (by omega : p ≤ 126), decide_eq_true (by omega : b ≤ 1008)]; rfl)⟩
      clear kl kg hpm hbm hp1
      go_enter Try.func72, Try.ntmps72
      go_wp2
      go_ret
      exact ⟨ret_int HE.out.symm, HB.out _⟩
  have e3 : (k == 3) = false := by simpa using k3
  have HE : Aside0 (shapeE k p b = 0) := ⟨shape_ok (by
    unfold shapeOk
    have : (k == 1 || k == 2) = true := by simp; omega
    rw [this, decide_eq_true (by omega : p ≤ 126), decide_eq_true (by omega : b ≤ 1008)]; rfl)⟩
  clear kl kg hpm hbm k3
  go_enter Try.func72, Try.ntmps72
  go_wp2
  go_ret
  exact ⟨ret_int HE.out.symm, HB.out _⟩
end Go.Proofs.Ytgbmebnfbhdpiaa
namespace Go.Proofs.Ytgbmebnfbhdpiaa
open Go.RowKit Go.Lib Go.Proofs.YtgbmebnfbhdpiaaW.PrintWords

/-- A rune that may not be. -/
def badR (r : Int) : Bool := decide (r < 33) || decide (r > 126)
/-- The place of the first rune that may not be. -/
def badFrom (s : ByteArray) : Nat → Nat → Int
  | 0, _ => -1
  | f + 1, pos => if pos < s.size then (if badR ((Utf8.decode s pos).1 : Int) = true then (pos : Int) else badFrom s f (pos + (Utf8.decode s pos).2)) else -1
theorem badFrom_end (s : ByteArray) (f pos : Nat) (h : ¬ pos < s.size) : badFrom s f pos = -1 := by cases f <;> simp [badFrom, h]

set_option maxHeartbeats 400000 in
theorem f79_any (r : Int) (w : World) : Calls Try.prog 79 #[.int .i32 r] w fun e w' => e = .returned (.bool (badR r)) ∧ w' = w := by
  by_cases h0 : r < 33
  · have h0b : decide (r < 33) = true := decide_eq_true h0
    go_enter Try.func79, Try.ntmps79
    go_wp2
    go_ret
    exact ⟨ret_bool (by simp [badR, h0]), rfl⟩
  · have h0b : decide (r < 33) = false := decide_eq_false h0
    go_enter Try.func79, Try.ntmps79
    go_wp2
    go_ret
    exact ⟨ret_bool (by simp [badR, h0b]), rfl⟩
theorem cf79 (args : Array Value) (w : World) : (callFunc 79 args).run Try.prog w = .ok (.enter 79 args) w := callFunc_some Try.func79 (by kernel_rfl) (by kernel_rfl) args w

set_option maxHeartbeats 2000000 in
set_option maxRecDepth 1000000 in
theorem f83_any (s : ByteArray) (w : World) :
    Calls Try.prog 83 #[.string s, .func (.func 79) #[] #[], .bool true] w fun e w' => e = .returned (.int .i64 (badFrom s s.size 0)) ∧ Below w.heap.size w w' := by
  have hcf := cf79
  go_enter Try.func83, Try.ntmps83
  go_wp2
  go_loopg [] s.size (fun gf wx => ∃ pos : Nat, wx.heap[w.heap.size]? = some (.stringIter s pos) ∧ Below w.heap.size w wx ∧ badFrom s gf pos = badFrom s s.size 0 ∧ s.size ≤ pos + gf)
  case atStart => exact ⟨0, World.iter_heap w s 0, (Below.refl _ w).alloc (Nat.le_refl _) _, rfl, by omega⟩
  case round =>
    obtain ⟨pos, hit, hbw, hleft, hfu⟩ := hrel
    by_cases hps : pos < s.size
    · obtain ⟨g', rfl⟩ : ∃ g', gk = g' + 1 := ⟨gk - 1, by omega⟩
      have hnx : ∀ ty, (Instr.next (.pointer (some ⟨w.heap.size, 0, none⟩)) true ty).run Try.prog wr = _ := fun ty => Lib.run_next_any_at wr w.heap.size s pos ty hit hps
      have hwd := Lib.width_pos s pos
      obtain ⟨R, hR⟩ : ∃ R, (Utf8.decode s pos).1 = R := ⟨_, rfl⟩
      obtain ⟨K, hK⟩ : ∃ K, (Utf8.decode s pos).2 = K := ⟨_, rfl⟩
      simp only [badFrom, hps, if_true, hR, hK] at hleft
      rw [hR, hK] at hnx
      rw [hK] at hwd
      have hit2 := Lib.iterAt_heap wr w.heap.size s pos (pos + K) hit
      have hbw2 := Lib.below_iterAt hbw (k := w.heap.size) (Nat.le_refl _) s (pos + K)
      obtain ⟨W, hWd⟩ : ∃ W, wr.iterAt w.heap.size s (pos + K) = W := ⟨_, rfl⟩
      rw [hWd] at hnx hit2 hbw2
      have cS := f79_any (R : Int) W
      cases hsp : badR (R : Int) <;> rw [hsp] at cS <;> simp only [hsp, if_true, Bool.false_eq_true, if_false] at hleft
      · go_wp2_with (refine cS.mono ?_; rintro e W' ⟨rfl, rfl⟩)
        go_roundg g'
        case measure => omega
        case rel => exact ⟨pos + K, hit2, hbw2, hleft, by omega⟩
      · go_wp2_with (refine cS.mono ?_; rintro e W' ⟨rfl, rfl⟩)
        go_ret
        exact ⟨by rw [← hleft] <;> rfl, hbw2⟩
    · have hnx : ∀ ty, (Instr.next (.pointer (some ⟨w.heap.size, 0, none⟩)) true ty).run Try.prog wr = _ := fun ty => Lib.run_next_end_at wr w.heap.size s pos ty hit hps
      rw [badFrom_end s gk pos hps] at hleft
      go_wp2
      go_ret
      exact ⟨by rw [← hleft] <;> rfl, hbw⟩
/-- A byte that may not be. -/
def badB (s : ByteArray) (i : Nat) : Bool := badR ((s.get! i).toNat : Int)
theorem badFrom_iff (s : ByteArray) : ∀ (f pos : Nat), s.size ≤ pos + f → (0 ≤ badFrom s f pos ↔ ∃ i, pos ≤ i ∧ i < s.size ∧ badB s i = true)
  | 0, pos, h => by
    unfold badFrom
    exact ⟨fun h => absurd h (by decide), fun ⟨i, h1, h2, _⟩ => by omega⟩
  | f + 1, pos, h => by
    unfold badFrom
    by_cases hp : pos < s.size
    case neg =>
      rw [if_neg hp]
      exact ⟨fun h => absurd h (by decide), fun ⟨i, h1, h2, _⟩ => by omega⟩
    rw [if_pos hp, Lib.decode_at]
    by_cases hb : (s.get! pos).toNat < 128
    · have e : Lib.decodeN (s.size - pos) (s.get! pos).toNat (s.get! (pos + 1)).toNat (s.get! (pos + 2)).toNat (s.get! (pos + 3)).toNat = ((s.get! pos).toNat, 1) := by
        unfold Lib.decodeN; rw [if_pos hb]
      rw [e]
      by_cases c : badR ((s.get! pos).toNat : Int) = true
      · rw [if_pos c]
        exact ⟨fun _ => ⟨pos, Nat.le_refl _, hp, c⟩, fun _ => by omega⟩
      · rw [if_neg c, badFrom_iff s f (pos + 1) (by omega)]
        constructor
        · rintro ⟨i, h1, h2, h3⟩; exact ⟨i, by omega, h2, h3⟩
        · rintro ⟨i, h1, h2, h3⟩
          by_cases ci : i = pos
          · subst ci; exact absurd h3 c
          · exact ⟨i, by omega, h2, h3⟩
    · have hr : 128 ≤ (Lib.decodeN (s.size - pos) (s.get! pos).toNat (s.get! (pos + 1)).toNat (s.get! (pos + 2)).toNat (s.get! (pos + 3)).toNat).1 := by
        rcases Lib.decodeN_shape (s.size - pos) (s.get! pos).toNat (s.get! (pos + 1)).toNat (s.get! (pos + 2)).toNat (s.get! (pos + 3)).toNat with h | h | h | h | h
        · exact absurd h.1 hb
        · rw [h.2.2.2.2]; exact h.2.2.2.1
        · rw [h.2.2.2.2.2.2]; have := h.2.2.2.2.1; show 128 ≤ _; omega
        · rw [h.2.2.2.2.2.2.2]; have := h.2.2.2.2.2.1; show 128 ≤ _; omega
        · rw [h]; decide
      rw [if_pos (by simp only [badR, Bool.or_eq_true, decide_eq_true_eq]; omega)]
      exact ⟨fun _ => ⟨pos, Nat.le_refl _, hp, by simp only [badB, badR, Bool.or_eq_true, decide_eq_true_eq]; omega⟩, fun _ => by omega⟩
/-- May a name be? -/
def nameOk (s : ByteArray) : Bool := decide (1 ≤ s.size) && decide (s.size ≤ 16) && (List.range s.size).all fun i => !badB s i
def nameE (s : ByteArray) : Int := if nameOk s then 0 else 161
theorem name_all {s : ByteArray} (h0 : 1 ≤ s.size) (h1 : s.size ≤ 16) (h : ∀ i, i < s.size → badB s i = false) : nameE s = 0 := by
  unfold nameE nameOk
  rw [decide_eq_true h0, decide_eq_true h1, if_pos]
  simp only [Bool.true_and, List.all_eq_true, List.mem_range]
  intro i hi; rw [h i hi]; rfl
theorem name_short {s : ByteArray} (h : (s.size : Int) < 1) : nameE s = 161 := by
  unfold nameE nameOk; rw [decide_eq_false (by omega : ¬ 1 ≤ s.size)]; rfl
theorem name_long {s : ByteArray} (h : (s.size : Int) > 16) : nameE s = 161 := by
  unfold nameE nameOk; rw [decide_eq_false (by omega : ¬ s.size ≤ 16), Bool.and_false]; rfl
theorem name_bad {s : ByteArray} {i : Nat} (hi : i < s.size) (h : badB s i = true) : nameE s = 161 := by
  unfold nameE nameOk
  have : ((List.range s.size).all fun i => !badB s i) = false := by
    rw [List.all_eq_false]
    exact ⟨i, List.mem_range.2 hi, by rw [h]; decide⟩
  rw [this, Bool.and_false]; rfl

set_option maxHeartbeats 400000 in
theorem f82_any (s : ByteArray) (w : World) :
    Calls Try.prog 82 #[.string s, .func (.func 79) #[] #[]] w fun e w' => e = .returned (.int .i64 (badFrom s s.size 0)) ∧ Below w.heap.size w w' := by
  go_enter Try.func82, Try.ntmps82
  go_wp2_with (go_at_call 83; refine (f83_any s w).mono ?_; rintro e w1 ⟨rfl, hb⟩)
  go_ret
  exact ⟨rfl, hb⟩
set_option maxHeartbeats 400000 in
theorem f78_any (s : ByteArray) (w : World) :
    Calls Try.prog 78 #[.string s, .func (.func 79) #[] #[]] w fun e w' => e = .returned (.bool (decide (badFrom s s.size 0 ≥ 0))) ∧ Below w.heap.size w w' := by
  go_enter Try.func78, Try.ntmps78
  go_wp2_with (go_at_call 82; refine (f82_any s w).mono ?_; rintro e w1 ⟨rfl, hb⟩)
  go_ret
  exact ⟨rfl, hb⟩
set_option maxHeartbeats 1000000 in
theorem f71_any (s : ByteArray) (w : World) : Calls Try.prog 71 #[.string s] w fun e w' => e = .returned (.int .i64 (nameE s)) ∧ Below w.heap.size w w' := by
  by_cases h0 : (s.size : Int) < 1
  · have h0b : decide ((s.size : Int) < 1) = true := decide_eq_true h0
    go_enter Try.func71, Try.ntmps71
    go_wp2
    go_ret
    exact ⟨ret_int (name_short h0).symm, Below.refl _ _⟩
  have h0b : decide ((s.size : Int) < 1) = false := decide_eq_false h0
  by_cases h1 : (s.size : Int) > 16
  · have h1b : decide ((s.size : Int) > 16) = true := decide_eq_true h1
    go_enter Try.func71, Try.ntmps71
    go_wp2
    go_ret
    exact ⟨ret_int (name_long h1).symm, Below.refl _ _⟩
  have h1b : decide ((s.size : Int) > 16) = false := decide_eq_false h1
  have HI := Aside0.mk (badFrom_iff s s.size 0 (by omega))
  have H0 : Aside0 (1 ≤ s.size ∧ s.size ≤ 16) := ⟨by omega⟩
  clear h0 h1
  go_enter Try.func71, Try.ntmps71
  go_wp2_with fail
  refine (f78_any s w).mono ?_
  rintro e w1 ⟨rfl, hb⟩
  have HB := Aside0.mk hb
  clear hb
  by_cases c : badFrom s s.size 0 ≥ 0
  · have cb : decide (badFrom s s.size 0 ≥ 0) = true := decide_eq_true c
    rw [cb]
    have HE : Aside0 (nameE s = 161) := ⟨by
      obtain ⟨i, _, h2, h3⟩ := HI.out.1 c
      exact name_bad h2 h3⟩
    clear c cb
    go_wp2_with fail
    go_ret
    exact ⟨ret_int HE.out.symm, HB.out⟩
  · have cb : decide (badFrom s s.size 0 ≥ 0) = false := decide_eq_false c
    rw [cb]
    have HE : Aside0 (nameE s = 0) := ⟨name_all H0.out.1 H0.out.2 (fun i hi => by
      rw [← Bool.not_eq_true]
      exact fun h => c (HI.out.2 ⟨i, Nat.zero_le _, hi, h⟩))⟩
    clear c cb
    go_wp2_with fail
    go_ret
    exact ⟨ret_int HE.out.symm, HB.out⟩
theorem byte_at (s : ByteArray) (i : Nat) (h : i < s.size) : s[i]'h = s.get! i := by
  obtain ⟨b⟩ := s
  show b[i]'h = b[i]!
  rw [getElem!_pos b i h]
set_option maxHeartbeats 1000000 in
theorem f60_any (s : ByteArray) (w : World) : Calls Try.prog 60 #[.string s] w fun e w' => e = .returned (.int .i64 (nameE s)) ∧ w' = w := by
  by_cases h0 : (s.size : Int) < 1
  · have h0b : decide ((s.size : Int) < 1) = true := decide_eq_true h0
    go_enter Try.func60, Try.ntmps60
    go_wp2
    go_ret
    exact ⟨ret_int (name_short h0).symm, rfl⟩
  have h0b : decide ((s.size : Int) < 1) = false := decide_eq_false h0
  by_cases h1 : (s.size : Int) > 16
  · have h1b : decide ((s.size : Int) > 16) = true := decide_eq_true h1
    go_enter Try.func60, Try.ntmps60
    go_wp2
    go_ret
    exact ⟨ret_int (name_long h1).symm, rfl⟩
  have h1b : decide ((s.size : Int) > 16) = false := decide_eq_false h1
  have H0 : Aside0 (1 ≤ s.size ∧ s.size ≤ 16) := ⟨by omega⟩
  have hs16 : s.size ≤ 16 := by omega
  clear h0 h1
  go_enter Try.func60, Try.ntmps60
  go_wp2
  go_loop [3] (fun v3 => ∃ i : Int, v3 = .int .i64 i ∧ 0 ≤ i ∧ i ≤ s.size ∧ Aside0 (∀ j : Nat, (j : Int) < i → badB s j = false)) (fun v => s.size - (intOf v).toNat)
  case atStart => exact ⟨0, rfl, Int.le_refl _, by omega, ⟨fun j h1 => by omega⟩⟩
  case round =>
    obtain ⟨i, rfl, hi0, hi1, HP⟩ := hrel
    by_cases hlt : i < s.size
    case neg =>
      go_wp2
      go_ret
      exact ⟨ret_int (name_all H0.out.1 H0.out.2 (fun j hj => HP.out j (by omega))).symm, rfl⟩
    have hil : i.toNat < s.size := by omega
    obtain ⟨x, hx⟩ : ∃ x : Int, x = (((s[i.toNat]'hil).toNat : Nat) : Int) := ⟨_, rfl⟩
    have HXX : Aside0 (badB s i.toNat = badR x) := ⟨by unfold badB; rw [hx, byte_at]⟩
    have hxe := hx.symm
    clear hx
    by_cases hneg : x < 33
    · have hnb : decide (x < 33) = true := decide_eq_true hneg
      go_wp2
      go_ret
      refine ⟨ret_int (name_bad hil ?_).symm, rfl⟩
      rw [HXX.out]; simp [badR, hnb]
    have hnb : decide (x < 33) = false := decide_eq_false hneg
    by_cases hge : x > 126
    · have hgb : decide (x > 126) = true := decide_eq_true hge
      go_wp2
      go_ret
      refine ⟨ret_int (name_bad hil ?_).symm, rfl⟩
      rw [HXX.out]; simp [badR, hgb]
    have hgb : decide (x > 126) = false := decide_eq_false hge
    have HW : Aside0 (badB s i.toNat = false) := ⟨by rw [HXX.out]; simp [badR, hnb, hgb]⟩
    go_wp2
    go_round
    case rel => exact ⟨i + 1, rfl, by omega, by omega, ⟨fun j j1 => by
      by_cases h : (j : Int) < i
      · exact HP.out j h
      · obtain rfl : j = i.toNat := by omega
        exact HW.out⟩⟩
    case measure => simp [intOf]; omega
end Go.Proofs.Ytgbmebnfbhdpiaa
namespace Go.Proofs.Ytgbmebnfbhdpiaa
open Go.RowKit Go.Proofs.YtgbmebnfbhdpiaaW.PrintWords Go.Proofs.YtgbmebnfbhdpiaaW.PrintLast

/-- A node: its kind, its pointers, its bytes. -/
abbrev GN := Int × (List Int × List Int)
/-- A root: its name, its node. -/
abbrev GR := ByteArray × Int
abbrev kN : Kd GN := Kd.pair (Kd.int .i64) (Kd.pair (Kd.slice 3 (Kd.int .i64)) (Kd.slice 5 (Kd.int .u8)))
abbrev kR : Kd GR := Kd.pair Kd.string (Kd.int .i64)
def noN : GN := (0, ([], []))
def noR : GR := (ByteArray.empty, 0)
theorem add_field (ad : Addr) (k j : Nat) (hj : 0 < j) : (⟨(ad.add k).block, (ad.add k).off + j, none⟩ : Addr) = ad.add (k + j) := by
  unfold Addr.add
  rw [if_neg (by omega : ¬ k + j = 0)]
  by_cases h : k = 0
  · subst h; simp
  · rw [if_neg h]; simp; omega
theorem at_node {w : World} {A : Option Addr} {n : Nat} {ns : List GN} (h : Kd.C kN w A n ns) (i : Int) (h0 : 0 ≤ i) (h1 : i < n) :
    ∃ ad k AP ps cp AD ds cd, A = some ad ∧ Aside0 ((k, (ps, ds)) = ns.getD i.toNat noN) ∧ w.cell? (ad.add (i.toNat * 3)) = some (.int .i64 k) ∧ w.cell? ⟨(ad.add (i.toNat * 3)).block, (ad.add (i.toNat * 3)).off + 1, none⟩ = some (.slice AP (ps : List Int).length cp) ∧
      w.cell? ⟨(ad.add (i.toNat * 3)).block, (ad.add (i.toNat * 3)).off + 2, none⟩ = some (.slice AD (ds : List Int).length cd) ∧ Kd.C (Kd.int .i64) w AP ps.length ps := by
  obtain ⟨ad, cs, e, hl, hk, hcell⟩ := Kd.C_get h noN i h0 h1
  obtain ⟨⟨k, ps, ds⟩, hx⟩ : ∃ x, x = ns.getD i.toNat noN := ⟨_, rfl⟩
  rw [← hx] at hk
  obtain ⟨a0, a1, rfl, ha0, ⟨b0, b1, rfl, ⟨AP, cp, rfl, hcp, hrp⟩, ⟨AD, cd, rfl, hcd, hrd⟩⟩⟩ := hk
  have ha : a0 = [.int .i64 k] := ha0
  subst ha
  exact ⟨ad, k, AP, ps, cp, AD, ds, cd, e, ⟨hx⟩, hcell 0 _ rfl, by rw [add_field _ _ 1 (by decide)]; exact hcell 1 _ rfl, by rw [add_field _ _ 2 (by decide)]; exact hcell 2 _ rfl, hrp⟩
theorem at_root {w : World} {A : Option Addr} {n : Nat} {rs : List GR} (h : Kd.C kR w A n rs) (i : Int) (h0 : 0 ≤ i) (h1 : i < n) :
    ∃ ad s x, A = some ad ∧ Aside0 ((s, x) = rs.getD i.toNat noR) ∧ w.cell? (ad.add (i.toNat * 2)) = some (.string s) ∧ w.cell? ⟨(ad.add (i.toNat * 2)).block, (ad.add (i.toNat * 2)).off + 1, none⟩ = some (.int .i64 x) := by
  obtain ⟨ad, cs, e, hl, hk, hcell⟩ := Kd.C_get h noR i h0 h1
  obtain ⟨⟨s, x⟩, hx⟩ : ∃ x, x = rs.getD i.toNat noR := ⟨_, rfl⟩
  rw [← hx] at hk
  obtain ⟨a0, a1, rfl, ha0, ha1⟩ := hk
  have ha : a0 = [.string s] := ha0
  have hb : a1 = [.int .i64 x] := ha1
  subst ha hb
  exact ⟨ad, s, x, e, ⟨hx⟩, hcell 0 _ rfl, by rw [add_field _ _ 1 (by decide)]; exact hcell 1 _ rfl⟩
/-- A graph, readable. -/
structure GraphC (w : World) (A0 : Option Addr) (c0 : Nat) (A1 : Option Addr) (c1 : Nat) (ns : List GN) (rs : List GR) : Prop where
  nodes : Kd.C kN w A0 ns.length ns
  ncap : ns.length ≤ c0
  roots : Kd.C kR w A1 rs.length rs
  rcap : rs.length ≤ c1
theorem GraphC.below {w w1 : World} {A0 c0 A1 c1 ns rs} (h : GraphC w A0 c0 A1 c1 ns rs) (hb : Below w.heap.size w w1) : GraphC w1 A0 c0 A1 c1 ns rs :=
  ⟨Kd.C_below h.nodes hb, h.ncap, Kd.C_below h.roots hb, h.rcap⟩

/-- A pointer that may not be. -/
def wrongP (m x : Int) : Bool := decide (x < -1) || decide (x ≥ m)
/-- May a node be, among so many? -/
def nodeOk (m : Int) (x : GN) : Bool := shapeOk x.1 x.2.1.length x.2.2.length && !x.2.1.any (wrongP m)
theorem node_shape {m : Int} {x : GN} (h : shapeOk x.1 x.2.1.length x.2.2.length = false) : nodeOk m x = false := by unfold nodeOk; rw [h]; rfl

set_option maxHeartbeats 400000 in
theorem f77_any (x m : Int) (p : Addr) (w : World) (hp : w.cell? p = some (.int .i64 m)) :
    Calls Try.prog 77 #[.int .i64 x, .pointer (some p)] w fun e w' => e = .returned (.bool (wrongP m x)) ∧ w' = w := by
  by_cases h0 : x < -1
  · have h0b : decide (x < -1) = true := decide_eq_true h0
    go_enter Try.func77, Try.ntmps77
    go_wp2
    go_ret
    exact ⟨ret_bool (by simp [wrongP, h0]), rfl⟩
  · have h1 : decide (x < -1) = false := decide_eq_false h0
    go_enter Try.func77, Try.ntmps77
    go_wp2
    go_ret
    exact ⟨ret_bool (by simp [wrongP, h1]), rfl⟩
theorem cf77 (args : Array Value) (w : World) : (callFunc 77 args).run Try.prog w = .ok (.enter 77 args) w := callFunc_some Try.func77 (by kernel_rfl) (by kernel_rfl) args w

set_option maxRecDepth 100000 in
set_option maxHeartbeats 1000000 in
theorem f70_any (k : Int) (AP : Option Addr) (ps : List Int) (cp : Nat) (AD : Option Addr) (ds : List Int) (cd : Nat) (m : Int) (w : World) (hp : Kd.C (Kd.int .i64) w AP ps.length ps) :
    Calls Try.prog 70 #[.agg #[.int .i64 k, .slice AP ps.length cp, .slice AD ds.length cd], .int .i64 m] w fun e w' => e = .returned (.bool (nodeOk m (k, (ps, ds)))) ∧ Below w.heap.size w w' := by
  have HP := Aside0.mk hp
  have hL0 : ps.length ≤ 9223372036854775807 := hp.2.1
  clear hp
  have HB0 : Aside0 (Below w.heap.size w ((w.alloc (.cells #[.int .i64 k, .slice AP ps.length cp, .slice AD ds.length cd] 61)).alloc (.cells #[.int .i64 m] 3))) := ⟨((Below.refl _ _).alloc (Nat.le_refl _) _).alloc (by simp) _⟩
  have HK0 : Aside0 (((w.alloc (.cells #[.int .i64 k, .slice AP ps.length cp, .slice AD ds.length cd] 61)).alloc (.cells #[.int .i64 m] 3)).heap[w.heap.size]? = some (.cells #[.int .i64 k, .slice AP ps.length cp, .slice AD ds.length cd] 61 (0, 0))) := ⟨blk_alloc (blk_new _ _) _⟩
  have HK1 : Aside0 (((w.alloc (.cells #[.int .i64 k, .slice AP ps.length cp, .slice AD ds.length cd] 61)).alloc (.cells #[.int .i64 m] 3)).heap[w.heap.size + 1]? = some (.cells #[.int .i64 m] 3 (0, 0))) := ⟨by
    have := blk_new (w.alloc (.cells #[.int .i64 k, .slice AP ps.length cp, .slice AD ds.length cd] 61)) (.cells #[.int .i64 m] 3)
    simpa using this⟩
  go_enter Try.func70, Try.ntmps70
  go_wp2_with fail
  generalize ((w.alloc (.cells #[.int .i64 k, .slice AP ps.length cp, .slice AD ds.length cd] 61)).alloc (.cells #[.int .i64 m] 3)) = wo at HB0 HK0 HK1 ⊢
  refine (f76_any k ps.length ds.length _).mono ?_
  rintro e w1 ⟨rfl, hb⟩
  have HB1 := Aside0.mk (below_trans HB0.out hb)
  have hk0 := blk_below HK0.out hb
  have hk1 := blk_below HK1.out hb
  have h0 := (blk_cell hk0 0).trans (show _ = some (Value.int .i64 k) from rfl)
  have h1 := (blk_cell hk0 1).trans (show _ = some (Value.slice AP ps.length cp) from rfl)
  have h2 := (blk_cell hk0 2).trans (show _ = some (Value.slice AD ds.length cd) from rfl)
  have h3 := (blk_cell hk1 0).trans (show _ = some (Value.int .i64 m) from rfl)
  have H3 := Aside0.mk h3
  clear hb hk0 hk1
  by_cases hs : shapeOk k ps.length ds.length = true
  case neg =>
    rw [Bool.not_eq_true] at hs
    rw [shape_bad hs]
    have HE : Aside0 (nodeOk m (k, (ps, ds)) = false) := ⟨node_shape hs⟩
    clear hs
    go_wp2_with fail
    go_ret
    exact ⟨ret_bool HE.out.symm, HB1.out⟩
  rw [shape_ok hs]
  have HE : Aside0 (nodeOk m (k, (ps, ds)) = !ps.any (wrongP m)) := ⟨by unfold nodeOk; rw [hs]; rfl⟩
  clear hs
  go_wp2_with fail
  refine (f48_any 77 #[.pointer (some ⟨w.heap.size + 1, 0, none⟩)] (wrongP m) AP cp ps _ (Kd.C_below HP.out HB1.out) cf77 (fun x => f77_any x m _ _ H3.out)).mono ?_
  rintro e w2 ⟨rfl, rfl⟩
  go_wp2_with fail
  go_ret
  exact ⟨ret_bool HE.out.symm, HB1.out⟩

set_option maxRecDepth 100000 in
set_option maxHeartbeats 1000000 in
theorem f69_any (k : Int) (AP : Option Addr) (ps : List Int) (cp : Nat) (AD : Option Addr) (ds : List Int) (cd : Nat) (m : Int) (pb : Addr) (w : World) (hp : Kd.C (Kd.int .i64) w AP ps.length ps) (hm : w.cell? pb = some (.int .i64 m)) :
    Calls Try.prog 69 #[.agg #[.int .i64 k, .slice AP ps.length cp, .slice AD ds.length cd], .pointer (some pb)] w fun e w' => e = .returned (.bool (!nodeOk m (k, (ps, ds)))) ∧ Below w.heap.size w w' := by
  have HP := Aside0.mk hp
  have HB0 : Aside0 (Below w.heap.size w (w.alloc (.cells #[.int .i64 k, .slice AP ps.length cp, .slice AD ds.length cd] 61))) := ⟨(Below.refl _ _).alloc (Nat.le_refl _) _⟩
  have hpb := World.block_lt_of_cell? w _ hm
  have hm' := (HB0.out.cell hpb).trans hm
  have hk0 := blk_new w (.cells #[.int .i64 k, .slice AP ps.length cp, .slice AD ds.length cd] 61)
  have h0 := (blk_cell hk0 0).trans (show _ = some (Value.int .i64 k) from rfl)
  have h1 := (blk_cell hk0 1).trans (show _ = some (Value.slice AP ps.length cp) from rfl)
  have h2 := (blk_cell hk0 2).trans (show _ = some (Value.slice AD ds.length cd) from rfl)
  clear hp hk0
  go_enter Try.func69, Try.ntmps69
  go_wp2_with fail
  refine (f70_any k AP ps cp AD ds cd m _ (Kd.C_below HP.out HB0.out)).mono ?_
  rintro e w1 ⟨rfl, hb⟩
  have HB1 := Aside0.mk (below_trans HB0.out hb)
  clear hb
  go_wp2_with fail
  go_ret
  exact ⟨rfl, HB1.out⟩
theorem cf69 (args : Array Value) (w : World) : (callFunc 69 args).run Try.prog w = .ok (.enter 69 args) w := callFunc_some Try.func69 (by kernel_rfl) (by kernel_rfl) args w
end Go.Proofs.Ytgbmebnfbhdpiaa
namespace Go.Proofs.Ytgbmebnfbhdpiaa
open Go.RowKit Go.Proofs.YtgbmebnfbhdpiaaW.PrintWords Go.Proofs.YtgbmebnfbhdpiaaW.PrintLast

/-- A number that is 0 or more just if there is one. -/
def IdxPost (b : Bool) (w : World) (e : Ending) (w' : World) : Prop := ∃ r : Int, e = .returned (.int .i64 r) ∧ (0 ≤ r ↔ b = true) ∧ Below w.heap.size w w'
theorem anyN_at {p : GN → Bool} {ns : List GN} {i : Int} (h0 : 0 ≤ i) (h1 : i < ns.length) (h : p (ns.getD i.toNat noN) = true) : ns.any p = true := by
  rw [List.any_eq_true]
  refine ⟨_, ?_, h⟩
  rw [List.getD_eq_getElem?_getD, List.getElem?_eq_getElem (by omega : i.toNat < ns.length)]; simp
theorem anyN_none {p : GN → Bool} {ns : List GN} (h : ∀ j : Int, 0 ≤ j → j < ns.length → p (ns.getD j.toNat noN) = false) : ns.any p = false := by
  rw [List.any_eq_false]
  intro x hx
  obtain ⟨j, hj, rfl⟩ := List.getElem_of_mem hx
  have := h j (by omega) (by omega)
  rw [List.getD_eq_getElem?_getD, Int.toNat_natCast, List.getElem?_eq_getElem hj] at this
  simpa using this

set_option maxRecDepth 100000 in
set_option maxHeartbeats 2000000 in
theorem f61_any (A : Option Addr) (c : Nat) (ns : List GN) (m : Int) (pb : Addr) (w : World) (hx : Kd.C kN w A ns.length ns) (hm : w.cell? pb = some (.int .i64 m)) :
    Calls Try.prog 61 #[.slice A ns.length c, .func (.func 69) #[] #[.pointer (some pb)]] w (IdxPost (ns.any fun x => !nodeOk m x) w) := by
  have HX := Aside0.mk hx
  have HM := Aside0.mk hm
  have hpb := World.block_lt_of_cell? w _ hm
  have hL0 : ns.length ≤ 9223372036854775807 := hx.2.1
  have hcf := cf69
  clear hx hm
  go_enter Try.func61, Try.ntmps61
  go_wp2_with fail
  obtain ⟨wo, rfl⟩ : ∃ wo : World, wo = w := ⟨_, rfl⟩
  go_loopw [8] (fun v8 wr => ∃ i : Int, v8 = .int .i64 i ∧ 0 ≤ i ∧ i ≤ ns.length ∧ Aside0 (∀ j : Int, 0 ≤ j → j < i → (!nodeOk m (ns.getD j.toNat noN)) = false) ∧ Aside0 (Below wo.heap.size wo wr)) (fun v _ => ns.length - (intOf v).toNat)
  case atStart => exact ⟨0, rfl, by omega, by omega, ⟨fun j h0 h1 => by omega⟩, ⟨Below.refl _ _⟩⟩
  case round =>
    obtain ⟨i, rfl, h0, h1, HP, HB⟩ := hrel
    by_cases hil : i < ns.length
    case neg =>
      go_wp2_with fail
      go_ret
      refine ⟨-1, rfl, ?_, HB.out⟩
      rw [anyN_none (fun j j0 j1 => HP.out j j0 (by omega))]
      exact ⟨fun h => absurd h (by decide), fun h => by cases h⟩
    obtain ⟨ad, k, AP, ps, cp, AD, ds, cd, e, HXE, hc0, hc1, hc2, hpp⟩ := at_node (Kd.C_below HX.out HB.out) i h0 hil
    cases e
    have HPP := Aside0.mk hpp
    have hmc := (HB.out.cell hpb).trans HM.out
    clear hpp
    go_wp2_with fail
    refine (f69_any k AP ps cp AD ds cd m pb _ HPP.out hmc).mono ?_
    rintro e w1 ⟨rfl, hb⟩
    have HB1 := Aside0.mk (below_trans HB.out hb)
    clear hb
    by_cases hn : nodeOk m (k, (ps, ds)) = true
    · rw [hn]
      have HN : Aside0 ((!nodeOk m (ns.getD i.toNat noN)) = false) := ⟨by rw [← HXE.out, hn]; rfl⟩
      clear hn
      go_wp2_with fail
      go_roundw
      case rel => exact ⟨i + 1, rfl, by omega, by omega, ⟨fun j j0 j1 => by
        by_cases h : j < i
        · exact HP.out j j0 h
        · obtain rfl : j = i := by omega
          exact HN.out⟩, HB1⟩
      case measure => simp [intOf]; omega
    · rw [Bool.not_eq_true] at hn
      rw [hn]
      have HN : Aside0 ((!nodeOk m (ns.getD i.toNat noN)) = true) := ⟨by rw [← HXE.out, hn]; rfl⟩
      clear hn
      go_wp2_with fail
      go_ret
      exact ⟨i, rfl, ⟨fun _ => anyN_at h0 hil HN.out, fun _ => h0⟩, HB1.out⟩

set_option maxRecDepth 100000 in
set_option maxHeartbeats 1000000 in
theorem f38_any (A : Option Addr) (c : Nat) (ns : List GN) (m : Int) (pb : Addr) (w : World) (hx : Kd.C kN w A ns.length ns) (hm : w.cell? pb = some (.int .i64 m)) :
    Calls Try.prog 38 #[.slice A ns.length c, .func (.func 69) #[] #[.pointer (some pb)]] w fun e w' => e = .returned (.bool (ns.any fun x => !nodeOk m x)) ∧ Below w.heap.size w w' := by
  have HX := Aside0.mk hx
  have HM := Aside0.mk hm
  clear hx hm
  go_enter Try.func38, Try.ntmps38
  go_wp2_with (go_at_call 61; refine (f61_any A c ns m pb w HX.out HM.out).mono ?_; rintro e w1 ⟨r, rfl, hr, hb⟩)
  go_ret
  refine ⟨ret_bool ?_, hb⟩
  rw [Bool.eq_iff_iff, decide_eq_true_eq]
  exact hr

set_option maxRecDepth 100000 in
set_option maxHeartbeats 2000000 in
theorem f59_any (k : Int) (AP : Option Addr) (ps : List Int) (cp : Nat) (AD : Option Addr) (ds : List Int) (cd : Nat) (m : Int) (w : World) (hp : Kd.C (Kd.int .i64) w AP ps.length ps) :
    Calls Try.prog 59 #[.agg #[.int .i64 k, .slice AP ps.length cp, .slice AD ds.length cd], .int .i64 m] w fun e w' => e = .returned (.bool (nodeOk m (k, (ps, ds)))) ∧ Below w.heap.size w w' := by
  have HP := Aside0.mk hp
  have hL0 : ps.length ≤ 9223372036854775807 := hp.2.1
  clear hp
  have HB0 : Aside0 (Below w.heap.size w (w.alloc (.cells #[.int .i64 k, .slice AP ps.length cp, .slice AD ds.length cd] 61))) := ⟨(Below.refl _ _).alloc (Nat.le_refl _) _⟩
  have hk0 := blk_new w (.cells #[.int .i64 k, .slice AP ps.length cp, .slice AD ds.length cd] 61)
  have h0 := (blk_cell hk0 0).trans (show _ = some (Value.int .i64 k) from rfl)
  have h1 := (blk_cell hk0 1).trans (show _ = some (Value.slice AP ps.length cp) from rfl)
  have h2 := (blk_cell hk0 2).trans (show _ = some (Value.slice AD ds.length cd) from rfl)
  clear hk0
  go_enter Try.func59, Try.ntmps59
  go_wp2_with fail
  generalize (w.alloc (.cells #[.int .i64 k, .slice AP ps.length cp, .slice AD ds.length cd] 61)) = wo at HB0 h0 h1 h2 ⊢
  go_loop [5] (fun v5 => ∃ i : Int, v5 = .int .i64 i ∧ 0 ≤ i ∧ i ≤ ps.length ∧ Aside0 (∀ j : Int, 0 ≤ j → j < i → wrongP m (rd ps j) = false)) (fun v => ps.length - (intOf v).toNat)
  case atStart => exact ⟨0, rfl, Int.le_refl _, by omega, ⟨fun j h0 h1 => by omega⟩⟩
  case round =>
    obtain ⟨i, rfl, hi0, hi1, HQ⟩ := hrel
    by_cases hlt : i < ps.length
    case neg =>
      have HE : Aside0 (nodeOk m (k, (ps, ds)) = shapeOk k ps.length ds.length) := ⟨by unfold nodeOk; rw [any_none (fun j j0 j1 => HQ.out j j0 (by omega))]; simp⟩
      go_wp2_with fail
      refine (f72_any k ps.length ds.length _).mono ?_
      rintro e w1 ⟨rfl, hb⟩
      have HB1 := Aside0.mk (below_trans HB0.out hb)
      clear hb
      by_cases hs : shapeOk k ps.length ds.length = true
      · rw [shape_ok hs]
        have HS := Aside0.mk hs
        clear hs
        go_wp2_with fail
        go_ret
        exact ⟨ret_bool (by rw [HE.out, HS.out]), HB1.out⟩
      · rw [Bool.not_eq_true] at hs
        rw [shape_bad hs]
        have HS := Aside0.mk hs
        clear hs
        go_wp2_with fail
        go_ret
        exact ⟨ret_bool (by rw [HE.out, HS.out]), HB1.out⟩
    obtain ⟨ad, e, hc⟩ := Kd.at_int (Kd.C_below HP.out HB0.out) i hi0 hlt
    cases e
    obtain ⟨x, hx⟩ : ∃ x, x = rd ps i := ⟨_, rfl⟩
    rw [← hx] at hc
    have HXX := Aside0.mk hx
    clear hx
    have hbad : wrongP m x = true → nodeOk m (k, (ps, ds)) = false := fun h => by
      unfold nodeOk
      rw [any_at hi0 hlt (by rw [← HXX.out]; exact h)]; simp
    have HBAD := Aside0.mk hbad
    clear hbad
    by_cases hneg : x < -1
    · have hnb : decide (x < -1) = true := decide_eq_true hneg
      have HE := Aside0.mk (HBAD.out (by simp [wrongP, hnb]))
      clear hneg
      go_wp2_with fail
      go_ret
      exact ⟨ret_bool HE.out.symm, HB0.out⟩
    have hnb : decide (x < -1) = false := decide_eq_false hneg
    by_cases hge : x ≥ m
    · have hgb : decide (x ≥ m) = true := decide_eq_true hge
      have HE := Aside0.mk (HBAD.out (by simp [wrongP, hgb]))
      clear hneg hge
      go_wp2_with fail
      go_ret
      exact ⟨ret_bool HE.out.symm, HB0.out⟩
    have hgb : decide (x ≥ m) = false := decide_eq_false hge
    have HW : Aside0 (wrongP m (rd ps i) = false) := ⟨by rw [← HXX.out]; simp [wrongP, hnb, hgb]⟩
    clear hneg hge
    go_wp2_with fail
    go_round
    case rel => exact ⟨i + 1, rfl, by omega, by omega, ⟨fun j j0 j1 => by
      by_cases h : j < i
      · exact HQ.out j j0 h
      · obtain rfl : j = i := by omega
        exact HW.out⟩⟩
    case measure => simp [intOf]; omega
end Go.Proofs.Ytgbmebnfbhdpiaa
namespace Go.Proofs.Ytgbmebnfbhdpiaa
open Go.RowKit Go.Proofs.YtgbmebnfbhdpiaaW.PrintWords Go.Proofs.YtgbmebnfbhdpiaaW.PrintLast

section
variable {w0 w : World} {ob : Nat} {vn vs : Value} {H : List Hdr} {rows : List (List Int)} {st : List Int} {O : Nat → Nat}
/-- A start more. -/
theorem CloSt.appStart {w1 : World} {v1 : Value} {p : Int} (h : CloSt w0 w ob vn vs H rows st O) (ho : Kd.R (Kd.int .i64) 3 w1 w0.heap.size (fun z => ownTo O w.heap.size 1 z = 1) v1 (st ++ [p])) (hb : Below w0.heap.size w0 w1) (hg : w.grownBy w1 vs.ownBlock) :
    w1.heap[ob]? = some (.cells #[vn, vs] 25 (0, 0)) ∧ CloSt w0 (w1.setCell ⟨ob, 1, none⟩ v1) ob vn v1 H rows (st ++ [p]) (ownTo O w.heap.size 1) := by
  have hob := blk_grown h.obk hg (Kd.R_ne h.start h.obk (by decide))
  have hvO : ∀ k, vs.ownBlock = some k → ownTo O w.heap.size 1 k = 1 := (R_ownTo (j := 1) (Nat.le_refl _) h.start).1
  refine ⟨hob, hb.setCell h.oge _, blk_put hob 1 v1 rfl, Kd.R_set (Kd.R_over' h.heads (Kd.R_typed h.start) (by decide) hg) hob (by decide) _ _, h.len, fun i hd hi => ⟨(h.rows i hd hi).1, ?_⟩, Kd.R_set ho hob (by decide) _ _, h.oge⟩
  exact Kd.R_set (R_grownO (R_ownTo (j := 1) (Nat.le_refl _) (h.rows i hd hi).2) hvO (by omega) hg) hob (by decide) _ _
/-- A number more in a row. -/
theorem CloSt.appRow {w1 : World} {g n cap i k : Nat} {hd : Hdr} {A' : Option Addr} {c' : Nat} {p : Int} (h : CloSt w0 w ob (.slice (some ⟨g, 0, none⟩) n cap) vs H rows st O) (hi : H[i]? = some hd) (hk : k = (rows.getD i []).length + 1)
    (ho : Kd.R (Kd.int .i64) 3 w1 w0.heap.size (fun z => ownTo O w.heap.size (i + 2) z = i + 2) (encH (A', k, c')) (rows.getD i [] ++ [p])) (hb : Below w0.heap.size w0 w1) (hg : w.grownBy w1 (encH hd).ownBlock) :
    w1.heap[ob]? = some (.cells #[.slice (some ⟨g, 0, none⟩) n cap, vs] 25 (0, 0)) ∧ (w1.cell? ⟨g, i, none⟩ = some (encH hd) ∧ w1.frozen? ⟨g, i, none⟩ = false) ∧
      CloSt w0 (w1.setCell ⟨g, i, none⟩ (encH (A', k, c'))) ob (.slice (some ⟨g, 0, none⟩) n cap) vs (H.set i (A', k, c')) (rows.set i (rows.getD i [] ++ [p])) st (ownTo O w.heap.size (i + 2)) := by
  have hil := (List.getElem?_eq_some_iff.1 hi).1
  have hrow := (h.rows i hd hi).2
  have hob := blk_grown h.obk hg (Kd.R_ne hrow h.obk (by decide))
  have hvO : ∀ k, (encH hd).ownBlock = some k → ownTo O w.heap.size (i + 2) k = i + 2 := (R_ownTo (j := i + 2) (Nat.le_refl _) hrow).1
  have hh := Kd.R_over' h.heads (Kd.R_typed hrow) (by decide) hg
  obtain ⟨g', cap', hvs, hbg, hgl, cells, hgc⟩ := Kd.R_form hh (by omega)
  have hv1 := (Value.slice.inj hvs).1
  have hgg : g = g' := by injection hv1 with e; injection e
  subst hgg
  have hn : n = H.length := (Kd.R_reads' hh).1
  have hc := Kd.R_celln hd hh (i : Int) (by omega) (by omega)
  have hhd : rdOf hd H (i : Int) = hd := by unfold rdOf; rw [Int.toNat_natCast, List.getD_eq_getElem?_getD, hi]; rfl
  rw [hhd, Int.toNat_natCast] at hc
  have hp := Kd.R_putn hh (i : Int) (A', k, c')
  rw [Int.toNat_natCast] at hp
  refine ⟨hob, hc, hb.setCell hbg _, blk_far hob (blk_ne hob hgc (by decide)) _, hp, by rw [List.length_set, List.length_set]; exact h.len, fun j hd' hj => ?_, Kd.R_set (R_grownO (R_ownTo (j := i + 2) (Nat.le_refl _) h.start) hvO (by omega) hg) hgc (by decide) _ _, h.oge⟩
  rw [List.getElem?_set] at hj
  by_cases c : i = j
  · rw [if_pos c, if_pos hil] at hj
    cases hj
    subst c
    have e : (rows.set i (rows.getD i [] ++ [p])).getD i [] = rows.getD i [] ++ [p] := by
      rw [List.getD_eq_getElem?_getD, List.getElem?_set, if_pos rfl, if_pos (by rw [← h.len]; exact hil)]; rfl
    rw [e]
    exact ⟨by rw [List.length_append, List.length_singleton]; exact hk, Kd.R_set ho hgc (by decide) _ _⟩
  · rw [if_neg c] at hj
    have e : (rows.set i (rows.getD i [] ++ [p])).getD j [] = rows.getD j [] := by rw [List.getD_eq_getElem?_getD, List.getElem?_set, if_neg c, List.getD_eq_getElem?_getD]
    rw [e]
    exact ⟨(h.rows j hd' hj).1, Kd.R_set (R_grownO (R_ownTo (j := i + 2) (Nat.le_refl _) (h.rows j hd' hj).2) hvO (by omega) hg) hgc (by decide) _ _⟩
end

/-- The numbers that a node goes on to. -/
def goesTo (x : GN) : List Int := if x.1 = 1 then x.2.1.filter (fun p => decide (p ≥ 0)) else []
def ofN (ns : List GN) : List (List Int) := ns.map goesTo
def ofS (rs : List GR) : List Int := rs.map (·.2)
theorem ofN_len (ns : List GN) : (ofN ns).length = ns.length := by simp [ofN]
theorem ofS_len (rs : List GR) : (ofS rs).length = rs.length := by simp [ofS]
theorem ofN_get (ns : List GN) (k : Nat) (h : k < ns.length) : (ofN ns).getD k [] = goesTo (ns.getD k noN) := by
  unfold ofN
  rw [List.getD_eq_getElem?_getD, List.getElem?_map, List.getD_eq_getElem?_getD, List.getElem?_eq_getElem h]; rfl
theorem goesTo_len (x : GN) : (goesTo x).length ≤ x.2.1.length := by
  unfold goesTo; split
  · exact List.length_filter_le _ _
  · simp
/-- The first j of a node's numbers are told. -/
def part (x : GN) (j : Nat) : List Int := if x.1 = 1 then (x.2.1.take j).filter (fun p => decide (p ≥ 0)) else []
theorem part_zero (x : GN) : part x 0 = [] := by unfold part; split <;> simp
theorem part_end (x : GN) : part x x.2.1.length = goesTo x := by unfold part goesTo; rw [List.take_length]
theorem part_len (x : GN) (j : Nat) : (part x j).length ≤ x.2.1.length := by
  unfold part; split
  · have := List.length_filter_le (fun p => decide (p ≥ 0)) (x.2.1.take j)
    rw [List.length_take] at this
    omega
  · simp
theorem part_succ {x : GN} {j : Int} (h0 : 0 ≤ j) (h1 : j < x.2.1.length) : part x (j + 1).toNat = if x.1 = 1 ∧ rd x.2.1 j ≥ 0 then part x j.toNat ++ [rd x.2.1 j] else part x j.toNat := by
  unfold part
  have hs : x.2.1.take (j + 1).toNat = x.2.1.take j.toNat ++ [rd x.2.1 j] := by
    rw [show (j + 1).toNat = j.toNat + 1 from by omega, List.take_succ_eq_append_getElem (by omega)]
    simp [rd, List.getD_eq_getElem?_getD, List.getElem?_eq_getElem (by omega : j.toNat < x.2.1.length)]
  by_cases c : x.1 = 1
  · rw [if_pos c, if_pos c, hs, List.filter_append]
    by_cases c2 : rd x.2.1 j ≥ 0
    · rw [if_pos ⟨c, c2⟩]; simp [c2]
    · rw [if_neg (fun h => c2 h.2)]; simp; omega
  · rw [if_neg c, if_neg c, if_neg (fun h => c h.1)]
/-- The rows when the first i nodes are done. -/
def ofAt (ns : List GN) (i : Nat) : List (List Int) := (ofN ns).take i ++ List.replicate (ns.length - i) []
theorem ofAt_zero (ns : List GN) : ofAt ns 0 = List.replicate ns.length [] := by simp [ofAt]
theorem ofAt_end (ns : List GN) : ofAt ns ns.length = ofN ns := by unfold ofAt; rw [List.take_of_length_le (by rw [ofN_len]; exact Nat.le_refl _), Nat.sub_self]; simp
theorem ofAt_len (ns : List GN) (i : Nat) (h : i ≤ ns.length) : (ofAt ns i).length = ns.length := by
  unfold ofAt; rw [List.length_append, List.length_take, List.length_replicate, ofN_len]; omega
theorem ofAt_at (ns : List GN) (i : Nat) (h : i < ns.length) : (ofAt ns i).getD i [] = [] := by
  unfold ofAt
  rw [List.getD_eq_getElem?_getD, List.getElem?_append_right (by rw [List.length_take]; omega), List.length_take, ofN_len, List.getElem?_replicate]
  split <;> rfl
theorem ofAt_set (ns : List GN) (i : Nat) (h : i < ns.length) : (ofAt ns i).set i (goesTo (ns.getD i noN)) = ofAt ns (i + 1) := by
  unfold ofAt
  have hl : ((ofN ns).take i).length = i := by rw [List.length_take, ofN_len]; omega
  rw [List.set_append_right _ _ (by omega), hl, Nat.sub_self]
  rw [show ns.length - i = (ns.length - (i + 1)) + 1 from by omega, List.replicate_succ, List.set_cons_zero]
  rw [List.take_succ_eq_append_getElem (by rw [ofN_len]; exact h), List.append_assoc]
  have : (ofN ns)[i]'(by rw [ofN_len]; exact h) = goesTo (ns.getD i noN) := by
    rw [← ofN_get ns i h, List.getD_eq_getElem?_getD, List.getElem?_eq_getElem (by rw [ofN_len]; exact h)]; rfl
  rw [this]; rfl
theorem ofS_take (rs : List GR) {i : Int} (h0 : 0 ≤ i) (h1 : i < rs.length) : (ofS rs).take (i + 1).toNat = (ofS rs).take i.toNat ++ [(rs.getD i.toNat noR).2] := by
  rw [show (i + 1).toNat = i.toNat + 1 from by omega, List.take_succ_eq_append_getElem (by rw [ofS_len]; omega)]
  simp [ofS, List.getD_eq_getElem?_getD, List.getElem?_eq_getElem (by omega : i.toNat < rs.length)]
end Go.Proofs.Ytgbmebnfbhdpiaa
namespace Go.Proofs.Ytgbmebnfbhdpiaa
open Go.RowKit Go.Proofs.YtgbmebnfbhdpiaaW.PrintWords Go.Proofs.YtgbmebnfbhdpiaaW.PrintLast

/-- A root that may not be. -/
def rootBad (m : Int) (rs : List GR) (i : Int) : Bool :=
  (nameE (rs.getD i.toNat noR).1 != 0) || (decide (i > 0) && !(Op.bytesLess (rs.getD (i - 1).toNat noR).1.toList (rs.getD i.toNat noR).1.toList)) || decide ((rs.getD i.toNat noR).2 < 0) || decide ((rs.getD i.toNat noR).2 ≥ m)
/-- May a graph be (one that is small)? -/
def graphOk (ns : List GN) (rs : List GR) : Bool := !(ns.any fun x => !nodeOk ns.length x) && (List.range rs.length).all fun i : Nat => !rootBad ns.length rs i
def graphE (ns : List GN) (rs : List GR) : Int := if graphOk ns rs then 0 else 180
theorem graph_node {ns : List GN} {rs : List GR} (h : (ns.any fun x => !nodeOk ns.length x) = true) : graphE ns rs = 180 := by unfold graphE graphOk; rw [h]; rfl
theorem graph_root {ns : List GN} {rs : List GR} {i : Int} (h0 : 0 ≤ i) (h1 : i < rs.length) (h : rootBad ns.length rs i = true) : graphE ns rs = 180 := by
  unfold graphE graphOk
  have : ((List.range rs.length).all fun i : Nat => !rootBad ns.length rs i) = false := by
    rw [List.all_eq_false]
    exact ⟨i.toNat, List.mem_range.2 (by omega), by rw [Int.toNat_of_nonneg h0, h]; decide⟩
  rw [this, Bool.and_false]; rfl
theorem graph_all {ns : List GN} {rs : List GR} (h : (ns.any fun x => !nodeOk ns.length x) = false) (hr : ∀ j : Int, 0 ≤ j → j < rs.length → rootBad ns.length rs j = false) : graphE ns rs = 0 := by
  unfold graphE graphOk
  rw [h, if_pos]
  simp only [Bool.not_false, Bool.true_and, List.all_eq_true, List.mem_range]
  intro i hi; rw [hr i (by omega) (by omega)]; rfl
/-- What is known of the world while a root is looked at. -/
structure RdSt (wb w cur : World) (gcs : Array Value) (pm : Addr) (vm : Value) (rb : Nat) (s : ByteArray) (x : Int) (pa : Addr) (s' : ByteArray) : Prop where
  since : Below wb.heap.size wb cur
  below : Below w.heap.size w cur
  gbox : cur.heap[w.heap.size]? = some (.cells gcs 58 (0, 0))
  ex : cur.cell? pm = some vm
  rbox : cur.heap[rb]? = some (.cells #[.string s, .int .i64 x] 71 (0, 0))
  prev : cur.cell? pa = some (.string s')
theorem RdSt.step {wb w cur w2 : World} {gcs : Array Value} {pm : Addr} {vm : Value} {rb : Nat} {s : ByteArray} {x : Int} {pa : Addr} {s' : ByteArray} (h : RdSt wb w cur gcs pm vm rb s x pa s') (hb : Below cur.heap.size cur w2) : RdSt wb w w2 gcs pm vm rb s x pa s' :=
  ⟨below_trans h.since hb, below_trans h.below hb, blk_below h.gbox hb, (hb.cell (World.block_lt_of_cell? _ _ h.ex)).trans h.ex, blk_below h.rbox hb, (hb.cell (World.block_lt_of_cell? _ _ h.prev)).trans h.prev⟩
theorem bad_name {m : Int} {rs : List GR} {i x : Int} {s : ByteArray} (h : (s, x) = rs.getD i.toNat noR) (hn : nameE s = 161) : rootBad m rs i = true := by unfold rootBad; rw [← h]; simp only []; rw [hn]; rfl
theorem bad_prev {m : Int} {rs : List GR} {i x x' : Int} {s s' : ByteArray} (h : (s, x) = rs.getD i.toNat noR) (h' : (s', x') = rs.getD (i - 1).toNat noR) (hi : i > 0) (hb : Op.bytesLess s'.toList s.toList = false) : rootBad m rs i = true := by
  unfold rootBad; rw [← h, ← h']; simp only []; rw [hb, decide_eq_true hi]; simp
theorem bad_neg {m : Int} {rs : List GR} {i x : Int} {s : ByteArray} (h : (s, x) = rs.getD i.toNat noR) (hn : x < 0) : rootBad m rs i = true := by unfold rootBad; rw [← h]; simp only []; rw [decide_eq_true hn]; simp
theorem bad_far {m : Int} {rs : List GR} {i x : Int} {s : ByteArray} (h : (s, x) = rs.getD i.toNat noR) (hn : x ≥ m) : rootBad m rs i = true := by unfold rootBad; rw [← h]; simp only []; rw [decide_eq_true hn]; simp
theorem bad_not {m : Int} {rs : List GR} {i x : Int} {s : ByteArray} (h : (s, x) = rs.getD i.toNat noR) (hn : nameE s = 0) (hp : i > 0 → Op.bytesLess (rs.getD (i - 1).toNat noR).1.toList s.toList = true) (h0 : ¬ x < 0) (h1 : ¬ x ≥ m) : rootBad m rs i = false := by
  unfold rootBad; rw [← h]; simp only []
  rw [hn, decide_eq_false h0, decide_eq_false h1]
  by_cases hi : i > 0
  · rw [hp hi]; simp
  · rw [decide_eq_false hi]; simp
theorem name_cases (s : ByteArray) : nameE s = 0 ∨ nameE s = 161 := by unfold nameE; split <;> simp

/-- What a check of a graph answers: function f of the program. -/
def SpecCheck (f : FuncId) : Prop := ∀ (A0 : Option Addr) (c0 : Nat) (A1 : Option Addr) (c1 : Nat) (ns : List GN) (rs : List GR) (w : World), GraphC w A0 c0 A1 c1 ns rs → ns.length ≤ 60 → rs.length ≤ 60 →
    Calls Try.prog f #[.agg #[.slice A0 ns.length c0, .slice A1 rs.length c1]] w fun e w' => e = .returned (.int .i64 (graphE ns rs)) ∧ Below w.heap.size w w'
theorem graphE_cases (ns : List GN) (rs : List GR) : graphE ns rs = 0 ∨ graphE ns rs = 180 := by unfold graphE; split <;> simp
theorem graph_nodes {ns : List GN} {rs : List GR} (h : graphE ns rs = 0) : ∀ i : Nat, i < ns.length → nodeOk ns.length (ns.getD i noN) = true := fun i hi => by
  by_cases c : nodeOk ns.length (ns.getD i noN) = true
  · exact c
  · have := graph_node (rs := rs) (anyN_at (p := fun x => !nodeOk ns.length x) (i := i) (by omega) (by omega) (by rw [Int.toNat_natCast]; simpa using c))
    rw [this] at h; cases h
theorem node_ptrs {m : Int} {x : GN} (h : nodeOk m x = true) : x.2.1.length ≤ 126 := by
  unfold nodeOk shapeOk at h
  simp only [Bool.and_eq_true, decide_eq_true_eq] at h
  exact h.1.1.2
/-- The error that a graph's net tells. -/
def ofE (ns : List GN) (rs : List GR) : Int := if graphE ns rs = 0 then (if ns.any (fun x => x.1 == 3) then 200 else 0) else graphE ns rs
theorem of_bad {ns : List GN} {rs : List GR} (h : graphE ns rs = 180) : ofE ns rs = 180 := by unfold ofE; rw [h]; rfl
theorem of_pair {ns : List GN} {rs : List GR} (h : graphE ns rs = 0) (hp : ns.any (fun x => x.1 == 3) = true) : ofE ns rs = 200 := by unfold ofE; rw [h, hp]; rfl
theorem of_ok {ns : List GN} {rs : List GR} (h : graphE ns rs = 0) (hp : ns.any (fun x => x.1 == 3) = false) : ofE ns rs = 0 := by unfold ofE; rw [h, hp]; rfl
/-- What comes back: the net, or none and an error. -/
def OfPost (ns : List GN) (rs : List GR) (w : World) (e : Ending) (w' : World) : Prop :=
  ∃ A c A' c' nx st, e = .returned (.tuple #[.agg #[.slice A (nx : List (List Int)).length c, .slice A' (st : List Int).length c'], .int .i64 (ofE ns rs)]) ∧ NetC w' A c A' c' nx st ∧ Below w.heap.size w w' ∧
    nx = (if ofE ns rs = 0 then ofN ns else []) ∧ st = (if ofE ns rs = 0 then ofS rs else [])
theorem netC_nil (w : World) : NetC w none 0 none 0 [] [] := ⟨(Kd.R_reads' (Kd.R_nil (Kd.slice 3 (Kd.int .i64)) 23 w 0 (fun _ => True))).2.2, Nat.le_refl _, (Kd.R_reads' (Kd.R_nil (Kd.int .i64) 3 w 0 (fun _ => True))).2.2, Nat.le_refl _⟩
end Go.Proofs.Ytgbmebnfbhdpiaa
