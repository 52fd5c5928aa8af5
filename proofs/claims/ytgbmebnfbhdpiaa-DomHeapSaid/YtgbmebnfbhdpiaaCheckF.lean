/- The walks of slices.IndexFunc, slices.ContainsFunc over ints, and of dom.Check: a net that may be, told by netOk. -/
import Derived.Test.YtgbmebnfbhdpiaaBase
namespace Go.Proofs.Ytgbmebnfbhdpiaa
open Go.RowKit Go.Proofs.YtgbmebnfbhdpiaaW.PrintWords

def idx (p : Int → Bool) : List Int → Int → Int
  | [], _ => -1
  | x :: xs, i => if p x then i else idx p xs (i + 1)

theorem idx_none (p : Int → Bool) (xs : List Int) (i : Int) (h : ∀ x ∈ xs, p x = false) : idx p xs i = -1 := by
  induction xs generalizing i with
  | nil => rfl
  | cons x xs ih => simp only [idx, h x (by simp)]; simpa using ih (i + 1) (fun y hy => h y (by simp [hy]))

theorem idx_at (p : Int → Bool) (xs : List Int) (i : Int) (k : Nat) (hk : k < xs.length) (h0 : ∀ j, j < k → p (xs.getD j 0) = false) (h1 : p (xs.getD k 0) = true) : idx p xs i = i + k := by
  induction xs generalizing i k with
  | nil => simp at hk
  | cons x xs ih =>
    cases k with
    | zero => simp at h1; simp [idx, h1]
    | succ k =>
      have hx := h0 0 (by omega)
      simp at hx
      simp only [idx, hx]
      have := ih (i + 1) k (by simpa using hk) (fun j hj => by simpa using h0 (j + 1) (by omega)) (by simpa using h1)
      simp [this]; omega

set_option maxHeartbeats 400000 in
theorem f57_any (f : Nat) (cap : Array Value) (p : Int → Bool) (A : Option Addr) (c : Nat) (xs : List Int) (w : World)
    (hx : Kd.C (Kd.int .i64) w A xs.length xs)
    (hcf : ∀ args w, (callFunc f args).run Try.prog w = .ok (.enter f args) w)
    (hf : ∀ x, Calls Try.prog f (#[.int .i64 x] ++ cap) w fun e w' => e = .returned (.bool (p x)) ∧ w' = w) :
    Calls Try.prog 57 #[.slice A xs.length c, .func (.func f) #[] cap] w fun e w' => e = .returned (.int .i64 (idx p xs 0)) ∧ w' = w := by
  have HX := Aside0.mk hx
  have HL : xs.length ≤ 9223372036854775807 := hx.2.1
  clear hx
  have HF := Aside0.mk hf
  clear hf
  go_enter Try.func57, Try.ntmps57
  go_wp2
  go_loop [8] (fun v8 => ∃ i : Int, v8 = .int .i64 i ∧ 0 ≤ i ∧ i ≤ xs.length ∧ Aside0 (∀ j, j < i.toNat → p (xs.getD j 0) = false)) (fun v => xs.length - (intOf v).toNat)
  case atStart => exact ⟨0, rfl, Int.le_refl _, by omega, ⟨fun j hj => absurd hj (Nat.not_lt_zero _)⟩⟩
  case round =>
    obtain ⟨i, rfl, h0, hk, HP⟩ := hrel
    by_cases hlt : i < xs.length
    · obtain ⟨ad, e, hc⟩ := Kd.at_int HX.out i h0 (by omega)
      subst e
      go_wp2_with fail
      refine (HF.out _).mono ?_
      rintro e w' ⟨rfl, rfl⟩
      by_cases hp : p (rd xs i) = true
      · have hp1 := Aside0.mk hp
        rw [hp]
        clear hp
        go_wp2
        go_ret
        refine ⟨?_, rfl⟩
        have := idx_at p xs 0 i.toNat (by omega) HP.out hp1.out
        rw [this]; simp; omega
      · rw [Bool.not_eq_true] at hp
        have hp1 := Aside0.mk hp
        rw [hp]
        clear hp
        go_wp2
        go_round
        case rel => exact ⟨i + 1, rfl, by omega, by omega, ⟨fun j hj => by
            by_cases h : j < i.toNat
            · exact HP.out j h
            · obtain rfl : j = i.toNat := by omega
              exact hp1.out⟩⟩
        case measure => simp [intOf]; omega
    · go_wp2
      go_ret
      refine ⟨ret_int ?_, rfl⟩
      refine (idx_none _ _ _ ?_).symm
      intro x hx
      obtain ⟨j, hj, rfl⟩ := List.getElem_of_mem hx
      have := HP.out j (by omega)
      rwa [List.getD_eq_getElem?_getD, List.getElem?_eq_getElem hj] at this

theorem idx_ge_iff (p : Int → Bool) (xs : List Int) (i : Int) (h0 : 0 ≤ i) : 0 ≤ idx p xs i ↔ xs.any p = true := by
  induction xs generalizing i with
  | nil => simp [idx]
  | cons x xs ih =>
    unfold idx
    by_cases h : p x = true
    · rw [if_pos h]; simp [h, h0]
    · rw [if_neg h]; have := ih (i + 1) (by omega); simp [h]; simpa using this
theorem idx_ge (p : Int → Bool) (xs : List Int) : decide (idx p xs 0 ≥ 0) = xs.any p := by
  rw [Bool.eq_iff_iff, decide_eq_true_eq]
  exact idx_ge_iff p xs 0 (Int.le_refl _)

theorem f48_any (f : Nat) (cap : Array Value) (p : Int → Bool) (A : Option Addr) (c : Nat) (xs : List Int) (w : World)
    (hx : Kd.C (Kd.int .i64) w A xs.length xs)
    (hcf : ∀ args w, (callFunc f args).run Try.prog w = .ok (.enter f args) w)
    (hf : ∀ x, Calls Try.prog f (#[.int .i64 x] ++ cap) w fun e w' => e = .returned (.bool (p x)) ∧ w' = w) :
    Calls Try.prog 48 #[.slice A xs.length c, .func (.func f) #[] cap] w fun e w' => e = .returned (.bool (xs.any p)) ∧ w' = w := by
  have HX := Aside0.mk hx
  have HF := Aside0.mk hf
  clear hx hf
  go_enter Try.func48, Try.ntmps48
  go_wp2_with (go_at_call 57; refine (f57_any f cap p A c xs w HX.out hcf HF.out).mono ?_; rintro e w' ⟨rfl, rfl⟩)
  go_ret
  exact ⟨ret_bool (idx_ge p xs), rfl⟩


def wrongB (n : Int) (x : Int) : Bool := decide (x < 0) || decide (x ≥ n)

set_option maxHeartbeats 400000 in
theorem f52_any (x m : Int) (p : Addr) (w : World) (hp : w.cell? p = some (.int .i64 m)) :
    Calls Try.prog 52 #[.int .i64 x, .pointer (some p)] w fun e w' => e = .returned (.bool (wrongB m x)) ∧ w' = w := by
  by_cases h0 : x < 0
  · go_enter Try.func52, Try.ntmps52
    go_wp2
    go_ret
    exact ⟨ret_bool (by simp [wrongB, h0]), rfl⟩
  · have h1 : decide (x < 0) = false := by simpa using h0
    go_enter Try.func52, Try.ntmps52
    go_wp2
    go_ret
    exact ⟨ret_bool (by simp [wrongB, h1]), rfl⟩

theorem cf52 (args : Array Value) (w : World) : (callFunc 52 args).run Try.prog w = .ok (.enter 52 args) w := callFunc_some Try.func52 (by kernel_rfl) (by kernel_rfl) args w

/-- May a net be? -/
def sumLen (nx : List (List Int)) : Nat := (nx.map List.length).sum
def netOk (nx : List (List Int)) (st : List Int) : Bool :=
  decide (nx.length ≤ 8192) && decide (st.length + sumLen nx ≤ 65536) && nx.all (fun l => !l.any (wrongB nx.length)) && !st.any (wrongB nx.length)


theorem sumLen_nil : sumLen [] = 0 := rfl
theorem sumLen_take_succ (nx : List (List Int)) (k : Nat) (h : k < nx.length) : sumLen (nx.take (k + 1)) = sumLen (nx.take k) + (nx.getD k []).length := by
  unfold sumLen
  rw [List.take_succ_eq_append_getElem h, List.map_append, List.sum_append]
  simp [List.getD_eq_getElem?_getD, List.getElem?_eq_getElem h]
theorem sumLen_take_le (nx : List (List Int)) (k : Nat) : sumLen (nx.take k) ≤ sumLen nx := by
  have : sumLen (nx.take k) + sumLen (nx.drop k) = sumLen nx := by
    unfold sumLen
    rw [← List.sum_append, ← List.map_append, List.take_append_drop]
  omega
theorem sumLen_get_le (nx : List (List Int)) (k : Nat) (h : k < nx.length) : sumLen (nx.take k) + (nx.getD k []).length ≤ sumLen nx := by
  rw [← sumLen_take_succ nx k h]; exact sumLen_take_le nx _

/-- The error that a net's check tells. -/
def checkE (nx : List (List Int)) (st : List Int) : Int := if netOk nx st then 0 else 200

theorem checkE_bad {nx : List (List Int)} {st : List Int} (h : netOk nx st = false) : checkE nx st = 200 := by simp [checkE, h]
theorem checkE_ok {nx : List (List Int)} {st : List Int} (h : netOk nx st = true) : checkE nx st = 0 := by simp [checkE, h]

theorem bad_of_len {nx : List (List Int)} {st : List Int} (h : (nx.length : Int) > 8192) : netOk nx st = false := by
  unfold netOk
  rw [show decide (nx.length ≤ 8192) = false from decide_eq_false (by omega)]; simp
theorem bad_of_sum {nx : List (List Int)} {st : List Int} (h : (st.length : Int) + sumLen nx > 65536) : netOk nx st = false := by
  unfold netOk
  rw [show decide (st.length + sumLen nx ≤ 65536) = false from decide_eq_false (by omega)]; simp
theorem bad_of_any {nx : List (List Int)} {st : List Int} (k : Nat) (hk : k < nx.length) (h : (nx.getD k []).any (wrongB nx.length) = true) : netOk nx st = false := by
  unfold netOk
  have : nx.all (fun l => !l.any (wrongB nx.length)) = false := by
    rw [Bool.eq_false_iff]
    intro hall
    rw [List.all_eq_true] at hall
    have := hall (nx.getD k []) (by rw [List.getD_eq_getElem?_getD, List.getElem?_eq_getElem hk]; exact List.getElem_mem hk)
    rw [h] at this
    exact absurd this (by decide)
  rw [this]; simp
theorem bad_of_start {nx : List (List Int)} {st : List Int} (h : st.any (wrongB nx.length) = true) : netOk nx st = false := by
  unfold netOk; rw [h]; simp
theorem ok_of {nx : List (List Int)} {st : List Int} (h0 : ¬ (nx.length : Int) > 8192) (h1 : (st.length : Int) + sumLen nx ≤ 65536)
    (h2 : ∀ k, k < nx.length → (nx.getD k []).any (wrongB nx.length) = false) (h3 : st.any (wrongB nx.length) = false) : netOk nx st = true := by
  unfold netOk
  rw [h3, show decide (nx.length ≤ 8192) = true from decide_eq_true (by omega), show decide (st.length + sumLen nx ≤ 65536) = true from decide_eq_true (by omega)]
  have : nx.all (fun l => !l.any (wrongB nx.length)) = true := by
    rw [List.all_eq_true]
    intro l hl
    obtain ⟨j, hj, rfl⟩ := List.getElem_of_mem hl
    have := h2 j hj
    rw [List.getD_eq_getElem?_getD, List.getElem?_eq_getElem hj] at this
    simp only [Option.getD_some] at this
    rw [this]; rfl
  rw [this]; rfl

set_option maxHeartbeats 1000000 in
theorem f23_any (A0 : Option Addr) (c0 : Nat) (A1 : Option Addr) (c1 : Nat) (nx : List (List Int)) (st : List Int) (w : World) (hn : NetC w A0 c0 A1 c1 nx st) :
    Calls Try.prog 23 #[.agg #[.slice A0 nx.length c0, .slice A1 st.length c1]] w fun e w' => e = .returned (.int .i64 (checkE nx st)) ∧ Below w.heap.size w w' := by
  have HN := Aside0.mk hn
  have hL0 : nx.length ≤ 9223372036854775807 := hn.next.2.1
  have hL1 : st.length ≤ 9223372036854775807 := hn.start.2.1
  clear hn
  have HB : Aside0 (∀ cs cs' : Array Value, Below w.heap.size w ((w.alloc (.cells cs 25)).alloc (.cells cs' 3))) := ⟨fun _ _ => ((Below.refl _ _).alloc (Nat.le_refl _) _).alloc (by simp) _⟩
  by_cases h0 : (nx.length : Int) > 8192
  · have h0b : decide ((nx.length : Int) > 8192) = true := decide_eq_true h0
    go_enter Try.func23, Try.ntmps23
    go_wp2
    go_ret
    exact ⟨ret_int (checkE_bad (bad_of_len h0)).symm, HB.out _ _⟩
  · have h0b : decide ((nx.length : Int) > 8192) = false := decide_eq_false h0
    have H0 := Aside0.mk h0
    by_cases h1 : (st.length : Int) > 65536
    · have h1b : decide ((st.length : Int) > 65536) = true := decide_eq_true h1
      go_enter Try.func23, Try.ntmps23
      go_wp2
      go_ret
      exact ⟨ret_int (checkE_bad (bad_of_sum (by omega))).symm, HB.out _ _⟩
    · have h1b : decide ((st.length : Int) > 65536) = false := decide_eq_false h1
      go_enter Try.func23, Try.ntmps23
      go_wp2_with fail
      go_loop [27, 4] (fun v27 v4 => ∃ i m : Int, v27 = .int .i64 i ∧ v4 = .int .i64 m ∧ 0 ≤ i ∧ i ≤ nx.length ∧ 0 ≤ m ∧ m ≤ 65536 ∧ Aside0 (m = 65536 - st.length - sumLen (nx.take i.toNat) ∧ ∀ k, k < i.toNat → (nx.getD k []).any (wrongB nx.length) = false)) (fun v _ => nx.length - (intOf v).toNat)
      case atStart => exact ⟨0, _, rfl, rfl, by omega, by omega, by omega, by omega, ⟨by simp [sumLen], fun k hk => absurd hk (by simp)⟩⟩
      case round =>
        obtain ⟨i, m, rfl, rfl, hi0, hi1, hm0, hm1, HI⟩ := hrel
        by_cases hlt : i < nx.length
        · obtain ⟨ad, B, c, e, hc, hcap, hr⟩ := at_slice HN.out.next i hi0 hlt
          cases e
          have HR := Aside0.mk hr
          have HCAP := Aside0.mk hcap
          clear hr hcap
          obtain ⟨l, hl⟩ : ∃ l, l = nx.getD i.toNat [] := ⟨_, rfl⟩
          rw [← hl] at hc HR HCAP
          have HL := Aside0.mk hl
          clear hl
          have hll : l.length ≤ 9223372036854775807 := HR.out.2.1
          have hc2 : ((w.alloc (.cells #[.slice (some ad) nx.length c0, .slice A1 st.length c1] 25)).alloc (.cells #[.int .i64 nx.length] 3)).cell? (ad.add i.toNat) = some (.slice B l.length c) := (HB.out _ _).cell (World.block_lt_of_cell? w _ hc) |>.trans hc
          clear hc
          by_cases hg : (l.length : Int) > m
          · have hgb : decide ((l.length : Int) > m) = true := decide_eq_true hg
            go_wp2
            go_ret
            refine ⟨ret_int (checkE_bad (bad_of_sum ?_)).symm, HB.out _ _⟩
            have := sumLen_get_le nx i.toNat (by omega)
            rw [← HL.out] at this
            have := HI.out.1
            omega
          · have hgb : decide ((l.length : Int) > m) = false := decide_eq_false hg
            go_wp2_with fail
            refine (f48_any 52 #[.pointer (some ⟨w.heap.size + 1, 0, none⟩)] (wrongB nx.length) B c l _ (Kd.C_below HR.out (HB.out _ _)) cf52 (fun x => f52_any x nx.length _ _ (by go_simp))).mono ?_
            rintro e w' ⟨rfl, rfl⟩
            by_cases hb : l.any (wrongB nx.length) = true
            · have HBD := Aside0.mk hb
              rw [hb]
              clear hb
              go_wp2
              go_ret
              refine ⟨ret_int (checkE_bad (bad_of_any i.toNat (by omega) ?_)).symm, HB.out _ _⟩
              rw [← HL.out]; exact HBD.out
            · rw [Bool.not_eq_true] at hb
              have HBD := Aside0.mk hb
              rw [hb]
              clear hb
              go_wp2
              go_round
              case rel =>
                refine ⟨i + 1, _, rfl, rfl, by omega, by omega, by omega, by omega, ⟨?_, fun k hk => ?_⟩⟩
                · rw [show (i + 1).toNat = i.toNat + 1 from by omega, sumLen_take_succ nx i.toNat (by omega), ← HL.out, HI.out.1]; omega
                · by_cases h : k < i.toNat
                  · exact HI.out.2 k h
                  · obtain rfl : k = i.toNat := by omega
                    rw [← HL.out]; exact HBD.out
              case measure => simp [intOf]; omega
        · go_wp2_with fail
          refine (f48_any 52 #[.pointer (some ⟨w.heap.size + 1, 0, none⟩)] (wrongB nx.length) A1 c1 st _ (Kd.C_below HN.out.start (HB.out _ _)) cf52 (fun x => f52_any x nx.length _ _ (by go_simp))).mono ?_
          rintro e w' ⟨rfl, rfl⟩
          by_cases hb : st.any (wrongB nx.length) = true
          · have HBD := Aside0.mk hb
            rw [hb]
            clear hb
            go_wp2
            go_ret
            exact ⟨ret_int (checkE_bad (bad_of_start HBD.out)).symm, HB.out _ _⟩
          · rw [Bool.not_eq_true] at hb
            have HBD := Aside0.mk hb
            rw [hb]
            clear hb
            go_wp2
            go_ret
            refine ⟨ret_int (checkE_ok (ok_of (by have := H0.out; omega) ?_ ?_ HBD.out)).symm, HB.out _ _⟩
            · have := HI.out.1
              rw [List.take_of_length_le (by omega)] at this
              omega
            · intro k hk
              exact HI.out.2 k (by omega)

end Go.Proofs.Ytgbmebnfbhdpiaa
