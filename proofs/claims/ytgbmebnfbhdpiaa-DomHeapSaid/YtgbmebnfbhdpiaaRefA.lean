/- The walks of the document's within and Check of a net: they answer as the program's own check does. -/
import Derived.Test.YtgbmebnfbhdpiaaCheckF
import Derived.Deep.QuietTactic
import Derived.BigQuiet
set_option linter.unusedSimpArgs false
set_option linter.unusedVariables false
namespace Go.Proofs.Ytgbmebnfbhdpiaa
open Go.RowKit Go.Proofs.YtgbmebnfbhdpiaaW.PrintWords Go.Proofs.YtgbmebnfbhdpiaaW.PrintLast

theorem any_at {p : Int → Bool} {l : List Int} {i : Int} (h0 : 0 ≤ i) (h1 : i < l.length) (h : p (rd l i) = true) : l.any p = true := by
  rw [List.any_eq_true]
  refine ⟨rd l i, ?_, h⟩
  unfold rd; rw [List.getD_eq_getElem?_getD, List.getElem?_eq_getElem (by omega : i.toNat < l.length)]; simp
theorem any_none {p : Int → Bool} {l : List Int} (h : ∀ j : Int, 0 ≤ j → j < l.length → p (rd l j) = false) : l.any p = false := by
  rw [List.any_eq_false]
  intro x hx
  obtain ⟨j, hj, rfl⟩ := List.getElem_of_mem hx
  have := h j (by omega) (by omega)
  unfold rd at this
  rw [List.getD_eq_getElem?_getD, Int.toNat_natCast, List.getElem?_eq_getElem hj] at this
  simpa using this

set_option maxHeartbeats 1000000 in
theorem f55_any (A : Option Addr) (c : Nat) (xs : List Int) (m : Int) (w : World) (hx : Kd.C (Kd.int .i64) w A xs.length xs) :
    Calls Try.prog 55 #[.slice A xs.length c, .int .i64 m] w fun e w' => e = .returned (.bool (!xs.any (wrongB m))) ∧ w' = w := by
  have HX := Aside0.mk hx
  have HL : xs.length ≤ 9223372036854775807 := hx.2.1
  clear hx
  go_enter Try.func55, Try.ntmps55
  go_wp2
  go_loop [5] (fun v5 => ∃ i : Int, v5 = .int .i64 i ∧ 0 ≤ i ∧ i ≤ xs.length ∧ Aside0 (∀ j : Int, 0 ≤ j → j < i → wrongB m (rd xs j) = false)) (fun v => xs.length - (intOf v).toNat)
  case atStart => exact ⟨0, rfl, Int.le_refl _, by omega, ⟨fun j h0 h1 => by omega⟩⟩
  case round =>
    obtain ⟨i, rfl, h0, hk, HP⟩ := hrel
    by_cases hlt : i < xs.length
    case neg =>
      go_wp2
      go_ret
      refine ⟨ret_bool ?_, rfl⟩
      rw [any_none (fun j j0 j1 => HP.out j j0 (by omega))]; rfl
    obtain ⟨ad, e, hc⟩ := Kd.at_int HX.out i h0 hlt
    cases e
    obtain ⟨x, hx⟩ : ∃ x, x = rd xs i := ⟨_, rfl⟩
    rw [← hx] at hc
    have HXX := Aside0.mk hx
    clear hx
    by_cases hneg : x < 0
    · have hnb : decide (x < 0) = true := decide_eq_true hneg
      go_wp2
      go_ret
      refine ⟨ret_bool ?_, rfl⟩
      rw [any_at h0 hlt (by rw [← HXX.out]; simp [wrongB, hnb])]; rfl
    have hnb : decide (x < 0) = false := decide_eq_false hneg
    by_cases hge : x ≥ m
    · have hgb : decide (x ≥ m) = true := decide_eq_true hge
      go_wp2
      go_ret
      refine ⟨ret_bool ?_, rfl⟩
      rw [any_at h0 hlt (by rw [← HXX.out]; simp [wrongB, hgb])]; rfl
    have hgb : decide (x ≥ m) = false := decide_eq_false hge
    have HW : Aside0 (wrongB m (rd xs i) = false) := ⟨by rw [← HXX.out]; simp [wrongB, hnb, hgb]⟩
    go_wp2
    go_round
    case rel => exact ⟨i + 1, rfl, by omega, by omega, ⟨fun j j0 j1 => by
      by_cases h : j < i
      · exact HP.out j j0 h
      · obtain rfl : j = i := by omega
        exact HW.out⟩⟩
    case measure => simp [intOf]; omega

set_option maxRecDepth 100000 in
set_option maxHeartbeats 4000000 in
theorem f29_any (A0 : Option Addr) (c0 : Nat) (A1 : Option Addr) (c1 : Nat) (nx : List (List Int)) (st : List Int) (w : World) (hn : NetC w A0 c0 A1 c1 nx st) :
    Calls Try.prog 29 #[.agg #[.slice A0 nx.length c0, .slice A1 st.length c1]] w fun e w' => e = .returned (.int .i64 (checkE nx st)) ∧ Below w.heap.size w w' := by
  have HN := Aside0.mk hn
  have hL0 : nx.length ≤ 9223372036854775807 := hn.next.2.1
  have hL1 : st.length ≤ 9223372036854775807 := hn.start.2.1
  clear hn
  have HB : Aside0 (∀ cs : Array Value, Below w.heap.size w (w.alloc (.cells cs 25))) := ⟨fun _ => (Below.refl _ _).alloc (Nat.le_refl _) _⟩
  by_cases h0 : (nx.length : Int) > 8192
  · have h0b : decide ((nx.length : Int) > 8192) = true := decide_eq_true h0
    go_enter Try.func29, Try.ntmps29
    go_wp2
    go_ret
    exact ⟨ret_int (checkE_bad (bad_of_len h0)).symm, HB.out _⟩
  have h0b : decide ((nx.length : Int) > 8192) = false := decide_eq_false h0
  by_cases h1 : (st.length : Int) > 65536
  · have h1b : decide ((st.length : Int) > 65536) = true := decide_eq_true h1
    go_enter Try.func29, Try.ntmps29
    go_wp2
    go_ret
    exact ⟨ret_int (checkE_bad (bad_of_sum (by omega))).symm, HB.out _⟩
  have h1b : decide ((st.length : Int) > 65536) = false := decide_eq_false h1
  have H0 := Aside0.mk h0
  go_enter Try.func29, Try.ntmps29
  go_wp2_with fail
  refine (f55_any A1 c1 st nx.length _ (Kd.C_below HN.out.start (HB.out _))).mono ?_
  rintro e w1 ⟨rfl, rfl⟩
  by_cases hs : st.any (wrongB nx.length) = true
  · have HS := Aside0.mk hs
    rw [hs]
    clear hs
    go_wp2_with fail
    go_ret
    exact ⟨ret_int (checkE_bad (bad_of_start HS.out)).symm, HB.out _⟩
  rw [Bool.not_eq_true] at hs
  have HS := Aside0.mk hs
  rw [hs]
  clear hs
  go_wp2_with fail
  have hbb := HB.out #[.slice A0 nx.length c0, .slice A1 st.length c1]
  have HBK : Aside0 ((w.alloc (.cells #[.slice A0 nx.length c0, .slice A1 st.length c1] 25)).heap[w.heap.size]? = some (.cells #[.slice A0 nx.length c0, .slice A1 st.length c1] 25 (0, 0))) := ⟨blk_new _ _⟩
  generalize (w.alloc (.cells #[.slice A0 nx.length c0, .slice A1 st.length c1] 25)) = wo at hbb HBK ⊢
  have HBO := Aside0.mk hbb
  clear hbb HB
  go_loopw [4, 3] (fun v4 v3 wr => ∃ i m : Int, v4 = .int .i64 i ∧ v3 = .int .i64 m ∧ 0 ≤ i ∧ i ≤ nx.length ∧ 0 ≤ m ∧ m ≤ 65536 ∧ Aside0 (m = st.length + sumLen (nx.take i.toNat) ∧ ∀ k, k < i.toNat → (nx.getD k []).any (wrongB nx.length) = false) ∧ Aside0 (Below wo.heap.size wo wr)) (fun v _ _ => nx.length - (intOf v).toNat)
  case atStart => exact ⟨0, _, rfl, rfl, by omega, by omega, by omega, by omega, ⟨by simp [sumLen], fun k hk => absurd hk (by simp)⟩, ⟨Below.refl _ _⟩⟩
  case round =>
    obtain ⟨i, m, rfl, rfl, hi0, hi1, hm0, hm1, HI, HB⟩ := hrel
    obtain ⟨hn0, hn1⟩ := box2 (blk_below HBK.out HB.out)
    by_cases hlt : i < nx.length
    case neg =>
      go_wp2_with fail
      go_ret
      refine ⟨ret_int (checkE_ok (ok_of (by have := H0.out; omega) ?_ (fun k hk => HI.out.2 k (by omega)) HS.out)).symm, below_trans HBO.out HB.out⟩
      have := HI.out.1
      rw [List.take_of_length_le (by omega)] at this
      omega
    obtain ⟨ad, B, c, e, hc, hcap, hr⟩ := at_slice HN.out.next i hi0 hlt
    cases e
    have HR := Aside0.mk hr
    clear hr hcap
    obtain ⟨l, hl⟩ : ∃ l, l = nx.getD i.toNat [] := ⟨_, rfl⟩
    rw [← hl] at hc HR
    have HL := Aside0.mk hl
    clear hl
    have hll : l.length ≤ 9223372036854775807 := HR.out.2.1
    have hc2 : wr.cell? (ad.add i.toNat) = some (.slice B l.length c) := (below_trans HBO.out HB.out).cell (World.block_lt_of_cell? w _ hc) |>.trans hc
    clear hc
    have hsl := sumLen_get_le nx i.toNat (by omega)
    rw [← HL.out] at hsl
    have hst := sumLen_take_succ nx i.toNat (by omega)
    rw [← HL.out] at hst
    have HSL := Aside0.mk hsl
    have HST := Aside0.mk hst
    clear hsl hst
    by_cases hg : (l.length : Int) > 65536 - m
    · have hgb : decide ((l.length : Int) > 65536 - m) = true := decide_eq_true hg
      go_wp2_with fail
      go_quiet (fail)
      go_wp2_with fail
      go_ret
      refine ⟨ret_int (checkE_bad (bad_of_sum ?_)).symm, below_trans HBO.out (pw_below_drewN HB.out nq)⟩
      have := HSL.out
      have := HI.out.1
      omega
    have hgb : decide ((l.length : Int) > 65536 - m) = false := decide_eq_false hg
    have HBA := Aside0.mk (below_trans HBO.out HB.out)
    go_wp2_with fail
    go_quiet (first | (go_at_call 55; refine Calls.quiet_of_same (f55_any B c l nx.length _ (Kd.C_below HR.out (pw_below_drewN HBA.out _)))))
    have HB2 := Aside0.mk (pw_below_drewN HB.out nq)
    by_cases hb : l.any (wrongB nx.length) = true
    · have HBD := Aside0.mk hb
      rw [hb]
      clear hb
      go_wp2_with fail
      go_ret
      refine ⟨ret_int (checkE_bad (bad_of_any i.toNat (by omega) ?_)).symm, below_trans HBO.out HB2.out⟩
      rw [← HL.out]; exact HBD.out
    · rw [Bool.not_eq_true] at hb
      have HBD := Aside0.mk hb
      rw [hb]
      clear hb
      go_wp2_with fail
      go_roundw
      case rel =>
        refine ⟨i + 1, _, rfl, rfl, by omega, by omega, by omega, by omega, ⟨?_, fun k hk => ?_⟩, HB2⟩
        · rw [show (i + 1).toNat = i.toNat + 1 from by omega, HST.out, HI.out.1]; omega
        · by_cases h : k < i.toNat
          · exact HI.out.2 k h
          · obtain rfl : k = i.toNat := by omega
            rw [← HL.out]; exact HBD.out
      case measure => simp [intOf]; omega
end Go.Proofs.Ytgbmebnfbhdpiaa
