/- The walks of math/bits.Mul at one, and of slices.Repeat of one number. -/
import Derived.Test.YtgbmebnfbhdpiaaGoneF
import Derived.Laws.CopyOwn
import Derived.Deep.RegionLaw
namespace Go.Proofs.Ytgbmebnfbhdpiaa
open Go.RowKit Go.Proofs.YtgbmebnfbhdpiaaW.PrintWords

theorem wrap_u64 (n : Int) (h0 : 0 ≤ n) (h1 : n < 2 ^ 64) : IntKind.u64.wrap n = n := by
  have : IntKind.u64.wrap n = n % 18446744073709551616 := by simp [IntKind.wrap, IntKind.bits, IntKind.signed]
  rw [this]; omega
theorem and_small (n : Int) (h0 : 0 ≤ n) (h1 : n ≤ 4294967295) : Go.bits .and .u64 n 4294967295 = n := by
  have h := bits_mask .u64 64 (by decide) wrap_u64 32 (by decide) n h0 (by omega)
  have h2 : ((2 : Int) ^ 32 - 1) = 4294967295 := by decide
  have h3 : ((2 : Int) ^ 32) = 4294967296 := by decide
  rw [h2, h3] at h
  rw [h]; omega
theorem ret_ii {k k' : IntKind} {a b c d : Int} (h : a = b) (h' : c = d) : Ending.returned (.tuple #[.int k a, .int k' c]) = Ending.returned (.tuple #[.int k b, .int k' d]) := by rw [h, h']

set_option maxHeartbeats 1000000 in
theorem f81_any (n : Int) (w : World) (h0 : 0 ≤ n) (h1 : n ≤ 8192) :
    Calls Try.prog 81 #[.int .u64 1, .int .u64 n] w fun e w' => e = .returned (.tuple #[.int .u64 0, .int .u64 n]) ∧ w = w' := by
  have a1 := and_small n h0 (by omega)
  have a2 := and_small 1 (by omega) (by omega)
  have a3 : IntKind.u64.wrap n = n := wrap_u64 n h0 (by omega)
  have a4 : n / 4294967296 = 0 := by omega
  go_enter Try.func81, Try.ntmps81
  go_wp2
  go_ret2
  exact ⟨ret_ii (by rw [and_small 0 (by omega) (by omega)]; decide) rfl, rfl⟩

set_option maxHeartbeats 1000000 in
theorem f75_any (n : Int) (w : World) (h0 : 0 ≤ n) (h1 : n ≤ 8192) :
    Calls Try.prog 75 #[.int .u64 1, .int .u64 n] w fun e w' => e = .returned (.tuple #[.int .u64 0, .int .u64 n]) ∧ w = w' := by
  go_enter Try.func75, Try.ntmps75
  go_wp2_with (go_at_call 81; refine (f81_any n _ h0 h1).mono ?_; rintro e w' ⟨rfl, rfl⟩)
  go_ret2
  exact ⟨rfl, rfl⟩

theorem info3s : (Try.prog.info? 3).map (·.size) = some 1 := by kernel_rfl

/-- The row while it is filled: m of n numbers are d, the others 0. -/
def fillL (d : Int) (n m : Nat) : List Int := List.replicate m d ++ List.replicate (n - m) 0
theorem fillL_len (d : Int) (n m : Nat) (h : m ≤ n) : (fillL d n m).length = n := by unfold fillL; simp; omega

theorem fillL_get (d : Int) (n m j : Nat) (hj : j < m) : (fillL d n m)[j]? = some d := by
  unfold fillL
  rw [List.getElem?_append_left (by simpa using hj), List.getElem?_replicate, if_pos hj]
theorem fillL_full (d : Int) (n : Nat) : fillL d n n = List.replicate n d := by simp [fillL]
/-- The row behind a copy of k more numbers. -/
theorem fill_splice {w w' : World} {base g cap n m k : Nat} {d : Int} {ok : Nat → Prop} {cur : List Value} (hm : m + k ≤ n)
    (h : Kd.R (Kd.int .i64) 3 w base ok (.slice (some ⟨g, 0, none⟩) n cap) (fillL d n m)) (hg : w.heap[g]? = some (.cells cur.toArray 3 (0, 0)))
    (hg' : w'.heap[g]? = some (.cells (splice cur m (List.replicate k (Value.int .i64 d))).toArray 3 (0, 0))) :
    Kd.R (Kd.int .i64) 3 w' base ok (.slice (some ⟨g, 0, none⟩) n cap) (fillL d n (m + k)) := by
  have hl : (fillL d n m).length = n := fillL_len d n m (by omega)
  have hl' : (fillL d n (m + k)).length = n := fillL_len d n (m + k) (by omega)
  have ho := Kd.own_of_R (enc := Value.int .i64) h
  refine Kd.R_of_own (enc := Value.int .i64) ?_ h.1
  obtain ⟨h1, h2⟩ := ho
  rw [hl] at h1 h2
  rw [hl']
  refine ⟨by simp [encs, hl'], ?_⟩
  rcases h2 with ⟨h2, _⟩ | ⟨g', cap', cur', he, hb, hh, hn, hc, hs, ht⟩
  · cases h2
  · cases he
    rw [hg] at hh
    cases hh
    refine .inr ⟨g, cap, _, rfl, hb, hg', hn, hc, ?_, ?_⟩
    · have : cur.length = cap := by simpa using hs
      simp only [List.size_toArray]
      rw [length_splice _ _ _ (by simp; omega)]; omega
    · have hcl : cur.length = cap := by simpa using hs
      simp only [Nat.mul_one] at ht ⊢
      apply List.ext_getElem?
      intro j
      have htj : (cur.take n)[j]? = (encs (Value.int .i64) (fillL d n m))[j]? := congrArg (fun l => l[j]?) ht
      simp only [encs, List.getElem?_map] at htj ⊢
      rcases Nat.lt_or_ge j n with hj | hj
      · rw [List.getElem?_take_of_lt hj] at htj ⊢
        unfold splice
        rcases Nat.lt_or_ge j m with hjm | hjm
        · rw [List.getElem?_append_left (by rw [List.length_take]; omega), List.getElem?_take_of_lt hjm, htj, fillL_get d n m j hjm, fillL_get d n (m + k) j (by omega)]
        · rw [List.getElem?_append_right (by rw [List.length_take]; omega), List.length_take, show min m cur.length = m from by omega]
          rcases Nat.lt_or_ge j (m + k) with hjk | hjk
          · rw [List.getElem?_append_left (by simp; omega), List.getElem?_replicate, if_pos (by omega), fillL_get d n (m + k) j hjk]; rfl
          · rw [List.getElem?_append_right (by simp; omega), List.length_replicate, List.getElem?_drop, show m + k + (j - m - k) = j from by omega, htj]
            unfold fillL
            rw [List.getElem?_append_right (by simp; omega), List.getElem?_append_right (by simp; omega), List.getElem?_replicate, List.getElem?_replicate, List.length_replicate, List.length_replicate, if_pos (by omega), if_pos (by omega)]
      · rw [List.getElem?_eq_none (by rw [List.length_take]; omega), List.getElem?_eq_none (by omega)]; rfl

set_option maxRecDepth 100000 in
set_option maxHeartbeats 1000000 in
theorem f65_any (B : Option Addr) (c : Nat) (d n : Int) (w : World) (hx : Kd.C (Kd.int .i64) w B 1 [d]) (hn0 : 0 ≤ n) (hn1 : n ≤ 8192) :
    Calls Try.prog 65 #[.slice B 1 c, .int .i64 n] w fun e w' => ∃ v, e = .returned v ∧ Kd.R (Kd.int .i64) 3 w' w.heap.size (fun _ => True) v (List.replicate n.toNat d) ∧ Below w.heap.size w w' := by
  have HX := Aside0.mk hx
  clear hx
  have HN1 := Aside0.mk hn1
  have hneg : decide (n < 0) = false := decide_eq_false (by omega)
  have hw : IntKind.u64.wrap n = n := wrap_u64 n hn0 (by omega)
  clear hn1
  go_enter Try.func65, Try.ntmps65
  have hgt : decide (n > 9223372036854775807) = false := decide_eq_false (by have := HN1.out; omega)
  have hle : n ≤ 9223372036854775807 := by have := HN1.out; omega
  go_wp2_with (first | (go_at_call 75; refine (f75_any n _ hn0 HN1.out).mono ?_; rintro e w' ⟨rfl, rfl⟩) | ((with_reducible refine gate_dst (N := 30) rfl ?_); go_loud (refine Kd.R_make (Kd.int .i64) (w0 := w) w.heap.size 3 rfl (N := 30) rfl 23 _ _ rfl n rfl rfl Try.underlying23 (.int .i64 0) 8 info3 rfl (by decide) (by omega) 0 (ok := fun _ => True) (okp := fun _ => True) rfl (fun _ hk => hk) trivial hn0 (by have := HN1.out; omega) (Below.refl _ _) (Nat.le_refl _) ?_; intro v30 w1 ho hb hgr hnew; obtain ⟨A30, k30, e30⟩ := Kd.R_slice ho; rw [List.length_replicate] at e30; subst e30; have HO := Aside0.mk ho; have HB := Aside0.mk hb; clear ho hb hgr hnew)) | ((with_reducible refine gate_builtin (b := .copy) (xs := #[.tmp 31, .tmp 32]) rfl ?_); go_loud (refine Kd.R_copy (enc := Value.int .i64) (0 : Int) (w0 := w) w.heap.size rfl (.tmp 31) (.tmp 32) 23 23 3 rfl Try.underlying23 info3s _ _ [d] B 1 c (fun _ => True) rfl rfl HO.out (Kd.C_below HX.out HB.out) HB.out HB.out.size ?_; intro w2 ho hb hgr; have HO2 := Aside0.mk ho; have HB2 := Aside0.mk hb; clear ho hb hgr HO HB)))
  rw [List.length_replicate] at HO2
  have hfill : [d].take (min 1 n.toNat) ++ (List.replicate n.toNat (0 : Int)).drop (min 1 n.toNat) = fillL d n.toNat (min 1 n.toNat) := by
    unfold fillL
    rw [List.drop_replicate]
    rcases Nat.eq_zero_or_pos n.toNat with h | h
    · rw [h]; rfl
    · rw [show min 1 n.toNat = 1 from by omega]; rfl
  rw [hfill] at HO2
  clear hfill
  obtain ⟨N, hN⟩ : ∃ N : Nat, N = n.toNat := ⟨_, rfl⟩
  rw [← hN] at HO2
  rw [← hN]
  have HNN := Aside0.mk hN
  clear hN hw hneg hgt
  go_loopw [8] (fun v8 wr => ∃ m : Nat, v8 = .int .i64 (m : Int) ∧ m ≤ N ∧ (0 < N → 0 < m) ∧ Aside0 (Kd.R (Kd.int .i64) 3 wr w.heap.size (fun _ => True) (.slice A30 N k30) (fillL d N m)) ∧ Aside0 (Below w.heap.size w wr)) (fun v _ => N - (intOf v).toNat)
  case atStart => exact ⟨min 1 N, rfl, by omega, by omega, HO2, HB2⟩
  case round =>
    obtain ⟨m, rfl, hm0, hm1, HO3, HB3⟩ := hrel
    clear HO2 HB2
    have hN9 : (N : Int) ≤ 9223372036854775807 := by rw [HNN.out]; omega
    by_cases hlt : m < N
    · have hfl := fillL_len d N m hm0
      obtain ⟨g, cap, hvs, hbg, hgl, cells, hgc⟩ := Kd.R_form HO3.out (by omega)
      rw [hfl] at hvs
      cases hvs
      clear hfl
      have HGC := Aside0.mk hgc
      clear hgc
      have hm2 : 0 < m := hm1 (by omega)
      have hi0 : (0 : Int) ≤ (m : Int) := by omega
      have hi1 : (m : Int) ≤ (N : Int) := by omega
      have hcap : N ≤ k30 := (Kd.R_reads' HO3.out).2.1
      have hi2 : (m : Int) ≤ (k30 : Int) := by omega
      have hkm : ¬ k30 = m := by omega
      clear hm1
      obtain ⟨cur, rfl⟩ : ∃ cur : List Value, cells = cur.toArray := ⟨cells.toList, by simp⟩
      have hcl : Aside0 (N ≤ cur.length) := by
        have ho := Kd.own_of_R (enc := Value.int .i64) HO3.out
        rw [fillL_len d N m hm0] at ho
        rcases ho.2 with ⟨h2, _⟩ | ⟨g', cap', cur', he, _, hh, hn', _, hs, _⟩
        · cases h2
        · cases he
          rw [HGC.out] at hh
          cases hh
          simp at hs
          exact ⟨by omega⟩
      have hsrc : Aside0 (∀ j v, (List.replicate (min m (N - m)) (Value.int .i64 d))[j]? = some v → (World.cell? wr.drew ((⟨g, 0, none⟩ : Addr).add j) = some v)) := ⟨fun j v hv => by
        rw [List.getElem?_replicate] at hv
        split at hv
        · rename_i hj
          cases hv
          have := (R_celln 0 HO3.out (j : Int) (by omega) (by omega)).1
          rw [add_plain]
          have h2 := fillL_get d N m j (by omega)
          rw [rdOf, List.getD_eq_getElem?_getD, Int.toNat_natCast, h2] at this
          exact this
        · cases hv⟩
      go_wp2_with fail
      have hk1 : Aside0 ((List.replicate (min m (N - m)) (Value.int .i64 d)).length = Nat.min m (N - m)) := ⟨by simp⟩
      have hk2 : Aside0 (m + (List.replicate (min m (N - m)) (Value.int .i64 d)).length ≤ cur.length) := ⟨by have := hcl.out; simp; omega⟩
      have hk3 : Aside0 (∀ v ∈ List.replicate (min m (N - m)) (Value.int .i64 d), v.oneCell' = true) := ⟨fun v hv => by rw [(List.mem_replicate.1 hv).2]; rfl⟩
      have hk4 : Aside0 (wr.drew.heap[g]? = some (.cells cur.toArray 3 (0, 0))) := ⟨HGC.out⟩
      have hk5 : Aside0 (Below w.heap.size w wr.drew) := ⟨below_drew HB3.out⟩
      obtain ⟨cs, hcs⟩ : ∃ cs, cs = List.replicate (min m (N - m)) (Value.int .i64 d) := ⟨_, rfl⟩
      rw [← hcs] at hk1 hk2 hk3 hsrc
      have HCS := Aside0.mk hcs
      clear hcs
      go_region_law ((refine step_copy_splice rfl (.tmp 41) (.tmp 44) 23 23 rfl 3 Try.underlying23 info3s (some ⟨g, m, none⟩) (some ⟨g, 0, none⟩) (N - m) (k30 - m) m k30 (by go_simp) (by go_simp) g m cur 3 hk4.out cs hk1.out (fun _ => ⟨rfl, _, rfl, hsrc.out⟩) hk2.out hk3.out w.heap.size w hk5.out hbg ?_; intro w4 hg4 hb4))
      have hfill : Kd.R (Kd.int .i64) 3 w4 w.heap.size (fun _ => True) (.slice (some ⟨g, 0, none⟩) N k30) (fillL d N (m + cs.length)) := by
        have h := hg4.out
        rw [HCS.out] at h
        have := fill_splice (k := min m (N - m)) (by omega) HO3.out HGC.out h
        rw [HCS.out, List.length_replicate]; exact this
      have HF := Aside0.mk hfill
      have HB4 := Aside0.mk hb4
      have hcl2 : cs.length = min m (N - m) := by rw [HCS.out, List.length_replicate]
      have hcl3 : (cs.length : Int) ≤ N := by omega
      have hcl4 : m + cs.length ≤ N := by omega
      have hcl5 : 0 < cs.length := by omega
      clear hfill hg4 hb4 hcl2 hk4 hk5 hsrc hk3 hk2 hk1
      have hwr : IntKind.i64.wrap ((m : Int) + cs.length) = ((m + cs.length : Nat) : Int) := by rw [IntWalk.i64_in _ (by omega)]; omega
      have HWR := Aside0.mk hwr
      clear hwr
      go_simp
      go_wp2
      go_roundw
      case rel => exact ⟨m + cs.length, by rw [HWR.out], by omega, by omega, HF, HB4⟩
      case measure => simp [intOf]; rw [HWR.out]; omega
    · go_wp2_with fail
      go_ret
      refine ⟨.slice A30 N k30, rfl, ?_, HB3.out⟩
      rw [show m = N from by omega, fillL_full] at HO3
      rw [← HNN.out]; exact HO3.out
end Go.Proofs.Ytgbmebnfbhdpiaa
