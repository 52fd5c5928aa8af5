/- The walk of the law DomGone: it is true of every net and every node. -/
import Derived.Test.YtgbmebnfbhdpiaaLessM
import Derived.Test.YtgbmebnfbhdpiaaRefC
import Derived.Test.YtgbmebnfbhdpiaaBegunF
set_option linter.unusedSimpArgs false
set_option linter.unusedVariables false
namespace Go.Proofs.Ytgbmebnfbhdpiaa
open Go.RowKit Go.Proofs.YtgbmebnfbhdpiaaW.PrintWords Go.Proofs.YtgbmebnfbhdpiaaW.PrintLast

theorem wrap64_byte {m : Int} (h0 : 0 ≤ m) (h1 : m ≤ 255) : wrap64 m = m := by
  unfold wrap64
  omega
/-- What is known of the world while the answers are compared. -/
structure GoSt (w cur : World) (cs : Array Value) (pb : Nat) (a : Int) (AX AY AG : Option Addr) (n : Nat) (X Y G : List Bool) : Prop where
  below : Below w.heap.size w cur
  box : cur.heap[w.heap.size]? = some (.cells cs 25 (0, 0))
  abx : cur.heap[pb]? = some (.cells #[.int .i64 a] 3 (0, 0))
  cx : Kd.C Kd.bool cur AX n X
  cy : Kd.C Kd.bool cur AY n Y
  cg : Kd.C Kd.bool cur AG n G
theorem GoSt.step {w cur w2 : World} {cs : Array Value} {pb n : Nat} {a : Int} {AX AY AG : Option Addr} {X Y G : List Bool} (h : GoSt w cur cs pb a AX AY AG n X Y G) (hb : Below cur.heap.size cur w2) : GoSt w w2 cs pb a AX AY AG n X Y G :=
  ⟨below_trans h.below hb, blk_below h.box hb, blk_below h.abx hb, Kd.C_below h.cx hb, Kd.C_below h.cy hb, Kd.C_below h.cg hb⟩
def tT_8_10 : Bool × List (List Nat × List Nat) := (true, [([], []), ([0], [0]), ([], []), ([], []), ([3], [3]), ([], []), ([4, 5], [4, 5]), ([6], [6]), ([], []), ([7, 8], [7, 8]), ([1, 2, 0, 1, 2, 3, 4, 5, 6, 7, 8, 9], [1, 2]), ([10, 9, 9, 0, 1, 2, 3, 4, 5, 6, 7, 8, 9], [9, 10])])
def tB_8_10 : List Nat := [0, 1, 0, 0, 8, 0, 56, 120, 0, 504, 1023, 2047]
theorem tab_8_10 : rtab .any (opsOf Try.f8 10) = tT_8_10 := by kernel_rfl
theorem bits_8_10 : waitsOk tT_8_10.2 tB_8_10 = true := by kernel_rfl
set_option maxRecDepth 100000 in
set_option maxHeartbeats 4000000 in
theorem f8_any (A0 : Option Addr) (c0 : Nat) (A1 : Option Addr) (c1 : Nat) (nx : List (List Int)) (st : List Int) (m : Int) (w : World) (hn : NetC w A0 c0 A1 c1 nx st) (hm0 : 0 ≤ m) (hm1 : m ≤ 255) :
    Calls Try.prog 8 #[.agg #[.slice A0 nx.length c0, .slice A1 st.length c1], .int .u8 m] w fun e w' => e = .returned (.bool true) ∧ Below w.heap.size w w' := by
  have HN := Aside0.mk hn
  clear hn
  go_enter Try.func8, Try.ntmps8
  go_wp2_with fail
  refine (f11_any _).mono ?_
  rintro e w1 ⟨rfl, hb⟩
  obtain ⟨hbk, hz, hb1⟩ := boxed hb
  obtain ⟨hn0, hn1⟩ := box2 hbk
  have HB1 := Aside0.mk hb1
  have HBK := Aside0.mk hbk
  clear hb hb1 hbk
  go_wp2_with fail
  refine (f12_few A0 c0 A1 c1 nx st _ (HN.out.below HB1.out)).mono ?_
  rintro e w2 ⟨fb, rfl, hfew, hb⟩
  have HB2 := Aside0.mk (below_trans HB1.out hb)
  have HBK2 := Aside0.mk (blk_below HBK.out hb)
  clear hb hn0 hn1
  obtain ⟨hn0, hn1⟩ := box2 HBK2.out
  cases fb
  · go_wp2_with fail
    refine (f11_any _).mono ?_
    rintro e w3 ⟨rfl, hb⟩
    have HB3 := Aside0.mk (below_trans HB2.out hb)
    clear hb
    go_wp2_with fail
    go_ret
    exact ⟨rfl, HB3.out⟩
  have HF := Aside0.mk (hfew rfl)
  clear hfew
  have hL0 : nx.length ≤ 40 := HF.out.len
  by_cases h0 : (nx.length : Int) = 0
  · have h0b : ((nx.length : Int) == 0) = true := by simpa using h0
    clear h0
    go_wp2_with fail
    refine (f11_any _).mono ?_
    rintro e w3 ⟨rfl, hb⟩
    have HB3 := Aside0.mk (below_trans HB2.out hb)
    clear hb
    go_wp2_with fail
    go_ret
    exact ⟨rfl, HB3.out⟩
  have h0b : ((nx.length : Int) == 0) = false := by simpa using h0
  go_wp2_with fail
  refine (f23_any A0 c0 A1 c1 nx st _ (HN.out.below HB2.out)).mono ?_
  rintro e w3 ⟨rfl, hb⟩
  have HB3 := Aside0.mk (below_trans HB2.out hb)
  have HBK3 := Aside0.mk (blk_below HBK2.out hb)
  clear hb hn0 hn1
  obtain ⟨hn0, hn1⟩ := box2 HBK3.out
  by_cases hok : netOk nx st = true
  case neg =>
    rw [Bool.not_eq_true] at hok
    rw [checkE_bad hok]
    clear hok
    go_wp2_with fail
    refine (f11_any _).mono ?_
    rintro e w4 ⟨rfl, hb⟩
    have HB4 := Aside0.mk (below_trans HB3.out hb)
    clear hb
    go_wp2_with fail
    go_ret
    exact ⟨rfl, HB4.out⟩
  rw [checkE_ok hok]
  have HOK := Aside0.mk hok
  have HG := Aside0.mk (good_of_ok hok)
  clear hok h0b
  have hwr : wrap64 m = m := wrap64_byte hm0 hm1
  have hz3 := blk_lt HBK3.out
  go_wp2_with fail
  obtain ⟨a, hae⟩ : ∃ a : Int, a = m % (nx.length : Int) := ⟨_, rfl⟩
  have ha0 : 0 ≤ a := by rw [hae]; exact Int.emod_nonneg _ h0
  have ha1 : a < nx.length := by rw [hae]; exact Int.emod_lt_of_pos _ (by omega)
  rw [← hae]
  clear hae hwr
  have HBC : Aside0 (Below w.heap.size w (w3.alloc (.cells #[.int .i64 a] 3))) := ⟨HB3.out.alloc HB3.out.size _⟩
  have HBKC := Aside0.mk (blk_alloc HBK3.out (.cells #[.int .i64 a] 3))
  have HPB := Aside0.mk (blk_new w3 (.cells #[.int .i64 a] 3))
  obtain ⟨pb, hpbe⟩ : ∃ pb, pb = w3.heap.size := ⟨_, rfl⟩
  have hpbl : pb < (w3.alloc (.cells #[.int .i64 a] 3)).heap.size := by rw [hpbe]; simp
  rw [← hpbe] at HPB ⊢
  generalize (w3.alloc (.cells #[.int .i64 a] 3)) = wc at HBC HBKC HPB hpbl ⊢
  clear hpbe hz3 HB3 HBK3 HB2 HBK2 HB1 HBK hn0 hn1
  refine (f25_any A0 c0 A1 c1 nx st _ (HN.out.below HBC.out) HF.out).mono ?_
  rintro e w5 ⟨ob, vn, vs, rfl, hcl⟩
  obtain ⟨HH, OO, hcs⟩ := hcl.st
  obtain ⟨g, cap, hvn, hbg, hgl, cells, hgc⟩ := Kd.R_form hcs.heads (by rw [hcs.len]; omega)
  rw [hcs.len] at hvn
  subst hvn
  obtain ⟨A3, c3, e3⟩ := Kd.R_slice hcs.start
  subst e3
  have hre := hcs.rebox
  have HRE := Aside0.mk hre
  clear hcl hcs hbg hgl cells hgc hre
  go_wp2_with fail
  obtain ⟨lb, hlb⟩ : ∃ lb, lb = w5.heap.size := ⟨_, rfl⟩
  rw [← hlb] at HRE ⊢
  generalize (w5.alloc (.cells #[.slice (some ⟨g, 0, none⟩) nx.length cap, .slice A3 st.length c3] 25)) = w6 at HRE ⊢
  clear hlb
  obtain ⟨hl0, hl1⟩ := box2 HRE.out.obk
  have hgl : lb ≠ g := by
    obtain ⟨g', cap', hvs', _, _, cells, hgc⟩ := Kd.R_form HRE.out.heads (by rw [HRE.out.len]; omega)
    have := (Value.slice.inj hvs').1
    have hgg : g = g' := by injection this with e; injection e
    subst hgg
    exact blk_ne HRE.out.obk hgc (by decide)
  go_wp2_with fail
  have hp6 := (blk_cell (blk_below HPB.out HRE.out.below) 0).trans (show _ = some (Value.int .i64 a) from rfl)
  refine (f34_any A3 st.length c3 st pb a wc.heap.size (fun z => OO z = 1) _ HRE.out.start rfl hp6 hpbl (by have := HF.out.starts; omega)).mono ?_
  rintro e w7 ⟨rfl, hr, hg⟩
  obtain ⟨hob, hcs⟩ := HRE.out.delStart hr hg
  have HC7 := Aside0.mk hcs
  obtain ⟨ho0, ho1⟩ := box2 hob
  have hof := blk_frozen hob 1
  obtain ⟨hl0, hl1⟩ := box2 hcs.obk
  clear hr hg hob hcs HRE hp6
  go_wp2_with fail
  generalize (w7.setCell ⟨lb, 1, none⟩ (.slice A3 (del a st).length c3)) = w8 at HC7 hl0 hl1 ⊢
  have HC8 : Aside0 (CloSt wc w8 lb (.slice (some ⟨g, 0, none⟩) nx.length cap) (.slice A3 (del a st).length c3) HH (rowsAt a nx (0 : Int).toNat) (del a st) OO) := ⟨by rw [show (0 : Int).toNat = 0 from rfl, rowsAt_zero]; exact HC7.out⟩
  clear HC7 hl0 hl1 ho0 ho1 hof
  go_loopw [52] (fun v52 wr => ∃ (i : Int) (H : List Hdr), v52 = .int .i64 i ∧ 0 ≤ i ∧ i ≤ nx.length ∧ Aside0 (CloSt wc wr lb (.slice (some ⟨g, 0, none⟩) nx.length cap) (.slice A3 (del a st).length c3) H (rowsAt a nx i.toNat) (del a st) OO)) (fun v _ => nx.length - (intOf v).toNat)
  case atStart => exact ⟨0, HH, rfl, by omega, by omega, HC8⟩
  case round =>
    clear HC8
    obtain ⟨i, H, rfl, hi0, hi1, HC⟩ := hrel
    obtain ⟨hl0, hl1⟩ := box2 HC.out.obk
    by_cases hil : i < nx.length
    case pos =>
      have hHl : H.length = nx.length := by rw [HC.out.len, rowsAt_len a nx i.toNat (by omega)]
      obtain ⟨hd, hhd⟩ : ∃ hd, H[i.toNat]? = some hd := ⟨_, List.getElem?_eq_getElem (by omega)⟩
      obtain ⟨A', n', c'⟩ := hd
      have hrow := HC.out.rows i.toNat _ hhd
      rw [rowsAt_at a nx i.toNat (by omega)] at hrow
      obtain ⟨l, hl⟩ : ∃ l, l = nx.getD i.toNat [] := ⟨_, rfl⟩
      rw [← hl] at hrow
      have hl4 : l.length ≤ 400 := by rw [hl]; exact HF.out.next _
      have HLE := Aside0.mk hl
      have HROW := Aside0.mk hrow
      have HHD := Aside0.mk hhd
      have hc := (Kd.R_celln (A', n', c') HC.out.heads i hi0 (by omega)).1
      have hrd : rdOf (A', n', c') H i = (A', n', c') := by unfold rdOf; rw [List.getD_eq_getElem?_getD, hhd]; rfl
      rw [hrd] at hc
      have hgc0 : wr.cell? ⟨g, i.toNat, none⟩ = some (.slice A' n' c') := hc
      clear hc hrd hhd hrow hl hHl
      have hn' : n' ≤ 400 := by have := HROW.out.1; simp at this; omega
      go_wp2_with fail
      have HC' := Aside0.mk HC.out.drew
      clear HC
      have HC := HC'
      clear HC'
      refine start_ (n := 12) (S := fun w' => w'.cell? ⟨lb, 0, none⟩ = some (.slice (some ⟨g, 0, none⟩) nx.length cap) ∧ w'.cell? ⟨g, i.toNat, none⟩ = some (.slice A' n' c')) (ds := [11]) #[false, false, false, false, false, false, false, false, false, false, false, false] (by kernel_rfl) rfl rfl ⟨hl0, hgc0⟩ (fun hHeld => ?_)
      refine with_tabW tab_8_10 bits_8_10 (fun HT_ HW_ => ?_)
      generalize wr.drew = wd at HC hHeld ⊢
      refine pure_ (i := 0) (N := some 55) (v := ?_) (a' := ?_) #[true, false, false, false, false, false, false, false, false, false, false, false] rfl rfl (any_of HT_.out (by kernel_rfl)) (fun _ _ _ h => h) (Or.inl ⟨by rfl, ?_⟩) ?_ ?_
      rotate_left
      · intro w'
        go_simp
        with_reducible rfl
      rotate_left
      · simp only [Act.put, List.setIfInBounds_toArray, List.set_cons_zero, List.set_cons_succ, i64_w, i32_w]
        rfl
      refine pure_ (i := 2) (N := some 57) (v := ?_) (a' := ?_) #[true, false, true, false, false, false, false, false, false, false, false, false] rfl rfl (any_of HT_.out (by kernel_rfl)) (fun _ _ _ h => h) (Or.inl ⟨by rfl, ?_⟩) ?_ ?_
      rotate_left
      · intro w'
        go_simp
        with_reducible rfl
      rotate_left
      · simp only [Act.put, List.setIfInBounds_toArray, List.set_cons_zero, List.set_cons_succ, i64_w, i32_w]
        rfl
      refine pure_ (i := 3) (N := some 58) (v := ?_) (a' := ?_) #[true, false, true, true, false, false, false, false, false, false, false, false] rfl rfl (any_of HT_.out (by kernel_rfl)) (fun _ _ _ h => h) (Or.inl ⟨by rfl, ?_⟩) ?_ ?_
      rotate_left
      · intro w'
        go_simp
        with_reducible rfl
      rotate_left
      · simp only [Act.put, List.setIfInBounds_toArray, List.set_cons_zero, List.set_cons_succ, i64_w, i32_w]
        rfl
      refine pure_ (i := 5) (N := some 60) (v := ?_) (a' := ?_) #[true, false, true, true, false, true, false, false, false, false, false, false] rfl rfl (any_of HT_.out (by kernel_rfl)) (fun _ _ _ h => h) (Or.inl ⟨by rfl, ?_⟩) ?_ ?_
      rotate_left
      · intro w'
        go_simp
        with_reducible rfl
      rotate_left
      · simp only [Act.put, List.setIfInBounds_toArray, List.set_cons_zero, List.set_cons_succ, i64_w, i32_w]
        rfl
      refine pure_ (i := 8) (N := some 63) (v := ?_) (a' := ?_) #[true, false, true, true, false, true, false, false, true, false, false, false] rfl rfl (any_of HT_.out (by kernel_rfl)) (fun _ _ _ h => h) (Or.inl ⟨by rfl, ?_⟩) ?_ ?_
      rotate_left
      · intro w'
        go_simp
        with_reducible rfl
      rotate_left
      · simp only [Act.put, List.setIfInBounds_toArray, List.set_cons_zero, List.set_cons_succ, i64_w, i32_w]
        rfl
      refine take_ (i := 1) (N := some 56) (v := ?_) (a' := ?_) #[true, true, true, true, false, true, false, false, true, false, false, false] rfl rfl (take_ofW HT_.out HW_.out (by kernel_rfl)) (fun _ _ _ h => h) (Or.inl ⟨by rfl, ?_⟩) hHeld ?_ ?_
      rotate_left
      · rintro w' ⟨s0, s1⟩
        go_simp
        with_reducible rfl
      rotate_left
      · simp only [Act.put, List.setIfInBounds_toArray, List.set_cons_zero, List.set_cons_succ, i64_w, i32_w]
        rfl
      refine take_ (i := 4) (N := some 59) (v := ?_) (a' := ?_) #[true, true, true, true, true, true, false, false, true, false, false, false] rfl rfl (take_ofW HT_.out HW_.out (by kernel_rfl)) (fun _ _ _ h => h) (Or.inl ⟨by rfl, ?_⟩) hHeld ?_ ?_
      rotate_left
      · rintro w' ⟨s0, s1⟩
        go_simp
        with_reducible rfl
      rotate_left
      · simp only [Act.put, List.setIfInBounds_toArray, List.set_cons_zero, List.set_cons_succ, i64_w, i32_w]
        rfl
      refine pure_ (i := 6) (N := some 61) (v := ?_) (a' := ?_) #[true, true, true, true, true, true, true, false, true, false, false, false] rfl rfl (any_of HT_.out (by kernel_rfl)) (fun _ _ _ h => h) (Or.inl ⟨by rfl, ?_⟩) ?_ ?_
      rotate_left
      · intro w'
        go_simp
        with_reducible rfl
      rotate_left
      · simp only [Act.put, List.setIfInBounds_toArray, List.set_cons_zero, List.set_cons_succ, i64_w, i32_w]
        rfl
      refine take_ (i := 7) (N := some 62) (v := ?_) (a' := ?_) #[true, true, true, true, true, true, true, true, true, false, false, false] rfl rfl (take_ofW HT_.out HW_.out (by kernel_rfl)) (fun _ _ _ h => h) (Or.inl ⟨by rfl, ?_⟩) hHeld ?_ ?_
      rotate_left
      · rintro w' ⟨s0, s1⟩
        go_simp
        with_reducible rfl
      rotate_left
      · simp only [Act.put, List.setIfInBounds_toArray, List.set_cons_zero, List.set_cons_succ, i64_w, i32_w]
        rfl
      refine one_ (i := 9) (N := some 64) #[true, true, true, true, true, true, true, true, true, true, false, false] rfl rfl (one_of HT_.out (by kernel_rfl)) (by decide) (fun K hK => ?_)
      refine goes_ Try.func34 (by kernel_rfl) rfl #[.slice A' n' c', .func (.func 33) #[] #[.pointer (some ⟨pb, 0, none⟩)]] (by rfl) rfl rfl (by simp only [List.map_toArray, List.map_cons, List.map_nil]; rfl) ?_
      refine (f34_any A' n' c' l pb a wc.heap.size (fun z => OO z = i.toNat + 2) _ (HC.out.rows i.toNat _ HHD.out |>.2 |> (fun h => by rw [rowsAt_at a nx i.toNat (by omega), ← HLE.out] at h; exact h)) HROW.out.1.symm ((blk_cell (blk_below HPB.out HC.out.below) 0).trans rfl) hpbl (by omega)).mono ?_
      rintro e w9 ⟨rfl, hr, hg⟩
      have H1 := Aside0.mk (HC.out.delRow HHD.out (k := (del a l).length) rfl hr hg)
      have hoc1 : w9.cell? ⟨g, i.toNat, none⟩ = some (.slice A' n' c') := H1.out.2.1.1
      have hof1 := H1.out.2.1.2
      clear hr hg
      refine ⟨_, rfl, ?_⟩
      refine hK.out _ _ ?_ ?_
      · exact ⟨(box2 H1.out.1).1, hoc1⟩
      clear hK K
      intro hHeld
      refine pure_ (i := 10) (N := some 65) (v := ?_) (a' := ?_) #[true, true, true, true, true, true, true, true, true, true, true, false] rfl rfl (any_of HT_.out (by kernel_rfl)) (fun _ _ _ h => h) (Or.inl ⟨by rfl, ?_⟩) ?_ ?_
      rotate_left
      · intro w'
        go_simp
        with_reducible rfl
      rotate_left
      · simp only [Act.put, List.setIfInBounds_toArray, List.set_cons_zero, List.set_cons_succ, i64_w, i32_w]
        rfl
      refine last_ (i := 11) (N := none) #[true, true, true, true, true, true, true, true, true, true, true, true] rfl rfl (one_of HT_.out (by kernel_rfl)) (by decide) (fun K hK => ?_)
      refine skip_ (w1 := ?_) (by rfl) rfl ?_ ?_
      rotate_left
      · go_simp
        rfl
      refine hK.out _ _ ?_
      clear hK K
      refine done_ (done_of HT_.out (by kernel_rfl)) ?_
      go_wp2_with fail
      go_roundw
      case rel => exact ⟨i + 1, _, rfl, by omega, by omega, ⟨by
        have := H1.out.2.2
        rw [HLE.out, rowsAt_succ a nx i.toNat (by omega)] at this
        rw [show (i + 1).toNat = i.toNat + 1 from by omega]
        rw [HLE.out]
        exact this⟩⟩
      case measure => simp [intOf]; omega
    have HC2 := HC.out
    rw [show i.toNat = nx.length from by omega, rowsAt_end] at HC2
    obtain ⟨A4, c4, A5, c5, e4, e5, hnet⟩ := HC2.net (by rw [lessN_len]; omega) (fun k => by rw [lessN_get]; have := del_len a (nx.getD k []); have := HF.out.next k; omega)
    have e41 := (Value.slice.inj e4).1
    have e43 := (Value.slice.inj e4).2.2
    have e51 := (Value.slice.inj e5).1
    have e53 := (Value.slice.inj e5).2.2
    subst e41 e43 e51 e53
    have HNL := Aside0.mk hnet
    have HLB := Aside0.mk HC2.obk
    have HBW := Aside0.mk HC2.below
    have HBX := Aside0.mk (blk_below HBKC.out HC2.below)
    have HPX := Aside0.mk (blk_below HPB.out HC2.below)
    have HBR := Aside0.mk (below_trans HBC.out HC2.below)
    clear HC HC2 hnet e4 e5 hl0 hl1
    obtain ⟨hn0, hn1⟩ := box2 HBX.out
    go_wp2_with fail
    refine (f22_any A0 c0 A1 c1 nx st _ (HN.out.below HBR.out)).mono ?_
    rintro e w10 ⟨vx, rfl, hr, hb⟩
    rw [reachA_ok HOK.out] at hr
    rw [checkE_ok HOK.out]
    obtain ⟨AX, kX, eX⟩ := Kd.R_slice hr
    rw [reachB_len] at eX
    subst eX
    have hcx := (Kd.R_reads' hr).2.2
    rw [reachB_len] at hcx
    have HCX := Aside0.mk hcx
    have HNL2 := Aside0.mk (HNL.out.below hb)
    have HLB2 := Aside0.mk (blk_below HLB.out hb)
    have HBX2 := Aside0.mk (blk_below HBX.out hb)
    have HPX2 := Aside0.mk (blk_below HPX.out hb)
    have HBR2 := Aside0.mk (below_trans HBR.out hb)
    clear hr hcx hb HNL HLB HBX HPX HBR HBW hn0 hn1
    obtain ⟨hl0, hl1⟩ := box2 HLB2.out
    go_wp2_with fail
    refine (show Calls Try.prog 22 #[.agg #[.slice (some ⟨g, 0, none⟩) nx.length cap, .slice A3 (del a st).length c3]] w10 fun e w' => ∃ v, e = .returned (.tuple #[v, .int .i64 0]) ∧ Kd.R Kd.bool 4 w' w10.heap.size (fun _ => True) v (reachB nx st a) ∧ Below w10.heap.size w10 w' from by
      have := f22_any (some ⟨g, 0, none⟩) cap A3 c3 (lessN a nx) (del a st) w10 HNL2.out
      rw [lessN_len, checkE_ok (netOk_less HOK.out a), reachA_ok (netOk_less HOK.out a), reachB_less HG.out] at this
      exact this).mono ?_
    rintro e w11 ⟨vy, rfl, hr, hb⟩
    obtain ⟨AY, kY, eY⟩ := Kd.R_slice hr
    rw [reachB_len] at eY
    subst eY
    have hcy := (Kd.R_reads' hr).2.2
    rw [reachB_len] at hcy
    have HCY := Aside0.mk hcy
    have HCX2 := Aside0.mk (Kd.C_below HCX.out hb)
    have HBX3 := Aside0.mk (blk_below HBX2.out hb)
    have HPX3 := Aside0.mk (blk_below HPX2.out hb)
    have HBR3 := Aside0.mk (below_trans HBR2.out hb)
    clear hr hcy hb HNL2 HLB2 HBX2 HPX2 HBR2 HCX hl0 hl1
    obtain ⟨hn0, hn1⟩ := box2 HBX3.out
    have hpc := (blk_cell HPX3.out 0).trans (show _ = some (Value.int .i64 a) from rfl)
    go_wp2_with fail
    refine (f27_any A0 c0 A1 c1 nx st a _ (HN.out.below HBR3.out)).mono ?_
    rintro e w12 ⟨vg, rfl, hr, hb⟩
    have hia : inNet nx a = true := by simp [inNet]; omega
    have HIA := Aside0.mk hia
    rw [(gone_ok HOK.out hia).2] at hr
    rw [(gone_ok HOK.out hia).1]
    obtain ⟨AG, kG, eG⟩ := Kd.R_slice hr
    rw [goneB_len] at eG
    subst eG
    have hcg := (Kd.R_reads' hr).2.2
    rw [goneB_len] at hcg
    have HS : Aside0 (GoSt w w12 #[.slice A0 nx.length c0, .slice A1 st.length c1] pb a AX AY AG nx.length (reachB nx st (-1)) (reachB nx st a) (goneB nx st a)) := ⟨⟨below_trans HBR3.out hb, blk_below HBX3.out hb, blk_below HPX3.out hb, Kd.C_below HCX2.out hb, Kd.C_below HCY.out hb, hcg⟩⟩
    clear hr hcg hb hia HBX3 HPX3 HBR3 HCX2 HCY hn0 hn1 hpc
    obtain ⟨X, hX⟩ : ∃ X, X = reachB nx st (-1) := ⟨_, rfl⟩
    obtain ⟨Y, hY⟩ : ∃ Y, Y = reachB nx st a := ⟨_, rfl⟩
    obtain ⟨G, hGe⟩ : ∃ G, G = goneB nx st a := ⟨_, rfl⟩
    have HGAT : Aside0 (∀ i : Int, 0 ≤ i → i < nx.length → rdOf false G i = (rdOf false X i && !rdOf false Y i) ∧ domB nx st a i = rdOf false G i) := ⟨fun i h0 h1 => ⟨by
      rw [hGe, hX, hY]; exact rdOf_zip _ _ (by rw [reachB_len, reachB_len]) i h0 (by rw [reachB_len]; exact h1), by
      rw [hGe]; exact domB_gone HOK.out HIA.out (by simp [inNet]; omega)⟩⟩
    have HYA : Aside0 (rdOf false Y a = false) := ⟨by
      rw [← Bool.not_eq_true, hY, rdOf_reachB nx st a a ha0 ha1]
      exact fun h => h.ne rfl⟩
    rw [← hX, ← hY, ← hGe] at HS
    clear hX hY hGe
    have hll : ((nx.length : Int) != nx.length) = false := by simp
    obtain ⟨hn0, hn1⟩ := box2 HS.out.box
    go_wp2_with fail
    clear hll hn0 hn1
    go_loopw [117] (fun v117 wr => ∃ i : Int, v117 = .int .i64 i ∧ 0 ≤ i ∧ i ≤ nx.length ∧ Aside0 (GoSt w wr #[.slice A0 nx.length c0, .slice A1 st.length c1] pb a AX AY AG nx.length X Y G)) (fun v _ => nx.length - (intOf v).toNat)
    case atStart => exact ⟨0, rfl, by omega, by omega, HS⟩
    case round =>
      clear HS
      obtain ⟨i, rfl, hi0, hi1, HS⟩ := hrel
      by_cases hil : i < nx.length
      case neg =>
        obtain ⟨adx, e, hxc⟩ := Kd.at_bool HS.out.cx a ha0 ha1
        cases e
        obtain ⟨adg, e, hgc⟩ := Kd.at_bool HS.out.cg a ha0 ha1
        cases e
        have hga := (HGAT.out a ha0 ha1).1
        rw [HYA.out] at hga
        rw [hga] at hgc
        obtain ⟨xa, hxa⟩ : ∃ xa, xa = rdOf false X a := ⟨_, rfl⟩
        rw [← hxa] at hxc hgc
        have hgc' : wr.cell? (adg.add a.toNat) = some (.bool xa) := by rw [hgc]; simp
        have hpc := (blk_cell HS.out.abx 0).trans (show _ = some (Value.int .i64 a) from rfl)
        clear hgc hga hxa
        have hxx : (xa == xa) = true := by simp
        go_wp2_with fail
        go_quiet (fail)
        go_wp2_with fail
        go_ret
        exact ⟨rfl, pw_below_drewN HS.out.below nq⟩
      obtain ⟨adx, e, _⟩ := Kd.at_bool HS.out.cx i hi0 hil
      cases e
      obtain ⟨ady, e, _⟩ := Kd.at_bool HS.out.cy i hi0 hil
      cases e
      obtain ⟨adg, e, _⟩ := Kd.at_bool HS.out.cg i hi0 hil
      cases e
      obtain ⟨hg1, hd1⟩ := HGAT.out i hi0 hil
      obtain ⟨xi, hxi⟩ : ∃ xi, rdOf false X i = xi := ⟨_, rfl⟩
      obtain ⟨yi, hyi⟩ : ∃ yi, rdOf false Y i = yi := ⟨_, rfl⟩
      rw [hxi, hyi] at hg1
      rw [hg1] at hd1
      have HD := Aside0.mk (And.intro hd1 (And.intro hg1 (And.intro hxi hyi)))
      have HI : Aside0 (GoSt w wr.drew #[.slice A0 nx.length c0, .slice A1 st.length c1] pb a (some adx) (some ady) (some adg) nx.length X Y G) := ⟨HS.out.step (below_drew (Below.refl _ _))⟩
      clear hg1 hd1 hxi hyi
      cases xi <;> cases yi
      all_goals (
        go_wp2_with fail
        refine wp_region_quiet (C := fun w' => GoSt w w' #[.slice A0 nx.length c0, .slice A1 st.length c1] pb a (some adx) (some ady) (some adg) nx.length X Y G) (by kernel_rfl) (by kernel_rfl) HI.out ?_
        repeat (quiet_step (first
          | (intro hc; go_at_call 24; refine (f24_any A0 c0 A1 c1 nx st a i _ (HN.out.below hc.below)).mono ?_; rintro e w' ⟨rfl, hb⟩; rw [HD.out.1]; exact ⟨rfl, hc.step hb⟩)
          | (intro _; with_reducible rfl)
          | (intro hc; obtain ⟨h0, h1⟩ := box2 hc.box; go_simp; with_reducible rfl)
          | (intro hc; have h0 := (blk_cell hc.abx 0).trans (show _ = some (Value.int .i64 a) from rfl); go_simp; with_reducible rfl)
          | (intro hc; obtain ⟨ad1, e1, h1⟩ := Kd.at_bool hc.cx i hi0 hil; cases e1; obtain ⟨ad2, e2, h2⟩ := Kd.at_bool hc.cy i hi0 hil; cases e2; obtain ⟨ad3, e3, h3⟩ := Kd.at_bool hc.cg i hi0 hil; cases e3; rw [HD.out.2.2.1] at h1; rw [HD.out.2.2.2] at h2; rw [HD.out.2.1] at h3; go_simp; with_reducible rfl)))
        refine wpQuiet_nil ?_
        rintro w9 hc
        have HC := Aside0.mk hc
        clear hc
        go_wp2_with fail
        go_roundw
        case rel => exact ⟨i + 1, rfl, by omega, by omega, HC⟩
        case measure => simp [intOf]; omega)
end Go.Proofs.Ytgbmebnfbhdpiaa
