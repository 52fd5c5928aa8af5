/- The walk of dom.Retained. -/
import Derived.Test.YtgbmebnfbhdpiaaKidMem
import Derived.RangeFuncWrites
import Derived.Deep.QuietTactic
import Derived.BigQuiet
import Derived.StillTailTactics
import Derived.Deep.RegionLaw
import Derived.Deep.DeepCutAuto
set_option linter.unusedSimpArgs false
set_option linter.unusedVariables false
namespace Go.Proofs.Ytgbmebnfbhdpiaa
open Go.RowKit Go.Shelf Go.Proofs.YtgbmebnfbhdpiaaW.PrintWords Go.Proofs.YtgbmebnfbhdpiaaW.PrintLast

attribute [local go_sem] Oper.semAt_some

theorem run_store_fn (P : Program) (w : World) (a : Addr) (g : Fn) (x y : Array Value) (m : Mode) : (store a (.func g x y) m).run P w = stored P w a (.func g x y) m := run_store P w a _ m rfl
attribute [local go_sem] run_store_fn

def badW (x : Int) : Bool := decide (x < 0) || decide (x > 1048576)
/-- May these be the weights? -/
def wOk (nx : List (List Int)) (ws : List Int) : Bool := decide (ws.length = nx.length) && !ws.any badW
def retE (nx : List (List Int)) (st ws : List Int) : Int := if netOk nx st then (if wOk nx ws then 0 else 1) else 200
noncomputable def retL (nx : List (List Int)) (st ws : List Int) : List Int := (List.range nx.length).map fun a : Nat => retW nx st ws a
noncomputable def retA (nx : List (List Int)) (st ws : List Int) : List Int := if netOk nx st && wOk nx ws then retL nx st ws else []
theorem ret_bad {nx : List (List Int)} {st ws : List Int} (h : netOk nx st = false) : retE nx st ws = 200 ∧ retA nx st ws = [] := by simp [retE, retA, h]
theorem ret_arg {nx : List (List Int)} {st ws : List Int} (h : netOk nx st = true) (hw : wOk nx ws = false) : retE nx st ws = 1 ∧ retA nx st ws = [] := by simp [retE, retA, h, hw]
theorem ret_ok {nx : List (List Int)} {st ws : List Int} (h : netOk nx st = true) (hw : wOk nx ws = true) : retE nx st ws = 0 ∧ retA nx st ws = retL nx st ws := by simp [retE, retA, h, hw]

theorem cells_of_turn {A B : World} {row : Option Nat} {g : Nat} {cs : Array Value} {t : TypeId} {z : Nat × Nat} (h : A.heap[g]? = some (.cells cs t z)) (hg : A.grownBy B row) (hr : ∀ r, row = some r → ∃ o : Obj, A.heap[r]? = some o ∧ o.isCells = false) : B.heap[g]? = some (.cells cs t z) :=
  blk_grown h hg (fun e => by obtain ⟨o, ho, hc⟩ := hr g e.symm; rw [h] at ho; cases ho; cases hc)
theorem RetMem.turn {w5 w w' : World} {wb kb ob ab og n cO : Nat} {out : List Int} {row : Option Nat} (h : RetMem w5 w wb kb ob ab og n cO out) (hg : w.grownBy w' row) (hr : ∀ r, row = some r → w5.heap.size ≤ r ∧ ∃ o : Obj, w.heap[r]? = some o ∧ o.isCells = false) : RetMem w5 w' wb kb ob ab og n cO out :=
  ⟨h.below.grown hg h.below.size (fun k e => (hr k e).1), cells_of_turn h.obk hg (fun r e => (hr r e).2), cells_of_turn h.abk hg (fun r e => (hr r e).2), cells_of_turn h.ogk hg (fun r e => (hr r e).2), h.len, h.oge, h.bge, h.age⟩
theorem cells_putObj {base : Nat} (W : World) (l : Nat) (o o' : Obj) (h : W.heap[l]? = some o) (ho : o.isCells = false) : CellsFrom base W (W.putObj l o') := fun p v _ hv => by
  have hne : p.block ≠ l := fun e => by
    unfold World.cell? at hv
    rw [e, h] at hv
    cases o <;> simp [Obj.isCells] at ho hv
  unfold World.cell? at hv ⊢
  rw [World.putObj_heap_other hne]
  exact hv

/-- The end of a function that holds a range over a function, and never panics. -/
def postN (fn : Func) (R : Ending → World → Prop) : Exit → Act → World → Prop
  | .normal, a, w | .ret, a, w => LeavesInM Fence.wide 7 Try.prog fn a.tmps R a.defers .returning w
  | .outgrown, _, w => R .outgrown w
  | _, _, _ => False
theorem postN_to {fn : Func} {R : Ending → World → Prop} : ∀ (e : Exit) (a : Act) (w : World), postN fn R e a w → bodyPostM Fence.wide 7 Try.prog fn R e a w
  | .normal, _, _, h => h
  | .ret, _, _, h => h
  | .outgrown, _, _, h => h
  | .panic _, _, _, h => h.elim
  | .exit _, _, _, h => h.elim
  | .goto _, _, _, h => h.elim

set_option maxHeartbeats 400000 in
theorem f49_any (x : Int) (w : World) : Calls Try.prog 49 #[.int .i64 x] w fun e w' => e = .returned (.bool (badW x)) ∧ w' = w := by
  by_cases h0 : x < 0
  · go_enter Try.func49, Try.ntmps49
    go_wp2
    go_ret
    exact ⟨ret_bool (by simp [badW, h0]), rfl⟩
  · have h1 : decide (x < 0) = false := by simpa using h0
    go_enter Try.func49, Try.ntmps49
    go_wp2
    go_ret
    exact ⟨ret_bool (by simp [badW, h1]), rfl⟩
theorem cf49 (args : Array Value) (w : World) : (callFunc 49 args).run Try.prog w = .ok (.enter 49 args) w := callFunc_some Try.func49 (by kernel_rfl) (by kernel_rfl) args w
theorem f48_49 (A : Option Addr) (c : Nat) (xs : List Int) (w : World) (hx : Kd.C (Kd.int .i64) w A xs.length xs) :
    Calls Try.prog 48 #[.slice A xs.length c, .func (.func 49) #[] #[]] w fun e w' => e = .returned (.bool (xs.any badW)) ∧ w = w' :=
  (f48_any 49 #[] badW A c xs w hx cf49 (fun x => f49_any x w)).mono (by rintro e w' ⟨h, rfl⟩; exact ⟨h, rfl⟩)

def tT_19_11 : Bool × List (List Nat × List Nat) := (true, [([], []), ([], []), ([], []), ([], []), ([2, 3], [2, 3]), ([4], [4]), ([], []), ([6], [6]), ([5, 7], [5, 7]), ([0, 1, 0, 1, 2, 3, 4, 5, 6, 7, 8], [0, 1]), ([9, 8, 8, 0, 1, 2, 3, 4, 5, 6, 7, 8], [8, 9])])
def tB_19_11 : List Nat := [0, 0, 0, 0, 12, 28, 0, 64, 252, 511, 1023]
theorem tab_19_11 : rtab .any (opsOf Try.f19 11) = tT_19_11 := by kernel_rfl
theorem bits_19_11 : waitsOk tT_19_11.2 tB_19_11 = true := by kernel_rfl
set_option maxRecDepth 100000 in
set_option maxHeartbeats 8000000 in
theorem f19_any (A0 : Option Addr) (c0 : Nat) (A1 : Option Addr) (c1 : Nat) (A2 : Option Addr) (c2 : Nat) (nx : List (List Int)) (st ws : List Int) (w : World) (hn : NetC w A0 c0 A1 c1 nx st) (hw : Kd.C (Kd.int .i64) w A2 ws.length ws) :
    Calls Try.prog 19 #[.agg #[.slice A0 nx.length c0, .slice A1 st.length c1], .slice A2 ws.length c2] w fun e w' => ∃ v, e = .returned (.tuple #[v, .int .i64 (retE nx st ws)]) ∧ Kd.R (Kd.int .i64) 2 w' w.heap.size (fun _ => True) v (retA nx st ws) ∧ Below w.heap.size w w' := by
  have HN := Aside0.mk hn
  have HW := Aside0.mk hw
  have hL0 : nx.length ≤ 9223372036854775807 := hn.next.2.1
  have hL2 : ws.length ≤ 9223372036854775807 := hw.2.1
  clear hn hw
  have HB0 : Aside0 (∀ cs cs' : Array Value, Below w.heap.size w ((w.alloc (.cells cs 25)).alloc (.cells cs' 23))) := ⟨fun _ _ => ((Below.refl _ _).alloc (Nat.le_refl _) _).alloc (by simp) _⟩
  have HK0 : Aside0 (∀ cs cs' : Array Value, ((w.alloc (.cells cs 25)).alloc (.cells cs' 23)).heap[w.heap.size]? = some (.cells cs 25 (0, 0)) ∧ ((w.alloc (.cells cs 25)).alloc (.cells cs' 23)).heap[w.heap.size + 1]? = some (.cells cs' 23 (0, 0))) :=
    ⟨fun cs cs' => ⟨blk_alloc (blk_new _ _) _, by have := blk_new (w.alloc (.cells cs 25)) (.cells cs' 23); simpa using this⟩⟩
  refine (callsIn_wide (n := 7)).1 ?_
  refine callsIn_of_wp_marks Try.func19 rfl trivial ?_ rfl
  refine wpIn_mono (Q := postN Try.f19 _) ?_ postN_to
  rw [wpIn_wide]
  simp only [Try.ntmps19, List.size_toArray, List.length_cons, List.length_nil, Nat.reduceAdd, Nat.reduceSub, Array.replicate_succ, Array.replicate_zero, List.push_toArray, List.append_toArray, List.nil_append, List.cons_append]
  go_wp2_with fail
  refine (f23_any A0 c0 A1 c1 nx st _ (HN.out.below (HB0.out _ _))).mono ?_
  rintro e w1 ⟨rfl, hb⟩
  have HB1 := Aside0.mk ((HB0.out #[.slice A0 nx.length c0, .slice A1 st.length c1] #[.slice A2 ws.length c2]).trans (hb.mono (HB0.out _ _).size))
  have HNK := Aside0.mk (blk_below (HK0.out #[.slice A0 nx.length c0, .slice A1 st.length c1] #[.slice A2 ws.length c2]).1 hb)
  have HWK := Aside0.mk (blk_below (HK0.out #[.slice A0 nx.length c0, .slice A1 st.length c1] #[.slice A2 ws.length c2]).2 hb)
  clear hb HB0 HK0
  obtain ⟨hn0, hn1⟩ := box2 HNK.out
  have hw0 : w1.cell? ⟨w.heap.size + 1, 0, none⟩ = some (.slice A2 ws.length c2) := (blk_cell HWK.out 0).trans rfl
  by_cases hok : netOk nx st = true
  case neg =>
    rw [Bool.not_eq_true] at hok
    rw [checkE_bad hok]
    have HOK := Aside0.mk hok
    clear hok
    go_wp2_with fail
    refine ⟨_, results_tmp2 rfl _ _ _, _, ret_vi (ret_bad HOK.out).1.symm, ?_, HB1.out⟩
    rw [(ret_bad HOK.out).2]; exact Kd.R_nil _ _ _ _ _
  rw [checkE_ok hok]
  have HOK := Aside0.mk hok
  clear hok
  by_cases hlen : (ws.length : Int) = nx.length
  case neg =>
    have hlb : ((ws.length : Int) != nx.length) = true := by simpa using hlen
    have hwo : Aside0 (wOk nx ws = false) := ⟨by unfold wOk; rw [decide_eq_false (by omega)]; rfl⟩
    clear hlen
    go_wp2_with fail
    refine ⟨_, results_tmp2 rfl _ _ _, _, ret_vi (ret_arg HOK.out hwo.out).1.symm, ?_, HB1.out⟩
    rw [(ret_arg HOK.out hwo.out).2]; exact Kd.R_nil _ _ _ _ _
  have hlb : ((ws.length : Int) != nx.length) = false := by simpa using hlen
  go_wp2_with fail
  refine (f48_49 A2 c2 ws _ (Kd.C_below HW.out HB1.out)).mono ?_
  rintro e w' ⟨rfl, rfl⟩
  by_cases hbad : ws.any badW = true
  · rw [hbad]
    have hwo : Aside0 (wOk nx ws = false) := ⟨by unfold wOk; rw [hbad]; simp⟩
    clear hbad
    go_wp2_with fail
    refine ⟨_, results_tmp2 rfl _ _ _, _, ret_vi (ret_arg HOK.out hwo.out).1.symm, ?_, HB1.out⟩
    rw [(ret_arg HOK.out hwo.out).2]; exact Kd.R_nil _ _ _ _ _
  rw [Bool.not_eq_true] at hbad
  rw [hbad]
  have hlen2 : ws.length = nx.length := by omega
  have HWO : Aside0 (wOk nx ws = true) := ⟨by unfold wOk; rw [hbad, decide_eq_true hlen2]; rfl⟩
  have HBAD := Aside0.mk hbad
  have HLEN := Aside0.mk hlen2
  clear hbad hlen hlb hlen2
  have HG := Aside0.mk (good_of_ok HOK.out)
  have hnl := HG.out.len
  have hm22 := run_make22 nx.length hnl
  have HB4 := Aside0.mk (show Below w1.heap.size w1 ((w1.alloc (.cells (Array.replicate nx.length (.slice none 0 0)) 23)).alloc (.cells #[.slice (some ⟨w1.heap.size, 0, none⟩) nx.length nx.length] 22)) from ((Below.refl _ _).alloc (Nat.le_refl _) _).alloc (by simp) _)
  have HG4 := Aside0.mk (show ((w1.alloc (.cells (Array.replicate nx.length (.slice none 0 0)) 23)).alloc (.cells #[.slice (some ⟨w1.heap.size, 0, none⟩) nx.length nx.length] 22)).heap[w1.heap.size]? = some (.cells (List.replicate nx.length (Value.slice none 0 0)).toArray 23 (0, 0)) from by
    have := blk_alloc (blk_new w1 (.cells (Array.replicate nx.length (.slice none 0 0)) 23)) (.cells #[.slice (some ⟨w1.heap.size, 0, none⟩) nx.length nx.length] 22)
    simpa using this)
  have HK4 := Aside0.mk (show ((w1.alloc (.cells (Array.replicate nx.length (.slice none 0 0)) 23)).alloc (.cells #[.slice (some ⟨w1.heap.size, 0, none⟩) nx.length nx.length] 22)).heap[w1.heap.size + 1]? = some (.cells #[.slice (some ⟨w1.heap.size, 0, none⟩) nx.length nx.length] 22 (0, 0)) from by
    have := blk_new (w1.alloc (.cells (Array.replicate nx.length (.slice none 0 0)) 23)) (.cells #[.slice (some ⟨w1.heap.size, 0, none⟩) nx.length nx.length] 22)
    simpa using this)
  obtain ⟨hn2, hn3⟩ := box2 (blk_below HNK.out HB4.out)
  go_wp2_with fail
  generalize ((w1.alloc (.cells (Array.replicate nx.length (.slice none 0 0)) 23)).alloc (.cells #[.slice (some ⟨w1.heap.size, 0, none⟩) nx.length nx.length] 22)) = w4 at HB4 HG4 HK4 hn2 hn3 ⊢
  clear hm22 hn0 hn1 hw0
  refine (f45_idom A0 c0 A1 c1 nx st _ (HN.out.below (below_trans HB1.out HB4.out)) HOK.out).mono ?_
  rintro e w5 ⟨A, k, rfl, hx, hr, hb2⟩
  have HX := Aside0.mk hx
  obtain ⟨id, hid⟩ : ∃ id, id = idomA nx st := ⟨_, rfl⟩
  have HKM := Aside0.mk (kidMem0 hnl HG4.out HK4.out HB4.out (Nat.le_refl _) (by omega) hb2 (Kd.R_lower hr HB4.out.size))
  rw [← hid] at HX HKM
  have HID := Aside0.mk hid
  clear hr hb2 hx hid hn2 hn3 HG4 HK4 HB4
  go_wp2_with fail
  obtain ⟨wo, rfl⟩ : ∃ wo : World, wo = w5 := ⟨_, rfl⟩
  go_loopw [35] (fun v35 wr => ∃ (i : Int) (kids : List (List Int)) (O : Nat → Nat), v35 = .int .i64 i ∧ 0 ≤ i ∧ i ≤ nx.length ∧ Aside0 (KidMem w1 wr w1.heap.size (w1.heap.size + 1) (.slice A nx.length k) nx.length O id kids) ∧ Aside0 (kids.length = nx.length ∧ ∀ y : Int, 0 ≤ y → y < nx.length → headsAt kids y = kidsN id y i.toNat)) (fun v _ => nx.length - (intOf v).toNat)
  case atStart => exact ⟨0, List.replicate nx.length [], _, rfl, by omega, by omega, HKM, ⟨by simp, fun y h0 h1 => by simp [headsAt, List.getD_eq_getElem?_getD, List.getElem?_replicate, kidsN_zero]; split <;> rfl⟩⟩
  case round =>
    clear HKM
    obtain ⟨i, kids, O, rfl, hi0, hi1, HKM, HKD⟩ := hrel
    by_cases hil : i < nx.length
    · have hcid := (Kd.R_reads' HKM.out.idom).2.2
      rw [HX.out.len] at hcid
      obtain ⟨ad, e, hc⟩ := Kd.at_int hcid i hi0 hil
      cases e
      clear hcid
      have hdr : rd id i < nx.length := by
        by_cases hr : Reach nx st (-1) i
        · exact (HX.out.up HG.out hr).2.1
        · rw [(HX.out.none i hi0 hil).2 hr]; omega
      obtain ⟨d, hd⟩ : ∃ d, d = rd id i := ⟨_, rfl⟩
      rw [← hd] at hc hdr
      have HDD := Aside0.mk hd
      clear hd
      by_cases hd0 : d ≥ 0
      · have hd0b : decide (d ≥ 0) = true := decide_eq_true hd0
        go_wp2_with fail
        have HMq := Aside0.mk HKM.out.drew
        obtain ⟨hvv, hrow, hrf, hRh⟩ := HMq.out.kidAt d hd0 hdr
        obtain ⟨AH, kH, eH⟩ := Kd.R_slice hRh
        subst eH
        have hox : (wr.drew).cell? ⟨w1.heap.size + 1, 0, none⟩ = some (.slice (some ⟨w1.heap.size, 0, none⟩) nx.length nx.length) := (blk_cell HMq.out.kbk 0).trans rfl
        have HRH := Aside0.mk hRh
        have hbd : Aside0 (((headsAt kids d).length + 1) * 8 ≤ 140737488355328) := ⟨by
          rw [HKD.out.2 d hd0 hdr]
          have := kidsN_len id d i.toNat
          omega⟩
        clear hRh
        obtain ⟨hl0, hhl0⟩ : ∃ hl0, hl0 = headsAt kids d := ⟨_, rfl⟩
        rw [← hhl0] at hrow HRH hbd
        have HH := Aside0.mk hhl0
        clear hhl0
        refine start_ (n := 11) (S := fun w' => w'.cell? ⟨w1.heap.size + 1, 0, none⟩ = some (.slice (some ⟨w1.heap.size, 0, none⟩) nx.length nx.length) ∧ w'.cell? ⟨w1.heap.size, d.toNat, none⟩ = some (.slice AH hl0.length kH)) (ds := [10]) #[false, false, false, false, false, false, false, false, false, false, false] (by kernel_rfl) rfl rfl ⟨hox, hrow⟩ (fun hHeld => ?_)
        refine with_tabW tab_19_11 bits_19_11 (fun HT_ HW_ => ?_)
        generalize wr.drew = wd at HMq hox hrow hrf HRH hHeld ⊢
        refine pure_ (i := 1) (N := some 43) (v := ?_) (a' := ?_) #[false, true, false, false, false, false, false, false, false, false, false] rfl rfl (any_of HT_.out (by kernel_rfl)) (fun _ _ _ h => h) (Or.inl ⟨by rfl, ?_⟩) ?_ ?_
        rotate_left
        · intro w'
          go_simp
          with_reducible rfl
        rotate_left
        · simp only [Act.put, List.setIfInBounds_toArray, List.set_cons_zero, List.set_cons_succ, i64_w, i32_w]
          rfl
        refine pure_ (i := 3) (N := some 45) (v := ?_) (a' := ?_) #[false, true, false, true, false, false, false, false, false, false, false] rfl rfl (any_of HT_.out (by kernel_rfl)) (fun _ _ _ h => h) (Or.inl ⟨by rfl, ?_⟩) ?_ ?_
        rotate_left
        · intro w'
          go_simp
          with_reducible rfl
        rotate_left
        · simp only [Act.put, List.setIfInBounds_toArray, List.set_cons_zero, List.set_cons_succ, i64_w, i32_w]
          rfl
        refine pure_ (i := 6) (N := some 48) (v := ?_) (a' := ?_) #[false, true, false, true, false, false, true, false, false, false, false] rfl rfl (any_of HT_.out (by kernel_rfl)) (fun _ _ _ h => h) (Or.inl ⟨by rfl, ?_⟩) ?_ ?_
        rotate_left
        · intro w'
          go_simp
          with_reducible rfl
        rotate_left
        · simp only [Act.put, List.setIfInBounds_toArray, List.set_cons_zero, List.set_cons_succ, i64_w, i32_w]
          rfl
        refine take_ (i := 0) (N := some 42) (v := ?_) (a' := ?_) #[true, true, false, true, false, false, true, false, false, false, false] rfl rfl (take_ofW HT_.out HW_.out (by kernel_rfl)) (fun _ _ _ h => h) (Or.inl ⟨by rfl, ?_⟩) hHeld ?_ ?_
        rotate_left
        · rintro w' ⟨s0, s1⟩
          go_simp
          with_reducible rfl
        rotate_left
        · simp only [Act.put, List.setIfInBounds_toArray, List.set_cons_zero, List.set_cons_succ, i64_w, i32_w]
          rfl
        refine take_ (i := 2) (N := some 44) (v := ?_) (a' := ?_) #[true, true, true, true, false, false, true, false, false, false, false] rfl rfl (take_ofW HT_.out HW_.out (by kernel_rfl)) (fun _ _ _ h => h) (Or.inl ⟨by rfl, ?_⟩) hHeld ?_ ?_
        rotate_left
        · rintro w' ⟨s0, s1⟩
          go_simp
          with_reducible rfl
        rotate_left
        · simp only [Act.put, List.setIfInBounds_toArray, List.set_cons_zero, List.set_cons_succ, i64_w, i32_w]
          rfl
        refine pure_ (i := 4) (N := some 46) (v := ?_) (a' := ?_) #[true, true, true, true, true, false, true, false, false, false, false] rfl rfl (any_of HT_.out (by kernel_rfl)) (fun _ _ _ h => h) (Or.inl ⟨by rfl, ?_⟩) ?_ ?_
        rotate_left
        · intro w'
          go_simp
          with_reducible rfl
        rotate_left
        · simp only [Act.put, List.setIfInBounds_toArray, List.set_cons_zero, List.set_cons_succ, i64_w, i32_w]
          rfl
        refine take_ (i := 5) (N := some 47) (v := ?_) (a' := ?_) #[true, true, true, true, true, true, true, false, false, false, false] rfl rfl (take_ofW HT_.out HW_.out (by kernel_rfl)) (fun _ _ _ h => h) (Or.inl ⟨by rfl, ?_⟩) hHeld ?_ ?_
        rotate_left
        · rintro w' ⟨s0, s1⟩
          go_simp
          with_reducible rfl
        rotate_left
        · simp only [Act.put, List.setIfInBounds_toArray, List.set_cons_zero, List.set_cons_succ, i64_w, i32_w]
          rfl
        refine one_ (i := 7) (N := some 49) #[true, true, true, true, true, true, true, true, false, false, false] rfl rfl (one_of HT_.out (by kernel_rfl)) (by decide) (fun K hK => ?_)
        refine event_step (w1 := ?_) (v := ?_) (by rfl) ?_ ?_
        rotate_left 2
        · go_simp
          constructor <;> rfl
        refine hK.out _ _ ?_ ?_
        · exact ⟨(blk_cell (blk_alloc HMq.out.kbk _) 0).trans rfl, (((Below.refl _ wd).alloc (Nat.le_refl _) _).cell (World.block_lt_of_cell? _ _ hrow)).trans hrow⟩
        clear hK K
        intro hHeld
        refine one_ (i := 8) (N := some 50) #[true, true, true, true, true, true, true, true, true, false, false] rfl rfl (one_of HT_.out (by kernel_rfl)) (by decide) (fun K hK => ?_)
        refine Kd.R_append_step (Kd.int .i64) (w0 := w1) w1.heap.size (by rfl) (.tmp 47) (.tmp 49) 23 3 (.int .i64 0) 8 rfl Try.underlying23 info3 rfl (by decide) (by omega) (.slice AH hl0.length kH) hl0 i [.int .i64 i] (fun z => ownTo O wd.heap.size (d.toNat + 1) z = d.toNat + 1) (fun _ => False) (by rfl) (by rfl) ?aP (fun _ hk => hk.elim) ?aF ?aO ?aB ?aS ?aL ?_
        case aP => exact rfl
        case aF => intro z hz; unfold ownTo; rw [if_pos hz]
        case aO => exact R_ownTo (Nat.le_refl _) HRH.out
        case aB => exact HMq.out.below
        case aS => exact HMq.out.below.size
        case aL => exact hbd.out
        intro v1 w2 ho hb hg hat
        obtain ⟨A1', k1, e1⟩ := Kd.R_slice ho
        rw [List.length_append, List.length_singleton] at e1
        subst e1
        have H1 := Aside0.mk (HMq.out.app HKD.out.1 hd0 hdr hrow (by rw [← HH.out]; exact ho) hb hg)
        have hoc1 : w2.cell? ⟨w1.heap.size, d.toNat, none⟩ = some (.slice AH hl0.length kH) := H1.out.1
        have hof1 : w2.frozen? ⟨w1.heap.size, d.toNat, none⟩ = false := H1.out.2.1
        have hS1 : w2.cell? ⟨w1.heap.size + 1, 0, none⟩ = some (.slice (some ⟨w1.heap.size, 0, none⟩) nx.length nx.length) := (blk_cell (blk_grown HMq.out.kbk hg (Kd.R_ne HRH.out HMq.out.kbk (by decide))) 0).trans rfl
        clear ho hb hg hat
        refine hK.out _ _ ?_ ?_
        · exact ⟨hS1, hoc1⟩
        clear hK K
        intro hHeld
        refine pure_ (i := 9) (N := some 51) (v := ?_) (a' := ?_) #[true, true, true, true, true, true, true, true, true, true, false] rfl rfl (any_of HT_.out (by kernel_rfl)) (fun _ _ _ h => h) (Or.inl ⟨by rfl, ?_⟩) ?_ ?_
        rotate_left
        · intro w'
          go_simp
          with_reducible rfl
        rotate_left
        · simp only [Act.put, List.setIfInBounds_toArray, List.set_cons_zero, List.set_cons_succ, i64_w, i32_w]
          rfl
        refine last_ (i := 10) (N := none) #[true, true, true, true, true, true, true, true, true, true, true] rfl rfl (one_of HT_.out (by kernel_rfl)) (by decide) (fun K hK => ?_)
        refine skip_ (w1 := ?_) (by rfl) rfl ?_ ?_
        rotate_left
        · go_simp
          rfl
        refine hK.out _ _ ?_
        clear hK K
        refine done_ (done_of HT_.out (by kernel_rfl)) ?_
        go_wp2_with fail
        go_roundw
        case rel => exact ⟨i + 1, addHead kids d i, _, rfl, by omega, by omega, ⟨H1.out.2.2⟩, ⟨by rw [addHead_len]; exact HKD.out.1, fun y h0 h1 => by
          rw [headsAt_add kids d i y hd0 (by rw [HKD.out.1]; exact hdr) h0, kidsN_succ id y i hi0, ← HDD.out]
          by_cases cy : y = d
          · rw [if_pos cy, if_pos cy.symm, cy, HKD.out.2 d hd0 hdr]
          · rw [if_neg cy, if_neg (fun e => cy e.symm)]; exact HKD.out.2 y h0 h1⟩⟩
        case measure => simp [intOf]; omega
      · have hd0b : decide (d ≥ 0) = false := decide_eq_false hd0
        go_wp2_with fail
        go_roundw
        case rel => exact ⟨i + 1, kids, O, rfl, by omega, by omega, HKM, ⟨HKD.out.1, fun y h0 h1 => by rw [kidsN_succ id y i hi0, if_neg (by rw [← HDD.out]; omega)]; exact HKD.out.2 y h0 h1⟩⟩
        case measure => simp [intOf]; omega
    · --<tail
      have hie : i.toNat = nx.length := by omega
      rw [hie] at HKD
      have HNK2 := Aside0.mk (blk_below HNK.out HKM.out.below)
      have HWK2 := Aside0.mk (blk_below HWK.out HKM.out.below)
      obtain ⟨hn0, hn1⟩ := box2 HNK2.out
      have hm38 := run_make38 nx.length hnl
      have HM6 : Aside0 (RetMem wr (((wr.alloc (.cells (Array.replicate nx.length (.int .i64 0)) 2)).alloc (.cells #[.slice (some ⟨wr.heap.size, 0, none⟩) nx.length nx.length] 38)).alloc (.cells #[.func (.func 50) #[] #[.pointer (some ⟨w.heap.size + 1, 0, none⟩), .pointer (some ⟨wr.heap.size + 1, 0, none⟩), .pointer (some ⟨w1.heap.size + 1, 0, none⟩), .pointer (some ⟨wr.heap.size + 1 + 1, 0, none⟩)]] 80)) (w.heap.size + 1) (w1.heap.size + 1) (wr.heap.size + 1) (wr.heap.size + 1 + 1) wr.heap.size nx.length nx.length (List.replicate nx.length 0)) := ⟨by
        refine ⟨(((Below.refl _ _).alloc (Nat.le_refl _) _).alloc (by simp) _).alloc (by simp; omega) _, ?_, ?_, ?_, by simp, Nat.le_refl _, by omega, by omega⟩
        · have := blk_new (wr.alloc (.cells (Array.replicate nx.length (.int .i64 0)) 2)) (.cells #[.slice (some ⟨wr.heap.size, 0, none⟩) nx.length nx.length] 38)
          exact blk_alloc (by simpa using this) _
        · have := blk_new ((wr.alloc (.cells (Array.replicate nx.length (.int .i64 0)) 2)).alloc (.cells #[.slice (some ⟨wr.heap.size, 0, none⟩) nx.length nx.length] 38)) (.cells #[.func (.func 50) #[] #[.pointer (some ⟨w.heap.size + 1, 0, none⟩), .pointer (some ⟨wr.heap.size + 1, 0, none⟩), .pointer (some ⟨w1.heap.size + 1, 0, none⟩), .pointer (some ⟨wr.heap.size + 1 + 1, 0, none⟩)]] 80)
          simpa using this
        · have := blk_new wr (.cells (Array.replicate nx.length (.int .i64 0)) 2)
          exact blk_alloc (blk_alloc (by simpa using this) _) _⟩
      obtain ⟨hn2, hn3⟩ := box2 (blk_below HNK2.out HM6.out.below)
      go_wp2_with fail
      generalize (((wr.alloc (.cells (Array.replicate nx.length (.int .i64 0)) 2)).alloc (.cells #[.slice (some ⟨wr.heap.size, 0, none⟩) nx.length nx.length] 38)).alloc (.cells #[.func (.func 50) #[] #[.pointer (some ⟨w.heap.size + 1, 0, none⟩), .pointer (some ⟨wr.heap.size + 1, 0, none⟩), .pointer (some ⟨w1.heap.size + 1, 0, none⟩), .pointer (some ⟨wr.heap.size + 1 + 1, 0, none⟩)]] 80)) = w6 at HM6 hn2 hn3 ⊢
      clear hm38 hn0 hn1
      have HB6 := Aside0.mk ((HB1.out.trans (HKM.out.below.mono HB1.out.size)).trans (HM6.out.below.mono (Nat.le_trans HB1.out.size HKM.out.below.size)))
      refine (f18_any A0 c0 A1 c1 nx st (-1) _ (HN.out.below HB6.out)).mono ?_
      rintro e w7 ⟨Bs, rfl, hv, hb⟩
      rw [kidsL_ok HOK.out (by rfl), ← HID.out] at hv
      have HV := Aside0.mk hv
      have HM7 : Aside0 (RetMem wr w7 (w.heap.size + 1) (w1.heap.size + 1) (wr.heap.size + 1) (wr.heap.size + 1 + 1) wr.heap.size nx.length nx.length (List.replicate nx.length 0)) :=
        ⟨⟨HM6.out.below.trans (hb.mono HM6.out.below.size), blk_below HM6.out.obk hb, blk_below HM6.out.abk hb, blk_below HM6.out.ogk hb, HM6.out.len, HM6.out.oge, HM6.out.bge, HM6.out.age⟩⟩
      have hog6 := blk_lt HM6.out.ogk
      have HB7 := Aside0.mk (below_trans HB6.out hb)
      have HFX : Aside0 (RetFix wr (w.heap.size + 1) (w1.heap.size + 1) A2 c2 (some ⟨w1.heap.size, 0, none⟩) nx.length nx.length ws kids) := ⟨by
        have h1 := HWK2.out
        rw [HLEN.out] at h1
        have h2 := Kd.C_below HW.out (HB1.out.trans (HKM.out.below.mono HB1.out.size))
        rw [HLEN.out] at h2
        exact ⟨h1, HKM.out.kbk, h2, HKM.out.kidsC HKD.out.1 hnl⟩⟩
      have HKY : Aside0 (∀ i : Int, 0 ≤ i → i < nx.length → kids.getD i.toNat [] = kidsN id i nx.length) := ⟨HKD.out.2⟩
      have HB5 := Aside0.mk HKM.out.below
      clear hv hb hn2 hn3 HM6 HKM HKD
      have hwsb : Aside0 (∀ x : Int, 0 ≤ rd ws x ∧ rd ws x ≤ 1048576) := ⟨fun x => by
        unfold rd
        rcases Nat.lt_or_ge x.toNat ws.length with h | h
        · rw [List.getD_eq_getElem?_getD, List.getElem?_eq_getElem h]
          have := List.any_eq_false.1 HBAD.out ws[x.toNat] (List.getElem_mem _)
          simp [badW] at this
          exact this
        · rw [List.getD_eq_getElem?_getD, List.getElem?_eq_none h]; simp⟩
      obtain ⟨pl, hpl⟩ := HX.out.tree
      have HT := Aside0.mk hpl
      clear hpl
      have HREC := Aside0.mk (f50_rec HG.out HX.out HT.out hwsb.out HFX.out HKY.out (wr.heap.size + 1) (wr.heap.size + 1 + 1) wr.heap.size nx.length (nx.length + 1))
      go_wp2_with fail
      generalize hA : ({ tmps := _, defers := [] } : Act) = a0
      refine (wpIn_wide (n := 7)).1 ?_
      refine wpIn_rangeFunc_ownG (α := { x : Int // x ∈ kidsN id (-1) nx.length }) rfl (by omega) (gf := 67) (lb := #[.pointer (some ⟨Bs, 0, none⟩)]) (by subst hA; rfl) trivial (enters_of Try.func67 (by kernel_rfl) rfl)
        (f67_stops Subtype.val Fence.wide 6 trivial rfl (by omega) w6.heap.size Bs (kidsN id (-1) nx.length).attach w7 (by rw [List.attach_map_subtype_val]; exact HV.out) (CellsFrom w6.heap.size) CellsFrom.refl CellsFrom.trans (fun W W' hK p v hp _ hv => hK p v hp hv))
        CellsFrom.trans (fun W l o o' _ h1 h2 _ => cells_putObj W l o o' h1 h2) (Below.refl _ _) (fun _ => rfl)
        (fun pre W => ∃ out, RetMem wr W (w.heap.size + 1) (w1.heap.size + 1) (wr.heap.size + 1) (wr.heap.size + 1 + 1) wr.heap.size nx.length nx.length out ∧ ∀ j : Int, 0 ≤ j → j < nx.length → rd out j = if (pre.any fun r => domC nx st r.1 j) = true then retW nx st ws j else 0)
        (fun _ _ _ => False)
        (fun pre W W' row hs hg hr => by
          obtain ⟨out, hm, ho⟩ := hs
          exact ⟨out, hm.turn hg (fun r e => ⟨Nat.le_trans HM7.out.below.size (hr r e).1, (hr r e).2⟩), ho⟩)
        (fun _ _ _ _ _ hs _ _ => hs) ⟨_, HM7.out, fun j h0 h1 => by simp [rd, List.getD_eq_getElem?_getD, List.getElem?_replicate]; split <;> rfl⟩
        (fun x => { tmps := (a0.tmps.setIfInBounds 60 (.int .i64 x.1)).setIfInBounds 12 (.int .i64 x.1), defers := [] }) ?assign ?body ?done ?stop
      case assign =>
        intro l x W K hK
        subst hA
        gi_wp2
        exact hK
      case body =>
        rintro l pre x W ⟨out, hm, ho⟩ _
        subst hA
        have hab : W.cell? ⟨wr.heap.size + 1 + 1, 0, none⟩ = some (.func (.func 50) #[] #[.pointer (some ⟨w.heap.size + 1, 0, none⟩), .pointer (some ⟨wr.heap.size + 1, 0, none⟩), .pointer (some ⟨w1.heap.size + 1, 0, none⟩), .pointer (some ⟨wr.heap.size + 1 + 1, 0, none⟩)]) := (blk_cell hm.abk 0).trans rfl
        simp only [List.setIfInBounds_toArray, List.set_cons_zero, List.set_cons_succ]
        gi_wp2_with fail
        refine ⟨trivial, ?_⟩
        have hxk := (kidsN_mem id (-1) nx.length x.1).1 x.2
        have hxr : Reach nx st (-1) x.1 := Classical.byContradiction fun c => by
          have := (HX.out.none x.1 hxk.1 hxk.2.1).2 c
          omega
        refine (CallsIn.inRound l (callsIn_wide.2 (HREC.out x.1 out W hxr (by omega) hm))).mono ?_
        rintro e W' ⟨rfl, out', hm', hk, ho'⟩
        have HH := Aside0.mk (And.intro hm' (And.intro hk ho'))
        clear hm' hk ho' hab
        gi_wp2
        refine ⟨HH.out.2.1.others.from _, fun p v hp hv => HH.out.2.1.cells p v (by omega) hv, out', HH.out.1, fun j h0 h1 => ?_⟩
        rw [HH.out.2.2 j h0 h1, ho j h0 h1, List.any_append]
        by_cases c1 : domC nx st x.1 j = true
        · rw [if_pos c1, if_pos (by simp [c1])]
        · rw [if_neg c1]
          by_cases c2 : (pre.any fun r => domC nx st r.1 j) = true
          · rw [if_pos c2, if_pos (by rw [c2]; rfl)]
          · rw [if_neg c2, if_neg (by rw [Bool.not_eq_true] at c1 c2; rw [c2]; simp [c1])]
      case done =>
        rintro D ys W hD rfl ⟨out, hm, ho⟩ hK
        subst hA
        have hob : W.cell? ⟨wr.heap.size + 1, 0, none⟩ = some (.slice (some ⟨wr.heap.size, 0, none⟩) nx.length nx.length) := (blk_cell hm.obk 0).trans rfl
        have HO := Aside0.mk ho
        clear ho
        go_wp2_with fail
        refine ⟨by simp, .inl ⟨_, _, rfl, run_takeDeferred hK, ?_⟩⟩
        have hm2 := hm.turn (grownBy_putObj' W D (.deferred none)) (fun r e => by cases e; exact ⟨Nat.le_trans HM7.out.below.size hD, _, hK, rfl⟩)
        have hout : out = retL nx st ws := by
          apply List.ext_getElem?
          intro j
          have hl := hm.len
          rcases Nat.lt_or_ge j nx.length with hj | hj
          · have h1 := HO.out (j : Int) (by omega) (by omega)
            have h2 : (if ((kidsN id (-1) nx.length).attach.any fun r => domC nx st r.1 (j : Int)) = true then retW nx st ws j else 0) = retW nx st ws j := by
              by_cases hr : Reach nx st (-1) (j : Int)
              · obtain ⟨r, hr1, hr2⟩ := under_root HG.out HX.out hr
                rw [if_pos]
                exact List.any_eq_true.2 ⟨⟨r, hr1⟩, List.mem_attach _ _, domC_iff.2 hr2⟩
              · rw [if_neg, retW_none ws hr]
                intro e
                obtain ⟨r, _, hr2⟩ := List.any_eq_true.1 e
                exact hr (domC_iff.1 hr2).1
            rw [h2] at h1
            unfold retL
            rw [List.getElem?_map, List.getElem?_range hj, List.getElem?_eq_getElem (by omega : j < out.length)]
            simp only [rd, Int.toNat_natCast, List.getD_eq_getElem?_getD, List.getElem?_eq_getElem (by omega : j < out.length), Option.getD_some] at h1
            rw [h1]; rfl
          · unfold retL
            rw [List.getElem?_eq_none (by omega), List.getElem?_eq_none (by simpa using hj)]
        refine ⟨_, results_tmp2 rfl _ _ _, _, ret_vi (ret_ok HOK.out HWO.out).1.symm, ?_, (HB1.out.trans (HB5.out.mono HB1.out.size)).trans (hm2.below.mono (Nat.le_trans HB1.out.size HB5.out.size))⟩
        rw [(ret_ok HOK.out HWO.out).2, ← hout]
        have hlen := hm.len
        have hr : Kd.R (Kd.int .i64) 2 (W.putObj D (.deferred none)) w.heap.size (fun _ => True) (.slice (some ⟨wr.heap.size, 0, none⟩) out.length nx.length) out := by
          refine Kd.R_of_own (enc := Value.int .i64) ?_ (fun _ _ => trivial)
          exact ⟨by simp [encs], .inr ⟨wr.heap.size, nx.length, _, rfl, Nat.le_trans HB1.out.size HB5.out.size, hm2.ogk, by omega, by simp only [maxLen]; omega, by simp [hlen], by simp only [encs]; rw [List.take_of_length_le (by simp)]⟩⟩
        rw [hlen] at hr
        exact hr
      case stop =>
        rintro D c pre W _ _ h _
        exact h.elim
end Go.Proofs.Ytgbmebnfbhdpiaa
