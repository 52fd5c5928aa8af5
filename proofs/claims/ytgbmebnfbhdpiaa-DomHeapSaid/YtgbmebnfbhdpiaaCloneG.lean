/- The walk of the law's clone of a net: a copy of its own, row by row, that reads the same. -/
import Derived.Test.YtgbmebnfbhdpiaaCloneF
import Derived.Test.YtgbmebnfbhdpiaaOrdMem
import Derived.Test.YtgbmebnfbhdpiaaWTab
import Derived.StillTailTactics
set_option linter.unusedSimpArgs false
set_option linter.unusedVariables false
namespace Go.Proofs.Ytgbmebnfbhdpiaa
open Go.RowKit Go.Proofs.YtgbmebnfbhdpiaaW.PrintWords Go.Proofs.YtgbmebnfbhdpiaaW.PrintLast

/-- A row's head: where its numbers lie, how many, and how much room. -/
abbrev Hdr := Option Addr × Nat × Nat
def encH (h : Hdr) : Value := .slice h.1 h.2.1 h.2.2
abbrev KdH : Kd Hdr := Kd.scalar encH (fun _ => rfl)
/-- The copy while it grows. -/
structure CloSt (w0 w : World) (ob : Nat) (vn vs : Value) (H : List Hdr) (rows : List (List Int)) (st : List Int) (O : Nat → Nat) : Prop where
  below : Below w0.heap.size w0 w
  obk : w.heap[ob]? = some (.cells #[vn, vs] 25 (0, 0))
  heads : KdH.R 23 w w0.heap.size (fun _ => True) vn H
  len : H.length = rows.length
  rows : ∀ (i : Nat) (h : Hdr), H[i]? = some h → h.2.1 = (rows.getD i []).length ∧ Kd.R (Kd.int .i64) 3 w w0.heap.size (fun z => O z = i + 2) (encH h) (rows.getD i [])
  start : Kd.R (Kd.int .i64) 3 w w0.heap.size (fun z => O z = 1) vs st
  oge : w0.heap.size ≤ ob
section
variable {w0 w : World} {ob : Nat} {vn vs : Value} {H : List Hdr} {rows : List (List Int)} {st : List Int} {O : Nat → Nat}
theorem CloSt.step {w1 : World} (h : CloSt w0 w ob vn vs H rows st O) (hb : Below w.heap.size w w1) : CloSt w0 w1 ob vn vs H rows st O :=
  ⟨h.below.trans (hb.mono h.below.size), blk_below h.obk hb, Kd.R_below h.heads hb, h.len, fun i hd hi => ⟨(h.rows i hd hi).1, Kd.R_below (h.rows i hd hi).2 hb⟩, Kd.R_below h.start hb, h.oge⟩
/-- Behind a copy of one more row (its blocks lie from b on), before the heads are told of it. -/
theorem CloSt.more {w1 w2 : World} {v2 : Value} {A : Option Addr} {n c : Nat} {l : List Int} {j : Nat} (h : CloSt w0 w ob vn vs H rows st O) (hj : j = rows.length) (hb1 : Below w.heap.size w w1)
    (hl : Kd.R (Kd.int .i64) 3 w1 w.heap.size (fun _ => True) (encH (A, n, c)) l) (hn : n = l.length)
    (ho : KdH.R 23 w2 w0.heap.size (fun _ => True) v2 (H ++ [(A, n, c)])) (hb : Below w0.heap.size w0 w2) (hg : w1.grownBy w2 vn.ownBlock) :
    w2.heap[ob]? = some (.cells #[vn, vs] 25 (0, 0)) ∧ CloSt w0 (w2.setCell ⟨ob, 0, none⟩ v2) ob v2 vs (H ++ [(A, n, c)]) (rows ++ [l]) st (ownTo O w.heap.size (j + 2)) := by
  have h1 := h.step hb1
  have hob := blk_grown h1.obk hg (Kd.R_ne h1.heads h1.obk (by decide))
  have hto : ∀ {i : Nat} {v : Value} {xs : List Int}, i ≠ j + 2 → Kd.R (Kd.int .i64) 3 w w0.heap.size (fun z => O z = i) v xs → Kd.R (Kd.int .i64) 3 (w2.setCell ⟨ob, 0, none⟩ v2) w0.heap.size (fun z => ownTo O w.heap.size (j + 2) z = i) v xs := fun {i v xs} hne hr =>
    Kd.R_set (Kd.R_over' (Kd.R_below (R_ownTo (Nat.le_refl _) hr) hb1) (Kd.R_typed h1.heads) (by decide) hg) hob (by decide) _ _
  refine ⟨hob, hb.setCell h.oge _, blk_put hob 0 v2 rfl, Kd.R_set ho hob (by decide) _ _, by simp [h.len], fun i hd hi => ?_, hto (by omega) h.start, h.oge⟩
  have hlt := (List.getElem?_eq_some_iff.1 hi).1
  rw [List.length_append, List.length_singleton] at hlt
  by_cases cc : i < H.length
  · rw [List.getElem?_append_left cc] at hi
    have hrow := h.rows i hd hi
    have hg : (rows ++ [l]).getD i [] = rows.getD i [] := by
      rw [List.getD_eq_getElem?_getD, List.getElem?_append_left (by rw [← h.len]; exact cc), ← List.getD_eq_getElem?_getD]
    rw [hg]
    exact ⟨hrow.1, hto (by have := h.len; omega) hrow.2⟩
  · obtain rfl : i = H.length := by omega
    rw [List.getElem?_append_right (Nat.le_refl _), Nat.sub_self] at hi
    simp only [List.getElem?_cons_zero, Option.some.injEq] at hi
    subst hi
    have hg2 : (rows ++ [l]).getD H.length [] = l := by
      rw [h.len, List.getD_eq_getElem?_getD, List.getElem?_append_right (Nat.le_refl _), Nat.sub_self]; rfl
    rw [hg2]
    refine ⟨hn, ?_⟩
    have h3 : Kd.R (Kd.int .i64) 3 w1 w.heap.size (fun z => ownTo O w.heap.size (j + 2) z = H.length + 2) (encH (A, n, c)) l := Kd.R_mono (Kd.R_bound hl) (fun k hk => by
      unfold ownTo; rw [if_pos hk.2.1, hj, h.len])
    exact Kd.R_set (Kd.R_over' (Kd.R_lower h3 h.below.size) (Kd.R_typed h1.heads) (by decide) hg) hob (by decide) _ _
theorem CloSt.setC {rb : Nat} {cells : Array Value} (h : CloSt w0 w ob vn vs H rows st O) (hb : w.heap[rb]? = some (.cells cells 25 (0, 0))) (hne : ob ≠ rb) (hge : w0.heap.size ≤ rb) (j : Nat) (u : Value) : CloSt w0 (w.setCell ⟨rb, j, none⟩ u) ob vn vs H rows st O :=
  ⟨h.below.setCell hge _, blk_far h.obk hne _, Kd.R_set h.heads hb (by decide) _ _, h.len, fun i hd hi => ⟨(h.rows i hd hi).1, Kd.R_set (h.rows i hd hi).2 hb (by decide) _ _⟩, Kd.R_set h.start hb (by decide) _ _, h.oge⟩
theorem CloSt.drew (h : CloSt w0 w ob vn vs H rows st O) : CloSt w0 w.drew ob vn vs H rows st O := h.step (below_drew (Below.refl _ _))
/-- The copy as it is read. -/
theorem CloSt.net (h : CloSt w0 w ob vn vs H rows st O) (hm : rows.length ≤ 8192) (hr : ∀ k, (rows.getD k []).length ≤ 65536) :
    ∃ A c A' c', vn = .slice A rows.length c ∧ vs = .slice A' st.length c' ∧ NetC w A c A' c' rows st := by
  obtain ⟨A, c, e, hc, h1⟩ := Kd.R_reads h.heads
  obtain ⟨A', c', e', hc', h2⟩ := Kd.R_reads h.start
  refine ⟨A, c, A', c', by rw [← h.len]; exact e, e', ⟨?_, by rw [← h.len]; exact hc, h2, hc'⟩⟩
  obtain ⟨_, h4, h5⟩ := h1
  refine ⟨rfl, by omega, fun hp => ?_⟩
  obtain ⟨a, ea, h6⟩ := h5 (by rw [h.len]; exact hp)
  refine ⟨a, ea, fun j p hj => ?_⟩
  have hjl := (List.getElem?_eq_some_iff.1 hj).1
  obtain ⟨hd, hhd⟩ : ∃ hd, H[j]? = some hd := ⟨_, List.getElem?_eq_getElem (by rw [h.len]; exact hjl)⟩
  obtain ⟨cs, e1, e2, e3⟩ := h6 j hd hhd
  obtain ⟨e4, e5⟩ := h.rows j hd hhd
  have hp : rows.getD j [] = p := by rw [List.getD_eq_getElem?_getD, hj]; rfl
  rw [hp] at e4 e5
  obtain ⟨A2, k2, e6, h7, h8⟩ := Kd.R_reads e5
  refine ⟨[.slice A2 p.length k2], rfl, ⟨A2, k2, rfl, h7, h8⟩, fun i u hu => ?_⟩
  refine e3 i u ?_
  rw [← hu, ← e6]
  have : cs = [encH hd] := e2
  rw [this]
end

theorem KdH_M {w : World} {b : Nat} {okp : Nat → Prop} (h : Hdr) : KdH.M w b okp h [encH h] := rfl
/-- What clone hands back. -/
structure Cloned (w0 w : World) (ob : Nat) (vn vs : Value) (nx : List (List Int)) (st : List Int) : Prop where
  st : ∃ (H : List Hdr) (O : Nat → Nat), CloSt w0 w ob vn vs H nx st O

def tT_25_5 : Bool × List (List Nat × List Nat) := (true, [([], []), ([0], [0]), ([], []), ([2], [2]), ([3], [3]), ([1, 4, 3], [1, 4]), ([0, 1, 2, 3, 4, 5], []), ([6, 5, 5, 0, 1, 2, 3, 4, 5], [5, 6])])
def tB_25_5 : List Nat := [0, 1, 0, 4, 12, 31, 63, 127]
theorem tab_25_5 : rtab .any (opsOf Try.f25 5) = tT_25_5 := by kernel_rfl
theorem bits_25_5 : waitsOk tT_25_5.2 tB_25_5 = true := by kernel_rfl
set_option maxRecDepth 100000 in
set_option maxHeartbeats 4000000 in
theorem f25_any (A0 : Option Addr) (c0 : Nat) (A1 : Option Addr) (c1 : Nat) (nx : List (List Int)) (st : List Int) (w : World) (hn : NetC w A0 c0 A1 c1 nx st) (hf : Few nx st) :
    Calls Try.prog 25 #[.agg #[.slice A0 nx.length c0, .slice A1 st.length c1]] w fun e w' => ∃ ob vn vs, e = .returned (.agg #[vn, vs]) ∧ Cloned w w' ob vn vs nx st := by
  have HN := Aside0.mk hn
  have HF := Aside0.mk hf
  have hL0 : nx.length ≤ 40 := hf.len
  clear hn hf
  have HB0 : Aside0 (∀ cs cs' : Array Value, Below w.heap.size w ((w.alloc (.cells cs 25)).alloc (.cells cs' 25))) := ⟨fun _ _ => ((Below.refl _ _).alloc (Nat.le_refl _) _).alloc (by simp) _⟩
  go_enter Try.func25, Try.ntmps25
  go_wp2_with fail
  refine (f53_any A1 c1 st _ (Kd.C_below HN.out.start (HB0.out _ _)) (by have := HF.out.starts; omega)).mono ?_
  rintro e w1 ⟨vs, rfl, hr, hb⟩
  obtain ⟨AS, kS, eS⟩ := Kd.R_slice hr
  subst eS
  obtain ⟨hb1, hz⟩ : Below w.heap.size w w1 ∧ w.heap.size + 1 < w1.heap.size := by
    have h := (HB0.out #[.slice A0 nx.length c0, .slice A1 st.length c1] #[.slice none 0 0, .slice none 0 0])
    refine ⟨h.trans (hb.mono h.size), ?_⟩
    have := hb.size
    simp at this
    omega
  have hibk := blk_below (blk_alloc (blk_new w (.cells #[.slice A0 nx.length c0, .slice A1 st.length c1] 25)) (.cells #[.slice none 0 0, .slice none 0 0] 25)) hb
  have hrbk : w1.heap[w.heap.size + 1]? = some (.cells #[.slice none 0 0, .slice none 0 0] 25 (0, 0)) := by
    refine blk_below ?_ hb
    have := blk_new (w.alloc (.cells #[.slice A0 nx.length c0, .slice A1 st.length c1] 25)) (.cells #[.slice none 0 0, .slice none 0 0] 25)
    simpa using this
  have HS := Aside0.mk (Kd.R_lower hr (HB0.out #[.slice A0 nx.length c0, .slice A1 st.length c1] #[.slice none 0 0, .slice none 0 0]).size)
  have HIB := Aside0.mk hibk
  have HRB := Aside0.mk hrbk
  have HB1 := Aside0.mk hb1
  clear hr hb hb1 hibk hrbk
  obtain ⟨hn0, hn1⟩ := box2 HIB.out
  have hza : w.heap.size < w1.heap.size := by omega
  have hob0 : (w1.alloc (.cells #[.slice none 0 0, .slice AS st.length kS] 25)).heap[w1.heap.size]? = some (.cells #[.slice none 0 0, .slice AS st.length kS] 25 (0, 0)) := blk_new _ _
  have HC0 : Aside0 (CloSt w (w1.alloc (.cells #[.slice none 0 0, .slice AS st.length kS] 25)) w1.heap.size (.slice none 0 0) (.slice AS st.length kS) [] (nx.take (0 : Int).toNat) st (fun _ => 1)) := ⟨⟨HB1.out.alloc HB1.out.size _, hob0, Kd.R_nil _ _ _ _ _, rfl, fun i h hi => by simp at hi, Kd.R_mono (Kd.R_alloc HS.out _) (fun _ _ => rfl), HB1.out.size⟩⟩
  have HI0 := Aside0.mk (blk_alloc HIB.out (.cells #[.slice none 0 0, .slice AS st.length kS] 25))
  have HR0 := Aside0.mk (blk_alloc HRB.out (.cells #[.slice none 0 0, .slice AS st.length kS] 25))
  clear HS hob0
  go_wp2_with fail
  generalize (w1.alloc (.cells #[.slice none 0 0, .slice AS st.length kS] 25)) = w2 at HC0 HI0 HR0 ⊢
  obtain ⟨ob, hobe⟩ : ∃ ob, ob = w1.heap.size := ⟨_, rfl⟩
  have hob1 : w.heap.size + 1 < ob := by omega
  rw [← hobe] at HC0 ⊢
  clear hobe hza hz hn0 hn1 HIB HRB HB1
  go_loopw [13] (fun v13 wr => ∃ (i : Int) (vn : Value) (H : List Hdr) (O : Nat → Nat), v13 = .int .i64 i ∧ 0 ≤ i ∧ i ≤ nx.length ∧ Aside0 (CloSt w wr ob vn (.slice AS st.length kS) H (nx.take i.toNat) st O) ∧ Aside0 (wr.heap[w.heap.size]? = some (.cells #[.slice A0 nx.length c0, .slice A1 st.length c1] 25 (0, 0))) ∧ Aside0 (wr.heap[w.heap.size + 1]? = some (.cells #[.slice none 0 0, .slice none 0 0] 25 (0, 0)))) (fun v _ => nx.length - (intOf v).toNat)
  case atStart => exact ⟨0, _, [], _, rfl, by omega, by omega, HC0, HI0, HR0⟩
  case round =>
    clear HC0 HI0 HR0
    obtain ⟨i, vn, H, O, rfl, hi0, hi1, HC, HI, HR⟩ := hrel
    obtain ⟨ho0, ho1⟩ := box2 HC.out.obk
    by_cases hil : i < nx.length
    case neg =>
      have hie : nx.take i.toNat = nx := List.take_of_length_le (by omega)
      have hcc := HC.out
      rw [hie] at hcc
      have HCC := Aside0.mk hcc
      clear hie hcc HC
      obtain ⟨AN, kN, eN⟩ := Kd.R_slice HCC.out.heads
      subst eN
      obtain ⟨hr0, hr1⟩ := box2 HR.out
      have hf0 := blk_frozen HR.out 0
      have hne : ob ≠ w.heap.size + 1 := by omega
      have hb1 := blk_put HR.out 0 (.slice AN H.length kN) rfl
      have hc1 := HCC.out.setC HR.out hne (by omega) 0 (.slice AN H.length kN)
      have hr2 := (box2 hb1).2
      have hf2 := blk_frozen hb1 1
      have hb2 := blk_put hb1 1 (.slice AS st.length kS) rfl
      have HC2 := Aside0.mk (hc1.setC hb1 hne (by omega) 1 (.slice AS st.length kS))
      have HB2 := Aside0.mk hb2
      clear hb1 hb2 hc1
      go_wp2_with fail
      refine bodyPost_ret (results_cell_row rfl _ _ (w.heap.size + 1) 25 #[.slice AN H.length kN, .slice AS st.length kS] (0, 0) _ rfl HB2.out Try.underlying25 rfl (by kernel_rfl)) rfl ?_
      exact ⟨ob, _, _, rfl, ⟨⟨_, _, HC2.out⟩⟩⟩
    obtain ⟨ad, B, c, l, e, HL, hc2, hcap, hr⟩ := at_slice_n HN.out.next i hi0 hil
    cases e
    have hc3 := (HC.out.below.cell (World.block_lt_of_cell? w _ hc2)).trans hc2
    have HRL := Aside0.mk hr
    clear hr hc2 hcap
    have hl4 : l.length ≤ 400 := by rw [HL.out]; exact HF.out.next _
    have hsn : nx.take (i + 1).toNat = nx.take i.toNat ++ [l] := by
      rw [show (i + 1).toNat = i.toNat + 1 from by omega, List.take_succ_eq_append_getElem (by omega), HL.out]
      simp [List.getD_eq_getElem?_getD, List.getElem?_eq_getElem (by omega : i.toNat < nx.length)]
    have HSN := Aside0.mk hsn
    have hHl : H.length ≤ 40 := by rw [HC.out.len, List.length_take]; omega
    have HTL : Aside0 (i.toNat = (nx.take i.toNat).length) := ⟨by rw [List.length_take]; omega⟩
    clear hsn HL
    go_wp2_with fail
    have HC' := Aside0.mk HC.out.drew
    have HI' : Aside0 (wr.drew.heap[w.heap.size]? = some (.cells #[.slice (some ad) nx.length c0, .slice A1 st.length c1] 25 (0, 0))) := HI
    have HR' : Aside0 (wr.drew.heap[w.heap.size + 1]? = some (.cells #[.slice none 0 0, .slice none 0 0] 25 (0, 0))) := HR
    clear HC HI HR
    have HC := HC'
    have HI := HI'
    have HR := HR'
    clear HC' HI' HR'
    refine start_ (n := 8) (S := fun w' => w'.cell? ⟨ob, 0, none⟩ = some vn) (ds := [7]) #[false, false, false, false, false, false, false, false] (by kernel_rfl) rfl rfl ho0 (fun hHeld => ?_)
    refine with_tabW tab_25_5 bits_25_5 (fun HT_ HW_ => ?_)
    generalize wr.drew = wd at HC HI HR hHeld ⊢
    refine pure_ (i := 0) (N := some 17) (v := ?_) (a' := ?_) #[true, false, false, false, false, false, false, false] rfl rfl (any_of HT_.out (by kernel_rfl)) (fun _ _ _ h => h) (Or.inl ⟨by rfl, ?_⟩) ?_ ?_
    rotate_left
    · intro w'
      go_simp
      with_reducible rfl
    rotate_left
    · simp only [Act.put, List.setIfInBounds_toArray, List.set_cons_zero, List.set_cons_succ, i64_w, i32_w]
      rfl
    refine pure_ (i := 2) (N := some 19) (v := ?_) (a' := ?_) #[true, false, true, false, false, false, false, false] rfl rfl (any_of HT_.out (by kernel_rfl)) (fun _ _ _ h => h) (Or.inl ⟨by rfl, ?_⟩) ?_ ?_
    rotate_left
    · intro w'
      go_simp
      with_reducible rfl
    rotate_left
    · simp only [Act.put, List.setIfInBounds_toArray, List.set_cons_zero, List.set_cons_succ, i64_w, i32_w]
      rfl
    refine take_ (i := 1) (N := some 18) (v := ?_) (a' := ?_) #[true, true, true, false, false, false, false, false] rfl rfl (take_ofW HT_.out HW_.out (by kernel_rfl)) (fun _ _ _ h => h) (Or.inl ⟨by rfl, ?_⟩) hHeld ?_ ?_
    rotate_left
    · rintro w' s0
      go_simp
      with_reducible rfl
    rotate_left
    · simp only [Act.put, List.setIfInBounds_toArray, List.set_cons_zero, List.set_cons_succ, i64_w, i32_w]
      rfl
    refine one_ (i := 3) (N := some 20) #[true, true, true, true, false, false, false, false] rfl rfl (one_of HT_.out (by kernel_rfl)) (by decide) (fun K hK => ?_)
    refine goes_ Try.func53 (by kernel_rfl) rfl #[.slice B l.length c] (by rfl) rfl rfl (by simp only [List.map_toArray, List.map_cons, List.map_nil]; rfl) ?_
    refine (f53_any B c l _ (Kd.C_below HRL.out HC.out.below) (by omega)).mono ?_
    rintro e w3 ⟨v3, rfl, hr, hb⟩
    obtain ⟨A3, k3, e3⟩ := Kd.R_slice hr
    subst e3
    have HL3 := Aside0.mk hr
    have HB3 := Aside0.mk hb
    clear hr hb
    refine ⟨_, rfl, ?_⟩
    refine hK.out _ _ ?_ ?_
    · exact (box2 (blk_below HC.out.obk HB3.out)).1
    clear hK K
    intro hHeld
    refine one_ (i := 4) (N := some 21) #[true, true, true, true, true, false, false, false] rfl rfl (one_of HT_.out (by kernel_rfl)) (by decide) (fun K hK => ?_)
    refine event_step (w1 := ?_) (v := ?_) (by rfl) ?_ ?_
    rotate_left 2
    · go_simp
      constructor <;> rfl
    refine hK.out _ _ ?_ ?_
    · exact (box2 (blk_alloc (blk_below HC.out.obk HB3.out) _)).1
    clear hK K
    intro hHeld
    refine one_ (i := 5) (N := some 22) #[true, true, true, true, true, true, false, false] rfl rfl (one_of HT_.out (by kernel_rfl)) (by decide) (fun K hK => ?_)
    refine Kd.R_append_step KdH (w0 := w) w.heap.size (by rfl) (.tmp 18) (.tmp 21) 22 23 (.slice none 0 0) 24 rfl Try.underlying22 info23 rfl (by decide) (by omega) vn H (A3, l.length, k3) [.slice A3 l.length k3] (fun _ => True) (fun _ => False) (by rfl) (by rfl) ?aP (fun _ hk => hk.elim) (fun _ _ => trivial) ?aO ?aB ?aS ?aL ?_
    case aP => exact rfl
    case aO => exact (HC.out.step HB3.out).heads
    case aB => exact (HC.out.step HB3.out).below
    case aS => exact (HC.out.step HB3.out).below.size
    case aL => omega
    intro v1 w4 ho hb hg hat
    obtain ⟨A1', k1, e1⟩ := Kd.R_slice ho
    rw [List.length_append, List.length_singleton] at e1
    subst e1
    have H1 := Aside0.mk (HC.out.more (j := i.toNat) HTL.out HB3.out HL3.out rfl ho hb hg)
    have HI4 := Aside0.mk (blk_grown (blk_below HI.out HB3.out) hg (Kd.R_ne (HC.out.step HB3.out).heads (blk_below HI.out HB3.out) (by decide)))
    have HR4 := Aside0.mk (blk_grown (blk_below HR.out HB3.out) hg (Kd.R_ne (HC.out.step HB3.out).heads (blk_below HR.out HB3.out) (by decide)))
    have hoc1 := (box2 H1.out.1).1
    have hof1 := blk_frozen H1.out.1 0
    clear ho hb hg hat
    refine hK.out _ _ ?_ ?_
    · exact hoc1
    clear hK K
    intro hHeld
    refine pure_ (i := 6) (N := some 23) (v := ?_) (a' := ?_) #[true, true, true, true, true, true, true, false] rfl rfl (any_of HT_.out (by kernel_rfl)) (fun _ _ _ h => h) (Or.inl ⟨by rfl, ?_⟩) ?_ ?_
    rotate_left
    · intro w'
      go_simp
      with_reducible rfl
    rotate_left
    · simp only [Act.put, List.setIfInBounds_toArray, List.set_cons_zero, List.set_cons_succ, i64_w, i32_w]
      rfl
    refine last_ (i := 7) (N := none) #[true, true, true, true, true, true, true, true] rfl rfl (one_of HT_.out (by kernel_rfl)) (by decide) (fun K hK => ?_)
    refine skip_ (w1 := ?_) (by rfl) rfl ?_ ?_
    rotate_left
    · go_simp
      rfl
    refine hK.out _ _ ?_
    clear hK K
    refine done_ (done_of HT_.out (by kernel_rfl)) ?_
    go_wp2_with fail
    go_roundw
    case rel => exact ⟨i + 1, _, _, _, rfl, by omega, by omega, ⟨by rw [HSN.out]; exact H1.out.2⟩, ⟨blk_far HI4.out (show w.heap.size ≠ ob from by omega) _⟩, ⟨blk_far HR4.out (show w.heap.size + 1 ≠ ob from by omega) _⟩⟩
    case measure => simp [intOf]; omega
end Go.Proofs.Ytgbmebnfbhdpiaa
