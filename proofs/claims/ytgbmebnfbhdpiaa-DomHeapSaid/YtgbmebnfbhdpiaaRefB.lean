/- The walks of the document's without and Reach: a list that grows by whole rows; they answer what the plain relation says. -/
import Derived.Test.YtgbmebnfbhdpiaaRefA
import Derived.Test.YtgbmebnfbhdpiaaGoneF
set_option linter.unusedSimpArgs false
set_option linter.unusedVariables false
namespace Go.Proofs.Ytgbmebnfbhdpiaa
open Go.RowKit Go.Proofs.YtgbmebnfbhdpiaaW.PrintWords Go.Proofs.YtgbmebnfbhdpiaaW.PrintLast

/-- How many numbers the lists of those that are seen hold. -/
def seenLen : List (List Int) → List Bool → Nat
  | l :: nx, b :: s => (if b then l.length else 0) + seenLen nx s
  | _, _ => 0
theorem seenLen_none : ∀ (nx : List (List Int)) (n : Nat), seenLen nx (List.replicate n false) = 0
  | [], n => by cases n <;> rfl
  | l :: nx, 0 => rfl
  | l :: nx, n + 1 => by simp [List.replicate_succ, seenLen, seenLen_none nx n]
theorem seenLen_le : ∀ (nx : List (List Int)) (s : List Bool), seenLen nx s ≤ sumLen nx
  | [], s => by cases s <;> simp [seenLen]
  | l :: nx, [] => by simp [seenLen]
  | l :: nx, b :: s => by
    have := seenLen_le nx s
    simp only [seenLen, sumLen, List.map_cons, List.sum_cons] at *
    split <;> omega
theorem seenLen_set : ∀ (nx : List (List Int)) (s : List Bool) (k : Nat), k < s.length → s.length = nx.length → s.getD k false = false → seenLen nx (s.set k true) = seenLen nx s + (nx.getD k []).length
  | [], s, k, h, e, _ => by simp at e; subst e; simp at h
  | l :: nx, [], k, h, e, _ => by simp at h
  | l :: nx, b :: s, 0, h, e, hf => by simp at hf; subst hf; simp [seenLen]; omega
  | l :: nx, b :: s, k + 1, h, e, hf => by
    have := seenLen_set nx s k (by simpa using h) (by simpa using e) (by simpa using hf)
    simp only [List.set_cons_succ, seenLen, this, List.getD_cons_succ]; omega

/-- What the list holds while it is gone through. -/
structure Wan (nx : List (List Int)) (st : List Int) (but : Int) (k : Nat) (s : List Bool) (l : List Int) : Prop where
  len : s.length = nx.length
  cnt : l.length = st.length + seenLen nx s
  rng : ∀ x ∈ l, 0 ≤ x ∧ x < nx.length
  snd : ∀ x ∈ l, x ≠ but → Reach nx st but x
  sn : ∀ x : Int, 0 ≤ x → x < nx.length → rdOf false s x = true → Reach nx st but x
  all : ∀ x ∈ st, x ∈ l
  cls : ∀ x : Int, 0 ≤ x → x < nx.length → rdOf false s x = true → ∀ y ∈ succs nx x, y ∈ l
  done : ∀ j x, j < k → l[j]? = some x → x = but ∨ rdOf false s x = true
theorem rdOf_none (n : Nat) (x : Int) : rdOf false (List.replicate n false) x = false := by
  unfold rdOf; rw [List.getD_eq_getElem?_getD, List.getElem?_replicate]; split <;> rfl
section
variable {nx : List (List Int)} {st : List Int} {but : Int} {k : Nat} {s : List Bool} {l : List Int}
theorem wan_start (hg : Good nx st) (but : Int) : Wan nx st but 0 (List.replicate nx.length false) st where
  len := by simp
  cnt := by rw [seenLen_none]; rfl
  rng := hg.starts
  snd := fun x hx hb => .start hx hb
  sn := fun x _ _ h => by rw [rdOf_none] at h; cases h
  all := fun x hx => hx
  cls := fun x _ _ h => by rw [rdOf_none] at h; cases h
  done := fun j x hj => absurd hj (Nat.not_lt_zero _)
theorem Wan.skip (h : Wan nx st but k s l) {x : Int} (hx : l[k]? = some x) (hs : x = but ∨ rdOf false s x = true) : Wan nx st but (k + 1) s l :=
  ⟨h.len, h.cnt, h.rng, h.snd, h.sn, h.all, h.cls, fun j y hj hy => by
    by_cases c : j < k
    · exact h.done j y c hy
    · obtain rfl : j = k := by omega
      rw [hx] at hy; cases hy; exact hs⟩
theorem Wan.step (hg : Good nx st) (h : Wan nx st but k s l) {x : Int} (hx : l[k]? = some x) (hb : x ≠ but) (hf : rdOf false s x = false) : Wan nx st but (k + 1) (s.set x.toNat true) (l ++ succs nx x) := by
  have hxl := List.mem_of_getElem? hx
  have hr := h.rng x hxl
  have hR := h.snd x hxl hb
  have hkl : k < l.length := (List.getElem?_eq_some_iff.1 hx).1
  refine ⟨by rw [List.length_set]; exact h.len, ?_, fun y hy => ?_, fun y hy hyb => ?_, fun y h0 h1 hy => ?_, fun y hy => List.mem_append_left _ (h.all y hy), fun y h0 h1 hy z hz => ?_, fun j y hj hy => ?_⟩
  · rw [seenLen_set nx s x.toNat (by rw [h.len]; omega) h.len hf, List.length_append, h.cnt]
    unfold succs; omega
  · rcases List.mem_append.1 hy with hy | hy
    · exact h.rng y hy
    · exact hg.next _ y hy
  · rcases List.mem_append.1 hy with hy | hy
    · exact h.snd y hy hyb
    · exact .step hR hy hyb
  · rcases (rdOf_set s x y hr.1 (by rw [h.len]; exact hr.2) h0).1 hy with e | e
    · subst e; exact hR
    · exact h.sn y h0 h1 e
  · rcases (rdOf_set s x y hr.1 (by rw [h.len]; exact hr.2) h0).1 hy with e | e
    · subst e; exact List.mem_append_right _ hz
    · exact List.mem_append_left _ (h.cls y h0 h1 e z hz)
  · rw [List.getElem?_append_left (by omega)] at hy
    have hy0 := (h.rng y (List.mem_of_getElem? hy)).1
    rw [rdOf_set s x y hr.1 (by rw [h.len]; exact hr.2) hy0]
    by_cases c : j < k
    · rcases h.done j y c hy with e | e
      · exact .inl e
      · exact .inr (.inr e)
    · obtain rfl : j = k := by omega
      rw [hx] at hy; cases hy; exact .inr (.inl rfl)
theorem Wan.bound (h : Wan nx st but k s l) (hs : st.length + sumLen nx ≤ 65536) : l.length ≤ 65536 := by
  have := h.cnt
  have := seenLen_le nx s
  omega
theorem Wan.fin (hg : Good nx st) (h : Wan nx st but k s l) (hk : l.length ≤ k) : s = reachB nx st but := by
  have hd : ∀ x ∈ l, x = but ∨ rdOf false s x = true := fun x hx => by
    obtain ⟨j, hj, e⟩ := List.getElem_of_mem hx
    exact h.done j x (by omega) (by rw [List.getElem?_eq_getElem hj, e])
  refine eq_reachB h.len fun x h0 h1 => ⟨h.sn x h0 h1, fun hx => ?_⟩
  induction hx with
  | start hx hb => exact (hd _ (h.all _ hx)).resolve_left hb
  | @step x y hx hy hb ih =>
    have hl := hx.lt hg
    exact (hd _ (h.cls x hl.1 hl.2 (ih hl.1 hl.2) _ hy)).resolve_left hb
end
theorem sums_of_ok {nx : List (List Int)} {st : List Int} (h : netOk nx st = true) : st.length + sumLen nx ≤ 65536 := by
  unfold netOk at h
  simp only [Bool.and_eq_true, decide_eq_true_eq, Bool.not_eq_true'] at h
  exact h.1.1.2

/-- The memory while the list is gone through. -/
structure WanSt (w0 w : World) (nb : Nat) (nbc : Array Value) (vs vl : Value) (s : List Bool) (l : List Int) : Prop where
  below : Below w0.heap.size w0 w
  nbk : w.heap[nb]? = some (.cells nbc 25 (0, 0))
  seen : Kd.R Kd.bool 4 w w0.heap.size (fun _ => True) vs s
  list : Kd.R (Kd.int .i64) 3 w w0.heap.size (fun _ => True) vl l
section
variable {w0 w : World} {nb : Nat} {nbc : Array Value} {vs vl : Value} {s : List Bool} {l : List Int}
theorem WanSt.put {g cap : Nat} (h : WanSt w0 w nb nbc (.slice (some ⟨g, 0, none⟩) s.length cap) vl s l) (x : Int) (h0 : 0 ≤ x) (h1 : x < s.length) :
    WanSt w0 (w.setCell ⟨g, x.toNat, none⟩ (.bool true)) nb nbc (.slice (some ⟨g, 0, none⟩) s.length cap) vl (s.set x.toNat true) l := by
  obtain ⟨g', cap', he, hbg, hgl, cells, hgc⟩ := Kd.R_form h.seen (by omega)
  have : g = g' := by injection he with he _ _; injection he with he; injection he
  subst this
  exact ⟨h.below.setCell hbg _, blk_far h.nbk (blk_ne h.nbk hgc (by decide)) _, (Kd.R_put h.seen x true).1, Kd.R_set h.list hgc (by decide) _ _⟩
theorem WanSt.drew (h : WanSt w0 w nb nbc vs vl s l) : WanSt w0 w.drew nb nbc vs vl s l := ⟨below_drew h.below, h.nbk, Kd.R_drew h.seen, Kd.R_drew h.list⟩
theorem WanSt.app {w1 : World} {v1 : Value} {m : List Int} (h : WanSt w0 w nb nbc vs vl s l) (ho : Kd.R (Kd.int .i64) 3 w1 w0.heap.size (fun _ => True) v1 m)
    (hb : Below w0.heap.size w0 w1) (hg : w.grownBy w1 vl.ownBlock) : WanSt w0 w1 nb nbc vs v1 s m :=
  ⟨hb, blk_grown h.nbk hg (Kd.R_ne h.list h.nbk (by decide)), Kd.R_over' h.seen (Kd.R_typed h.list) (by decide) hg, ho⟩
end

section
variable {P : Program} {ops : Array Oper} {rest : List Oper} {o : Oper} {a : Act} {Q : Exit → Act → World → Prop}
/-- append(v, ys...) over numbers. -/
theorem R_append_ints {w0 W : World} (base : Nat) (hgd : o.guard = none) (s x : Operand) (t e : TypeId) (z : Value) (bytes : Nat)
    (ho : o.op = .call { callee := .builtin .append, args := #[s, x], argTypes := #[t, t] })
    (ht : P.underlying t = some (.slice e)) (hinfo : (P.info? e).map (fun i => (i.zero, i.size, i.bytes)) = some (some z, 1, bytes)) (hz : z.cells.size = 1) (hb0 : 0 < bytes)
    (v : Value) (xs ys : List Int) (A : Option Addr) (m c : Nat) (hs : a.eval s = v) (hx : a.eval x = .slice A m c)
    (HO : (Kd.int .i64).R e W base (fun _ => True) v xs) (HR : (Kd.int .i64).C W A m ys) (HB : Below base w0 W) (hbase : base ≤ W.heap.size) (hl : (xs.length + m) * bytes ≤ 140737488355328)
    (h : ∀ v1 w1, (Kd.int .i64).R e w1 base (fun _ => True) v1 (xs ++ ys) → Below base w0 w1 → W.grownBy w1 v.ownBlock → wpList P ops Q rest (a.put o.dst v1) w1) :
    wpList P ops Q (o :: rest) a W :=
  Kd.R_append_row (fun z : Int => Value.int .i64 z) 0 (h1 := fun _ => rfl) base hgd s x t e z bytes ho ht hinfo hz hb0 v xs ys A m c (fun _ => True) hs hx (fun _ _ => trivial) HO HR HB hbase hl (fun v1 w1 h1 h2 h3 _ => h v1 w1 h1 h2 h3)
end

set_option maxRecDepth 100000 in
set_option maxHeartbeats 4000000 in
theorem f54_any (A0 : Option Addr) (c0 : Nat) (A1 : Option Addr) (c1 : Nat) (nx : List (List Int)) (st : List Int) (but : Int) (w : World) (hn : NetC w A0 c0 A1 c1 nx st) (hok : netOk nx st = true) :
    Calls Try.prog 54 #[.agg #[.slice A0 nx.length c0, .slice A1 st.length c1], .int .i64 but] w fun e w' => ∃ v, e = .returned v ∧ Kd.R Kd.bool 4 w' w.heap.size (fun _ => True) v (reachB nx st but) ∧ Below w.heap.size w w' := by
  have HN := Aside0.mk hn
  have HG := Aside0.mk (good_of_ok hok)
  have HSUM := Aside0.mk (sums_of_ok hok)
  have hL0 : nx.length ≤ 8192 := HG.out.len
  have hL1 : st.length ≤ 65536 := by have := HSUM.out; omega
  clear hn hok
  go_enter Try.func54, Try.ntmps54
  have HB0 : Aside0 (∀ cs : Array Value, Below w.heap.size w (w.alloc (.cells cs 25))) := ⟨fun _ => (Below.refl _ _).alloc (Nat.le_refl _) _⟩
  have HBK0 : Aside0 ((w.alloc (.cells #[.slice A0 nx.length c0, .slice A1 st.length c1] 25)).heap[w.heap.size]? = some (.cells #[.slice A0 nx.length c0, .slice A1 st.length c1] 25 (0, 0))) := ⟨blk_new _ _⟩
  go_wp2_with ((with_reducible refine gate_dst (N := 12) rfl ?_); go_loud (refine Kd.R_make Kd.bool (w0 := w) w.heap.size 4 rfl (N := 12) rfl 43 _ _ rfl (nx.length : Int) rfl rfl Try.underlying43 (.bool false) 1 info4 rfl (by decide) (by omega) false (ok := fun _ => True) (okp := fun _ => True) rfl (fun _ hk => hk) trivial (by omega) (by omega) (HB0.out _) (HB0.out _).size ?_; intro v12 w1 ho hb hgr hnew; clear hnew; obtain ⟨B12, k12, e12⟩ := Kd.R_slice ho; rw [List.length_replicate, Int.toNat_natCast] at e12; subst e12; rw [Int.toNat_natCast] at ho; have HO := Aside0.mk ho; have HB1 := Aside0.mk hb; have HBK1 := Aside0.mk (blk_grown HBK0.out hgr (by simp)); clear ho hb hgr))
  have HW0 : Aside0 (WanSt w w1 w.heap.size #[.slice A0 nx.length c0, .slice A1 st.length c1] (.slice B12 nx.length k12) (.slice none 0 0) (List.replicate nx.length false) []) := ⟨⟨HB1.out, HBK1.out, HO.out, Kd.R_nil _ _ _ _ _⟩⟩
  clear HO HB1 HBK1 HBK0 HB0
  go_loopw [7, 6] (fun v7 v6 wr => ∃ (i : Int) (AL : Option Addr) (kL : Nat), v7 = .int .i64 i ∧ v6 = .slice AL i.toNat kL ∧ 0 ≤ i ∧ i ≤ st.length ∧ Aside0 (WanSt w wr w.heap.size #[.slice A0 nx.length c0, .slice A1 st.length c1] (.slice B12 nx.length k12) (.slice AL i.toNat kL) (List.replicate nx.length false) (st.take i.toNat))) (fun v _ _ => st.length - (intOf v).toNat)
  case atStart => exact ⟨0, none, 0, rfl, rfl, by omega, by omega, HW0⟩
  case round =>
    clear HW0
    obtain ⟨i, AL, kL, rfl, rfl, hi0, hi1, HW⟩ := hrel
    obtain ⟨hn0, hn1⟩ := box2 HW.out.nbk
    by_cases hil : i < st.length
    · obtain ⟨ad, e, hc⟩ := Kd.at_int (Kd.C_below HN.out.start HW.out.below) i hi0 hil
      cases e
      have hsn : st.take (i + 1).toNat = st.take i.toNat ++ [rd st i] := by
        rw [show (i + 1).toNat = i.toNat + 1 from by omega, List.take_succ_eq_append_getElem (by omega)]
        simp [rd, List.getD_eq_getElem?_getD, List.getElem?_eq_getElem (by omega : i.toNat < st.length)]
      obtain ⟨x, hx⟩ : ∃ x, x = rd st i := ⟨_, rfl⟩
      rw [← hx] at hsn hc
      have HSN := Aside0.mk hsn
      clear hx hsn
      have htl : (st.take i.toNat).length = i.toNat := by rw [List.length_take]; omega
      have HTL := Aside0.mk htl
      clear htl
      go_wp2_with (at_builtin; go_loud (refine Kd.R_append (Kd.int .i64) (w0 := w) w.heap.size rfl (.tmp 20) (.tmp 26) 23 3 (.int .i64 0) 8 rfl Try.underlying23 info3 rfl (by decide) (by omega) (.slice AL i.toNat kL) (st.take i.toNat) x [.int .i64 x] (fun _ => True) (fun _ => False) rfl ?aX ?aP (fun _ hk => hk.elim) (fun _ _ => trivial) ?aO ?aB ?aS ?aL ?_; (case aP => exact rfl); (case aX => go_simp); (case aB => exact HW.out.below); (case aO => exact HW.out.list); (case aS => exact HW.out.below.size); (case aL => have := HTL.out; omega); intro v1 w2 ho hb hg hat; obtain ⟨A1', k1, e1⟩ := Kd.R_slice ho; rw [List.length_append, List.length_singleton, HTL.out, show i.toNat + 1 = (i + 1).toNat from by omega] at e1; subst e1; rw [← HSN.out] at ho; have H1 := Aside0.mk (HW.out.app ho hb hg); clear ho hb hg hat))
      go_roundw
      case rel => exact ⟨i + 1, A1', k1, rfl, rfl, by omega, by omega, H1⟩
      case measure => simp [intOf]; omega
    have hie : st.take i.toNat = st := List.take_of_length_le (by omega)
    have HW1 := HW.out
    rw [hie] at HW1
    rw [show i.toNat = st.length from by omega] at HW1 ⊢
    replace HW := Aside0.mk HW1
    clear hie HW1
    go_wp2_with fail
    clear hn0 hn1
    have HWN := Aside0.mk (wan_start HG.out but)
    go_loopw [8, 6] (fun v8 v6 wr => ∃ (j : Int) (AL : Option Addr) (kL : Nat) (s : List Bool) (l : List Int), v8 = .int .i64 j ∧ v6 = .slice AL l.length kL ∧ 0 ≤ j ∧ j ≤ l.length ∧ Aside0 (Wan nx st but j.toNat s l) ∧ Aside0 (WanSt w wr w.heap.size #[.slice A0 nx.length c0, .slice A1 st.length c1] (.slice B12 nx.length k12) (.slice AL l.length kL) s l)) (fun v _ _ => 65536 - (intOf v).toNat)
    case atStart => exact ⟨0, AL, kL, _, st, rfl, rfl, by omega, by omega, HWN, HW⟩
    case round =>
      clear HW HWN
      obtain ⟨j, AL, kL, s, l, rfl, rfl, hj0, hj1, HWN, HW⟩ := hrel
      have hll : l.length ≤ 65536 := HWN.out.bound HSUM.out
      have hsl : s.length = nx.length := HWN.out.len
      by_cases hjl : j < l.length
      case neg =>
        go_wp2_with fail
        go_ret
        refine ⟨_, rfl, ?_, HW.out.below⟩
        rw [← HWN.out.fin HG.out (by omega)]
        exact HW.out.seen
      obtain ⟨ad, e, hc⟩ := Kd.at_int (Kd.R_reads' HW.out.list).2.2 j hj0 hjl
      cases e
      have hlx : l[j.toNat]? = some (rd l j) := by
        rw [rd, List.getD_eq_getElem?_getD, List.getElem?_eq_getElem (by omega : j.toNat < l.length)]; rfl
      obtain ⟨x, hx⟩ : ∃ x, x = rd l j := ⟨_, rfl⟩
      rw [← hx] at hlx hc
      clear hx
      obtain ⟨hx0, hx1⟩ := HWN.out.rng x (List.mem_of_getElem? hlx)
      have HLX := Aside0.mk hlx
      clear hlx
      by_cases hb : x = but
      · have hbb : (x == but) = true := by simp [hb]
        have HBU := Aside0.mk hb
        clear hb
        go_wp2_with fail
        go_roundw
        case rel => exact ⟨j + 1, _, kL, s, l, rfl, rfl, by omega, by omega, ⟨by rw [show (j + 1).toNat = j.toNat + 1 from by omega]; exact HWN.out.skip HLX.out (.inl HBU.out)⟩, HW⟩
        case measure => simp [intOf]; omega
      have hbb : (x == but) = false := by simp [hb]
      have HBU := Aside0.mk hb
      clear hb
      have hfo := Kd.R_form HW.out.seen (by omega)
      rw [hsl] at hfo
      obtain ⟨g, cap, hvs, hbg, hgl, cells, hgc⟩ := hfo
      cases hvs
      obtain ⟨hxc, hxf⟩ := R_celln false HW.out.seen x hx0 hx1
      clear cells hgc
      by_cases hse : rdOf false s x = true
      · have HSE := Aside0.mk hse
        rw [hse] at hxc
        clear hse
        go_wp2_with fail
        go_roundw
        case rel => exact ⟨j + 1, _, kL, s, l, rfl, rfl, by omega, by omega, ⟨by rw [show (j + 1).toNat = j.toNat + 1 from by omega]; exact HWN.out.skip HLX.out (.inr HSE.out)⟩, HW⟩
        case measure => simp [intOf]; omega
      rw [Bool.not_eq_true] at hse
      rw [hse] at hxc
      have HWN2 := Aside0.mk (HWN.out.step HG.out HLX.out HBU.out hse)
      have hll2 : (l ++ succs nx x).length ≤ 65536 := HWN2.out.bound HSUM.out
      clear hse
      have hw1 := HW.out
      rw [← hsl] at hw1
      have hw2 := (hw1.put x hx0 (by omega))
      rw [hsl] at hw2
      have HW2 := Aside0.mk hw2
      have HW3 := Aside0.mk hw2.drew
      clear hw1 hw2
      obtain ⟨ad2, B, c, m, e, HM, hc2, hcap, hr⟩ := at_slice_n HN.out.next x hx0 hx1
      cases e
      have hc3 := (HW2.out.below.cell (World.block_lt_of_cell? w _ hc2)).trans hc2
      have HR := Aside0.mk (Kd.C_below hr HW2.out.below)
      have hm2 : m = succs nx x := HM.out
      rw [← hm2] at HWN2 hll2
      clear hc2 hcap hr hm2 HM
      rw [List.length_append] at hll2
      have hct := hc
      obtain ⟨hn0, hn1⟩ := box2 HW2.out.nbk
      obtain ⟨adt, e, hct⟩ := Kd.at_int (Kd.R_reads' HW2.out.list).2.2 j hj0 hjl
      cases e
      have hxe : rd l j = x := by
        have := HLX.out
        rw [List.getElem?_eq_getElem (by omega : j.toNat < l.length)] at this
        rw [rd, List.getD_eq_getElem?_getD, List.getElem?_eq_getElem (by omega : j.toNat < l.length)]; simpa using this
      rw [hxe] at hct
      clear hxe
      go_wp2_with fail
      generalize (wr.setCell ⟨g, x.toNat, none⟩ (.bool true)) = wq at HW2 HW3 HR hc3 hn0 hn1 hct ⊢
      clear HW hxc hxf hc
      go_still_tail 9, (by kernel_rfl)
      go_wp2_with (at_builtin; go_loud (refine R_append_ints (w0 := w) w.heap.size rfl (.tmp 55) (.tmp 63) 23 3 (.int .i64 0) 8 rfl Try.underlying23 info3 rfl (by decide) _ l m B m.length c rfl rfl HW3.out.list (Kd.C_below HR.out (below_drew (Below.refl _ _))) HW3.out.below HW3.out.below.size (by omega) ?_; intro v1 w2 ho hb hg; obtain ⟨A1', k1, e1⟩ := Kd.R_slice ho; subst e1; have H1 := Aside0.mk (HW3.out.app ho hb hg); clear ho hb hg))
      go_roundw
      case rel => exact ⟨j + 1, A1', k1, _, l ++ m, rfl, by rw [List.length_append], by omega, by rw [List.length_append]; omega, ⟨by rw [show (j + 1).toNat = j.toNat + 1 from by omega]; exact HWN2.out⟩, H1⟩
      case measure => simp [intOf]; omega
set_option maxHeartbeats 1000000 in
theorem f26_any (A0 : Option Addr) (c0 : Nat) (A1 : Option Addr) (c1 : Nat) (nx : List (List Int)) (st : List Int) (w : World) (hn : NetC w A0 c0 A1 c1 nx st) :
    Calls Try.prog 26 #[.agg #[.slice A0 nx.length c0, .slice A1 st.length c1]] w fun e w' => ∃ v, e = .returned (.tuple #[v, .int .i64 (checkE nx st)]) ∧ Kd.R Kd.bool 4 w' w.heap.size (fun _ => True) v (reachA nx st) ∧ Below w.heap.size w w' := by
  have HN := Aside0.mk hn
  clear hn
  have HB0 : Aside0 (∀ cs : Array Value, Below w.heap.size w (w.alloc (.cells cs 25))) := ⟨fun _ => (Below.refl _ _).alloc (Nat.le_refl _) _⟩
  go_enter Try.func26, Try.ntmps26
  go_wp2_with fail
  refine (f29_any A0 c0 A1 c1 nx st _ (HN.out.below (HB0.out _))).mono ?_
  rintro e w1 ⟨rfl, hb⟩
  obtain ⟨hbk, hz, hb1⟩ := boxed hb
  obtain ⟨hn0, hn1⟩ := box2 hbk
  have HB1 := Aside0.mk hb1
  clear hb hb1 hbk
  by_cases hok : netOk nx st = true
  · rw [checkE_ok hok]
    have HOK := Aside0.mk hok
    clear hok
    go_wp2_with fail
    refine (f54_any A0 c0 A1 c1 nx st (-1) _ (HN.out.below HB1.out) HOK.out).mono ?_
    rintro e w2 ⟨v, rfl, hr, hb2⟩
    have HR := Aside0.mk hr
    have HB2 := Aside0.mk hb2
    clear hr hb2
    go_wp2
    go_ret2
    refine ⟨v, ret_vi (checkE_ok HOK.out).symm, ?_, below_trans HB1.out HB2.out⟩
    rw [reachA_ok HOK.out]
    exact Kd.R_lower HR.out HB1.out.size
  · rw [Bool.not_eq_true] at hok
    rw [checkE_bad hok]
    have HOK := Aside0.mk hok
    clear hok
    go_wp2_with fail
    go_ret2
    exact ⟨_, ret_vi (checkE_bad HOK.out).symm, by rw [reachA_bad HOK.out]; exact Kd.R_nil _ _ _ _ _, HB1.out⟩
end Go.Proofs.Ytgbmebnfbhdpiaa
