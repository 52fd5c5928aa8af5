/- The walk of dom's ordered: the nodes that are reached, each behind all but those that lead back to it. -/
import Derived.Test.YtgbmebnfbhdpiaaOrdMem
import Derived.Deep.QuietTactic
import Derived.BigQuiet
import Derived.StillTailTactics
import Derived.Deep.RegionLaw
import Derived.Deep.DeepCutAuto
set_option linter.unusedSimpArgs false
set_option linter.unusedVariables false
namespace Go.Proofs.Ytgbmebnfbhdpiaa
open Go.RowKit Go.Proofs.YtgbmebnfbhdpiaaW.PrintWords Go.Proofs.YtgbmebnfbhdpiaaW.PrintLast

theorem made1 (z : Value) (hz : z.cells = #[z]) (n : Nat) : madeCells z.cells n = (List.replicate n z).toArray := by
  rw [hz]
  apply Array.ext
  · simp [madeCells]
  · intro i h1 h2
    simp [madeCells, Nat.mod_one]
theorem run_make3 (n : Nat) (hn : n ≤ 8192) (W : World) : (Instr.makeSlice 23 (.int .i64 (n : Int)) (.int .i64 (n : Int))).run Try.prog W = .ok (.slice (some ⟨W.heap.size, 0, none⟩) n n) (W.alloc (.cells (List.replicate n (Value.int .i64 0)).toArray 3)) := by
  obtain ⟨i0, hi, hzz⟩ := Option.map_eq_some_iff.1 info3
  simp only [Prod.mk.injEq] at hzz
  obtain ⟨hz0, hz1, hz2⟩ := hzz
  have := run_make (P := Try.prog) W 23 3 i0 _ Try.underlying23 hi hz0 .i64 .i64 (n : Int) (n : Int) (by omega) (by omega) (by rw [hz2]; omega) (by omega)
  rw [this, Int.toNat_natCast, hz1, Nat.mul_one, made1 _ rfl]
theorem run_make22 (n : Nat) (hn : n ≤ 8192) (W : World) : (Instr.makeSlice 22 (.int .i64 (n : Int)) (.int .i64 (n : Int))).run Try.prog W = .ok (.slice (some ⟨W.heap.size, 0, none⟩) n n) (W.alloc (.cells (List.replicate n (Value.slice none 0 0)).toArray 23)) := by
  obtain ⟨i0, hi, hzz⟩ := Option.map_eq_some_iff.1 info23
  simp only [Prod.mk.injEq] at hzz
  obtain ⟨hz0, hz1, hz2⟩ := hzz
  have := run_make (P := Try.prog) W 22 23 i0 _ Try.underlying22 hi hz0 .i64 .i64 (n : Int) (n : Int) (by omega) (by omega) (by rw [hz2]; omega) (by omega)
  rw [this, Int.toNat_natCast, hz1, Nat.mul_one, made1 _ rfl]

/-- Nothing is done yet. -/
def ds0 (n : Nat) : DS := ⟨[], [], List.replicate n [], []⟩
theorem R_nums0 (w0 w : World) (g n : Nat) (hn : n ≤ 8192) (ok : Nat → Prop) (hok : ok g) (hb : w0.heap.size ≤ g) (h : w.heap[g]? = some (.cells (List.replicate n (Value.int .i64 0)).toArray 3 (0, 0))) :
    Kd.R (Kd.int .i64) 3 w w0.heap.size ok (.slice (some ⟨g, 0, none⟩) n n) (List.replicate n 0) := by
  have hl : (List.replicate n (0 : Int)).length = n := List.length_replicate
  have hk : ∀ k, (Value.slice (some ⟨g, 0, none⟩) n n).ownBlock = some k → ok k := fun k hk => by
    have : g = k := by simpa [Value.ownBlock] using hk
    subst this
    exact hok
  refine Kd.R_of_own (enc := Value.int .i64) ?_ hk
  rw [hl]
  exact ⟨by simp [encs], .inr ⟨g, n, _, rfl, hb, h, Nat.le_refl _, by simp only [maxLen]; omega, by simp, by simp [encs]⟩⟩
theorem ordInit {w w1 : World} {nb og hg pg : Nat} {nbc : Array Value} {n : Nat} (hn : n ≤ 8192) (hb : Below w.heap.size w w1) (h1 : w1.heap[nb]? = some (.cells nbc 25 (0, 0)))
    (h2 : w1.heap[og]? = some (.cells #[.slice none 0 0, .slice (some ⟨pg, 0, none⟩) n n, .slice (some ⟨hg, 0, none⟩) n n] 94 (0, 0)))
    (h3 : w1.heap[pg]? = some (.cells (List.replicate n (Value.int .i64 0)).toArray 3 (0, 0))) (h4 : w1.heap[hg]? = some (.cells (List.replicate n (Value.slice none 0 0)).toArray 23 (0, 0)))
    (g1 : w.heap.size ≤ nb) (g2 : w.heap.size ≤ og) (g3 : w.heap.size ≤ pg) (g4 : w.heap.size ≤ hg) :
    OrdMem w w1 nb og hg nbc (.slice none 0 0) (.slice none 0 0) (.slice none 0 0) (.slice (some ⟨pg, 0, none⟩) n n) n (fun _ => 1) (ds0 n) (List.replicate n 0) where
  below := hb
  nbk := h1
  ob := h2
  seen := Kd.R_nil _ _ _ _ _
  way := Kd.R_nil _ _ _ _ _
  list := Kd.R_nil _ _ _ _ _
  place := R_nums0 w w1 pg n hn _ rfl g3 h3
  rows := ⟨_, h4, by simp, fun i hi => ⟨.slice none 0 0, by rw [List.getElem?_replicate, if_pos hi], by
    have : (ds0 n).heads.getD i [] = [] := by simp [ds0, List.getD_eq_getElem?_getD, List.getElem?_replicate, hi]
    rw [this]; exact Kd.R_nil _ _ _ _ _⟩⟩
  nge := g1
  oge := g2
  hge := g4

theorem dfs_start (nx : List (List Int)) (st : List Int) (M : Nat) (hM : mu nx { ds0 nx.length with seen := List.replicate nx.length false } ≤ M) : Dfs nx st M { ds0 nx.length with seen := List.replicate nx.length false } := by
  have hz : ∀ y : Int, rdOf false (List.replicate nx.length false) y = false := fun y => by
    unfold rdOf; rw [List.getD_eq_getElem?_getD, List.getElem?_replicate]; split <;> rfl
  have hh : ∀ y : Int, headsAt (List.replicate nx.length []) y = [] := fun y => by
    unfold headsAt; rw [List.getD_eq_getElem?_getD, List.getElem?_replicate]; split <;> rfl
  refine ⟨by simp, by simp [ds0], by simp [ds0], fun x => ?_, fun x hx => by simp [ds0] at hx, fun x hx => by simp [ds0] at hx, fun p hp => by simp [ds0] at hp, fun y h _ _ => ?_, fun x hx => by simp [ds0] at hx, fun i p q hp => by simp [ds0] at hp, fun p hp => by simp [ds0] at hp, fun y _ _ => ?_⟩
  · simp [ds0, hz]
  · simp [ds0, hh]
  · show (headsAt (List.replicate nx.length []) y).length + _ ≤ M
    rw [hh]; simpa using hM

/-- What stands behind the literal that dom's ordered begins with. -/
def OrdFirst (w : World) (nbc : Array Value) (n : Nat) (v3 : Value) (wr : World) : Prop :=
  ∃ og hg pg, v3 = .pointer (some ⟨og, 0, none⟩) ∧ OrdMem w wr w.heap.size og hg nbc (.slice none 0 0) (.slice none 0 0) (.slice none 0 0) (.slice (some ⟨pg, 0, none⟩) n n) n (fun _ => 1) (ds0 n) (List.replicate n 0)
theorem ordFirstA (w : World) (nbc : Array Value) (n : Nat) (hn : n ≤ 8192) : OrdFirst w nbc n (.pointer (some ⟨w.heap.size + 1 + 1 + 1, 0, none⟩))
    ((((w.alloc (.cells nbc 25)).alloc (.cells (List.replicate n (Value.int .i64 0)).toArray 3)).alloc (.cells (List.replicate n (Value.slice none 0 0)).toArray 23)).alloc (.cells #[.slice none 0 0, .slice (some ⟨w.heap.size + 1, 0, none⟩) n n, .slice (some ⟨w.heap.size + 1 + 1, 0, none⟩) n n] 94)).drew := by
  refine ⟨_, w.heap.size + 1 + 1, w.heap.size + 1, rfl, OrdMem.drew (ordInit hn ?_ ?_ ?_ ?_ ?_ (Nat.le_refl _) (by omega) (by omega) (by omega))⟩
  · exact ((((Below.refl _ _).alloc (Nat.le_refl _) _).alloc (by simp) _).alloc (by simp; omega) _).alloc (by simp; omega) _
  · exact blk_alloc (blk_alloc (blk_alloc (blk_new _ _) _) _) _
  · have := blk_new (((w.alloc (.cells nbc 25)).alloc (.cells (List.replicate n (Value.int .i64 0)).toArray 3)).alloc (.cells (List.replicate n (Value.slice none 0 0)).toArray 23)) (.cells #[.slice none 0 0, .slice (some ⟨w.heap.size + 1, 0, none⟩) n n, .slice (some ⟨w.heap.size + 1 + 1, 0, none⟩) n n] 94)
    simpa using this
  · have := blk_new (w.alloc (.cells nbc 25)) (.cells (List.replicate n (Value.int .i64 0)).toArray 3)
    exact blk_alloc (blk_alloc (by simpa using this) _) _
  · have := blk_new ((w.alloc (.cells nbc 25)).alloc (.cells (List.replicate n (Value.int .i64 0)).toArray 3)) (.cells (List.replicate n (Value.slice none 0 0)).toArray 23)
    exact blk_alloc (by simpa using this) _
theorem ordFirstB (w : World) (nbc : Array Value) (n : Nat) (hn : n ≤ 8192) : OrdFirst w nbc n (.pointer (some ⟨w.heap.size + 1 + 1 + 1, 0, none⟩))
    ((((w.alloc (.cells nbc 25)).alloc (.cells (List.replicate n (Value.slice none 0 0)).toArray 23)).alloc (.cells (List.replicate n (Value.int .i64 0)).toArray 3)).alloc (.cells #[.slice none 0 0, .slice (some ⟨w.heap.size + 1 + 1, 0, none⟩) n n, .slice (some ⟨w.heap.size + 1, 0, none⟩) n n] 94)).drew := by
  refine ⟨_, w.heap.size + 1, w.heap.size + 1 + 1, rfl, OrdMem.drew (ordInit hn ?_ ?_ ?_ ?_ ?_ (Nat.le_refl _) (by omega) (by omega) (by omega))⟩
  · exact ((((Below.refl _ _).alloc (Nat.le_refl _) _).alloc (by simp) _).alloc (by simp; omega) _).alloc (by simp; omega) _
  · exact blk_alloc (blk_alloc (blk_alloc (blk_new _ _) _) _) _
  · have := blk_new (((w.alloc (.cells nbc 25)).alloc (.cells (List.replicate n (Value.slice none 0 0)).toArray 23)).alloc (.cells (List.replicate n (Value.int .i64 0)).toArray 3)) (.cells #[.slice none 0 0, .slice (some ⟨w.heap.size + 1 + 1, 0, none⟩) n n, .slice (some ⟨w.heap.size + 1, 0, none⟩) n n] 94)
    simpa using this
  · have := blk_new ((w.alloc (.cells nbc 25)).alloc (.cells (List.replicate n (Value.slice none 0 0)).toArray 23)) (.cells (List.replicate n (Value.int .i64 0)).toArray 3)
    exact blk_alloc (by simpa using this) _
  · have := blk_new (w.alloc (.cells nbc 25)) (.cells (List.replicate n (Value.slice none 0 0)).toArray 23)
    exact blk_alloc (blk_alloc (by simpa using this) _) _
theorem OrdMem.onSeen {w0 w w1 : World} {nb og hg : Nat} {nbc : Array Value} {vs vw vl vp : Value} {n : Nat} {O : Nat → Nat} {s : DS} {place : List Int} (h : OrdMem w0 w nb og hg nbc vs vw vl vp n O s place) {vs' : Value} {seen' : List Bool} (hb : Below w.heap.size w w1)
    (hr : Kd.R Kd.bool 4 w1 w0.heap.size (fun _ => True) vs' seen') : OrdMem w0 w1 nb og hg nbc vs' vw vl vp n O { s with seen := seen' } place :=
  ⟨h.below.trans (hb.mono h.below.size), blk_below h.nbk hb, blk_below h.ob hb, hr, Kd.R_below h.way hb, Kd.R_below h.list hb, Kd.R_below h.place hb, by
    obtain ⟨rows, a, b, c⟩ := h.rows
    exact ⟨rows, blk_below a hb, b, fun i hi => by obtain ⟨v, d, e⟩ := c i hi; exact ⟨v, d, Kd.R_below e hb⟩⟩, h.nge, h.oge, h.hge⟩
theorem grown_below {w w1 : World} (h : w.grownBy w1 none) : Below w.heap.size w w1 := ⟨h.os, h.tape, h.output, h.size, fun k hk => h.block k hk (by simp)⟩

theorem mu_start (nx : List (List Int)) : mu nx { ds0 nx.length with seen := List.replicate nx.length false } = sumLen nx + 2 * nx.length := by
  have h1 : muSeen nx (List.replicate nx.length false) = ((List.range nx.length).map fun i => (nx.getD i []).length + 2).sum := by
    unfold muSeen
    congr 1
    apply List.map_congr_left
    intro i hi
    have := List.mem_range.1 hi
    simp [List.getD_eq_getElem?_getD, List.getElem?_replicate, this]
  have h2 : (List.range nx.length).map (fun i => (nx.getD i []).length + 2) = nx.map (fun l => l.length + 2) := by
    apply List.ext_getElem?
    intro i
    rcases Nat.lt_or_ge i nx.length with h | h
    · simp [List.getElem?_range, h]
    · rw [List.getElem?_eq_none (by simpa using h), List.getElem?_eq_none (by simpa using h)]
  have h3 : ∀ l : List (List Int), (l.map (fun l => l.length + 2)).sum = sumLen l + 2 * l.length := by
    intro l
    induction l with
    | nil => rfl
    | cons a l ih => simp only [List.map_cons, List.sum_cons, ih, sumLen, List.length_cons]; omega
  show muSeen nx (List.replicate nx.length false) + muWay nx [] = _
  rw [h1, h2, h3]; simp [muWay]
theorem Dfs.len_le {nx : List (List Int)} {st : List Int} {M : Nat} {s : DS} (h : Dfs nx st M s) : s.list.length + s.way.length ≤ nx.length := by
  have hsub : ∀ z ∈ s.list ++ s.way.map Prod.fst, z ∈ (List.range nx.length).map (fun i : Nat => (i : Int)) := fun z hz => by
    have := (h.mem z).1 hz
    exact List.mem_map.2 ⟨z.toNat, List.mem_range.2 (by omega), by omega⟩
  have := List.Nodup.length_le_of_subset h.nodup hsub
  rw [List.length_append, List.length_map, List.length_map, List.length_range] at this
  exact this
section
variable {w0 w : World} {nb og hg : Nat} {nbc : Array Value} {vs vw vl vp : Value} {n : Nat} {O : Nat → Nat} {s : DS} {place : List Int}
theorem OrdMem.onList (h : OrdMem w0 w nb og hg nbc vs vw vl vp n O s place) {w1 : World} {xs : List Int} (hr : Kd.R (Kd.int .i64) 3 w1 w0.heap.size (fun k => O k = 0) vl xs) (hb : Below w0.heap.size w0 w1) (hgr : w.grownBy w1 vl.ownBlock) :
    OrdMem w0 w1 nb og hg nbc vs vw vl vp n O { s with list := xs } place :=
  ⟨hb, blk_grown h.nbk hgr (Kd.R_ne h.list h.nbk (by decide)), blk_grown h.ob hgr (Kd.R_ne h.list h.ob (by decide)), Kd.R_over' h.seen (Kd.R_typed h.list) (by decide) hgr, Kd.R_over' h.way (Kd.R_typed h.list) (by decide) hgr, hr,
    R_grownO h.place (fun k hk => h.list.1 k hk) (by decide) hgr, by
    obtain ⟨rows, a, b, c⟩ := h.rows
    exact ⟨rows, blk_grown a hgr (Kd.R_ne h.list a (by decide)), b, fun i hi => by obtain ⟨v, d, e⟩ := c i hi; exact ⟨v, d, R_grownO e (fun k hk => h.list.1 k hk) (by omega) hgr⟩⟩, h.nge, h.oge, h.hge⟩
theorem OrdMem.putPlace {pg cap : Nat} (h : OrdMem w0 w nb og hg nbc vs vw vl (.slice (some ⟨pg, 0, none⟩) n cap) n O s place) (i x : Int) :
    OrdMem w0 (w.setCell ⟨pg, i.toNat, none⟩ (.int .i64 x)) nb og hg nbc vs vw vl (.slice (some ⟨pg, 0, none⟩) n cap) n O s (place.set i.toNat x) := by
  obtain ⟨cells, hgc⟩ := Kd.R_typed h.place pg (by simp [Value.ownBlock])
  have hO : O pg = 1 := h.place.1 pg (by simp [Value.ownBlock])
  have hbg : w0.heap.size ≤ pg := Kd.R_base h.place pg (by simp [Value.ownBlock])
  refine ⟨h.below.setCell hbg _, blk_far h.nbk (blk_ne h.nbk hgc (by decide)) _, blk_far h.ob (blk_ne h.ob hgc (by decide)) _, Kd.R_set h.seen hgc (by decide) _ _, Kd.R_set h.way hgc (by decide) _ _,
    Kd.R_far h.list (fun k hk e => by rw [e, hO] at hk; omega) _, Kd.R_putn h.place i x, ?_, h.nge, h.oge, h.hge⟩
  obtain ⟨rows, a, b, c⟩ := h.rows
  exact ⟨rows, blk_far a (blk_ne a hgc (by decide)) _, b, fun i hi => by obtain ⟨v, d, e⟩ := c i hi; exact ⟨v, d, Kd.R_far e (fun k hk e => by rw [e, hO] at hk; omega) _⟩⟩
/-- The heads as they are read. -/
theorem OrdMem.headsC (h : OrdMem w0 w nb og hg nbc vs vw vl vp n O s place) (hn : s.heads.length = n) (hm : n ≤ 8192) : Kd.C (Kd.slice 3 (Kd.int .i64)) w (some ⟨hg, 0, none⟩) n s.heads := by
  obtain ⟨rows, a, b, c⟩ := h.rows
  refine ⟨hn, by omega, fun _ => ⟨_, rfl, fun j p hj => ?_⟩⟩
  have hjl := (List.getElem?_eq_some_iff.1 hj).1
  obtain ⟨v, d, e⟩ := c j (by omega)
  have hp : s.heads.getD j [] = p := by rw [List.getD_eq_getElem?_getD, hj]; rfl
  rw [hp] at e
  obtain ⟨A, k, rfl, h1, h2⟩ := Kd.R_reads e
  refine ⟨[.slice A p.length k], rfl, ⟨A, k, rfl, h1, h2⟩, fun i u hu => ?_⟩
  cases i with
  | zero =>
    simp only [List.getElem?_cons_zero, Option.some.injEq] at hu
    subst hu
    have : (Kd.slice 3 (Kd.int .i64)).sz = 1 := rfl
    rw [this, Nat.mul_one, Nat.add_zero, add_plain, blk_cell a]
    simpa using d
  | succ i => simp at hu
end
theorem nodup_inj {l : List Int} (h : l.Nodup) {i j : Nat} (hi : i < l.length) (hj : j < l.length) (he : l[i] = l[j]) : i = j := by
  have hp := List.pairwise_iff_getElem.1 h
  rcases Nat.lt_trichotomy i j with c | c | c
  · exact absurd he (hp i j hi hj c)
  · exact c
  · exact absurd he.symm (hp j i hj hi c)
/-- What ordered hands back, as it is read. -/
def OrdC (nx : List (List Int)) (st : List Int) (w w' : World) (og : Nat) : Prop :=
  ∃ (list place : List Int) (heads : List (List Int)) (AL : Option Addr) (kL : Nat) (AP : Option Addr) (kP : Nat) (AH : Option Addr) (kH : Nat), Ord nx st list place heads ∧
    w'.heap[og]? = some (.cells #[.slice AL list.length kL, .slice AP nx.length kP, .slice AH nx.length kH] 94 (0, 0)) ∧ Kd.C (Kd.int .i64) w' AL list.length list ∧ Kd.C (Kd.int .i64) w' AP nx.length place ∧
    Kd.C (Kd.slice 3 (Kd.int .i64)) w' AH nx.length heads ∧ Below w.heap.size w w'
def tT_64_12 : Bool × List (List Nat × List Nat) := (true, [([], []), ([], []), ([1], [1]), ([2], [2]), ([3], [3]), ([], []), ([5], [5]), ([6], [6]), ([7], [7]), ([8], [8]), ([4, 9], [4, 9]), ([0, 0, 1, 2, 3, 4, 5, 6, 7, 8, 9, 10], [0]), ([11, 0, 1, 2, 3, 4, 5, 6, 7, 8, 9, 10], [11]), ([12, 10, 10, 0, 1, 2, 3, 4, 5, 6, 7, 8, 9, 10], [10, 12])])
def tB_64_12 : List Nat := [0, 0, 2, 6, 14, 0, 32, 96, 224, 480, 1022, 2047, 4095, 8191]
theorem tab_64_12 : rtab .any (opsOf Try.f64 12) = tT_64_12 := by kernel_rfl
theorem bits_64_12 : waitsOk tT_64_12.2 tB_64_12 = true := by kernel_rfl
def tT_64_16 : Bool × List (List Nat × List Nat) := (true, [([], []), ([0], [0]), ([1], [1]), ([2], [2]), ([], []), ([], []), ([5], [5]), ([6], [6]), ([7], [7]), ([], []), ([8, 9], [8, 9]), ([10], [10]), ([], []), ([12], [12]), ([13], [13]), ([14], [14]), ([15], [15]), ([11, 16], [11, 16]), ([3, 4, 0, 1, 2, 3, 4, 5, 6, 7, 8, 9, 10, 11, 12, 13, 14, 15, 16, 17], [3, 4]), ([18, 17, 17, 0, 1, 2, 3, 4, 5, 6, 7, 8, 9, 10, 11, 12, 13, 14, 15, 16, 17], [17, 18])])
def tB_64_16 : List Nat := [0, 1, 3, 7, 0, 0, 32, 96, 224, 0, 992, 2016, 0, 4096, 12288, 28672, 61440, 131040, 262143, 524287]
theorem tab_64_16 : rtab .any (opsOf Try.f64 16) = tT_64_16 := by kernel_rfl
theorem bits_64_16 : waitsOk tT_64_16.2 tB_64_16 = true := by kernel_rfl
set_option maxRecDepth 100000 in
set_option maxHeartbeats 8000000 in
theorem f64_any (A0 : Option Addr) (c0 : Nat) (A1 : Option Addr) (c1 : Nat) (nx : List (List Int)) (st : List Int) (w : World) (hn : NetC w A0 c0 A1 c1 nx st) (hg : Good nx st) (hsum : sumLen nx ≤ 65536) :
    Calls Try.prog 64 #[.agg #[.slice A0 nx.length c0, .slice A1 st.length c1]] w fun e w' => ∃ og, e = .returned (.pointer (some ⟨og, 0, none⟩)) ∧ OrdC nx st w w' og := by
  have HN := Aside0.mk hn
  have HG := Aside0.mk hg
  have hL0 : nx.length ≤ 9223372036854775807 := hn.next.2.1
  have hL1 : st.length ≤ 9223372036854775807 := hn.start.2.1
  have hm3 := run_make3 nx.length hg.len
  have hm22 := run_make22 nx.length hg.len
  have HA := Aside0.mk (ordFirstA w #[.slice A0 nx.length c0, .slice A1 st.length c1] nx.length hg.len)
  have HBb := Aside0.mk (ordFirstB w #[.slice A0 nx.length c0, .slice A1 st.length c1] nx.length hg.len)
  have HSUM := Aside0.mk hsum
  clear hn hg hsum
  go_enter Try.func64, Try.ntmps64
  go_upto_region 1 with (fail)
  obtain ⟨L1, hL1d⟩ : ∃ L1, L1 = List.replicate nx.length (Value.int .i64 0) := ⟨_, rfl⟩
  obtain ⟨L2, hL2d⟩ : ∃ L2, L2 = List.replicate nx.length (Value.slice none 0 0) := ⟨_, rfl⟩
  rw [← hL1d] at hm3 HA HBb
  rw [← hL2d] at hm22 HA HBb
  clear hL1d hL2d
  go_cut [3] (fun v3 wr => Aside0 (OrdFirst w #[.slice A0 nx.length c0, .slice A1 st.length c1] nx.length v3 wr))
  case first =>
    go_region_law (fail)
    all_goals go_simp
    all_goals go_wp2
    all_goals go_meet
    all_goals first | exact HA | exact HBb
  case rest =>
    clear hm3 hm22 HA HBb L1 L2
    obtain ⟨og, hgb, pg, rfl, HM⟩ := hcut.out
    have HM := Aside0.mk HM
    clear hcut
    have hn0 : wc.cell? ⟨w.heap.size, 0, none⟩ = some (.slice A0 nx.length c0) := (blk_cell HM.out.nbk 0).trans rfl
    have hn1 : wc.cell? ⟨w.heap.size, 1, none⟩ = some (.slice A1 st.length c1) := (blk_cell HM.out.nbk 1).trans rfl
    obtain ⟨M, hM⟩ : ∃ M, M = mu nx { ds0 nx.length with seen := List.replicate nx.length false } := ⟨_, rfl⟩
    have HM0 := Aside0.mk hM
    have HD0 := Aside0.mk (dfs_start nx st M (by rw [hM]; exact Nat.le_refl _))
    clear hM
    go_wp2_with ((with_reducible refine gate_dst (N := 26) rfl ?_); go_loud (refine Kd.R_make Kd.bool (w0 := wc) w.heap.size 4 rfl (N := 26) rfl 43 _ _ rfl (nx.length : Int) rfl rfl Try.underlying43 (.bool false) 1 info4 rfl (by decide) (by omega) false (ok := fun _ => True) (okp := fun _ => True) rfl (fun _ hk => hk) trivial (by omega) (by have := HG.out.len; omega) (Below.refl _ _) HM.out.below.size ?_; intro v26 w1 ho hb hgr hnew; clear hnew; obtain ⟨B26, k26, e26⟩ := Kd.R_slice ho; rw [List.length_replicate, Int.toNat_natCast] at e26; subst e26; rw [Int.toNat_natCast] at ho; have HM2 := Aside0.mk (HM.out.onSeen (grown_below hgr) ho); clear ho hb hgr; have hn0 : w1.cell? ⟨w.heap.size, 0, none⟩ = some (.slice A0 nx.length c0) := (blk_cell HM2.out.nbk 0).trans rfl; have hn1 : w1.cell? ⟨w.heap.size, 1, none⟩ = some (.slice A1 st.length c1) := (blk_cell HM2.out.nbk 1).trans rfl))
    go_loopw [30] (fun v30 wr => ∃ (i : Int) (vl : Value) (O : Nat → Nat) (s : DS), v30 = .int .i64 i ∧ 0 ≤ i ∧ i ≤ st.length ∧ Aside0 (s.way = []) ∧ Aside0 (OrdMem w wr w.heap.size og hgb #[.slice A0 nx.length c0, .slice A1 st.length c1] (.slice B26 nx.length k26) (.slice none 0 0) vl (.slice (some ⟨pg, 0, none⟩) nx.length nx.length) nx.length O s (List.replicate nx.length 0)) ∧ Aside0 (Dfs nx st M s) ∧ Aside0 (∀ j : Nat, j < i.toNat → rdOf false s.seen (st.getD j 0) = true)) (fun v _ => st.length - (intOf v).toNat)
    case atStart => exact ⟨0, _, _, _, rfl, by omega, by omega, ⟨rfl⟩, HM2, HD0, ⟨fun j hj => absurd hj (Nat.not_lt_zero _)⟩⟩
    case round =>
      obtain ⟨i, vl, O, s, rfl, h0, h1, HW0, HM3, HD, HSt⟩ := hrel
      clear HM HM2 HD0
      have hn0 : wr.cell? ⟨w.heap.size, 0, none⟩ = some (.slice A0 nx.length c0) := (blk_cell HM3.out.nbk 0).trans rfl
      by_cases hlt : i < st.length
      · obtain ⟨ad, e, hc⟩ := Kd.at_int HN.out.start i h0 hlt
        cases e
        obtain ⟨x, hx⟩ : ∃ x, x = rd st i := ⟨_, rfl⟩
        have hxm : x ∈ st := by rw [hx]; exact rd_mem h0 hlt
        have hx0 := (HG.out.starts x hxm).1
        have hx1 := (HG.out.starts x hxm).2
        have HXM := Aside0.mk hxm
        rw [← hx] at hc
        have HX := Aside0.mk hx
        have hc1 := (HM3.out.below.cell (World.block_lt_of_cell? w _ hc)).trans hc
        clear hc hx hxm
        have hsl : Aside0 (s.seen.length = nx.length) := ⟨HD.out.slen⟩
        obtain ⟨sg, cap, hvs, hbg, hgl, cells, hgc⟩ := Kd.R_form HM3.out.seen (by have := hsl.out; omega)
        rw [hsl.out] at hvs
        cases hvs
        clear hgc cells
        obtain ⟨hsc, hsf⟩ := R_celln false HM3.out.seen x hx0 hx1
        by_cases hs : rdOf false s.seen x = true
        · rw [hs] at hsc
          have HS := Aside0.mk hs
          clear hs
          go_wp2_with fail
          go_roundw
          case rel => exact ⟨i + 1, vl, O, s, rfl, by omega, by omega, HW0, HM3, HD, ⟨fun j hj => by
            by_cases h : j < i.toNat
            · exact HSt.out j h
            · obtain rfl : j = i.toNat := by omega
              have : st.getD i.toNat 0 = x := HX.out.symm
              rw [this]; exact HS.out⟩⟩
          case measure => simp [intOf]; omega
        · rw [Bool.not_eq_true] at hs
          rw [hs] at hsc
          have HS := Aside0.mk hs
          clear hs
          have hsl2 : x < s.seen.length := by rw [hsl.out]; exact hx1
          have HM4 := Aside0.mk (OrdMem.putSeen (cap := k26) (by rw [hsl.out]; exact HM3.out) x hx0 hsl2)
          have HP := Aside0.mk (HD.out.push HG.out x hx0 hx1 HS.out (.start HXM.out (by omega)) (fun j p hj hl => by rw [HW0.out] at hj; simp at hj) (fun _ => HXM.out))
          rw [hsl.out] at HM4
          have HM5 := Aside0.mk ((HM4.out.alloc (.cells #[.int .i64 x, .int .i64 0] 102)).onWay (R_way1 w _ HM4.out.below.size x 0))
          have HSt2 : Aside0 (∀ j : Nat, j < (i + 1).toNat → rdOf false (s.seen.set x.toNat true) (st.getD j 0) = true) := ⟨fun j hj => by
            by_cases h : j < i.toNat
            · have h2 := HSt.out j h
              have h3 := HG.out.starts (st.getD j 0) (by rw [List.getD_eq_getElem?_getD, List.getElem?_eq_getElem (by omega)]; exact List.getElem_mem _)
              exact (rdOf_set _ _ _ hx0 hsl2 h3.1).2 (.inr h2)
            · obtain rfl : j = i.toNat := by omega
              have : st.getD i.toNat 0 = x := HX.out.symm
              rw [this]; exact (rdOf_set _ _ _ hx0 hsl2 hx0).2 (.inl rfl)⟩
          have hW1 : Aside0 (s.way ++ [(x, (0 : Int))] = [(x, 0)]) := ⟨by rw [HW0.out]; rfl⟩
          rw [hW1.out] at HP
          clear hsl2
          go_wp2_with fail
          obtain ⟨wo, rfl⟩ : ∃ wo : World, wo = wr := ⟨_, rfl⟩
          go_loopg [7] (mu nx { s with seen := s.seen.set x.toNat true, way := [(x, 0)] }) (fun kk v7 wr2 => ∃ (AW : Option Addr) (kW : Nat) (vl2 : Value) (O2 : Nat → Nat) (s2 : DS), v7 = .slice AW s2.way.length kW ∧ Aside0 (OrdMem w wr2 w.heap.size og hgb #[.slice A0 nx.length c0, .slice (some ad) st.length c1] (.slice (some ⟨sg, 0, none⟩) nx.length k26) (.slice AW s2.way.length kW) vl2 (.slice (some ⟨pg, 0, none⟩) nx.length nx.length) nx.length O2 s2 (List.replicate nx.length 0)) ∧ Aside0 (Dfs nx st M s2) ∧ Aside0 (mu nx s2 ≤ kk) ∧ Aside0 (∀ j : Nat, j < (i + 1).toNat → rdOf false s2.seen (st.getD j 0) = true))
          case atStart => exact ⟨_, _, vl, O, { s with seen := s.seen.set x.toNat true, way := [(x, 0)] }, by simp, HM5, ⟨HP.out.1⟩, ⟨Nat.le_refl _⟩, HSt2⟩
          case round =>
            clear HM4 HM5 HP HSt2 hW1 HM3 HD HSt HS hsc hsf hc1 HW0 hn0
            obtain ⟨AW, kW, vl2, O2, s2, rfl, HM3, HD, HMU, HSt⟩ := hrel
            have hn0 : wr.cell? ⟨w.heap.size, 0, none⟩ = some (.slice A0 nx.length c0) := (blk_cell HM3.out.nbk 0).trans rfl
            rcases List.eq_nil_or_concat s2.way with hw | ⟨wy, ⟨y, k⟩, hw⟩
            · have hl : s2.way.length = 0 := by rw [hw]; rfl
              have HW := Aside0.mk hw
              rw [hl] at HM3
              rw [hl]
              clear hl hw
              go_wp2_with fail
              go_roundw
              case rel => exact ⟨i + 1, vl2, O2, s2, rfl, by omega, by omega, HW, ⟨by
                have := HM3.out.onWay (Kd.R_nil kS 102 wr w.heap.size (fun _ => True))
                rw [← HW.out] at this; exact this⟩, HD, HSt⟩
              case measure => simp [intOf]; omega
            · rw [List.concat_eq_append] at hw
              obtain ⟨g, cap, hv, hbg2, htx, htk, htf, HT⟩ := HM3.out.top wy y k hw
              have hl : s2.way.length = wy.length + 1 := by rw [hw]; simp
              rw [hl] at hv HM3 HT
              rw [hl]
              cases hv
              have HW := Aside0.mk hw
              have HTP := Aside0.mk HT
              clear hl hw HT
              have hy := HD.out.mem y
              have hyr : 0 ≤ y ∧ y < nx.length := by
                have := hy.1 (by rw [HW.out]; simp)
                exact ⟨this.1, this.2.1⟩
              obtain ⟨hy0, hy1⟩ := hyr
              have hpt := HD.out.part (y, k) (by rw [HW.out]; simp)
              have hk0 : 0 ≤ k := hpt.1
              have hk1 : k ≤ (succs nx y).length := hpt.2.1
              have hwl : (wy.length : Int) + 1 ≤ 8192 := by
                have := HD.out.len_le
                rw [HW.out, List.length_append, List.length_singleton] at this
                have := HG.out.len
                omega
              have hwl0 : 0 ≤ (wy.length : Int) := by omega
              clear hy hpt
              obtain ⟨ad2, B, c, l, e, HL, hc2, hcap, hr⟩ := at_slice_n HN.out.next y hy0 hy1
              cases e
              have hc3 := (HM3.out.below.cell (World.block_lt_of_cell? w _ hc2)).trans hc2
              have HR := Aside0.mk hr
              have hll : l.length ≤ 9223372036854775807 := hr.2.1
              have hls : succs nx y = l := HL.out.symm
              rw [hls] at hk1
              have HLS := Aside0.mk hls
              clear hr hc2 hcap hls HL
              by_cases hk : k = l.length
              · have hkb : (k == (l.length : Int)) = true := by simp [hk]
                go_wp2_with fail
                go_quiet (fail)
                go_wp2_with fail
                have HMq := Aside0.mk (HM3.out.drewN nq).drew
                obtain ⟨wq, hwq⟩ : ∃ wq, wq = (wr.drewN nq).drew := ⟨_, rfl⟩
                have hox : wq.cell? ⟨og, 0, none⟩ = some vl2 := by rw [hwq]; exact (blk_cell HMq.out.ob 0).trans rfl
                have htq : wq.cell? ⟨g, wy.length * 2, none⟩ = some (.int .i64 y) := by rw [hwq]; exact htx
                obtain ⟨AL, kL, eL⟩ := Kd.R_slice HMq.out.list
                subst eL
                have hsll : s2.list.length ≤ 8192 := by have := HD.out.len_le; have := HG.out.len; omega
                have HLL := Aside0.mk hsll
                clear hsll
                rw [hwq] at hox htq
                refine start_ (n := 14) (S := fun w' => w'.cell? ⟨og, 0, none⟩ = some (.slice AL s2.list.length kL) ∧ w'.cell? ⟨g, wy.length * 2, none⟩ = some (.int .i64 y)) (ds := [10, 13]) #[false, false, false, false, false, false, false, false, false, false, false, false, false, false] (by kernel_rfl) rfl rfl ⟨hox, htq⟩ (fun hHeld => ?_)
                refine with_tabW tab_64_12 bits_64_12 (fun HT_ HW_ => ?_)
                generalize (wr.drewN nq).drew = wd at HMq hwq hox htq hHeld ⊢
                refine pure_ (i := 0) (N := some 66) (v := ?_) (a' := ?_) #[true, false, false, false, false, false, false, false, false, false, false, false, false, false] rfl rfl (any_of HT_.out (by kernel_rfl)) (fun _ _ _ h => h) (Or.inl ⟨by rfl, ?_⟩) ?_ ?_
                rotate_left
                · intro w'
                  go_simp
                  with_reducible rfl
                rotate_left
                · simp only [Act.put, List.setIfInBounds_toArray, List.set_cons_zero, List.set_cons_succ, i64_w, i32_w]
                  rfl
                refine pure_ (i := 1) (N := some 67) (v := ?_) (a' := ?_) #[true, true, false, false, false, false, false, false, false, false, false, false, false, false] rfl rfl (any_of HT_.out (by kernel_rfl)) (fun _ _ _ h => h) (Or.inl ⟨by rfl, ?_⟩) ?_ ?_
                rotate_left
                · intro w'
                  go_simp
                  with_reducible rfl
                rotate_left
                · simp only [Act.put, List.setIfInBounds_toArray, List.set_cons_zero, List.set_cons_succ, i64_w, i32_w]
                  rfl
                refine pure_ (i := 2) (N := some 68) (v := ?_) (a' := ?_) #[true, true, true, false, false, false, false, false, false, false, false, false, false, false] rfl rfl (any_of HT_.out (by kernel_rfl)) (fun _ _ _ h => h) (Or.inl ⟨by rfl, ?_⟩) ?_ ?_
                rotate_left
                · intro w'
                  go_simp
                  with_reducible rfl
                rotate_left
                · simp only [Act.put, List.setIfInBounds_toArray, List.set_cons_zero, List.set_cons_succ, i64_w, i32_w]
                  rfl
                refine pure_ (i := 3) (N := some 69) (v := ?_) (a' := ?_) #[true, true, true, true, false, false, false, false, false, false, false, false, false, false] rfl rfl (any_of HT_.out (by kernel_rfl)) (fun _ _ _ h => h) (Or.inl ⟨by rfl, ?_⟩) ?_ ?_
                rotate_left
                · intro w'
                  go_simp
                  with_reducible rfl
                rotate_left
                · simp only [Act.put, List.setIfInBounds_toArray, List.set_cons_zero, List.set_cons_succ, i64_w, i32_w]
                  rfl
                refine pure_ (i := 5) (N := some 71) (v := ?_) (a' := ?_) #[true, true, true, true, false, true, false, false, false, false, false, false, false, false] rfl rfl (any_of HT_.out (by kernel_rfl)) (fun _ _ _ h => h) (Or.inl ⟨by rfl, ?_⟩) ?_ ?_
                rotate_left
                · intro w'
                  go_simp
                  with_reducible rfl
                rotate_left
                · simp only [Act.put, List.setIfInBounds_toArray, List.set_cons_zero, List.set_cons_succ, i64_w, i32_w]
                  rfl
                refine pure_ (i := 6) (N := some 72) (v := ?_) (a' := ?_) #[true, true, true, true, false, true, true, false, false, false, false, false, false, false] rfl rfl (any_of HT_.out (by kernel_rfl)) (fun _ _ _ h => h) (Or.inl ⟨by rfl, ?_⟩) ?_ ?_
                rotate_left
                · intro w'
                  go_simp
                  with_reducible rfl
                rotate_left
                · simp only [Act.put, List.setIfInBounds_toArray, List.set_cons_zero, List.set_cons_succ, i64_w, i32_w]
                  rfl
                refine pure_ (i := 7) (N := some 73) (v := ?_) (a' := ?_) #[true, true, true, true, false, true, true, true, false, false, false, false, false, false] rfl rfl (any_of HT_.out (by kernel_rfl)) (fun _ _ _ h => h) (Or.inl ⟨by rfl, ?_⟩) ?_ ?_
                rotate_left
                · intro w'
                  go_simp
                  with_reducible rfl
                rotate_left
                · simp only [Act.put, List.setIfInBounds_toArray, List.set_cons_zero, List.set_cons_succ, i64_w, i32_w]
                  rfl
                refine take_ (i := 4) (N := some 70) (v := ?_) (a' := ?_) #[true, true, true, true, true, true, true, true, false, false, false, false, false, false] rfl rfl (take_ofW HT_.out HW_.out (by kernel_rfl)) (fun _ _ _ h => h) (Or.inl ⟨by rfl, ?_⟩) hHeld ?_ ?_
                rotate_left
                · rintro w' ⟨s0, s1⟩
                  go_simp
                  with_reducible rfl
                rotate_left
                · simp only [Act.put, List.setIfInBounds_toArray, List.set_cons_zero, List.set_cons_succ, i64_w, i32_w]
                  rfl
                refine take_ (i := 8) (N := some 74) (v := ?_) (a' := ?_) #[true, true, true, true, true, true, true, true, true, false, false, false, false, false] rfl rfl (take_ofW HT_.out HW_.out (by kernel_rfl)) (fun _ _ _ h => h) (Or.inl ⟨by rfl, ?_⟩) hHeld ?_ ?_
                rotate_left
                · rintro w' ⟨s0, s1⟩
                  go_simp
                  with_reducible rfl
                rotate_left
                · simp only [Act.put, List.setIfInBounds_toArray, List.set_cons_zero, List.set_cons_succ, i64_w, i32_w]
                  rfl
                refine one_ (i := 9) (N := some 75) #[true, true, true, true, true, true, true, true, true, true, false, false, false, false] rfl rfl (one_of HT_.out (by kernel_rfl)) (by decide) (fun K hK => ?_)
                refine event_step (w1 := ?_) (v := ?_) (by rfl) ?_ ?_
                rotate_left 2
                · go_simp
                  constructor <;> rfl
                refine hK.out _ _ ?_ ?_
                · exact ⟨(blk_cell (blk_alloc HMq.out.ob _) 0).trans rfl, (((Below.refl _ wd).alloc (Nat.le_refl _) _).cell (World.block_lt_of_cell? _ _ htq)).trans htq⟩
                clear hK K
                intro hHeld
                refine last_ (i := 10) (N := some 76) #[true, true, true, true, true, true, true, true, true, true, true, false, false, false] rfl rfl (one_of HT_.out (by kernel_rfl)) (by decide) (fun K hK => ?_)
                refine Kd.R_append_step (Kd.int .i64) (w0 := w) w.heap.size (by rfl) (.tmp 70) (.tmp 75) 23 3 (.int .i64 0) 8 rfl Try.underlying23 info3 rfl (by decide) (by omega) (.slice AL s2.list.length kL) s2.list y [.int .i64 y] (fun k => ownTo O2 wd.heap.size 0 k = 0) (fun _ => False) (by rfl) (by rfl) ?aP (fun _ hk => hk.elim) ?aF ?aO ?aB ?aS ?aL ?_
                case aP => exact rfl
                case aF => intro k hk; unfold ownTo; rw [if_pos hk]
                case aO => exact R_ownTo (Nat.le_refl _) HMq.out.list
                case aB => exact HMq.out.below
                case aS => exact HMq.out.below.size
                case aL => have := HLL.out; omega
                intro v1 w1 ho hb hg hat
                obtain ⟨A1, k1, e1⟩ := Kd.R_slice ho
                rw [List.length_append, List.length_singleton] at e1
                subst e1
                have H1 := Aside0.mk (HMq.out.appList ho hb hg)
                have hoc1 : w1.cell? ⟨og, 0, none⟩ = some (.slice AL s2.list.length kL) := (blk_cell H1.out.1 0).trans rfl
                have hof1 : w1.frozen? ⟨og, 0, none⟩ = false := blk_frozen H1.out.1 0
                clear ho hb hg hat
                refine hK.out _ _ ?_
                clear hK K
                refine pure_ (i := 11) (N := some 77) (v := ?_) (a' := ?_) #[true, true, true, true, true, true, true, true, true, true, true, true, false, false] rfl rfl (any_of HT_.out (by kernel_rfl)) (fun _ _ _ h => h) (Or.inl ⟨by rfl, ?_⟩) ?_ ?_
                rotate_left
                · intro w'
                  go_simp
                  with_reducible rfl
                rotate_left
                · simp only [Act.put, List.setIfInBounds_toArray, List.set_cons_zero, List.set_cons_succ, i64_w, i32_w]
                  rfl
                refine pure_ (i := 12) (N := some 78) (v := ?_) (a' := ?_) #[true, true, true, true, true, true, true, true, true, true, true, true, true, false] rfl rfl (any_of HT_.out (by kernel_rfl)) (fun _ _ _ h => h) (Or.inl ⟨by rfl, ?_⟩) ?_ ?_
                rotate_left
                · intro w'
                  go_simp
                  with_reducible rfl
                rotate_left
                · simp only [Act.put, List.setIfInBounds_toArray, List.set_cons_zero, List.set_cons_succ, i64_w, i32_w]
                  rfl
                refine last_ (i := 13) (N := none) #[true, true, true, true, true, true, true, true, true, true, true, true, true, true] rfl rfl (one_of HT_.out (by kernel_rfl)) (by decide) (fun K hK => ?_)
                refine skip_ (w1 := ?_) (by rfl) rfl ?_ ?_
                rotate_left
                · go_simp
                  rfl
                refine hK.out _ _ ?_
                clear hK K
                refine done_ (done_of HT_.out (by kernel_rfl)) ?_
                have hwc : (wy.length : Int) ≤ (kW : Int) := by have := (Kd.R_reads' HMq.out.way).2.1; omega
                go_wp2_with fail
                have hkl : k = (succs nx y).length := by rw [HLS.out]; exact hk
                go_roundg (mu nx { s2 with way := wy, list := s2.list ++ [y] })
                case measure => have := HMU.out; have := mu_pop wy y k HW.out hkl; omega
                case rel => exact ⟨some ⟨g, 0, none⟩, kW, _, _, { s2 with way := wy, list := s2.list ++ [y] }, rfl, ⟨H1.out.2.popWay wy y k HW.out rfl⟩, ⟨HD.out.pop wy y k HW.out hkl⟩, ⟨Nat.le_refl _⟩, HSt⟩
              · have hkb : (k == (l.length : Int)) = false := by simp [hk]
                have hk2 : k < l.length := by omega
                obtain ⟨ad3, e, hyc⟩ := Kd.at_int (Kd.C_below HR.out HM3.out.below) k hk0 hk2
                cases e
                obtain ⟨v, hv⟩ : ∃ v, v = rd l k := ⟨_, rfl⟩
                have hvm : v ∈ succs nx y := by rw [HLS.out, hv]; exact rd_mem hk0 hk2
                have hv0 := (HG.out.next _ _ hvm).1
                have hv1 := (HG.out.next _ _ hvm).2
                have HVM := Aside0.mk hvm
                rw [← hv] at hyc
                have HV := Aside0.mk hv
                clear hv hvm
                go_wp2_with fail
                go_quiet (fail)
                go_wp2_with fail
                revert nq
                intro nqa
                go_quiet (fail)
                go_upto_region 16 with (fail)
                have HMq := Aside0.mk (show OrdMem w (((wr.drewN (nqa + nq)).setCell ⟨g, wy.length * 2 + 1, none⟩ (.int .i64 (k + 1))).drew) w.heap.size og hgb #[.slice (some ad2) nx.length c0, .slice (some ad) st.length c1] (.slice (some ⟨sg, 0, none⟩) nx.length k26) (.slice (some ⟨g, 0, none⟩) (wy.length + 1) kW) vl2 (.slice (some ⟨pg, 0, none⟩) nx.length nx.length) nx.length O2 { s2 with way := wy ++ [(y, k + 1)] } (List.replicate nx.length 0) from (HTP.out.drewN (nqa + nq)).drew)
                obtain ⟨g2, cap2, e2, _, htq, _, _, _⟩ := HMq.out.top wy y (k + 1) rfl
                obtain rfl : g = g2 := by injection e2 with e2 _ _; injection e2 with e2; injection e2
                clear e2
                obtain ⟨hvv, hrow, hrf, hRh⟩ := HMq.out.headAt v hv0 hv1
                obtain ⟨AH, kH, eH⟩ := Kd.R_slice hRh
                subst eH
                have hox2 : (((wr.drewN (nqa + nq)).setCell ⟨g, wy.length * 2 + 1, none⟩ (.int .i64 (k + 1))).drew).cell? ⟨og, 2, none⟩ = some (.slice (some ⟨hgb, 0, none⟩) nx.length nx.length) := (blk_cell HMq.out.ob 2).trans rfl
                have HRH := Aside0.mk hRh
                have hbd : Aside0 (((headsAt s2.heads v).length + 1) * 8 ≤ 140737488355328) := ⟨by
                  have h1 := HD.out.bound v hv0 hv1
                  have h2 := HM0.out
                  rw [mu_start] at h2
                  have := HSUM.out; have := HG.out.len
                  omega⟩
                clear hRh
                obtain ⟨hl0, hhl0⟩ : ∃ hl0, hl0 = headsAt s2.heads v := ⟨_, rfl⟩
                have hhd : headsAt ({ s2 with way := wy ++ [(y, k + 1)] } : DS).heads v = hl0 := hhl0.symm
                rw [hhd] at hrow HRH
                rw [← hhl0] at hbd
                have HH := Aside0.mk hhd
                clear hhd hhl0
                refine start_ (n := 20) (S := fun w' => w'.cell? ⟨og, 2, none⟩ = some (.slice (some ⟨hgb, 0, none⟩) nx.length nx.length) ∧ w'.cell? ⟨hgb, v.toNat, none⟩ = some (.slice AH hl0.length kH) ∧ w'.cell? ⟨g, wy.length * 2, none⟩ = some (.int .i64 y)) (ds := [19]) #[false, false, false, false, false, false, false, false, false, false, false, false, false, false, false, false, false, false, false, false] (by kernel_rfl) rfl rfl ⟨hox2, hrow, htq⟩ (fun hHeld => ?_)
                refine with_tabW tab_64_16 bits_64_16 (fun HT_ HW_ => ?_)
                generalize ((wr.drewN (nqa + nq)).setCell ⟨g, wy.length * 2 + 1, none⟩ (.int .i64 (k + 1))).drew = wd at HMq hox2 hrow hrf htq HRH hHeld ⊢
                refine pure_ (i := 0) (N := some 105) (v := ?_) (a' := ?_) #[true, false, false, false, false, false, false, false, false, false, false, false, false, false, false, false, false, false, false, false] rfl rfl (any_of HT_.out (by kernel_rfl)) (fun _ _ _ h => h) (Or.inl ⟨by rfl, ?_⟩) ?_ ?_
                rotate_left
                · intro w'
                  go_simp
                  with_reducible rfl
                rotate_left
                · simp only [Act.put, List.setIfInBounds_toArray, List.set_cons_zero, List.set_cons_succ, i64_w, i32_w]
                  rfl
                refine pure_ (i := 1) (N := some 106) (v := ?_) (a' := ?_) #[true, true, false, false, false, false, false, false, false, false, false, false, false, false, false, false, false, false, false, false] rfl rfl (any_of HT_.out (by kernel_rfl)) (fun _ _ _ h => h) (Or.inl ⟨by rfl, ?_⟩) ?_ ?_
                rotate_left
                · intro w'
                  go_simp
                  with_reducible rfl
                rotate_left
                · simp only [Act.put, List.setIfInBounds_toArray, List.set_cons_zero, List.set_cons_succ, i64_w, i32_w]
                  rfl
                refine pure_ (i := 2) (N := some 107) (v := ?_) (a' := ?_) #[true, true, true, false, false, false, false, false, false, false, false, false, false, false, false, false, false, false, false, false] rfl rfl (any_of HT_.out (by kernel_rfl)) (fun _ _ _ h => h) (Or.inl ⟨by rfl, ?_⟩) ?_ ?_
                rotate_left
                · intro w'
                  go_simp
                  with_reducible rfl
                rotate_left
                · simp only [Act.put, List.setIfInBounds_toArray, List.set_cons_zero, List.set_cons_succ, i64_w, i32_w]
                  rfl
                refine pure_ (i := 4) (N := some 109) (v := ?_) (a' := ?_) #[true, true, true, false, true, false, false, false, false, false, false, false, false, false, false, false, false, false, false, false] rfl rfl (any_of HT_.out (by kernel_rfl)) (fun _ _ _ h => h) (Or.inl ⟨by rfl, ?_⟩) ?_ ?_
                rotate_left
                · intro w'
                  go_simp
                  with_reducible rfl
                rotate_left
                · simp only [Act.put, List.setIfInBounds_toArray, List.set_cons_zero, List.set_cons_succ, i64_w, i32_w]
                  rfl
                refine pure_ (i := 5) (N := some 110) (v := ?_) (a' := ?_) #[true, true, true, false, true, true, false, false, false, false, false, false, false, false, false, false, false, false, false, false] rfl rfl (any_of HT_.out (by kernel_rfl)) (fun _ _ _ h => h) (Or.inl ⟨by rfl, ?_⟩) ?_ ?_
                rotate_left
                · intro w'
                  go_simp
                  with_reducible rfl
                rotate_left
                · simp only [Act.put, List.setIfInBounds_toArray, List.set_cons_zero, List.set_cons_succ, i64_w, i32_w]
                  rfl
                refine pure_ (i := 6) (N := some 111) (v := ?_) (a' := ?_) #[true, true, true, false, true, true, true, false, false, false, false, false, false, false, false, false, false, false, false, false] rfl rfl (any_of HT_.out (by kernel_rfl)) (fun _ _ _ h => h) (Or.inl ⟨by rfl, ?_⟩) ?_ ?_
                rotate_left
                · intro w'
                  go_simp
                  with_reducible rfl
                rotate_left
                · simp only [Act.put, List.setIfInBounds_toArray, List.set_cons_zero, List.set_cons_succ, i64_w, i32_w]
                  rfl
                refine pure_ (i := 7) (N := some 112) (v := ?_) (a' := ?_) #[true, true, true, false, true, true, true, true, false, false, false, false, false, false, false, false, false, false, false, false] rfl rfl (any_of HT_.out (by kernel_rfl)) (fun _ _ _ h => h) (Or.inl ⟨by rfl, ?_⟩) ?_ ?_
                rotate_left
                · intro w'
                  go_simp
                  with_reducible rfl
                rotate_left
                · simp only [Act.put, List.setIfInBounds_toArray, List.set_cons_zero, List.set_cons_succ, i64_w, i32_w]
                  rfl
                refine pure_ (i := 9) (N := some 114) (v := ?_) (a' := ?_) #[true, true, true, false, true, true, true, true, false, true, false, false, false, false, false, false, false, false, false, false] rfl rfl (any_of HT_.out (by kernel_rfl)) (fun _ _ _ h => h) (Or.inl ⟨by rfl, ?_⟩) ?_ ?_
                rotate_left
                · intro w'
                  go_simp
                  with_reducible rfl
                rotate_left
                · simp only [Act.put, List.setIfInBounds_toArray, List.set_cons_zero, List.set_cons_succ, i64_w, i32_w]
                  rfl
                refine pure_ (i := 12) (N := some 117) (v := ?_) (a' := ?_) #[true, true, true, false, true, true, true, true, false, true, false, false, true, false, false, false, false, false, false, false] rfl rfl (any_of HT_.out (by kernel_rfl)) (fun _ _ _ h => h) (Or.inl ⟨by rfl, ?_⟩) ?_ ?_
                rotate_left
                · intro w'
                  go_simp
                  with_reducible rfl
                rotate_left
                · simp only [Act.put, List.setIfInBounds_toArray, List.set_cons_zero, List.set_cons_succ, i64_w, i32_w]
                  rfl
                refine pure_ (i := 13) (N := some 118) (v := ?_) (a' := ?_) #[true, true, true, false, true, true, true, true, false, true, false, false, true, true, false, false, false, false, false, false] rfl rfl (any_of HT_.out (by kernel_rfl)) (fun _ _ _ h => h) (Or.inl ⟨by rfl, ?_⟩) ?_ ?_
                rotate_left
                · intro w'
                  go_simp
                  with_reducible rfl
                rotate_left
                · simp only [Act.put, List.setIfInBounds_toArray, List.set_cons_zero, List.set_cons_succ, i64_w, i32_w]
                  rfl
                refine pure_ (i := 14) (N := some 119) (v := ?_) (a' := ?_) #[true, true, true, false, true, true, true, true, false, true, false, false, true, true, true, false, false, false, false, false] rfl rfl (any_of HT_.out (by kernel_rfl)) (fun _ _ _ h => h) (Or.inl ⟨by rfl, ?_⟩) ?_ ?_
                rotate_left
                · intro w'
                  go_simp
                  with_reducible rfl
                rotate_left
                · simp only [Act.put, List.setIfInBounds_toArray, List.set_cons_zero, List.set_cons_succ, i64_w, i32_w]
                  rfl
                refine take_ (i := 3) (N := some 108) (v := ?_) (a' := ?_) #[true, true, true, true, true, true, true, true, false, true, false, false, true, true, true, false, false, false, false, false] rfl rfl (take_ofW HT_.out HW_.out (by kernel_rfl)) (fun _ _ _ h => h) (Or.inl ⟨by rfl, ?_⟩) hHeld ?_ ?_
                rotate_left
                · rintro w' ⟨s0, s1, s2⟩
                  go_simp
                  with_reducible rfl
                rotate_left
                · simp only [Act.put, List.setIfInBounds_toArray, List.set_cons_zero, List.set_cons_succ, i64_w, i32_w]
                  rfl
                refine take_ (i := 8) (N := some 113) (v := ?_) (a' := ?_) #[true, true, true, true, true, true, true, true, true, true, false, false, true, true, true, false, false, false, false, false] rfl rfl (take_ofW HT_.out HW_.out (by kernel_rfl)) (fun _ _ _ h => h) (Or.inl ⟨by rfl, ?_⟩) hHeld ?_ ?_
                rotate_left
                · rintro w' ⟨s0, s1, s2⟩
                  go_simp
                  with_reducible rfl
                rotate_left
                · simp only [Act.put, List.setIfInBounds_toArray, List.set_cons_zero, List.set_cons_succ, i64_w, i32_w]
                  rfl
                refine pure_ (i := 10) (N := some 115) (v := ?_) (a' := ?_) #[true, true, true, true, true, true, true, true, true, true, true, false, true, true, true, false, false, false, false, false] rfl rfl (any_of HT_.out (by kernel_rfl)) (fun _ _ _ h => h) (Or.inl ⟨by rfl, ?_⟩) ?_ ?_
                rotate_left
                · intro w'
                  go_simp
                  with_reducible rfl
                rotate_left
                · simp only [Act.put, List.setIfInBounds_toArray, List.set_cons_zero, List.set_cons_succ, i64_w, i32_w]
                  rfl
                refine take_ (i := 11) (N := some 116) (v := ?_) (a' := ?_) #[true, true, true, true, true, true, true, true, true, true, true, true, true, true, true, false, false, false, false, false] rfl rfl (take_ofW HT_.out HW_.out (by kernel_rfl)) (fun _ _ _ h => h) (Or.inl ⟨by rfl, ?_⟩) hHeld ?_ ?_
                rotate_left
                · rintro w' ⟨s0, s1, s2⟩
                  go_simp
                  with_reducible rfl
                rotate_left
                · simp only [Act.put, List.setIfInBounds_toArray, List.set_cons_zero, List.set_cons_succ, i64_w, i32_w]
                  rfl
                refine take_ (i := 15) (N := some 120) (v := ?_) (a' := ?_) #[true, true, true, true, true, true, true, true, true, true, true, true, true, true, true, true, false, false, false, false] rfl rfl (take_ofW HT_.out HW_.out (by kernel_rfl)) (fun _ _ _ h => h) (Or.inl ⟨by rfl, ?_⟩) hHeld ?_ ?_
                rotate_left
                · rintro w' ⟨s0, s1, s2⟩
                  go_simp
                  with_reducible rfl
                rotate_left
                · simp only [Act.put, List.setIfInBounds_toArray, List.set_cons_zero, List.set_cons_succ, i64_w, i32_w]
                  rfl
                refine one_ (i := 16) (N := some 121) #[true, true, true, true, true, true, true, true, true, true, true, true, true, true, true, true, true, false, false, false] rfl rfl (one_of HT_.out (by kernel_rfl)) (by decide) (fun K hK => ?_)
                refine event_step (w1 := ?_) (v := ?_) (by rfl) ?_ ?_
                rotate_left 2
                · go_simp
                  constructor <;> rfl
                refine hK.out _ _ ?_ ?_
                · exact ⟨(blk_cell (blk_alloc HMq.out.ob _) 2).trans rfl, (((Below.refl _ wd).alloc (Nat.le_refl _) _).cell (World.block_lt_of_cell? _ _ hrow)).trans hrow, (((Below.refl _ wd).alloc (Nat.le_refl _) _).cell (World.block_lt_of_cell? _ _ htq)).trans htq⟩
                clear hK K
                intro hHeld
                refine one_ (i := 17) (N := some 122) #[true, true, true, true, true, true, true, true, true, true, true, true, true, true, true, true, true, true, false, false] rfl rfl (one_of HT_.out (by kernel_rfl)) (by decide) (fun K hK => ?_)
                refine Kd.R_append_step (Kd.int .i64) (w0 := w) w.heap.size (by rfl) (.tmp 116) (.tmp 121) 23 3 (.int .i64 0) 8 rfl Try.underlying23 info3 rfl (by decide) (by omega) (.slice AH hl0.length kH) hl0 y [.int .i64 y] (fun z => ownTo O2 wd.heap.size (v.toNat + 2) z = v.toNat + 2) (fun _ => False) (by rfl) (by rfl) ?aP (fun _ hk => hk.elim) ?aF ?aO ?aB ?aS ?aL ?_
                case aP => exact rfl
                case aF => intro z hz; unfold ownTo; rw [if_pos hz]
                case aO => exact R_ownTo (Nat.le_refl _) HRH.out
                case aB => exact HMq.out.below
                case aS => exact HMq.out.below.size
                case aL => exact hbd.out
                intro v1 w1 ho hb hg hat
                obtain ⟨A1, k1, e1⟩ := Kd.R_slice ho
                rw [List.length_append, List.length_singleton] at e1
                subst e1
                have H1 := Aside0.mk (HMq.out.appHead HD.out.hlen hv0 hv1 hrow (by rw [HH.out]; exact ho) hb hg)
                have hoc1 : w1.cell? ⟨hgb, v.toNat, none⟩ = some (.slice AH hl0.length kH) := H1.out.1
                have hof1 : w1.frozen? ⟨hgb, v.toNat, none⟩ = false := H1.out.2.1
                obtain ⟨cg, hcg⟩ := Kd.R_typed HMq.out.way g (by simp [Value.ownBlock])
                have hS1 : w1.cell? ⟨og, 2, none⟩ = some (.slice (some ⟨hgb, 0, none⟩) nx.length nx.length) := (blk_cell (blk_grown HMq.out.ob hg (Kd.R_ne HRH.out HMq.out.ob (by decide))) 2).trans rfl
                have hS2 : w1.cell? ⟨g, wy.length * 2, none⟩ = some (.int .i64 y) := hg.cell htq (Kd.R_ne HRH.out hcg (by decide))
                clear ho hb hg hat hcg cg
                refine hK.out _ _ ?_ ?_
                · exact ⟨hS1, hoc1, hS2⟩
                clear hK K
                intro hHeld
                refine pure_ (i := 18) (N := some 123) (v := ?_) (a' := ?_) #[true, true, true, true, true, true, true, true, true, true, true, true, true, true, true, true, true, true, true, false] rfl rfl (any_of HT_.out (by kernel_rfl)) (fun _ _ _ h => h) (Or.inl ⟨by rfl, ?_⟩) ?_ ?_
                rotate_left
                · intro w'
                  go_simp
                  with_reducible rfl
                rotate_left
                · simp only [Act.put, List.setIfInBounds_toArray, List.set_cons_zero, List.set_cons_succ, i64_w, i32_w]
                  rfl
                refine last_ (i := 19) (N := none) #[true, true, true, true, true, true, true, true, true, true, true, true, true, true, true, true, true, true, true, true] rfl rfl (one_of HT_.out (by kernel_rfl)) (by decide) (fun K hK => ?_)
                refine skip_ (w1 := ?_) (by rfl) rfl ?_ ?_
                rotate_left
                · go_simp
                  rfl
                refine hK.out _ _ ?_
                clear hK K
                refine done_ (done_of HT_.out (by kernel_rfl)) ?_
                have hsl2 : v < s2.seen.length := by rw [HD.out.slen]; exact hv1
                obtain ⟨hvc, hvf⟩ := R_celln false H1.out.2.2.seen v hv0 hv1
                have hyd : v = rd (succs nx y) k := by rw [HLS.out]; exact HV.out
                have hkd : k < (succs nx y).length := by rw [HLS.out]; exact hk2
                have HYD := Aside0.mk (And.intro hyd hkd)
                clear hyd hkd
                by_cases hsv : rdOf false s2.seen v = true
                · --<r16a
                  have e1 : rdOf false ({ s2 with way := wy ++ [(y, k + 1)], heads := addHead s2.heads v y } : DS).seen v = true := hsv
                  rw [e1] at hvc
                  have HSV := Aside0.mk hsv
                  clear hsv e1
                  go_wp2_with fail
                  have HE := HD.out.edge wy [] y k HW.out HYD.out.2 (by rw [← HYD.out.1]; exact hv0) (by rw [← HYD.out.1]; exact hv1) (by rw [← HYD.out.1]; exact HSV.out)
                  rw [← HYD.out.1] at HE
                  go_roundg (mu nx { s2 with way := wy ++ [(y, k + 1)], heads := addHead s2.heads v y })
                  case measure => have := HMU.out; have := HE.2; omega
                  case rel => exact ⟨some ⟨g, 0, none⟩, kW, vl2, _, { s2 with way := wy ++ [(y, k + 1)], heads := addHead s2.heads v y }, by simp, ⟨by simpa using H1.out.2.2⟩, ⟨HE.1⟩, ⟨Nat.le_refl _⟩, HSt⟩
                · rw [Bool.not_eq_true] at hsv
                  have e1 : rdOf false ({ s2 with way := wy ++ [(y, k + 1)], heads := addHead s2.heads v y } : DS).seen v = false := hsv
                  rw [e1] at hvc
                  have HSV := Aside0.mk hsv
                  clear hsv e1
                  have HMs := Aside0.mk (OrdMem.putSeen (s := { s2 with way := wy ++ [(y, k + 1)], heads := addHead s2.heads v y }) (cap := k26) (g := sg) (by rw [show ({ s2 with way := wy ++ [(y, k + 1)], heads := addHead s2.heads v y } : DS).seen.length = nx.length from HD.out.slen]; exact H1.out.2.2) v hv0 hsl2)
                  have hll5 : ((wy ++ [(y, k + 1)]).length + 1) * 16 ≤ 140737488355328 := by rw [List.length_append, List.length_singleton]; omega
                  have HLL5 := Aside0.mk hll5
                  clear hll5
                  go_wp2_with (at_builtin; go_loud (refine Kd.R_append kS (w0 := w) w.heap.size rfl (.tmp 132) (.tmp 135) 103 102 (.agg #[.int .i64 0, .int .i64 0]) 16 rfl Try.underlying103 info102 rfl (by decide) (by omega) (.slice (some ⟨g, 0, none⟩) (wy.length + 1) kW) (wy ++ [(y, k + 1)]) (v, 0) [.int .i64 v, .int .i64 0] (fun _ => True) (fun _ => False) rfl ?aX ?aP (fun _ hk => hk.elim) (fun _ _ => trivial) ?aO ?aB ?aS ?aL ?_; (case aP => exact ⟨[.int .i64 v], [.int .i64 0], rfl, rfl, rfl⟩); (case aX => go_simp); (case aB => exact HMs.out.below); (case aO => exact HMs.out.way); (case aS => exact HMs.out.below.size); (case aL => exact HLL5.out); intro v4 w4 ho hb hg hat; obtain ⟨A4, k4, e4⟩ := Kd.R_slice ho; rw [List.length_append, List.length_append, List.length_singleton, List.length_singleton] at e4; subst e4; have H4 := Aside0.mk (HMs.out.appWay ho hb hg); clear ho hb hg hat))
                  have HPu := HD.out.push HG.out v hv0 hv1 HSV.out (.step (HD.out.reach y (by rw [HW.out]; simp)) HVM.out (by omega)) (fun j p hj hl => by
                    rw [HW.out] at hj hl
                    rw [List.length_append, List.length_singleton] at hl
                    have hj0 : j = wy.length := by omega
                    subst hj0
                    simp at hj
                    subst hj
                    exact HVM.out) (fun he => by rw [HW.out] at he; simp at he)
                  have HE := HPu.1.edge wy [(v, 0)] y k (by show s2.way ++ [(v, (0 : Int))] = _; rw [HW.out]; simp) HYD.out.2 (by rw [← HYD.out.1]; exact hv0) (by rw [← HYD.out.1]; exact hv1) (by rw [← HYD.out.1]; exact (rdOf_set _ _ _ hv0 hsl2 hv0).2 (.inl rfl))
                  rw [← HYD.out.1] at HE
                  have hway : (wy ++ [(y, k + 1)]) ++ [(v, (0 : Int))] = wy ++ (y, k + 1) :: [(v, 0)] := by simp
                  have hlen : (wy ++ (y, k + 1) :: [(v, (0 : Int))]).length = wy.length + 1 + 1 := by simp
                  have H5 : OrdMem w w4 w.heap.size og hgb #[.slice (some ad2) nx.length c0, .slice (some ad) st.length c1] (.slice (some ⟨sg, 0, none⟩) nx.length k26) (.slice A4 (wy ++ (y, k + 1) :: [(v, (0 : Int))]).length k4) vl2 (.slice (some ⟨pg, 0, none⟩) nx.length nx.length) nx.length (ownTo O2 wd.heap.size (v.toNat + 2)) { s2 with seen := s2.seen.set v.toNat true, way := wy ++ (y, k + 1) :: [(v, 0)], heads := addHead s2.heads v y } (List.replicate nx.length 0) := by
                    have h := H4.out
                    have e5 : ({ s2 with way := wy ++ [(y, k + 1)], heads := addHead s2.heads v y } : DS).seen.length = nx.length := HD.out.slen
                    rw [e5] at h
                    rw [hlen]
                    rw [← hway]
                    exact h
                  have hmu1 : mu nx { s2 with seen := s2.seen.set v.toNat true, way := wy ++ (y, k + 1) :: [(v, 0)], heads := addHead s2.heads v y } < mu nx { s2 with seen := s2.seen.set v.toNat true, way := s2.way ++ [(v, 0)] } := HE.2
                  go_roundg (mu nx { s2 with seen := s2.seen.set v.toNat true, way := wy ++ (y, k + 1) :: [(v, 0)], heads := addHead s2.heads v y })
                  case measure => have := HMU.out; have h2 := HPu.2; omega
                  case rel => exact ⟨A4, k4, vl2, _, { s2 with seen := s2.seen.set v.toNat true, way := wy ++ (y, k + 1) :: [(v, 0)], heads := addHead s2.heads v y }, by rw [hlen], ⟨H5⟩, ⟨HE.1⟩, ⟨Nat.le_refl _⟩, ⟨fun j hj => by
                    have h3 := HG.out.starts (st.getD j 0) (by rw [List.getD_eq_getElem?_getD, List.getElem?_eq_getElem (by omega)]; exact List.getElem_mem _)
                    exact (rdOf_set _ _ _ hv0 hsl2 h3.1).2 (.inr (HSt.out j hj))⟩⟩
      · --<tail
        obtain ⟨AL, kL, eL⟩ := Kd.R_slice HM3.out.list
        subst eL
        have hol : wr.cell? ⟨og, 0, none⟩ = some (.slice AL s.list.length kL) := (blk_cell HM3.out.ob 0).trans rfl
        go_wp2_with (go_at_call 74; refine (f74_any w wr w.heap.size (fun k => O k = 0) AL kL s.list HM3.out.below HM3.out.list).mono ?_; rintro e w2 ⟨rfl, hr, hb, hg⟩; have HM4 := Aside0.mk (HM3.out.onList hr hb hg); clear hr hb hg; have hop : w2.cell? ⟨og, 1, none⟩ = some (.slice (some ⟨pg, 0, none⟩) nx.length nx.length) := (blk_cell HM4.out.ob 1).trans rfl)
        have hpl0 : Aside0 ((List.replicate nx.length (0 : Int)).length = nx.length) := ⟨List.length_replicate⟩
        obtain ⟨p0, hp0⟩ : ∃ p0, p0 = List.replicate nx.length (0 : Int) := ⟨_, rfl⟩
        rw [← hp0] at HM4 hpl0
        clear hp0 hol hop hn0
        go_loopw [148] (fun v148 wr => ∃ (j : Int) (pl : List Int), v148 = .int .i64 j ∧ 0 ≤ j ∧ j ≤ nx.length ∧ Aside0 (OrdMem w wr w.heap.size og hgb #[.slice A0 nx.length c0, .slice A1 st.length c1] (.slice B26 nx.length k26) (.slice none 0 0) (.slice AL s.list.length kL) (.slice (some ⟨pg, 0, none⟩) nx.length nx.length) nx.length O { s with list := s.list.reverse } pl) ∧ Aside0 (pl.length = nx.length)) (fun v _ => nx.length - (intOf v).toNat)
        case atStart => exact ⟨0, p0, rfl, by omega, by omega, HM4, hpl0⟩
        case round =>
          clear HM3 HM4 hpl0
          obtain ⟨j, pl, rfl, hj0, hj1, HM5, HPL⟩ := hrel
          have hop : wr.cell? ⟨og, 1, none⟩ = some (.slice (some ⟨pg, 0, none⟩) nx.length nx.length) := (blk_cell HM5.out.ob 1).trans rfl
          have hol : wr.cell? ⟨og, 0, none⟩ = some (.slice AL s.list.length kL) := (blk_cell HM5.out.ob 0).trans rfl
          by_cases hjl : j < nx.length
          · obtain ⟨hpc, hpf⟩ := R_celln 0 HM5.out.place j hj0 hjl
            go_wp2_with fail
            go_roundw
            case rel => exact ⟨j + 1, pl.set j.toNat (-1), rfl, by omega, by omega, ⟨HM5.out.putPlace j (-1)⟩, ⟨by rw [List.length_set]; exact HPL.out⟩⟩
            case measure => simp [intOf]; omega
          · go_wp2_with fail
            obtain ⟨wo, rfl⟩ : ∃ wo : World, wo = wr := ⟨_, rfl⟩
            have hll : s.list.length ≤ 9223372036854775807 := by have := HD.out.len_le; omega
            have hls : Aside0 (s.list.reverse.length = s.list.length) := ⟨List.length_reverse⟩
            go_loopw [163] (fun v163 wr => ∃ (m : Int) (pl : List Int), v163 = .int .i64 m ∧ 0 ≤ m ∧ m ≤ s.list.length ∧ Aside0 (OrdMem w wr w.heap.size og hgb #[.slice A0 nx.length c0, .slice A1 st.length c1] (.slice B26 nx.length k26) (.slice none 0 0) (.slice AL s.list.length kL) (.slice (some ⟨pg, 0, none⟩) nx.length nx.length) nx.length O { s with list := s.list.reverse } pl) ∧ Aside0 (pl.length = nx.length) ∧ Aside0 (∀ (q : Nat) (x : Int), q < m.toNat → s.list.reverse[q]? = some x → rd pl x = q)) (fun v _ => s.list.length - (intOf v).toNat)
            case atStart => exact ⟨0, pl, rfl, by omega, by omega, HM5, HPL, ⟨fun q x hq => absurd hq (Nat.not_lt_zero _)⟩⟩
            case round =>
              clear HM5 HPL hop hol
              obtain ⟨m, pl2, rfl, hm0, hm1, HM5, HPL, HQ⟩ := hrel
              have hop : wr.cell? ⟨og, 1, none⟩ = some (.slice (some ⟨pg, 0, none⟩) nx.length nx.length) := (blk_cell HM5.out.ob 1).trans rfl
              have hlr : Kd.C (Kd.int .i64) wr AL s.list.length s.list.reverse := by
                have := (Kd.R_reads' HM5.out.list)
                rw [this.1]; exact this.2.2
              have HLR := Aside0.mk hlr
              clear hlr
              by_cases hml : m < s.list.length
              · obtain ⟨ad, e, hc⟩ := Kd.at_int HLR.out m hm0 (by omega)
                cases e
                obtain ⟨x, hx⟩ : ∃ x, x = rd s.list.reverse m := ⟨_, rfl⟩
                rw [← hx] at hc
                have hxg : s.list.reverse[m.toNat]? = some x := by
                  rw [hx, rd, List.getD_eq_getElem?_getD, List.getElem?_eq_getElem (by rw [hls.out]; omega : m.toNat < s.list.reverse.length)]; rfl
                have hxm : x ∈ s.list := List.mem_reverse.1 (List.mem_of_getElem? hxg)
                have hxr := (HD.out.mem x).1 (List.mem_append_left _ hxm)
                have hx0 := hxr.1
                have hx1 := hxr.2.1
                have HXG := Aside0.mk hxg
                clear hx hxg hxm hxr
                obtain ⟨hpc, hpf⟩ := R_celln 0 HM5.out.place x hx0 hx1
                go_wp2_with fail
                go_roundw
                case rel =>
                  refine ⟨m + 1, pl2.set x.toNat m, rfl, by omega, by omega, ⟨HM5.out.putPlace x m⟩, ⟨by rw [List.length_set]; exact HPL.out⟩, ⟨fun q z hq hz => ?_⟩⟩
                  have hnd : s.list.reverse.Nodup := (List.reverse_perm s.list).nodup_iff.2 (List.nodup_append.1 HD.out.nodup).1
                  have hzr := (HD.out.mem z).1 (List.mem_append_left _ (List.mem_reverse.1 (List.mem_of_getElem? hz)))
                  rw [rd_set _ _ _ _ hx0 (by rw [HPL.out]; exact hx1) hzr.1]
                  by_cases hqm : q = m.toNat
                  · subst hqm
                    rw [HXG.out] at hz
                    cases hz
                    rw [if_pos rfl]; omega
                  · rw [if_neg (fun e => hqm ?_)]
                    · exact HQ.out q z (by omega) hz
                    · subst e
                      have h1 := (List.getElem?_eq_some_iff.1 hz)
                      have h2 := (List.getElem?_eq_some_iff.1 HXG.out)
                      obtain ⟨a1, b1⟩ := h1
                      obtain ⟨a2, b2⟩ := h2
                      exact nodup_inj hnd a1 a2 (b1.trans b2.symm)
                case measure => simp [intOf]; omega
              · go_wp2_with fail
                go_ret
                refine ⟨og, rfl, s.list.reverse, pl2, s.heads, AL, kL, some ⟨pg, 0, none⟩, nx.length, some ⟨hgb, 0, none⟩, nx.length, ?_, ?_, ?_, ?_, ?_, HM5.out.below⟩
                · refine ord_of HG.out HD.out HW0.out (fun x hx => ?_) HPL.out (fun q x hq => HQ.out q x ?_ hq)
                  · obtain ⟨q, hq, rfl⟩ := List.getElem_of_mem hx
                    have := HSt.out q (by omega)
                    rwa [List.getD_eq_getElem?_getD, List.getElem?_eq_getElem hq] at this
                  · have := (List.getElem?_eq_some_iff.1 hq).1; rw [hls.out] at this; omega
                · rw [hls.out]; exact HM5.out.ob
                · rw [hls.out]; exact HLR.out
                · exact (Kd.R_reads' HM5.out.place).2.2 |> fun h => by rw [HPL.out] at h; exact h
                · exact HM5.out.headsC HD.out.hlen HG.out.len
end Go.Proofs.Ytgbmebnfbhdpiaa
