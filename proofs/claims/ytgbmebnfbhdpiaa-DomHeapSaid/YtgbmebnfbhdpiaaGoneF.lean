/- The walk of dom.Gone: which nodes are not reached any more without a node. -/
import Derived.Test.YtgbmebnfbhdpiaaReachG
import Derived.Deep.RegionHeld3
namespace Go.Proofs.Ytgbmebnfbhdpiaa
open Go.RowKit Go.Proofs.YtgbmebnfbhdpiaaW.PrintWords

/-- Of each node whether it is reached, and not without 'a'. -/
noncomputable def goneB (nx : List (List Int)) (st : List Int) (a : Int) : List Bool := List.zipWith (fun x y => x && !y) (reachB nx st (-1)) (reachB nx st a)
theorem goneB_len (nx : List (List Int)) (st : List Int) (a : Int) : (goneB nx st a).length = nx.length := by simp [goneB, reachB_len]
def inNet (nx : List (List Int)) (a : Int) : Bool := decide (0 ≤ a) && decide (a < nx.length)
def goneE (nx : List (List Int)) (st : List Int) (a : Int) : Int := if netOk nx st then (if inNet nx a then 0 else 1) else 200
noncomputable def goneA (nx : List (List Int)) (st : List Int) (a : Int) : List Bool := if netOk nx st && inNet nx a then goneB nx st a else []
theorem gone_bad {nx : List (List Int)} {st : List Int} (a : Int) (h : netOk nx st = false) : goneE nx st a = 200 ∧ goneA nx st a = [] := by simp [goneE, goneA, h]
theorem gone_arg {nx : List (List Int)} {st : List Int} {a : Int} (h : netOk nx st = true) (ha : inNet nx a = false) : goneE nx st a = 1 ∧ goneA nx st a = [] := by simp [goneE, goneA, h, ha]
theorem gone_ok {nx : List (List Int)} {st : List Int} {a : Int} (h : netOk nx st = true) (ha : inNet nx a = true) : goneE nx st a = 0 ∧ goneA nx st a = goneB nx st a := by simp [goneE, goneA, h, ha]

/-- The first i are done. -/
def zl (z x : List Bool) (i : Int) : List Bool := z.take i.toNat ++ x.drop i.toNat
theorem zl_len {z x : List Bool} (h : z.length = x.length) (i : Int) (h1 : i ≤ x.length) : (zl z x i).length = x.length := by
  unfold zl; rw [List.length_append, List.length_take, List.length_drop]; omega
theorem zl_at {z x : List Bool} (h : z.length = x.length) (i : Int) (h0 : 0 ≤ i) (h1 : i < x.length) : rdOf false (zl z x i) i = rdOf false x i := by
  unfold rdOf zl
  rw [List.getD_eq_getElem?_getD, List.getElem?_append_right (by rw [List.length_take]; omega), List.length_take, List.getElem?_drop, List.getD_eq_getElem?_getD]
  rw [show i.toNat + (i.toNat - min i.toNat z.length) = i.toNat from by omega]
theorem zl_set {z x : List Bool} (h : z.length = x.length) (i : Int) (h0 : 0 ≤ i) (h1 : i < x.length) : (zl z x i).set i.toNat (rdOf false z i) = zl z x (i + 1) := by
  unfold zl
  rw [show (i + 1).toNat = i.toNat + 1 from by omega, List.set_append_right _ _ (by rw [List.length_take]; omega), List.length_take, show i.toNat - min i.toNat z.length = 0 from by omega]
  rw [List.drop_eq_getElem_cons (by omega : i.toNat < x.length), List.set_cons_zero, List.take_succ_eq_append_getElem (by omega : i.toNat < z.length), List.append_assoc]
  simp [rdOf, List.getD_eq_getElem?_getD, List.getElem?_eq_getElem (by omega : i.toNat < z.length)]
theorem rdOf_zip (x y : List Bool) (h : x.length = y.length) (i : Int) (h0 : 0 ≤ i) (h1 : i < x.length) : rdOf false (List.zipWith (fun x y => x && !y) x y) i = (rdOf false x i && !rdOf false y i) := by
  unfold rdOf
  rw [List.getD_eq_getElem?_getD, List.getD_eq_getElem?_getD, List.getD_eq_getElem?_getD, List.getElem?_zipWith]
  rw [List.getElem?_eq_getElem (by omega : i.toNat < x.length), List.getElem?_eq_getElem (by omega : i.toNat < y.length)]
  rfl

theorem R_celln {α : Type} {enc : α → Value} {h1 : ∀ x, (enc x).oneCell' = true} {e base g cap n : Nat} {ok : Nat → Prop} {xs : List α} {W : World} (d : α) (h : (Kd.scalar enc h1).R e W base ok (.slice (some ⟨g, 0, none⟩) n cap) xs) (i : Int) (h0 : 0 ≤ i) (hi : i < n) :
    W.cell? ⟨g, i.toNat, none⟩ = some (enc (rdOf d xs i)) ∧ W.frozen? ⟨g, i.toNat, none⟩ = false := by
  obtain rfl := (Kd.R_reads' h).1
  exact Kd.R_cell d h i h0 hi

set_option maxRecDepth 100000 in
set_option maxHeartbeats 1000000 in
theorem f27_any (A0 : Option Addr) (c0 : Nat) (A1 : Option Addr) (c1 : Nat) (nx : List (List Int)) (st : List Int) (a : Int) (w : World) (hn : NetC w A0 c0 A1 c1 nx st) :
    Calls Try.prog 27 #[.agg #[.slice A0 nx.length c0, .slice A1 st.length c1], .int .i64 a] w fun e w' => ∃ v, e = .returned (.tuple #[v, .int .i64 (goneE nx st a)]) ∧ Kd.R Kd.bool 4 w' w.heap.size (fun _ => True) v (goneA nx st a) ∧ Below w.heap.size w w' := by
  have HN := Aside0.mk hn
  have hL0 : nx.length ≤ 9223372036854775807 := hn.next.2.1
  clear hn
  have HB0 : Aside0 (∀ cs : Array Value, Below w.heap.size w (w.alloc (.cells cs 25))) := ⟨fun _ => (Below.refl _ _).alloc (Nat.le_refl _) _⟩
  go_enter Try.func27, Try.ntmps27
  go_wp2_with fail
  refine (f23_any A0 c0 A1 c1 nx st _ (HN.out.below (HB0.out _))).mono ?_
  rintro e w1 ⟨rfl, hb⟩
  obtain ⟨hbk, hz, hb1⟩ := boxed hb
  obtain ⟨hn0, hn1⟩ := box2 hbk
  have HB1 := Aside0.mk hb1
  have HBK := Aside0.mk hbk
  clear hb hb1 hbk
  by_cases hok : netOk nx st = true
  case neg =>
    rw [Bool.not_eq_true] at hok
    rw [checkE_bad hok]
    have HOK := Aside0.mk hok
    clear hok
    go_wp2_with fail
    go_ret2
    exact ⟨_, ret_vi (gone_bad a HOK.out).1.symm, by rw [(gone_bad a HOK.out).2]; exact Kd.R_nil _ _ _ _ _, HB1.out⟩
  rw [checkE_ok hok]
  have HOK := Aside0.mk hok
  clear hok
  by_cases ha0 : a < 0
  · have ha0b : decide (a < 0) = true := decide_eq_true ha0
    go_wp2_with fail
    go_ret2
    have hi : inNet nx a = false := by simp [inNet]; omega
    exact ⟨_, ret_vi (gone_arg HOK.out hi).1.symm, by rw [(gone_arg HOK.out hi).2]; exact Kd.R_nil _ _ _ _ _, HB1.out⟩
  have ha0b : decide (a < 0) = false := decide_eq_false ha0
  by_cases ha1 : a ≥ nx.length
  · have ha1b : decide (a ≥ (nx.length : Int)) = true := decide_eq_true ha1
    go_wp2_with fail
    go_ret2
    have hi : inNet nx a = false := by simp [inNet]; omega
    exact ⟨_, ret_vi (gone_arg HOK.out hi).1.symm, by rw [(gone_arg HOK.out hi).2]; exact Kd.R_nil _ _ _ _ _, HB1.out⟩
  have ha1b : decide (a ≥ (nx.length : Int)) = false := decide_eq_false ha1
  have hi : inNet nx a = true := by simp [inNet]; omega
  have HI := Aside0.mk hi
  clear hi
  go_wp2_with fail
  go_region_held3 (fun w' => w'.cell? ⟨w.heap.size, 0, none⟩ = some (.slice A0 nx.length c0) ∧ w'.cell? ⟨w.heap.size, 1, none⟩ = some (.slice A1 st.length c1))
    (first | go_keep | exact box2 (blk_below (blk_drew HBK.out) hb) | exact box2 (blk_below (blk_below (blk_drew HBK.out) (by assumption)) hb))
    ((go_at_call 51; refine (f51_any A0 c0 A1 c1 nx st _ _ (HN.out.below (by first | exact below_drew HB1.out | exact below_trans (below_drew HB1.out) (by assumption))) (good_of_ok HOK.out)).mono ?_; rintro e w2 ⟨v, rfl, hr, hb⟩))
  rename_i w3 v3 hr3 hb3 _
  have HX := Aside0.mk (Kd.R_lower (Kd.R_mono (Kd.R_elder (d := Kd.bool) hr3 hr hb) (fun _ _ => (trivial : (fun _ => True) _))) HB1.out.size)
  have HY := Aside0.mk (Kd.R_lower (Kd.R_mono (Kd.R_newR hr hr3) (fun _ hk => hk.2)) (Nat.le_trans HB1.out.size hb3.size))
  have HB2 := Aside0.mk (below_trans (below_trans (below_drew HB1.out) hb3) hb)
  clear hr3 hr hb hb3 hn0 hn1 HBK HB0
  obtain ⟨AX, kX, eX⟩ := Kd.R_slice HX.out
  obtain ⟨AY, kY, eY⟩ := Kd.R_slice HY.out
  rw [reachB_len] at eX eY
  subst eX eY
  obtain ⟨X, hX⟩ : ∃ X, X = reachB nx st (-1) := ⟨_, rfl⟩
  obtain ⟨Y, hY⟩ : ∃ Y, Y = reachB nx st a := ⟨_, rfl⟩
  obtain ⟨G, hG⟩ : ∃ G, G = goneB nx st a := ⟨_, rfl⟩
  rw [← hX] at HX
  rw [← hY] at HY
  have hXl : X.length = nx.length := by rw [hX, reachB_len]
  have hYl : Y.length = nx.length := by rw [hY, reachB_len]
  have hGl : G.length = X.length := by rw [hG, goneB_len, hXl]
  have HGat : Aside0 (∀ i : Int, 0 ≤ i → i < nx.length → rdOf false G i = (rdOf false X i && !rdOf false Y i)) := ⟨fun i h0 h1 => by rw [hG, hX, hY]; exact rdOf_zip _ _ (by rw [reachB_len, reachB_len]) i h0 (by rw [reachB_len]; exact h1)⟩
  have HL := Aside0.mk (And.intro hXl (And.intro hYl hGl))
  have HG := Aside0.mk hG
  clear hXl hYl hGl hX hY hG
  go_wp2_with fail
  go_loopw [31] (fun v31 wr => ∃ i : Int, v31 = .int .i64 i ∧ 0 ≤ i ∧ i ≤ nx.length ∧ Aside0 (Kd.R Kd.bool 4 wr w.heap.size (fun _ => True) (.slice AX nx.length kX) (zl G X i)) ∧ Aside0 (Kd.R Kd.bool 4 wr w.heap.size (fun k => some k ≠ (Value.slice AX nx.length kX).ownBlock) (.slice AY nx.length kY) Y) ∧ Aside0 (Below w.heap.size w wr)) (fun v _ => nx.length - (intOf v).toNat)
  case atStart => exact ⟨0, rfl, by omega, by omega, ⟨by simpa [zl] using HX.out⟩, HY, HB2⟩
  case round =>
    obtain ⟨i, rfl, h0, h1, HX1, HY1, HB3⟩ := hrel
    clear HX HY HB2
    by_cases hlt : i < nx.length
    · obtain ⟨g, cap, hvs, hbg, hgl, cells, hgc⟩ := Kd.R_form HX1.out (by rw [zl_len HL.out.2.2 i (by have := HL.out.1; omega)]; have := HL.out.1; omega)
      rw [zl_len HL.out.2.2 i (by have := HL.out.1; omega), HL.out.1] at hvs
      cases hvs
      obtain ⟨hxc, hxf⟩ := R_celln false HX1.out i h0 hlt
      rw [zl_at HL.out.2.2 i h0 (by have := HL.out.1; omega)] at hxc
      have hset := zl_set HL.out.2.2 i h0 (by have := HL.out.1; omega)
      rw [HGat.out i h0 hlt] at hset
      have HSET := Aside0.mk hset
      clear hset cells hgc
      have HB4 := Aside0.mk (fun u : Value => HB3.out.setCell (p := ⟨g, i.toNat, none⟩) hbg u)
      have HY2 := Aside0.mk (fun u : Value => Kd.R_far HY1.out (p := ⟨g, i.toNat, none⟩) (fun k hk e => hk (by rw [e]; rfl)) u)
      have HX2 := Aside0.mk (fun b : Bool => Kd.R_putn HX1.out i b)
      by_cases hb : rdOf false X i = true
      · rw [hb] at hxc HSET
        clear hb
        obtain ⟨ad, e, hyc⟩ := Kd.at_bool (Kd.R_reads' HY1.out).2.2 i h0 (by have := HL.out.2.1; omega)
        cases e
        obtain ⟨y, hy⟩ : ∃ y, y = rdOf false Y i := ⟨_, rfl⟩
        rw [← hy] at hyc HSET
        clear hy
        go_wp2_with fail
        go_roundw
        case rel => exact ⟨i + 1, rfl, by omega, by omega, ⟨by rw [← HSET.out]; exact HX2.out _⟩, ⟨HY2.out _⟩, ⟨HB4.out _⟩⟩
        case measure => simp [intOf]; omega
      · rw [Bool.not_eq_true] at hb
        rw [hb] at hxc HSET
        clear hb
        go_wp2_with fail
        go_roundw
        case rel => exact ⟨i + 1, rfl, by omega, by omega, ⟨by rw [← HSET.out]; exact HX2.out _⟩, ⟨HY2.out _⟩, ⟨HB4.out _⟩⟩
        case measure => simp [intOf]; omega
    · go_wp2_with fail
      go_ret2
      refine ⟨_, ret_vi (gone_ok HOK.out HI.out).1.symm, ?_, HB3.out⟩
      rw [(gone_ok HOK.out HI.out).2, ← HG.out]
      have : zl G X i = G := by unfold zl; rw [List.take_of_length_le (by have := HL.out; omega), List.drop_eq_nil_of_le (by have := HL.out; omega), List.append_nil]
      rw [← this]; exact HX1.out

end Go.Proofs.Ytgbmebnfbhdpiaa
