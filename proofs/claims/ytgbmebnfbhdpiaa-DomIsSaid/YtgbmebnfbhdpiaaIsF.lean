/- The walk of the law DomIs: it is true of every net and any two nodes. -/
import Derived.Test.YtgbmebnfbhdpiaaRefC
import Derived.Test.YtgbmebnfbhdpiaaEqB
import Derived.Test.YtgbmebnfbhdpiaaCloneG
import Derived.Test.YtgbmebnfbhdpiaaBegunF
set_option linter.unusedSimpArgs false
set_option linter.unusedVariables false
namespace Go.Proofs.Ytgbmebnfbhdpiaa
open Go.RowKit Go.Proofs.YtgbmebnfbhdpiaaW.PrintWords Go.Proofs.YtgbmebnfbhdpiaaW.PrintLast

theorem f30_eq {A : Option Addr} {ca n : Nat} {B : Option Addr} {cb : Nat} {xs : List Bool} {w : World} (hx : Kd.C Kd.bool w A n xs) (hy : Kd.C Kd.bool w B n xs) :
    Calls Try.prog 30 #[.slice A n ca, .slice B n cb] w fun e w' => e = .returned (.bool true) ∧ Below w.heap.size w w' := by
  have h1 : xs.length = n := hx.1
  subst h1
  refine (f30_any A ca B cb xs xs w hx hy).mono ?_
  rintro e w' ⟨rfl, hb⟩
  exact ⟨by rw [decide_eq_true rfl], hb⟩
/-- The two nets' boxes. -/
structure BxSt (w cur : World) (cs cs' : Array Value) (wb : Nat) : Prop where
  below : Below w.heap.size w cur
  box : cur.heap[w.heap.size]? = some (.cells cs 25 (0, 0))
  was : cur.heap[wb]? = some (.cells cs' 25 (0, 0))
theorem BxSt.step {w cur w2 : World} {cs cs' : Array Value} {wb : Nat} (h : BxSt w cur cs cs' wb) (hb : Below cur.heap.size cur w2) : BxSt w w2 cs cs' wb :=
  ⟨below_trans h.below hb, blk_below h.box hb, blk_below h.was hb⟩
/-- What is known of the world while the answers are compared. -/
structure IsSt (w cur : World) (cs cs' : Array Value) (wb : Nat) (AX AY AU AV : Option Addr) (X U : List Bool) (A2 : Option Addr) (c2 : Nat) (A3 : Option Addr) (c3 : Nat) (nx : List (List Int)) (st : List Int) : Prop where
  wn : NetC cur A2 c2 A3 c3 nx st
  below : Below w.heap.size w cur
  box : cur.heap[w.heap.size]? = some (.cells cs 25 (0, 0))
  was : cur.heap[wb]? = some (.cells cs' 25 (0, 0))
  cx : Kd.C Kd.bool cur AX X.length X
  cy : Kd.C Kd.bool cur AY X.length X
  cu : Kd.C Kd.bool cur AU U.length U
  cv : Kd.C Kd.bool cur AV U.length U
theorem IsSt.step {w cur w2 : World} {cs cs' : Array Value} {wb : Nat} {AX AY AU AV : Option Addr} {X U : List Bool} {A2 : Option Addr} {c2 : Nat} {A3 : Option Addr} {c3 : Nat} {nx : List (List Int)} {st : List Int} (h : IsSt w cur cs cs' wb AX AY AU AV X U A2 c2 A3 c3 nx st) (hb : Below cur.heap.size cur w2) : IsSt w w2 cs cs' wb AX AY AU AV X U A2 c2 A3 c3 nx st :=
  ⟨h.wn.below hb, below_trans h.below hb, blk_below h.box hb, blk_below h.was hb, Kd.C_below h.cx hb, Kd.C_below h.cy hb, Kd.C_below h.cu hb, Kd.C_below h.cv hb⟩

set_option maxRecDepth 100000 in
set_option maxHeartbeats 2000000 in
theorem f7_any (A0 : Option Addr) (c0 : Nat) (A1 : Option Addr) (c1 : Nat) (nx : List (List Int)) (st : List Int) (a b : Int) (w : World) (hn : NetC w A0 c0 A1 c1 nx st) :
    Calls Try.prog 7 #[.agg #[.slice A0 nx.length c0, .slice A1 st.length c1], .int .i64 a, .int .i64 b] w fun e w' => e = .returned (.bool true) ∧ Below w.heap.size w w' := by
  have HN := Aside0.mk hn
  clear hn
  go_enter Try.func7, Try.ntmps7
  go_wp2_with fail
  refine (f11_any _).mono ?_
  rintro e w1 ⟨rfl, hb⟩
  obtain ⟨hbk, hz, hb1⟩ := boxed hb
  obtain ⟨hn0, hn1⟩ := box2 hbk
  have HB1 := Aside0.mk hb1
  have HBK := Aside0.mk hbk
  clear hb hb1 hbk
  go_wp2_with fail
  refine (f12_few A0 c0 A1 c1 nx st _ (HN.out.below HB1.out)).mono ?_
  rintro e w2 ⟨fb, rfl, hfew, hb⟩
  have HB2 := Aside0.mk (below_trans HB1.out hb)
  have HBK2 := Aside0.mk (blk_below HBK.out hb)
  clear hb hn0 hn1
  obtain ⟨hn0, hn1⟩ := box2 HBK2.out
  cases fb
  · go_wp2_with fail
    refine (f11_any _).mono ?_
    rintro e w3 ⟨rfl, hb⟩
    have HB3 := Aside0.mk (below_trans HB2.out hb)
    clear hb
    go_wp2_with fail
    go_ret
    exact ⟨rfl, HB3.out⟩
  have HF := Aside0.mk (hfew rfl)
  clear hfew
  go_wp2_with fail
  refine (f25_any A0 c0 A1 c1 nx st _ (HN.out.below HB2.out) HF.out).mono ?_
  rintro e w3 ⟨ob, vn, vs, rfl, hcl⟩
  obtain ⟨HH, OO, hcs⟩ := hcl.st
  obtain ⟨A2, c2, A3, c3, rfl, rfl, hn2⟩ := hcs.net (by have := HF.out.len; omega) (fun k => by have := HF.out.next k; omega)
  have HN2 := Aside0.mk hn2
  have HB3 := Aside0.mk (below_trans HB2.out hcs.below)
  have HBK3 := Aside0.mk (blk_below HBK2.out hcs.below)
  clear hn0 hn1 hcl hcs hn2
  obtain ⟨hn0, hn1⟩ := box2 HBK3.out
  have hz3 := blk_lt HBK3.out
  go_wp2_with fail
  have HS : Aside0 (BxSt w (w3.alloc (.cells #[.slice A2 nx.length c2, .slice A3 st.length c3] 25)) #[.slice A0 nx.length c0, .slice A1 st.length c1] #[.slice A2 nx.length c2, .slice A3 st.length c3] w3.heap.size) := ⟨⟨HB3.out.alloc HB3.out.size _, blk_alloc HBK3.out _, blk_new _ _⟩⟩
  have HN4 := Aside0.mk (HN2.out.below ((Below.refl _ _).alloc (Nat.le_refl _) (.cells #[.slice A2 nx.length c2, .slice A3 st.length c3] 25)))
  generalize (w3.alloc (.cells #[.slice A2 nx.length c2, .slice A3 st.length c3] 25)) = w4 at HS HN4 ⊢
  obtain ⟨wb, hwb⟩ : ∃ wb, wb = w3.heap.size := ⟨_, rfl⟩
  rw [← hwb] at HS ⊢
  clear hn0 hn1 hwb hz3 HB3 HBK3 HB2 HBK2 HB1 HBK HN2
  obtain ⟨hn0, hn1⟩ := box2 HS.out.box
  go_wp2_with fail
  refine (f22_any A0 c0 A1 c1 nx st _ (HN.out.below HS.out.below)).mono ?_
  rintro e w5 ⟨vX, rfl, hr, hb⟩
  obtain ⟨AX, kX, eX⟩ := Kd.R_slice hr
  subst eX
  have HX := Aside0.mk (Kd.R_reads' hr).2.2
  have HT := Aside0.mk (HS.out.step hb)
  have HN5 := Aside0.mk (HN4.out.below hb)
  clear HN4
  clear hn0 hn1 hr hb HS
  have HS := HT
  clear HT
  obtain ⟨hn0, hn1⟩ := box2 HS.out.box
  go_wp2_with fail
  refine (f26_any A0 c0 A1 c1 nx st _ (HN.out.below HS.out.below)).mono ?_
  rintro e w6 ⟨vY, rfl, hr, hb⟩
  obtain ⟨AY, kY, eY⟩ := Kd.R_slice hr
  subst eY
  have HY := Aside0.mk (Kd.R_reads' hr).2.2
  have HT := Aside0.mk (HS.out.step hb)
  have HX' := Aside0.mk (Kd.C_below HX.out hb)
  clear HX
  have HX := HX'
  clear HX'
  have HN6 := Aside0.mk (HN5.out.below hb)
  clear HN5
  clear hn0 hn1 hr hb HS
  have HS := HT
  clear HT
  obtain ⟨hn0, hn1⟩ := box2 HS.out.box
  go_wp2_with fail
  refine (f27_any A0 c0 A1 c1 nx st a _ (HN.out.below HS.out.below)).mono ?_
  rintro e w7 ⟨vU, rfl, hr, hb⟩
  obtain ⟨AU, kU, eU⟩ := Kd.R_slice hr
  subst eU
  have HU := Aside0.mk (Kd.R_reads' hr).2.2
  have HT := Aside0.mk (HS.out.step hb)
  have HX' := Aside0.mk (Kd.C_below HX.out hb)
  clear HX
  have HX := HX'
  clear HX'
  have HY' := Aside0.mk (Kd.C_below HY.out hb)
  clear HY
  have HY := HY'
  clear HY'
  have HN7 := Aside0.mk (HN6.out.below hb)
  clear HN6
  clear hn0 hn1 hr hb HS
  have HS := HT
  clear HT
  obtain ⟨hn0, hn1⟩ := box2 HS.out.box
  go_wp2_with fail
  refine (f28_any A0 c0 A1 c1 nx st a _ (HN.out.below HS.out.below)).mono ?_
  rintro e w8 ⟨vV, rfl, hr, hb⟩
  obtain ⟨AV, kV, eV⟩ := Kd.R_slice hr
  subst eV
  have HV := Aside0.mk (Kd.R_reads' hr).2.2
  have HT := Aside0.mk (HS.out.step hb)
  have HX' := Aside0.mk (Kd.C_below HX.out hb)
  clear HX
  have HX := HX'
  clear HX'
  have HY' := Aside0.mk (Kd.C_below HY.out hb)
  clear HY
  have HY := HY'
  clear HY'
  have HU' := Aside0.mk (Kd.C_below HU.out hb)
  clear HU
  have HU := HU'
  clear HU'
  have HN8 := Aside0.mk (HN7.out.below hb)
  clear HN7
  clear hn0 hn1 hr hb HS
  have HS := HT
  clear HT
  obtain ⟨hn0, hn1⟩ := box2 HS.out.box
  obtain ⟨X, hX⟩ : ∃ X, X = reachA nx st := ⟨_, rfl⟩
  obtain ⟨U, hU⟩ : ∃ U, U = goneA nx st a := ⟨_, rfl⟩
  rw [← hX] at HX HY
  rw [← hU] at HU HV
  rw [← hX, ← hU]
  clear hX hU
  have hee : (checkE nx st == checkE nx st) = true := by simp
  have hgg : (goneE nx st a == goneE nx st a) = true := by simp
  have hdd : (domB nx st a b == domB nx st a b) = true := by simp
  have HI : Aside0 (IsSt w w8.drew #[.slice A0 nx.length c0, .slice A1 st.length c1] #[.slice A2 nx.length c2, .slice A3 st.length c3] wb AX AY AU AV X U A2 c2 A3 c3 nx st) := ⟨⟨HN8.out.below (below_drew (Below.refl _ _)), below_drew HS.out.below, HS.out.box, HS.out.was, HX.out, HY.out, HU.out, HV.out⟩⟩
  go_wp2_with fail
  refine wp_region_quiet (C := fun w' => IsSt w w' #[.slice A0 nx.length c0, .slice A1 st.length c1] #[.slice A2 nx.length c2, .slice A3 st.length c3] wb AX AY AU AV X U A2 c2 A3 c3 nx st) (by kernel_rfl) (by kernel_rfl) HI.out ?_
  clear HI HS HX HY HU HV HN8 hn0 hn1
  repeat (quiet_step (first
    | (intro hc; go_at_call 23; refine (f23_any A0 c0 A1 c1 nx st _ (HN.out.below hc.below)).mono ?_; rintro e w' ⟨rfl, hb⟩; exact ⟨rfl, hc.step hb⟩)
    | (intro hc; go_at_call 29; refine (f29_any A0 c0 A1 c1 nx st _ (HN.out.below hc.below)).mono ?_; rintro e w' ⟨rfl, hb⟩; exact ⟨rfl, hc.step hb⟩)
    | (intro hc; go_at_call_of 30 AX; refine (f30_eq hc.cx hc.cy).mono ?_; rintro e w' ⟨rfl, hb⟩; exact ⟨rfl, hc.step hb⟩)
    | (intro hc; go_at_call_of 30 AU; refine (f30_eq hc.cu hc.cv).mono ?_; rintro e w' ⟨rfl, hb⟩; exact ⟨rfl, hc.step hb⟩)
    | (intro hc; go_at_call 24; refine (f24_any A0 c0 A1 c1 nx st a b _ (HN.out.below hc.below)).mono ?_; rintro e w' ⟨rfl, hb⟩; exact ⟨rfl, hc.step hb⟩)
    | (intro hc; go_at_call 31; refine (f31_any A0 c0 A1 c1 nx st a b _ (HN.out.below hc.below)).mono ?_; rintro e w' ⟨rfl, hb⟩; exact ⟨rfl, hc.step hb⟩)
    | (intro hc; go_at_call 32; refine (f32_any A0 c0 A1 c1 A2 c2 A3 c3 nx st nx st _ (HN.out.below hc.below) hc.wn).mono ?_; rintro e w' ⟨rfl, hb⟩; rw [sameNet_eq ⟨rfl, rfl⟩]; exact ⟨rfl, hc.step hb⟩)
    | (intro _; with_reducible rfl)
    | (intro hc; obtain ⟨h0, h1⟩ := box2 hc.box; obtain ⟨h2, h3⟩ := box2 hc.was; go_simp; with_reducible rfl)))
  refine wpQuiet_nil ?_
  rintro w9 hc
  have HC := Aside0.mk hc.below
  clear hc
  go_wp2_with fail
  go_ret
  exact ⟨rfl, HC.out⟩
end Go.Proofs.Ytgbmebnfbhdpiaa
