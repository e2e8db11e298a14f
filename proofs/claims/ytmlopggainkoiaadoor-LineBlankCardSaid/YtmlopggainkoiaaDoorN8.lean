/- LineBlank: alike: two cursors that differ in places alone. Printed by gen_l2r2.py. LineBlank: its walk. -/
import Derived.Test.YtmlopggainkoiaaDoorN7
import Derived.Test.YtmlopggainkoiaaDoorN5
import Derived.Test.YtmlopggainkoiaaDoorN6
set_option linter.unusedSimpArgs false
set_option linter.unusedVariables false
namespace Go.Proofs.YtmlopggainkoiaaDoor
open Go.RowKit

structure TwoC (w : World) (S1 S2 : Nat → Prop) (c r : Nat) (s t : Cur) : Prop where
  a : CurAt w S1 c s
  b : CurAt w S2 r t
  ne : c ≠ r
  n1 : ¬ S1 r
  n2 : ¬ S2 c
  sim : CurSim s t
theorem TwoC.below {w w' : World} {S1 S2 : Nat → Prop} {c r : Nat} {s t : Cur} (h : TwoC w S1 S2 c r s t) (hb : Below w.heap.size w w') : TwoC w' S1 S2 c r s t := ⟨h.a.below hb, h.b.below hb, h.ne, h.n1, h.n2, h.sim⟩
theorem TwoC.ext {w : World} {S1 S2 : Nat → Prop} {c r : Nat} {s t : Cur} (h : TwoC w S1 S2 c r s t) (u : Ext) : TwoC (w.ext u) S1 S2 c r s t := h.below (Below.of_ext w u (Nat.le_refl _))
theorem TwoC.alloc {w : World} {S1 S2 : Nat → Prop} {c r : Nat} {s t : Cur} (h : TwoC w S1 S2 c r s t) (o : Obj) : TwoC (w.alloc o) S1 S2 c r s t := h.below ((Below.refl _ _).alloc (Nat.le_refl _) o)
def AlikeP (B : Nat) (S1 S2 : Nat → Prop) (c r : Nat) (w : World) (e : Ending) (w' : World) : Prop := e = .returned (.bool true) ∧ (∃ s' t', TwoC w' S1 S2 c r s' t') ∧ Below B w w'
theorem alike_end {B : Nat} {w V w1 w2 : World} {S1 S2 : Nat → Prop} {c r : Nat} {s t s' t' : Cur} {b : Bool} (hb : b = true) (hV : TwoC V S1 S2 c r s t) (hBV : Below B w V) (hBs : B ≤ V.heap.size) (hc : B ≤ c) (hr : B ≤ r) (hat : CurAt w1 S1 c s') (hon : Only c V w1) (hat2 : CurAt w2 S2 r t') (hon2 : Only r w1 w2) (hs : CurSim s' t') : AlikeP B S1 S2 c r w (.returned (.bool b)) w2 :=
  ⟨by rw [hb], ⟨s', t', hat.only hon2 hV.ne hV.n1, hat2, hV.ne, hV.n1, hV.n2, hs⟩, (hBV.trans (hon.below hc hBs)).trans (hon2.below hr (by have := hon.size; omega))⟩

set_option maxRecDepth 100000 in
set_option maxHeartbeats 8000000 in
theorem alike_any {w : World} {S1 S2 : Nat → Prop} {c r B : Nat} {s t : Cur} (h : TwoC w S1 S2 c r s t) (hc : B ≤ c) (hr : B ≤ r) (x : Get) (hx : InI x.what) (hxs : x.s.size ≤ maxLen) (hxt : x.t.size ≤ maxLen) : Calls Tryd.prog 37 #[.pointer (some ⟨c, 0, none⟩), .pointer (some ⟨r, 0, none⟩), .agg #[.int .i64 x.what, .int .i64 x.least, .int .i64 x.most, .string x.s, .string x.t]] w (AlikeP B S1 S2 c r w) := by
  have HP := hide (fun W => pick_any x.what hx W)
  obtain ⟨wh, le, mo, sx, tx⟩ := x
  simp only at HP hxs hxt
  have HXS := hide hxs; have HXT := hide hxt
  have hq8 : 0 ≤ wh % 8 ∧ wh % 8 < 8 := by omega
  obtain ⟨q, hq⟩ : ∃ q, wh % 8 = q := ⟨_, rfl⟩
  rw [hq] at HP hq8
  have hcw := h.a.lt; have hrw := h.b.lt
  obtain ⟨V, hV⟩ : ∃ V, w.alloc (.cells #[.int .i64 wh, .int .i64 le, .int .i64 mo, .string sx, .string tx] 56) = V := ⟨_, rfl⟩
  have hV0 : TwoC V S1 S2 c r s t := by rw [← hV]; exact h.alloc _
  have hBX0 : V.heap[w.heap.size]? = some (.cells #[.int .i64 wh, .int .i64 le, .int .i64 mo, .string sx, .string tx] 56 (0, 0)) := by rw [← hV]; exact heap_alloc_new w _
  have hBV0 : Below B w V := by rw [← hV]; exact (Below.refl _ _).alloc (by omega) _
  obtain ⟨bx, hbx⟩ : ∃ bx, w.heap.size = bx := ⟨_, rfl⟩
  rw [hbx] at hBX0
  have hl0 : bx < V.heap.size := (Array.getElem?_eq_some_iff.1 hBX0).1
  have HK := hide (show ∀ u : Ext, TwoC (V.ext u) S1 S2 c r s t ∧ (V.ext u).heap[bx]? = some (.cells #[.int .i64 wh, .int .i64 le, .int .i64 mo, .string sx, .string tx] 56 (0, 0)) ∧ Below B w (V.ext u) from fun u => ⟨hV0.ext u, by rw [ext_block V u bx hl0]; exact hBX0, hBV0.ext (by omega) u⟩)
  have H1 := hide (cErr hV0.a); have H2 := hide (fun u => cErr (hV0.ext u).b)
  have H3 := hide (fun u v => cMore ((hV0.ext u).ext v).a); have H4 := hide (fun u v => cMore ((hV0.ext u).ext v).b)
  have hse := h.sim.err; have hsm := h.sim.more
  have HSIM := hide h.sim
  rw [← hsm] at H4
  unfold errV at H1 H2
  rw [← hse] at H2
  generalize (errC s).1 = e1 at H1
  generalize (errC s).2.1 = e2 at H1
  generalize (errC t).1 = f1 at H2
  generalize (errC t).2.1 = f2 at H2
  generalize (errC s).2.2 = e3 at H1 H2
  generalize moreC s = m at H3 H4
  clear h hV0 hBX0 hBV0 hse hsm hq hx hxs hxt
  go_enter Tryd.func37, Tryd.ntmps37
  go_wp2_with (first | (go_at_call 30; (with_reducible refine H1.out.mono ?_); rintro e _ ⟨rfl, u1, rfl⟩) | (go_at_call 30; (with_reducible refine (H2.out _).mono ?_); rintro e _ ⟨rfl, u2, rfl⟩) | (go_at_call 31; (with_reducible refine (H3.out _ _).mono ?_); rintro e w' ⟨rfl, rfl⟩) | (go_at_call 31; (with_reducible refine (H4.out _ _).mono ?_); rintro e w' ⟨rfl, rfl⟩; refine Hd.out ?_))
  refine hide ?_
  obtain ⟨u3, hu3⟩ := ext_ext V u1 u2
  have HK3 := hide (HK.out u3)
  rw [← hu3] at HK3
  obtain ⟨U, hU⟩ : ∃ U, (V.ext u1).ext u2 = U := ⟨_, rfl⟩
  rw [hU] at HK3 ⊢
  obtain ⟨hv, hbxU, hbU⟩ := HK3.out
  have HV := hide hv; have HBX := hide hbxU; have HBV := hide hbU
  clear hv hbxU hbU HK3 HK H1 H2 H3 H4 hU hu3 hV
  have hbl := (Array.getElem?_eq_some_iff.1 HBX.out).1
  have y0 : U.cell? ⟨bx, 0, none⟩ = some (.int .i64 wh) := cell_of_row U _ _ _ _ (0, 0) HBX.out
  have y1 : U.cell? ⟨bx, 1, none⟩ = some (.int .i64 le) := cell_of_row U _ _ _ _ (0, 0) HBX.out
  have y2 : U.cell? ⟨bx, 2, none⟩ = some (.int .i64 mo) := cell_of_row U _ _ _ _ (0, 0) HBX.out
  have y3 : U.cell? ⟨bx, 3, none⟩ = some (.string sx) := cell_of_row U _ _ _ _ (0, 0) HBX.out
  have y4 : U.cell? ⟨bx, 4, none⟩ = some (.string tx) := cell_of_row U _ _ _ _ (0, 0) HBX.out
  have hcb : ¬ bx = c := by omega
  have hrb : ¬ bx = r := by omega
  have HKP := hide (show ∀ (d : Nat) (X Y : World), Only d X Y → ¬ bx = d → bx < X.heap.size → ∀ j, Y.cell? ⟨bx, j, none⟩ = X.cell? ⟨bx, j, none⟩ from fun d X Y h hd hl j => World.cell?_of_block (h.block bx hl hd))
  have hcV : c < U.heap.size := HV.out.a.lt
  have hrV : r < U.heap.size := HV.out.b.lt
  have hBV : B ≤ U.heap.size := by omega
  clear hl0 hcw hrw hbx
  by_cases h0 : q = 0
  · subst h0
    have HD := hide (HV.out.below ((Below.refl _ _).drew))
    have hc1 := cKey HD.out.a sx
    have hc2 := fun (W : World) (h : CurAt W S2 r t) => cKey h sx
    rw [← HSIM.out.is (.nm sx)] at hc2
    have HS9 := hide (HSIM.out.over (isC (.nm sx) s))
    generalize overC (isC (.nm sx) s) s = s9 at hc1 HS9
    generalize overC (isC (.nm sx) s) t = t9 at hc2 HS9
    generalize isC (.nm sx) s = v9 at hc1 hc2
    have HC := hide hc1; have HC2 := hide hc2
    clear hc1 hc2
    go_wp2_with (go_at_call 71; (with_reducible refine (HP.out _).mono ?_); rintro e w' ⟨rfl, rfl⟩)
    go_region_held3 (fun W => W.cell? ⟨bx, 3, none⟩ = some (.string sx)) (go_keep) (first | (go_at_call 72; (with_reducible refine HC.out.mono ?_); rintro e w1 ⟨rfl, hat, hon⟩; have hb1 : bx < w1.heap.size := Nat.lt_of_lt_of_le hbl hon.size; have z1 : w1.cell? ⟨bx, 1, none⟩ = some (.int .i64 le) := (HKP.out c _ _ hon hcb hbl 1).trans y1; have z2 : w1.cell? ⟨bx, 2, none⟩ = some (.int .i64 mo) := (HKP.out c _ _ hon hcb hbl 2).trans y2; have z3 : w1.cell? ⟨bx, 3, none⟩ = some (.string sx) := (HKP.out c _ _ hon hcb hbl 3).trans y3; have z4 : w1.cell? ⟨bx, 4, none⟩ = some (.string tx) := (HKP.out c _ _ hon hcb hbl 4).trans y4) | (go_at_call 72; (with_reducible refine (HC2.out _ (HD.out.b.only hon HD.out.ne.symm HD.out.n2)).mono ?_); rintro e w2 ⟨rfl, hat2, hon2⟩; have x1 : w2.cell? ⟨bx, 1, none⟩ = some (.int .i64 le) := (HKP.out r _ _ hon2 hrb hb1 1).trans z1; have x2 : w2.cell? ⟨bx, 2, none⟩ = some (.int .i64 mo) := (HKP.out r _ _ hon2 hrb hb1 2).trans z2; have x3 : w2.cell? ⟨bx, 3, none⟩ = some (.string sx) := (HKP.out r _ _ hon2 hrb hb1 3).trans z3))
    all_goals go_wp2_with fail
    all_goals go_ret
    all_goals exact alike_end (by simp) HD.out (HBV.out.drew) hBV hc hr hat hon hat2 hon2 HS9.out
  by_cases h1 : q = 1
  · subst h1
    have HD := hide (HV.out.below ((Below.refl _ _).drew))
    have hc1 := cIsM HD.out.a sx
    have hc2 := fun (W : World) (h : CurAt W S2 r t) => cIsM h sx
    rw [← HSIM.out.is (.mk sx)] at hc2
    have HS9 := hide (HSIM.out.over (isC (.mk sx) s))
    generalize overC (isC (.mk sx) s) s = s9 at hc1 HS9
    generalize overC (isC (.mk sx) s) t = t9 at hc2 HS9
    generalize isC (.mk sx) s = v9 at hc1 hc2
    have HC := hide hc1; have HC2 := hide hc2
    clear hc1 hc2
    go_wp2_with (go_at_call 71; (with_reducible refine (HP.out _).mono ?_); rintro e w' ⟨rfl, rfl⟩)
    go_region_held3 (fun W => W.cell? ⟨bx, 3, none⟩ = some (.string sx)) (go_keep) (first | (go_at_call 35; (with_reducible refine HC.out.mono ?_); rintro e w1 ⟨rfl, hat, hon⟩; have hb1 : bx < w1.heap.size := Nat.lt_of_lt_of_le hbl hon.size; have z1 : w1.cell? ⟨bx, 1, none⟩ = some (.int .i64 le) := (HKP.out c _ _ hon hcb hbl 1).trans y1; have z2 : w1.cell? ⟨bx, 2, none⟩ = some (.int .i64 mo) := (HKP.out c _ _ hon hcb hbl 2).trans y2; have z3 : w1.cell? ⟨bx, 3, none⟩ = some (.string sx) := (HKP.out c _ _ hon hcb hbl 3).trans y3; have z4 : w1.cell? ⟨bx, 4, none⟩ = some (.string tx) := (HKP.out c _ _ hon hcb hbl 4).trans y4) | (go_at_call 35; (with_reducible refine (HC2.out _ (HD.out.b.only hon HD.out.ne.symm HD.out.n2)).mono ?_); rintro e w2 ⟨rfl, hat2, hon2⟩; have x1 : w2.cell? ⟨bx, 1, none⟩ = some (.int .i64 le) := (HKP.out r _ _ hon2 hrb hb1 1).trans z1; have x2 : w2.cell? ⟨bx, 2, none⟩ = some (.int .i64 mo) := (HKP.out r _ _ hon2 hrb hb1 2).trans z2; have x3 : w2.cell? ⟨bx, 3, none⟩ = some (.string sx) := (HKP.out r _ _ hon2 hrb hb1 3).trans z3))
    all_goals go_wp2_with fail
    all_goals go_ret
    all_goals exact alike_end (by simp) HD.out (HBV.out.drew) hBV hc hr hat hon hat2 hon2 HS9.out
  by_cases h2 : q = 2
  · subst h2
    have hc1 := cName HV.out.a
    have hc2 := fun (W : World) (h : CurAt W S2 r t) => cName h
    have hnm := HSIM.out.name
    rw [← hnm.1] at hc2
    have HS9 := hide hnm.2
    clear hnm
    generalize (nameC s).2 = s9 at hc1 HS9
    generalize (nameC t).2 = t9 at hc2 HS9
    generalize (nameC s).1 = v9 at hc1 hc2
    have HC := hide hc1; have HC2 := hide hc2
    clear hc1 hc2
    go_wp2_with (first | (go_at_call 71; (with_reducible refine (HP.out _).mono ?_); rintro e w' ⟨rfl, rfl⟩) | (go_at_call 33; (with_reducible refine HC.out.mono ?_); rintro e w1 ⟨rfl, hat, hon⟩; have hb1 : bx < w1.heap.size := Nat.lt_of_lt_of_le hbl hon.size; have z1 : w1.cell? ⟨bx, 1, none⟩ = some (.int .i64 le) := (HKP.out c _ _ hon hcb hbl 1).trans y1; have z2 : w1.cell? ⟨bx, 2, none⟩ = some (.int .i64 mo) := (HKP.out c _ _ hon hcb hbl 2).trans y2; have z3 : w1.cell? ⟨bx, 3, none⟩ = some (.string sx) := (HKP.out c _ _ hon hcb hbl 3).trans y3; have z4 : w1.cell? ⟨bx, 4, none⟩ = some (.string tx) := (HKP.out c _ _ hon hcb hbl 4).trans y4) | (go_at_call 33; (with_reducible refine (HC2.out _ (HV.out.b.only hon HV.out.ne.symm HV.out.n2)).mono ?_); rintro e w2 ⟨rfl, hat2, hon2⟩; have x1 : w2.cell? ⟨bx, 1, none⟩ = some (.int .i64 le) := (HKP.out r _ _ hon2 hrb hb1 1).trans z1; have x2 : w2.cell? ⟨bx, 2, none⟩ = some (.int .i64 mo) := (HKP.out r _ _ hon2 hrb hb1 2).trans z2; have x3 : w2.cell? ⟨bx, 3, none⟩ = some (.string sx) := (HKP.out r _ _ hon2 hrb hb1 3).trans z3))
    go_ret
    exact alike_end (by simp) HV.out HBV.out hBV hc hr hat hon hat2 hon2 HS9.out
  by_cases h3 : q = 3
  · subst h3
    have HD := hide (HV.out.below ((Below.refl _ _).drew))
    have hc1 := cNum HD.out.a le mo
    have hc2 := fun (W : World) (h : CurAt W S2 r t) => cNum h le mo
    have hnm := HSIM.out.num le mo
    rw [← hnm.1] at hc2
    have HS9 := hide hnm.2
    clear hnm
    generalize (numC le mo s).2 = s9 at hc1 HS9
    generalize (numC le mo t).2 = t9 at hc2 HS9
    generalize (numC le mo s).1 = v9 at hc1 hc2
    have HC := hide hc1; have HC2 := hide hc2
    clear hc1 hc2
    go_wp2_with (go_at_call 71; (with_reducible refine (HP.out _).mono ?_); rintro e w' ⟨rfl, rfl⟩)
    go_region_held3 (fun W => W.cell? ⟨bx, 1, none⟩ = some (.int .i64 le) ∧ W.cell? ⟨bx, 2, none⟩ = some (.int .i64 mo)) (go_keep) (first | (go_at_call 34; (with_reducible refine HC.out.mono ?_); rintro e w1 ⟨rfl, hat, hon⟩; have hb1 : bx < w1.heap.size := Nat.lt_of_lt_of_le hbl hon.size; have z1 : w1.cell? ⟨bx, 1, none⟩ = some (.int .i64 le) := (HKP.out c _ _ hon hcb hbl 1).trans y1; have z2 : w1.cell? ⟨bx, 2, none⟩ = some (.int .i64 mo) := (HKP.out c _ _ hon hcb hbl 2).trans y2; have z3 : w1.cell? ⟨bx, 3, none⟩ = some (.string sx) := (HKP.out c _ _ hon hcb hbl 3).trans y3; have z4 : w1.cell? ⟨bx, 4, none⟩ = some (.string tx) := (HKP.out c _ _ hon hcb hbl 4).trans y4) | (go_at_call 34; (with_reducible refine (HC2.out _ (HD.out.b.only hon HD.out.ne.symm HD.out.n2)).mono ?_); rintro e w2 ⟨rfl, hat2, hon2⟩; have x1 : w2.cell? ⟨bx, 1, none⟩ = some (.int .i64 le) := (HKP.out r _ _ hon2 hrb hb1 1).trans z1; have x2 : w2.cell? ⟨bx, 2, none⟩ = some (.int .i64 mo) := (HKP.out r _ _ hon2 hrb hb1 2).trans z2; have x3 : w2.cell? ⟨bx, 3, none⟩ = some (.string sx) := (HKP.out r _ _ hon2 hrb hb1 3).trans z3))
    all_goals go_wp2_with fail
    all_goals go_ret
    all_goals exact alike_end (by simp) HD.out (HBV.out.drew) hBV hc hr hat hon hat2 hon2 HS9.out
  by_cases h4 : q = 4
  · subst h4
    have HC := hide (cMark (HV.out.alloc (.cells #[.string sx, .string tx] 9)).a (two_str U HXS.out HXT.out) (by show ¬ c = U.heap.size; omega))
    have HC2 := hide (fun (W : World) (h : CurAt W S2 r t) => cMark (h.below ((Below.refl _ _).alloc (Nat.le_refl _) (.cells #[.string sx, .string tx] 9))) (two_str W HXS.out HXT.out) (by show ¬ r = W.heap.size; have := h.lt; omega))
    have HS9 := hide (HSIM.out.mark [sx, tx])
    generalize markC [sx, tx] s = s9 at HC HS9
    generalize markC [sx, tx] t = t9 at HC2 HS9
    go_wp2_with (first | (go_at_call 71; (with_reducible refine (HP.out _).mono ?_); rintro e w' ⟨rfl, rfl⟩) | (go_at_call 61; (with_reducible refine HC.out.mono ?_); rintro e w1 ⟨rfl, hat, hon0⟩; have hon : Only c U w1 := ((Only.refl c U).alloc _).trans hon0; have hb1 : bx < w1.heap.size := Nat.lt_of_lt_of_le hbl hon.size; have z1 : w1.cell? ⟨bx, 1, none⟩ = some (.int .i64 le) := (HKP.out c _ _ hon hcb hbl 1).trans y1; have z2 : w1.cell? ⟨bx, 2, none⟩ = some (.int .i64 mo) := (HKP.out c _ _ hon hcb hbl 2).trans y2; have z3 : w1.cell? ⟨bx, 3, none⟩ = some (.string sx) := (HKP.out c _ _ hon hcb hbl 3).trans y3; have z4 : w1.cell? ⟨bx, 4, none⟩ = some (.string tx) := (HKP.out c _ _ hon hcb hbl 4).trans y4) | (go_at_call 61; (with_reducible refine (HC2.out _ (HV.out.b.only hon HV.out.ne.symm HV.out.n2)).mono ?_); rintro e w2 ⟨rfl, hat2, hon20⟩; have hon2 : Only r w1 w2 := ((Only.refl r w1).alloc _).trans hon20))
    go_ret
    exact alike_end rfl HV.out HBV.out hBV hc hr hat hon hat2 hon2 HS9.out
  by_cases h5 : q = 5
  · subst h5
    have hc1 := cEnd HV.out.a
    have hc2 := fun (W : World) (h : CurAt W S2 r t) => cEnd h
    have HS9 := hide HSIM.out.end_
    generalize endC s = s9 at hc1 HS9
    generalize endC t = t9 at hc2 HS9
    have HC := hide hc1; have HC2 := hide hc2
    clear hc1 hc2
    go_wp2_with (first | (go_at_call 71; (with_reducible refine (HP.out _).mono ?_); rintro e w' ⟨rfl, rfl⟩) | (go_at_call 32; (with_reducible refine HC.out.mono ?_); rintro e w1 ⟨rfl, hat, hon⟩; have hb1 : bx < w1.heap.size := Nat.lt_of_lt_of_le hbl hon.size; have z1 : w1.cell? ⟨bx, 1, none⟩ = some (.int .i64 le) := (HKP.out c _ _ hon hcb hbl 1).trans y1; have z2 : w1.cell? ⟨bx, 2, none⟩ = some (.int .i64 mo) := (HKP.out c _ _ hon hcb hbl 2).trans y2; have z3 : w1.cell? ⟨bx, 3, none⟩ = some (.string sx) := (HKP.out c _ _ hon hcb hbl 3).trans y3; have z4 : w1.cell? ⟨bx, 4, none⟩ = some (.string tx) := (HKP.out c _ _ hon hcb hbl 4).trans y4) | (go_at_call 32; (with_reducible refine (HC2.out _ (HV.out.b.only hon HV.out.ne.symm HV.out.n2)).mono ?_); rintro e w2 ⟨rfl, hat2, hon2⟩; have x1 : w2.cell? ⟨bx, 1, none⟩ = some (.int .i64 le) := (HKP.out r _ _ hon2 hrb hb1 1).trans z1; have x2 : w2.cell? ⟨bx, 2, none⟩ = some (.int .i64 mo) := (HKP.out r _ _ hon2 hrb hb1 2).trans z2; have x3 : w2.cell? ⟨bx, 3, none⟩ = some (.string sx) := (HKP.out r _ _ hon2 hrb hb1 3).trans z3))
    go_ret
    exact alike_end (by simp) HV.out HBV.out hBV hc hr hat hon hat2 hon2 HS9.out
  have h6 : ¬ q = 0 ∧ ¬ q = 1 ∧ ¬ q = 2 ∧ ¬ q = 3 ∧ ¬ q = 4 ∧ ¬ q = 5 := ⟨h0, h1, h2, h3, h4, h5⟩
  clear h6
  go_wp2_with (go_at_call 71; (with_reducible refine (HP.out _).mono ?_); rintro e w' ⟨rfl, rfl⟩)
  go_ret
  exact ⟨rfl, ⟨s, t, HV.out⟩, HBV.out⟩
end Go.Proofs.YtmlopggainkoiaaDoor
set_option linter.unusedSimpArgs false
set_option linter.unusedVariables false
namespace Go.Proofs.YtmlopggainkoiaaDoor
open Go.RowKit

def widAt (s : ByteArray) (k : Nat) : ByteArray := mkB ([10, 32, 59, 10] ++ widB (s.data.toList.take k))
theorem widAt_zero (s : ByteArray) : widAt s 0 = ⟨#[10, 32, 59, 10]⟩ := by apply bytes_ext; unfold widAt; rw [mkB_list]; rfl
theorem widAt_end (s : ByteArray) {k : Nat} (h : ¬ k < s.size) : widAt s k = wideT s := by
  unfold widAt wideT
  rw [List.take_of_length_le (by rw [← size_list]; omega)]
theorem widAt_size (s : ByteArray) (k : Nat) : (widAt s k).size ≤ 4 + 10 * k := by
  unfold widAt
  rw [mkB_size, List.length_append]
  have : ∀ l : List UInt8, (widB l).length ≤ 10 * l.length := by
    intro l
    induction l with
    | nil => simp [widB]
    | cons b l ih =>
      rw [widB_cons, List.length_append, List.length_cons]
      have : (widb1 b).length ≤ 10 := by unfold widb1; split <;> simp
      omega
  have h := this (s.data.toList.take k)
  rw [List.length_take] at h
  simp only [List.length_cons, List.length_nil]
  omega
theorem get_list {s : ByteArray} {k : Nat} (h : k < s.size) : s.data.toList[k]? = some (s.get! k) := by
  have hk : k < s.data.size := h
  have e : s.get! k = s.data[k]! := rfl
  rw [e, getElem!_pos s.data k hk, Array.getElem?_toList, Array.getElem?_eq_getElem hk]
theorem widAt_step (s : ByteArray) {k : Nat} (h : k < s.size) : widAt s (k + 1) = if (s.get! k).toNat = 10 then widAt s k ++ s.extract k (k + 1) ++ ⟨#[9, 59, 32, 226, 134, 146, 10, 10, 32]⟩ else widAt s k ++ s.extract k (k + 1) := by
  have hx : s.extract k (k + 1) = mkB [s.get! k] := by
    apply bytes_ext
    rw [extract_list, mkB_list, show k + 1 - k = 1 by omega, drop_at (get_list h)]; rfl
  have hsp : widB (s.data.toList.take (k + 1)) = widB (s.data.toList.take k) ++ widb1 (s.get! k) := by
    rw [take_at (get_list h), widB_append]
    congr 1
    rw [widB_cons]; simp [widB]
  rw [hx]
  unfold widAt
  rw [hsp]
  by_cases h10 : (s.get! k).toNat = 10
  · have e : s.get! k = 10 := by rw [← UInt8.toNat_inj]; exact h10
    rw [if_pos h10, e, ← List.append_assoc, mkB_append]
    apply bytes_ext
    simp only [ByteArray.data_append, Array.toList_append, mkB_list, List.append_assoc]
    rfl
  · have e : ¬ s.get! k = 10 := fun e => h10 (by rw [e]; rfl)
    rw [if_neg h10, ← mkB_append, List.append_assoc]
    unfold widb1
    rw [if_neg e]

theorem failC_ne {x : Int} (s : Cur) (hx : ¬ x = 0) : ¬ (failC x s).e = 0 := by
  rw [failC_e]
  split
  · rename_i h
    rcases h with h | h
    · exact h
    · exact absurd h hx
  · exact hx
section
variable {s : Cur}
theorem failC_stay (h : ¬ s.e = 0) {x : Int} : failC x s = s := by unfold failC; rw [if_pos (.inl h)]
theorem errC_stay (h : ¬ s.e = 0) : errC s = (s.line, s.col, s.e) := by unfold errC; rw [if_pos h]
theorem moreC_stay (h : ¬ s.e = 0) : moreC s = false := by unfold moreC; simp [h]
theorem headC_stay (h : ¬ s.e = 0) : headC s = none := by unfold headC; rw [if_neg h]
theorem nameC_stay (h : ¬ s.e = 0) : nameC s = (ByteArray.empty, s) := by unfold nameC; rw [headC_stay h]; simp only; rw [failC_stay h]
theorem numC_stay (h : ¬ s.e = 0) {lo hi : Int} : numC lo hi s = (0, s) := by unfold numC; rw [headC_stay h]; simp only; rw [failC_stay h]
theorem isC_stay (h : ¬ s.e = 0) {v : Has} : isC v s = false := by unfold isC; rw [headC_stay h]
end
theorem lit_size2 (l : List UInt8) : (ByteArray.mk l.toArray).size = l.length := by show l.toArray.size = _; simp
set_option maxRecDepth 100000 in
set_option maxHeartbeats 40000000 in
theorem lineBlank_any (w : World) (S : Nat → Prop) (A : Option Addr) (n c0 : Nat) (xs : List Get) (s : ByteArray) (e0 : Int) (h : Sl w S A n c0 xs) (hv : Vars w) (hs : s.size ≤ 140737488355328) (hn : n ≤ 140737488355328) (hx : ∀ x ∈ xs, x.s.size ≤ 140737488355328 ∧ x.t.size ≤ 140737488355328) : Calls Tryd.prog 9 #[.string s, .slice A n c0, .int .i64 e0] w (RetX (.bool true) w) := by
  have HZ := hide (fun u => size_any (h.ext u) hn hx)
  have HS := hide h; have HV := hide hv; have HX := hide hx
  have HAW := hide (awake02_any w hv)
  clear h hv hx
  go_enter Tryd.func9, Tryd.ntmps9
  go_wp2_with (first | (go_at_call 28; (with_reducible refine HAW.out.mono ?_); rintro e _ ⟨rfl, u1, rfl⟩) | (go_at_call 36; (with_reducible refine (HZ.out _).mono ?_); rintro e _ ⟨z, rfl, hnz, hz, u0, rfl⟩; refine Hd.out ?_))
  refine hide ?_
  obtain ⟨u3, hu3⟩ := ext_ext w u1 u0
  rw [hu3]
  clear hu3
  obtain ⟨W, hW⟩ : ∃ W', w.ext u3 = W' := ⟨_, rfl⟩
  have HVW := hide (show Vars W by rw [← hW]; exact HV.out.ext u3)
  have HBW := hide (show Below w.heap.size w W by rw [← hW]; exact (Below.refl _ _).ext (Nat.le_refl _) u3)
  have HSW := hide (show Sl W (fun b => b < W.heap.size) A n c0 xs by rw [← hW] at *; exact (HS.out.ext u3).more fun b hb _ => hb)
  have hww : w.heap.size ≤ W.heap.size := HBW.out.size
  rw [hW]
  clear hW HZ HV HS HAW
  by_cases hbig : 3000 < s.size + z
  · go_wp2_with fail
    go_ret
    exact RetX.b rfl HBW.out
  have hs3 : s.size ≤ 3000 := by omega
  have hn3 : n ≤ 3000 := by omega
  clear hn hnz
  go_wp2_with fail
  go_loopw [7, 8] (fun a i wr => ∃ k : Nat, a = .string (widAt s k) ∧ i = .int .i64 k ∧ k ≤ s.size ∧ wr = W) (fun _ i _ => s.size - (intOf i).toNat)
  case atStart => exact ⟨0, by rw [widAt_zero], rfl, Nat.zero_le _, rfl⟩
  case round =>
    obtain ⟨k, rfl, rfl, hk, rfl⟩ := hrel
    by_cases hlt : k < s.size
    · have hst := widAt_step s hlt
      have hz1 := widAt_size s k
      have hze : (s.extract k (k + 1)).size = 1 := by rw [ByteArray.size_extract]; omega
      have HSTEP := hide hst
      clear hst
      generalize widAt s k = b at HSTEP hz1
      have hgk : s[k]'hlt = s.get! k := by have h1 := get_list hlt; have hk' : k < s.data.size := hlt; show s.data[k] = _; rw [Array.getElem?_toList, Array.getElem?_eq_getElem hk'] at h1; injection h1
      by_cases h10 : (s.get! k).toNat = 10
      · rw [if_pos h10] at HSTEP
        have h10i : ((s[k]'hlt).toNat : Int) = 10 := by rw [hgk]; omega
        clear hgk
        clear h10
        go_wp2_with (simp (disch := (first | omega | (simp only [ByteArray.size_append]; omega) | (simp only [ByteArray.size_append, lit_size2]; omega))) only [run_string_add_sum])
        go_roundw
        case rel => exact ⟨k + 1, by rw [HSTEP.out], by go_num, by omega, trivial⟩
        case measure => simp [intOf]; omega
      · rw [if_neg h10] at HSTEP
        have h10i : ¬ ((s[k]'hlt).toNat : Int) = 10 := by rw [hgk]; omega
        clear hgk
        clear h10
        go_wp2_with (simp (disch := (first | omega | (simp only [ByteArray.size_append]; omega) | (simp only [ByteArray.size_append, lit_size2]; omega))) only [run_string_add_sum])
        go_roundw
        case rel => exact ⟨k + 1, by rw [HSTEP.out], by go_num, by omega, trivial⟩
        case measure => simp [intOf]; omega
    · have hze := widAt_size s k
      have HWE := hide (widAt_end s hlt)
      have HO := hide (cOver1 s wr (by omega) HVW.out)
      obtain ⟨t, ht⟩ : ∃ t, widAt s k = t := ⟨_, rfl⟩
      rw [ht] at HWE hze ⊢
      clear ht
      have HD := hide (fun W' (h : Vars W') => cOver1 t W' (by omega) h)
      go_wp2_with (first | (go_at_call 29; (with_reducible refine HO.out.mono ?_); rintro e w1 ⟨rfl, hat1, hb1⟩) | (go_at_call 29; (with_reducible refine (HD.out w1 (HVW.out.below hb1 HVW.out.sz)).mono ?_); rintro e w2 ⟨rfl, hat2, hb2⟩; refine Hd.out ?_))
      refine hide ?_
      obtain ⟨W0, hW0⟩ : ∃ W0, W0 = wr := ⟨_, rfl⟩
      subst hW0
      obtain ⟨c, hc⟩ : ∃ c, W0.heap.size = c := ⟨_, rfl⟩
      rw [hc] at hat1 hb1
      have hcl := hat1.lt
      have HSIM := hide (show CurSim (overT s) (overT t) by rw [HWE.out]; exact over_wide s)
      have HT0 := hide (show TwoC w2 (fun b => c < b ∧ b < w1.heap.size) (fun b => w1.heap.size < b ∧ b < w2.heap.size) c w1.heap.size (overT s) (overT t) from ⟨hat1.below hb2, hat2, by omega, by show ¬ (c < w1.heap.size ∧ w1.heap.size < w1.heap.size); omega, by show ¬ (w1.heap.size < c ∧ c < w2.heap.size); omega, HSIM.out⟩)
      have HB0 := hide (show Below c W0 w2 from hb1.trans ⟨hb2.os, hb2.tape, hb2.output, hb2.size, fun b hb => hb2.block b (by omega)⟩)
      obtain ⟨r, hr⟩ : ∃ r, w1.heap.size = r := ⟨_, rfl⟩
      have hcr : c ≤ r := by omega
      have hc2 : c ≤ w2.heap.size := by have := hb2.size; omega
      have HSW2 := hide (show Sl W0 (fun b => b < c) A n c0 xs by rw [← hc]; exact HSW.out)
      have HCW := hide hc
      generalize (fun b => c < b ∧ b < w1.heap.size) = S1 at HT0
      generalize (fun b => w1.heap.size < b ∧ b < w2.heap.size) = S2 at HT0
      generalize overT s = s0 at HT0
      generalize overT t = t0 at HT0
      rw [hr] at HT0
      rw [hc, hr]
      clear hat1 hat2 hb1 hb2 HSW HO HD HSIM HWE hcl hc hr
      go_wp2_with fail
      go_loopw [11] (fun i wx => ∃ (j : Nat) (s' t' : Cur), i = .int .i64 j ∧ j ≤ n ∧ TwoC wx S1 S2 c r s' t' ∧ Below c W0 wx) (fun i _ => n - (intOf i).toNat)
      case atStart => exact ⟨0, s0, t0, rfl, Nat.zero_le _, HT0.out, HB0.out⟩
      case round =>
        obtain ⟨j, s', t', rfl, hj, ht, hb⟩ := hrel
        have HT := hide ht; have HB := hide hb
        clear ht hb
        by_cases hltj : j < n
        · obtain ⟨b, off, x, rfl, hbb, hx, i0, i1, i2, i3, i4, c0', c1, c2, c3, c4⟩ := at_Get (HSW2.out.below HB.out (fun b h => h)) hltj
          have HSM := hide (alike_any HT.out (Nat.le_refl c) hcr x i0 i3 i4)
          obtain ⟨wh, le, mo, sx, tx⟩ := x
          simp only at i0 i1 i2 i3 i4 c0' c1 c2 c3 c4 HSM
          clear hx i0 i1 i2 i3 i4
          go_wp2_with (go_at_call 37; (with_reducible refine HSM.out.mono ?_); rintro e w4 ⟨rfl, ⟨s4, t4, ht4⟩, hb4⟩)
          go_roundw
          case rel => exact ⟨j + 1, s4, t4, by go_num, by omega, ht4, HB.out.trans hb4⟩
          case measure => simp [intOf]; omega
        · have hA := HT.out.a
          have hcw := hA.lt
          have HBQ := hide (show Below w.heap.size w wr from HBW.out.trans ⟨HB.out.os, HB.out.tape, HB.out.output, HB.out.size, fun b hb => HB.out.block b (by have := HCW.out; omega)⟩)
          have hwr : w.heap.size ≤ wr.heap.size := HBQ.out.size
          have hwc : w.heap.size ≤ c := by have := HCW.out; omega
          have HF1 := hide (cFail hA e0)
          have HER := hide (fun (X : World) (s2 : Cur) (h : CurAt X S1 c s2) => cErr h)
          unfold errV at HER
          clear HT HB HCW HVW HSW2 HT0 HB0 HX hA
          by_cases he : e0 = 0
          · subst he
            generalize failC 0 s' = s2 at HF1
            have HER2 := hide (fun (X : World) => HER.out X s2)
            generalize (errC s2).1 = f1 at HER2
            generalize (errC s2).2.1 = f2 at HER2
            generalize (errC s2).2.2 = f3 at HER2
            go_wp2_with (first | (go_at_call 38; (with_reducible refine HF1.out.mono ?_); rintro e v1 ⟨rfl, k1, o1⟩) | (go_at_call 30; (with_reducible refine (HER2.out _ k1).mono ?_); rintro e _ ⟨rfl, u4, rfl⟩))
            go_ret
            exact RetX.b rfl (HBQ.out.trans ((o1.ext u4).below hwc hwr))
          · have hne := failC_ne s' he
            generalize failC e0 s' = s2 at HF1 hne
            have HF2 := hide (fun (X : World) (h : CurAt X S1 c s2) => (show Calls Tryd.prog 38 #[.pointer (some ⟨c, 0, none⟩), .int .i64 2] X (CurP S1 c X s2 (.tuple #[])) by have := cFail h 2; rw [failC_stay hne] at this; exact this))
            have HER2 := hide (fun (X : World) (h : CurAt X S1 c s2) => (show Calls Tryd.prog 30 #[.pointer (some ⟨c, 0, none⟩)] X (RetX (.tuple #[.int .i64 s2.line, .int .i64 s2.col, .int .i64 s2.e]) X) by have := HER.out X s2 h; rw [errC_stay hne] at this; exact this))
            have HMO := hide (fun (X : World) (h : CurAt X S1 c s2) => (show Calls Tryd.prog 31 #[.pointer (some ⟨c, 0, none⟩)] X (Ret (.bool false) X) by have := cMore h; rw [moreC_stay hne] at this; exact this))
            have HNA := hide (fun (X : World) (h : CurAt X S1 c s2) => (show Calls Tryd.prog 33 #[.pointer (some ⟨c, 0, none⟩)] X (CurP S1 c X s2 (.string ⟨#[]⟩)) by have := cName h; rw [nameC_stay hne] at this; exact this))
            have HNU := hide (fun (X : World) (h : CurAt X S1 c s2) => (show Calls Tryd.prog 34 #[.pointer (some ⟨c, 0, none⟩), .int .i64 0, .int .i64 9] X (CurP S1 c X s2 (.int .i64 0)) by have := cNum h 0 9; rw [numC_stay hne] at this; exact this))
            have HIS := hide (fun (X : World) (h : CurAt X S1 c s2) => (show Calls Tryd.prog 35 #[.pointer (some ⟨c, 0, none⟩), .string ⟨#[61]⟩] X (CurP S1 c X s2 (.bool false)) by have := cIsM h ⟨#[61]⟩; rw [isC_stay hne] at this; exact this))
            obtain ⟨l2, hl2⟩ : ∃ l, s2.line = l := ⟨_, rfl⟩
            obtain ⟨c2', hc2'⟩ : ∃ l, s2.col = l := ⟨_, rfl⟩
            obtain ⟨q2, hq2⟩ : ∃ l, s2.e = l := ⟨_, rfl⟩
            rw [hl2, hc2', hq2] at HER2
            rw [hq2] at hne
            clear hl2 hc2' hq2 HER
            go_wp2_with (first | (go_at_call 38; (with_reducible refine HF1.out.mono ?_); rintro e v1 ⟨rfl, k1, o1⟩) | (go_at_call 30; (with_reducible refine (HER2.out _ k1).mono ?_); rintro e _ ⟨rfl, u4, rfl⟩) | (go_at_call 38; (with_reducible refine (HF2.out _ (k1.ext _)).mono ?_); rintro e v2 ⟨rfl, k2, o2⟩) | (go_at_call 30; (with_reducible refine (HER2.out _ k2).mono ?_); rintro e _ ⟨rfl, u5, rfl⟩) | (go_at_call 31; (with_reducible refine (HMO.out _ (k2.ext _)).mono ?_); rintro e w' ⟨rfl, rfl⟩) | (go_at_call 33; (with_reducible refine (HNA.out _ (k2.ext _)).mono ?_); rintro e v3 ⟨rfl, k3, o3⟩) | (go_at_call 34; (with_reducible refine (HNU.out _ k3).mono ?_); rintro e v4 ⟨rfl, k4, o4⟩) | (go_at_call 35; (with_reducible refine (HIS.out _ k4).mono ?_); rintro e v5 ⟨rfl, k5, o5⟩))
            go_ret
            exact RetX.b (by simp) (HBQ.out.trans ((((((o1.ext u4).trans o2).ext u5).trans o3).trans o4 |>.trans o5).below hwc hwr))
end Go.Proofs.YtmlopggainkoiaaDoor
