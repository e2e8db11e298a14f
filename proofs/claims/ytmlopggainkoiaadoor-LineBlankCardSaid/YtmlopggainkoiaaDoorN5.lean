/- law02: pick, both, same: the walks. law02: size, awake, LineGets: the walks. -/
import Derived.Test.YtmlopggainkoiaaDoorN4
import Derived.Test.YtmlopggainkoiaaDoorTypes02
import Derived.Deep.RegionHeld3
set_option linter.unusedSimpArgs false
set_option linter.unusedVariables false
namespace Go.Proofs.YtmlopggainkoiaaDoor
open Go.RowKit

set_option maxRecDepth 100000 in
set_option maxHeartbeats 4000000 in
theorem pick_any (n : Int) (hn : InI n) (w : World) : Calls Tryd.prog 71 #[.int .i64 n, .int .i64 8] w (Ret (.int .i64 (n % 8)) w) := by
  obtain ⟨h0, h1⟩ := hn
  have e1 : Int.tmod n 8 < 8 ∧ -8 < Int.tmod n 8 := by
    have := Int.tmod_eq_emod (a := n) (b := 8)
    rw [this]
    split
    · omega
    · omega
  obtain ⟨m, hm⟩ : ∃ m, Int.tmod n 8 = m := ⟨_, rfl⟩
  have e2 : Int.tmod (m + 8) 8 = n % 8 := by
    rw [Int.tmod_eq_emod_of_nonneg (by omega), ← hm]
    have := Int.tmod_eq_emod (a := n) (b := 8)
    rw [this]
    split
    · omega
    · omega
  rw [hm] at e1
  obtain ⟨q, hq⟩ : ∃ q, n % 8 = q := ⟨_, rfl⟩
  rw [hq] at e2 ⊢
  have HQ := hide hq
  clear hq
  go_enter Tryd.func71, Tryd.ntmps71
  go_wp2_with fail
  go_ret
  exact ⟨rfl, rfl⟩

/-- The two cursors, alike: program's and document's, each apart from the other. -/
structure Two (w : World) (S1 S2 : Nat → Prop) (c r : Nat) (s : Cur) : Prop where
  a : CurAt w S1 c s
  b : DocAt w S2 r s
  ne : c ≠ r
  n1 : ¬ S1 r
  n2 : ¬ S2 c
theorem Two.below {w w' : World} {S1 S2 : Nat → Prop} {c r : Nat} {s : Cur} (h : Two w S1 S2 c r s) (hb : Below w.heap.size w w') : Two w' S1 S2 c r s := ⟨h.a.below hb, h.b.below hb, h.ne, h.n1, h.n2⟩
theorem Two.ext {w : World} {S1 S2 : Nat → Prop} {c r : Nat} {s : Cur} (h : Two w S1 S2 c r s) (u : Ext) : Two (w.ext u) S1 S2 c r s := h.below (Below.of_ext w u (Nat.le_refl _))
theorem Two.alloc {w : World} {S1 S2 : Nat → Prop} {c r : Nat} {s : Cur} (h : Two w S1 S2 c r s) (o : Obj) : Two (w.alloc o) S1 S2 c r s := h.below ((Below.refl _ _).alloc (Nat.le_refl _) o)

set_option maxRecDepth 100000 in
set_option maxHeartbeats 4000000 in
theorem both_any {w : World} {S1 S2 : Nat → Prop} {c r : Nat} {s : Cur} (h : Two w S1 S2 c r s) : Calls Tryd.prog 40 #[.pointer (some ⟨c, 0, none⟩), .pointer (some ⟨r, 0, none⟩)] w (RetX (.bool true) w) := by
  have H1 := hide (cErr h.a); have H2 := hide (fun u => dErr (h.ext u).b)
  have H3 := hide (fun u v => cMore ((h.ext u).ext v).a); have H4 := hide (fun u v => dMore ((h.ext u).ext v).b)
  have H5 := hide (fun u v => cEnds ((h.ext u).ext v).a); have H6 := hide (fun u v => dEnds ((h.ext u).ext v).b)
  have H7 := hide (fun u v => cPeek ((h.ext u).ext v).a); have H8 := hide (fun u v => dPeek ((h.ext u).ext v).b)
  unfold errV at H1 H2
  generalize (errC s).1 = e1 at H1 H2
  generalize (errC s).2.1 = e2 at H1 H2
  generalize (errC s).2.2 = e3 at H1 H2
  generalize moreC s = m at H3 H4
  generalize endsC s = n at H5 H6
  generalize peekC s = p at H7 H8
  clear h
  go_enter Tryd.func40, Tryd.ntmps40
  go_wp2_with (first | (go_at_call 30; refine H1.out.mono ?_; rintro e _ ⟨rfl, u1, rfl⟩) | (go_at_call 73; refine (H2.out _).mono ?_; rintro e _ ⟨rfl, u2, rfl⟩) | (go_at_call 31; refine (H3.out _ _).mono ?_; rintro e w' ⟨rfl, rfl⟩) | (go_at_call 74; refine (H4.out _ _).mono ?_; rintro e w' ⟨rfl, rfl⟩) | (go_at_call 75; refine (H5.out _ _).mono ?_; rintro e w' ⟨rfl, rfl⟩) | (go_at_call 76; refine (H6.out _ _).mono ?_; rintro e w' ⟨rfl, rfl⟩) | (go_at_call 77; refine (H7.out _ _).mono ?_; rintro e w' ⟨rfl, rfl⟩) | (go_at_call 78; refine (H8.out _ _).mono ?_; rintro e w' ⟨rfl, rfl⟩))
  go_ret
  exact RetX.b (by simp) (((Below.refl _ _).ext (Nat.le_refl _) u1).ext (by rw [size_ext]; omega) u2)

def stepC (x : Get) (s : Cur) : Cur :=
  if x.what % 8 = 0 then overC (isC (.nm x.s) s) s
  else if x.what % 8 = 1 then overC (isC (.mk x.s) s) s
  else if x.what % 8 = 2 then (nameC s).2
  else if x.what % 8 = 3 then (numC x.least x.most s).2
  else if x.what % 8 = 4 then markC [x.s, x.t] s
  else if x.what % 8 = 5 then endC s
  else if x.what % 8 = 6 then failC x.least s
  else s
def SameP (B : Nat) (S1 S2 : Nat → Prop) (c r : Nat) (w : World) (s' : Cur) (e : Ending) (w' : World) : Prop := e = .returned (.bool true) ∧ Two w' S1 S2 c r s' ∧ Below B w w'
theorem two_str (W : World) {a b : ByteArray} (ha : a.size ≤ maxLen) (hb : b.size ≤ maxLen) : Sl (W.alloc (.cells #[.string a, .string b] 9)) (fun g => g = W.heap.size) (some ⟨W.heap.size, 0, none⟩) 2 2 [a, b] :=
  Sl.lit (S := fun _ => False) (us := [.string a, .string b]) rfl ⟨[.string a], [.string b], rfl, ⟨rfl, ha⟩, ⟨[.string b], [], rfl, ⟨rfl, hb⟩, rfl⟩⟩ rfl (by decide) (fun _ h => h.elim) rfl
theorem same_end {B : Nat} {w V w1 w2 : World} {S1 S2 : Nat → Prop} {c r : Nat} {s s' : Cur} {b : Bool} (hb : b = true) (hV : Two V S1 S2 c r s) (hBV : Below B w V) (hBs : B ≤ V.heap.size) (hc : B ≤ c) (hr : B ≤ r) (hat : CurAt w1 S1 c s') (hon : Only c V w1) (hat2 : DocAt w2 S2 r s') (hon2 : Only r w1 w2) : SameP B S1 S2 c r w s' (.returned (.bool b)) w2 :=
  ⟨by rw [hb], ⟨hat.only hon2 hV.ne hV.n1, hat2, hV.ne, hV.n1, hV.n2⟩, (hBV.trans (hon.below hc hBs)).trans (hon2.below hr (by have := hon.size; omega))⟩
set_option maxRecDepth 100000 in
set_option maxHeartbeats 4000000 in
theorem same_any {w : World} {S1 S2 : Nat → Prop} {c r B : Nat} {s : Cur} (h : Two w S1 S2 c r s) (hc : B ≤ c) (hr : B ≤ r) (x : Get) (hx : InI x.what) (hxs : x.s.size ≤ maxLen) (hxt : x.t.size ≤ maxLen) : Calls Tryd.prog 41 #[.pointer (some ⟨c, 0, none⟩), .pointer (some ⟨r, 0, none⟩), .agg #[.int .i64 x.what, .int .i64 x.least, .int .i64 x.most, .string x.s, .string x.t]] w (SameP B S1 S2 c r w (stepC x s)) := by
  have HP := hide (fun W => pick_any x.what hx W)
  obtain ⟨wh, le, mo, sx, tx⟩ := x
  simp only at HP hxs hxt
  have HXS := hide hxs; have HXT := hide hxt
  have hq8 : 0 ≤ wh % 8 ∧ wh % 8 < 8 := by omega
  obtain ⟨q, hq⟩ : ∃ q, wh % 8 = q := ⟨_, rfl⟩
  unfold stepC
  simp only
  rw [hq] at HP hq8 ⊢
  have hcw := h.a.lt; have hrw := h.b.lt
  have H := hide h
  obtain ⟨V, hV⟩ : ∃ V, w.alloc (.cells #[.int .i64 wh, .int .i64 le, .int .i64 mo, .string sx, .string tx] 56) = V := ⟨_, rfl⟩
  have HV := hide (show Two V S1 S2 c r s by rw [← hV]; exact h.alloc _)
  have HBX := hide (show V.heap[w.heap.size]? = some (.cells #[.int .i64 wh, .int .i64 le, .int .i64 mo, .string sx, .string tx] 56 (0, 0)) by rw [← hV]; exact heap_alloc_new w _)
  have HBV := hide (show Below B w V by rw [← hV]; exact (Below.refl _ _).alloc (by omega) _)
  obtain ⟨bx, hbx⟩ : ∃ bx, w.heap.size = bx := ⟨_, rfl⟩
  rw [hbx] at HBX
  have hbl := (Array.getElem?_eq_some_iff.1 HBX.out).1
  have y0 : V.cell? ⟨bx, 0, none⟩ = some (.int .i64 wh) := cell_of_row V _ _ _ _ (0, 0) HBX.out
  have y1 : V.cell? ⟨bx, 1, none⟩ = some (.int .i64 le) := cell_of_row V _ _ _ _ (0, 0) HBX.out
  have y2 : V.cell? ⟨bx, 2, none⟩ = some (.int .i64 mo) := cell_of_row V _ _ _ _ (0, 0) HBX.out
  have y3 : V.cell? ⟨bx, 3, none⟩ = some (.string sx) := cell_of_row V _ _ _ _ (0, 0) HBX.out
  have y4 : V.cell? ⟨bx, 4, none⟩ = some (.string tx) := cell_of_row V _ _ _ _ (0, 0) HBX.out
  have hcb : ¬ bx = c := by omega
  have hrb : ¬ bx = r := by omega
  have HKP := hide (show ∀ (d : Nat) (X Y : World), Only d X Y → ¬ bx = d → bx < X.heap.size → ∀ j, Y.cell? ⟨bx, j, none⟩ = X.cell? ⟨bx, j, none⟩ from fun d X Y h hd hl j => World.cell?_of_block (h.block bx hl hd))
  have hcV : c < V.heap.size := HV.out.a.lt
  have hrV : r < V.heap.size := HV.out.b.lt
  have hBV : B ≤ V.heap.size := by omega
  clear h hq hx hxs hxt
  by_cases h0 : q = 0
  · subst h0
    rw [if_pos rfl]
    have HD := hide (HV.out.below ((Below.refl _ _).drew))
    have HC := hide (cKey HD.out.a sx)
    have HC2 := hide (fun (W : World) (h : DocAt W S2 r s) => dKey h sx)
    generalize overC (isC (.nm sx) s) s = s9 at HC HC2 ⊢
    generalize isC (.nm sx) s = v9 at HC HC2
    go_enter Tryd.func41, Tryd.ntmps41
    go_wp2_with (go_at_call 71; refine (HP.out _).mono ?_; rintro e w' ⟨rfl, rfl⟩)
    go_region_held3 (fun W => W.cell? ⟨bx, 3, none⟩ = some (.string sx)) (go_keep) (first | (go_at_call 72; refine HC.out.mono ?_; rintro e w1 ⟨rfl, hat, hon⟩; have hb1 : bx < w1.heap.size := Nat.lt_of_lt_of_le hbl hon.size; have z1 : w1.cell? ⟨bx, 1, none⟩ = some (.int .i64 le) := (HKP.out c _ _ hon hcb hbl 1).trans y1; have z2 : w1.cell? ⟨bx, 2, none⟩ = some (.int .i64 mo) := (HKP.out c _ _ hon hcb hbl 2).trans y2; have z3 : w1.cell? ⟨bx, 3, none⟩ = some (.string sx) := (HKP.out c _ _ hon hcb hbl 3).trans y3; have z4 : w1.cell? ⟨bx, 4, none⟩ = some (.string tx) := (HKP.out c _ _ hon hcb hbl 4).trans y4) | (go_at_call 79; refine (HC2.out _ (HD.out.b.only hon HD.out.ne.symm HD.out.n2)).mono ?_; rintro e w2 ⟨rfl, hat2, hon2⟩; have x1 : w2.cell? ⟨bx, 1, none⟩ = some (.int .i64 le) := (HKP.out r _ _ hon2 hrb hb1 1).trans z1; have x2 : w2.cell? ⟨bx, 2, none⟩ = some (.int .i64 mo) := (HKP.out r _ _ hon2 hrb hb1 2).trans z2; have x3 : w2.cell? ⟨bx, 3, none⟩ = some (.string sx) := (HKP.out r _ _ hon2 hrb hb1 3).trans z3))
    all_goals go_wp2_with fail
    all_goals go_ret
    all_goals exact same_end (by simp) HD.out (HBV.out.drew) hBV hc hr hat hon hat2 hon2
  by_cases h1 : q = 1
  · subst h1
    
    rw [if_neg (by decide)]; rw [if_pos rfl]
    have HD := hide (HV.out.below ((Below.refl _ _).drew))
    have HC := hide (cIsM HD.out.a sx)
    have HC2 := hide (fun (W : World) (h : DocAt W S2 r s) => dIs h sx)
    generalize overC (isC (.mk sx) s) s = s9 at HC HC2 ⊢
    generalize isC (.mk sx) s = v9 at HC HC2
    go_enter Tryd.func41, Tryd.ntmps41
    go_wp2_with (go_at_call 71; refine (HP.out _).mono ?_; rintro e w' ⟨rfl, rfl⟩)
    go_region_held3 (fun W => W.cell? ⟨bx, 3, none⟩ = some (.string sx)) (go_keep) (first | (go_at_call 35; refine HC.out.mono ?_; rintro e w1 ⟨rfl, hat, hon⟩; have hb1 : bx < w1.heap.size := Nat.lt_of_lt_of_le hbl hon.size; have z1 : w1.cell? ⟨bx, 1, none⟩ = some (.int .i64 le) := (HKP.out c _ _ hon hcb hbl 1).trans y1; have z2 : w1.cell? ⟨bx, 2, none⟩ = some (.int .i64 mo) := (HKP.out c _ _ hon hcb hbl 2).trans y2; have z3 : w1.cell? ⟨bx, 3, none⟩ = some (.string sx) := (HKP.out c _ _ hon hcb hbl 3).trans y3; have z4 : w1.cell? ⟨bx, 4, none⟩ = some (.string tx) := (HKP.out c _ _ hon hcb hbl 4).trans y4) | (go_at_call 80; refine (HC2.out _ (HD.out.b.only hon HD.out.ne.symm HD.out.n2)).mono ?_; rintro e w2 ⟨rfl, hat2, hon2⟩; have x1 : w2.cell? ⟨bx, 1, none⟩ = some (.int .i64 le) := (HKP.out r _ _ hon2 hrb hb1 1).trans z1; have x2 : w2.cell? ⟨bx, 2, none⟩ = some (.int .i64 mo) := (HKP.out r _ _ hon2 hrb hb1 2).trans z2; have x3 : w2.cell? ⟨bx, 3, none⟩ = some (.string sx) := (HKP.out r _ _ hon2 hrb hb1 3).trans z3))
    all_goals go_wp2_with fail
    all_goals go_ret
    all_goals exact same_end (by simp) HD.out (HBV.out.drew) hBV hc hr hat hon hat2 hon2
  by_cases h2 : q = 2
  · subst h2
    
    rw [if_neg (by decide)]; rw [if_neg (by decide)]; rw [if_pos rfl]
    have HD := HV
    have HC := hide (cName HD.out.a)
    have HC2 := hide (fun (W : World) (h : DocAt W S2 r s) => dName h)
    generalize (nameC s).2 = s9 at HC HC2 ⊢
    generalize (nameC s).1 = v9 at HC HC2
    go_enter Tryd.func41, Tryd.ntmps41
    go_wp2_with (first | (go_at_call 71; refine (HP.out _).mono ?_; rintro e w' ⟨rfl, rfl⟩) | (go_at_call 33; refine HC.out.mono ?_; rintro e w1 ⟨rfl, hat, hon⟩; have hb1 : bx < w1.heap.size := Nat.lt_of_lt_of_le hbl hon.size; have z1 : w1.cell? ⟨bx, 1, none⟩ = some (.int .i64 le) := (HKP.out c _ _ hon hcb hbl 1).trans y1; have z2 : w1.cell? ⟨bx, 2, none⟩ = some (.int .i64 mo) := (HKP.out c _ _ hon hcb hbl 2).trans y2; have z3 : w1.cell? ⟨bx, 3, none⟩ = some (.string sx) := (HKP.out c _ _ hon hcb hbl 3).trans y3; have z4 : w1.cell? ⟨bx, 4, none⟩ = some (.string tx) := (HKP.out c _ _ hon hcb hbl 4).trans y4) | (go_at_call 81; refine (HC2.out _ (HD.out.b.only hon HD.out.ne.symm HD.out.n2)).mono ?_; rintro e w2 ⟨rfl, hat2, hon2⟩; have x1 : w2.cell? ⟨bx, 1, none⟩ = some (.int .i64 le) := (HKP.out r _ _ hon2 hrb hb1 1).trans z1; have x2 : w2.cell? ⟨bx, 2, none⟩ = some (.int .i64 mo) := (HKP.out r _ _ hon2 hrb hb1 2).trans z2; have x3 : w2.cell? ⟨bx, 3, none⟩ = some (.string sx) := (HKP.out r _ _ hon2 hrb hb1 3).trans z3))
    go_ret
    exact same_end rfl HD.out HBV.out hBV hc hr hat hon hat2 hon2
  by_cases h3 : q = 3
  · subst h3
    
    rw [if_neg (by decide)]; rw [if_neg (by decide)]; rw [if_neg (by decide)]; rw [if_pos rfl]
    have HD := hide (HV.out.below ((Below.refl _ _).drew))
    have HC := hide (cNum HD.out.a le mo)
    have HC2 := hide (fun (W : World) (h : DocAt W S2 r s) => dNum h le mo)
    generalize (numC le mo s).2 = s9 at HC HC2 ⊢
    generalize (numC le mo s).1 = v9 at HC HC2
    go_enter Tryd.func41, Tryd.ntmps41
    go_wp2_with (go_at_call 71; refine (HP.out _).mono ?_; rintro e w' ⟨rfl, rfl⟩)
    go_region_held3 (fun W => W.cell? ⟨bx, 1, none⟩ = some (.int .i64 le) ∧ W.cell? ⟨bx, 2, none⟩ = some (.int .i64 mo)) (go_keep) (first | (go_at_call 34; refine HC.out.mono ?_; rintro e w1 ⟨rfl, hat, hon⟩; have hb1 : bx < w1.heap.size := Nat.lt_of_lt_of_le hbl hon.size; have z1 : w1.cell? ⟨bx, 1, none⟩ = some (.int .i64 le) := (HKP.out c _ _ hon hcb hbl 1).trans y1; have z2 : w1.cell? ⟨bx, 2, none⟩ = some (.int .i64 mo) := (HKP.out c _ _ hon hcb hbl 2).trans y2; have z3 : w1.cell? ⟨bx, 3, none⟩ = some (.string sx) := (HKP.out c _ _ hon hcb hbl 3).trans y3; have z4 : w1.cell? ⟨bx, 4, none⟩ = some (.string tx) := (HKP.out c _ _ hon hcb hbl 4).trans y4) | (go_at_call 82; refine (HC2.out _ (HD.out.b.only hon HD.out.ne.symm HD.out.n2)).mono ?_; rintro e w2 ⟨rfl, hat2, hon2⟩; have x1 : w2.cell? ⟨bx, 1, none⟩ = some (.int .i64 le) := (HKP.out r _ _ hon2 hrb hb1 1).trans z1; have x2 : w2.cell? ⟨bx, 2, none⟩ = some (.int .i64 mo) := (HKP.out r _ _ hon2 hrb hb1 2).trans z2; have x3 : w2.cell? ⟨bx, 3, none⟩ = some (.string sx) := (HKP.out r _ _ hon2 hrb hb1 3).trans z3))
    all_goals go_wp2_with fail
    all_goals go_ret
    all_goals exact same_end (by simp) HD.out (HBV.out.drew) hBV hc hr hat hon hat2 hon2
  by_cases h4 : q = 4
  · subst h4
    rw [if_neg (by decide)]; rw [if_neg (by decide)]; rw [if_neg (by decide)]; rw [if_neg (by decide)]; rw [if_pos rfl]
    have HC := hide (cMark (HV.out.alloc (.cells #[.string sx, .string tx] 9)).a (two_str V HXS.out HXT.out) (by show ¬ c = V.heap.size; omega))
    have HC2 := hide (fun (W : World) (h : DocAt W S2 r s) => dMark (h.below ((Below.refl _ _).alloc (Nat.le_refl _) (.cells #[.string sx, .string tx] 9))) (two_str W HXS.out HXT.out) (by show ¬ r = W.heap.size; have := h.lt; omega))
    generalize markC [sx, tx] s = s9 at HC HC2 ⊢
    go_enter Tryd.func41, Tryd.ntmps41
    go_wp2_with (first | (go_at_call 71; refine (HP.out _).mono ?_; rintro e w' ⟨rfl, rfl⟩) | (go_at_call 61; refine HC.out.mono ?_; rintro e w1 ⟨rfl, hat, hon0⟩; have hon : Only c V w1 := ((Only.refl c V).alloc _).trans hon0; have hb1 : bx < w1.heap.size := Nat.lt_of_lt_of_le hbl hon.size; have z1 : w1.cell? ⟨bx, 1, none⟩ = some (.int .i64 le) := (HKP.out c _ _ hon hcb hbl 1).trans y1; have z2 : w1.cell? ⟨bx, 2, none⟩ = some (.int .i64 mo) := (HKP.out c _ _ hon hcb hbl 2).trans y2; have z3 : w1.cell? ⟨bx, 3, none⟩ = some (.string sx) := (HKP.out c _ _ hon hcb hbl 3).trans y3; have z4 : w1.cell? ⟨bx, 4, none⟩ = some (.string tx) := (HKP.out c _ _ hon hcb hbl 4).trans y4) | (go_at_call 83; refine (HC2.out _ (HV.out.b.only hon HV.out.ne.symm HV.out.n2)).mono ?_; rintro e w2 ⟨rfl, hat2, hon20⟩; have hon2 : Only r w1 w2 := ((Only.refl r w1).alloc _).trans hon20))
    go_ret
    exact same_end rfl HV.out HBV.out hBV hc hr hat hon hat2 hon2
  by_cases h5 : q = 5
  · subst h5
    rw [if_neg (by decide)]; rw [if_neg (by decide)]; rw [if_neg (by decide)]; rw [if_neg (by decide)]; rw [if_neg (by decide)]; rw [if_pos rfl]
    have HC := hide (cEnd HV.out.a)
    have HC2 := hide (fun (W : World) (h : DocAt W S2 r s) => dEnd h)
    generalize endC s = s9 at HC HC2 ⊢
    go_enter Tryd.func41, Tryd.ntmps41
    go_wp2_with (first | (go_at_call 71; refine (HP.out _).mono ?_; rintro e w' ⟨rfl, rfl⟩) | (go_at_call 32; refine HC.out.mono ?_; rintro e w1 ⟨rfl, hat, hon⟩; have hb1 : bx < w1.heap.size := Nat.lt_of_lt_of_le hbl hon.size; have z1 : w1.cell? ⟨bx, 1, none⟩ = some (.int .i64 le) := (HKP.out c _ _ hon hcb hbl 1).trans y1; have z2 : w1.cell? ⟨bx, 2, none⟩ = some (.int .i64 mo) := (HKP.out c _ _ hon hcb hbl 2).trans y2; have z3 : w1.cell? ⟨bx, 3, none⟩ = some (.string sx) := (HKP.out c _ _ hon hcb hbl 3).trans y3; have z4 : w1.cell? ⟨bx, 4, none⟩ = some (.string tx) := (HKP.out c _ _ hon hcb hbl 4).trans y4) | (go_at_call 84; refine (HC2.out _ (HV.out.b.only hon HV.out.ne.symm HV.out.n2)).mono ?_; rintro e w2 ⟨rfl, hat2, hon2⟩))
    go_ret
    exact same_end rfl HV.out HBV.out hBV hc hr hat hon hat2 hon2
  by_cases h6 : q = 6
  · subst h6
    rw [if_neg (by decide)]; rw [if_neg (by decide)]; rw [if_neg (by decide)]; rw [if_neg (by decide)]; rw [if_neg (by decide)]; rw [if_neg (by decide)]; rw [if_pos rfl]
    have HC := hide (cFail HV.out.a le)
    have HC2 := hide (fun (W : World) (h : DocAt W S2 r s) => dFail h le)
    generalize failC le s = s9 at HC HC2 ⊢
    go_enter Tryd.func41, Tryd.ntmps41
    go_wp2_with (first | (go_at_call 71; refine (HP.out _).mono ?_; rintro e w' ⟨rfl, rfl⟩) | (go_at_call 38; refine HC.out.mono ?_; rintro e w1 ⟨rfl, hat, hon⟩; have hb1 : bx < w1.heap.size := Nat.lt_of_lt_of_le hbl hon.size; have z1 : w1.cell? ⟨bx, 1, none⟩ = some (.int .i64 le) := (HKP.out c _ _ hon hcb hbl 1).trans y1; have z2 : w1.cell? ⟨bx, 2, none⟩ = some (.int .i64 mo) := (HKP.out c _ _ hon hcb hbl 2).trans y2; have z3 : w1.cell? ⟨bx, 3, none⟩ = some (.string sx) := (HKP.out c _ _ hon hcb hbl 3).trans y3; have z4 : w1.cell? ⟨bx, 4, none⟩ = some (.string tx) := (HKP.out c _ _ hon hcb hbl 4).trans y4) | (go_at_call 85; refine (HC2.out _ (HV.out.b.only hon HV.out.ne.symm HV.out.n2)).mono ?_; rintro e w2 ⟨rfl, hat2, hon2⟩))
    go_ret
    exact same_end rfl HV.out HBV.out hBV hc hr hat hon hat2 hon2
  have h7 : q = 7 := by omega
  subst h7
  rw [if_neg (by decide)]; rw [if_neg (by decide)]; rw [if_neg (by decide)]; rw [if_neg (by decide)]; rw [if_neg (by decide)]; rw [if_neg (by decide)]; rw [if_neg (by decide)]
  go_enter Tryd.func41, Tryd.ntmps41
  go_wp2_with (go_at_call 71; refine (HP.out _).mono ?_; rintro e w' ⟨rfl, rfl⟩)
  go_ret
  exact ⟨rfl, HV.out, HBV.out⟩
end Go.Proofs.YtmlopggainkoiaaDoor
set_option linter.unusedSimpArgs false
set_option linter.unusedVariables false
namespace Go.Proofs.YtmlopggainkoiaaDoor
open Go.RowKit

def SizeP (n : Nat) (w : World) (e : Ending) (w' : World) : Prop := ∃ z : Nat, e = .returned (.int .i64 z) ∧ n ≤ z ∧ z ≤ 1125899906842624 ∧ ∃ u : Ext, w' = w.ext u
set_option maxRecDepth 100000 in
set_option maxHeartbeats 8000000 in
theorem size_any {w : World} {S : Nat → Prop} {A : Option Addr} {n c : Nat} {xs : List Get} (h : Sl w S A n c xs) (hn : n ≤ 140737488355328) (hx : ∀ x ∈ xs, x.s.size ≤ 140737488355328 ∧ x.t.size ≤ 140737488355328) : Calls Tryd.prog 36 #[.slice A n c] w (SizeP n w) := by
  have HS := hide h; have HX := hide hx
  clear h hx
  go_enter Tryd.func36, Tryd.ntmps36
  go_wp2_with fail
  go_loopw [3, 4] (fun a b wr => ∃ (k z : Nat) (u : Ext), a = .int .i64 z ∧ b = .int .i64 k ∧ k ≤ n ∧ n ≤ z ∧ z ≤ 844424930131968 ∧ wr = w.ext u) (fun _ b _ => n - (intOf b).toNat)
  case atStart => exact ⟨0, n, _, rfl, rfl, Nat.zero_le _, Nat.le_refl _, by omega, (ext_refl w).choose_spec⟩
  case round =>
    obtain ⟨k, z, u, rfl, rfl, hk, hnz, hz, rfl⟩ := hrel
    by_cases hbig : z ≤ 3000
    · by_cases hlt : k < n
      · obtain ⟨b, off, x, rfl, hb, hx, i0, i1, i2, i3, i4, c0, c1, c2, c3, c4⟩ := at_Get HS.out hlt
        have hxx := HX.out x (List.mem_of_getElem? hx)
        obtain ⟨wh, le, mo, sx, tx⟩ := x
        simp only at i0 i1 i2 i3 i4 c0 c1 c2 c3 c4 hxx
        obtain ⟨hs1, ht1⟩ := hxx
        clear hx i0 i1 i2 i3 i4 c0 c1 c2
        go_wp2_with fail
        refine wp_region_ext (by kernel_rfl) (by kernel_rfl) ?_
        repeat (any_goals (first | go_big_quiet_step ((fail)) | quiet_step ((fail))))
        refine wpQuiet_nil ?_
        rintro _ ⟨uq, rfl⟩
        go_wp2_with fail
        go_roundw
        case rel =>
          obtain ⟨v, hv⟩ := ext_ext w u uq
          exact ⟨k + 1, z + sx.size + tx.size, v, by go_num, by go_num, by omega, by omega, by omega, hv⟩
        case measure => simp [intOf]; omega
      · go_wp2_with fail
        go_ret
        exact ⟨z, rfl, hnz, by omega, u, rfl⟩
    · by_cases hlt : k < n
      · go_wp2_with fail
        go_ret
        exact ⟨z, rfl, hnz, by omega, u, rfl⟩
      · go_wp2_with fail
        go_ret
        exact ⟨z, rfl, hnz, by omega, u, rfl⟩

def sA : ByteArray := ⟨#[10, 120, 32, 226, 134, 144, 32, 53, 10]⟩
def tA : ByteArray := ⟨#[226, 134, 144]⟩
def cA0 : Cur := overT sA
def cA1 : Cur := (nameC cA0).2
def cA2 : Cur := markC [tA] cA1
def cA3 : Cur := (numC 0 9 cA2).2
theorem awA : (nameC cA0).1 = ⟨#[120]⟩ ∧ (numC 0 9 cA2).1 = 5 ∧ errC cA3 = (0, 0, 0) ∧ moreC cA3 = false := by decide +kernel
theorem one_str (W : World) {a : ByteArray} (ha : a.size ≤ maxLen) : Sl (W.alloc (.cells #[.string a] 9)) (fun g => g = W.heap.size) (some ⟨W.heap.size, 0, none⟩) 1 1 [a] :=
  Sl.lit (S := fun _ => False) (us := [.string a]) rfl ⟨[.string a], [], rfl, ⟨rfl, ha⟩, rfl⟩ rfl (by decide) (fun _ h => h.elim) rfl

set_option maxRecDepth 100000 in
set_option maxHeartbeats 8000000 in
theorem awake02_any (w : World) (hv : Vars w) : Calls Tryd.prog 28 #[] w (RetX (.bool true) w) := by
  have H0 := hide (show Calls Tryd.prog 29 #[.string ⟨#[10, 120, 32, 226, 134, 144, 32, 53, 10]⟩] w (fun e w' => e = .returned (.pointer (some ⟨w.heap.size, 0, none⟩)) ∧ CurAt w' (fun b => w.heap.size < b ∧ b < w'.heap.size) w.heap.size cA0 ∧ Below w.heap.size w w') from cOver1 sA w (by decide) hv)
  obtain ⟨a1, a2, a3, a4⟩ := awA
  have H1 := hide (show ∀ W S, CurAt W S w.heap.size cA0 → Calls Tryd.prog 33 #[.pointer (some ⟨w.heap.size, 0, none⟩)] W (CurP S w.heap.size W cA1 (.string ⟨#[120]⟩)) from fun W S h => by have := cName h; rw [a1] at this; exact this)
  have H2 := hide (show ∀ W S, CurAt W S w.heap.size cA1 → ∀ W', W' = W.alloc (.cells #[.string ⟨#[226, 134, 144]⟩] 9) → Calls Tryd.prog 61 #[.pointer (some ⟨w.heap.size, 0, none⟩), .slice (some ⟨W.heap.size, 0, none⟩) 1 1] W' (CurP S w.heap.size W' cA2 (.tuple #[])) from fun W S h W' hW => by subst hW; exact cMark (h.alloc _) (one_str W (a := tA) (by decide)) (by have := h.lt; show ¬ w.heap.size = W.heap.size; omega))
  have H3 := hide (show ∀ W S, CurAt W S w.heap.size cA2 → Calls Tryd.prog 34 #[.pointer (some ⟨w.heap.size, 0, none⟩), .int .i64 0, .int .i64 9] W (CurP S w.heap.size W cA3 (.int .i64 5)) from fun W S h => by have := cNum h 0 9; rw [a2] at this; exact this)
  have H4 := hide (show ∀ W S, CurAt W S w.heap.size cA3 → Calls Tryd.prog 30 #[.pointer (some ⟨w.heap.size, 0, none⟩)] W (RetX (.tuple #[.int .i64 0, .int .i64 0, .int .i64 0]) W) from fun W S h => by have := cErr h; unfold errV at this; rw [a3] at this; exact this)
  have H5 := hide (show ∀ W S, CurAt W S w.heap.size cA3 → Calls Tryd.prog 31 #[.pointer (some ⟨w.heap.size, 0, none⟩)] W (Ret (.bool false) W) from fun W S h => by have := cMore h; rw [a4] at this; exact this)
  clear a1 a2 a3 a4
  go_enter Tryd.func28, Tryd.ntmps28
  go_wp2_with (first | (go_at_call 29; refine H0.out.mono ?_; rintro e w0 ⟨rfl, hat0, hb0⟩) | (go_at_call 33; refine (H1.out _ _ hat0).mono ?_; rintro e w1 ⟨rfl, hat1, hon1⟩) | (go_at_call 61; refine (H2.out _ _ hat1 _ rfl).mono ?_; rintro e w2 ⟨rfl, hat2, hon2⟩) | (go_at_call 34; refine (H3.out _ _ hat2).mono ?_; rintro e w3 ⟨rfl, hat3, hon3⟩) | (go_at_call 30; refine (H4.out _ _ hat3).mono ?_; rintro e _ ⟨rfl, u4, rfl⟩) | (go_at_call 31; refine (H5.out _ _ (hat3.ext _)).mono ?_; rintro e w' ⟨rfl, rfl⟩))
  go_ret
  have e1 := hb0.size; have e2 := hon1.size; have e3 := hon2.size; have e4 := hon3.size
  simp only [World.size_alloc] at e3
  refine RetX.b rfl (((((hb0.trans (hon1.below (Nat.le_refl _) (by omega))).alloc (by omega) _).trans (hon2.below (Nat.le_refl _) (by simp; omega))).trans (hon3.below (Nat.le_refl _) (by omega))).ext (by omega) u4)
end Go.Proofs.YtmlopggainkoiaaDoor
