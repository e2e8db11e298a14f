/- Lists of numbers that lie apart: the bag. Printed by gen_ap4.py. -/
import Derived.Test.YthmglmmafgdmhaaGreatAP2
import Derived.Test.YthmglmmafgdmhaaGreatAP3
set_option linter.unusedSimpArgs false
set_option linter.unusedVariables false
namespace Go.Proofs.YthmglmmafgdmhaaGreat
open Go.RowKit

/-- A bag that holds lists of numbers only. -/
def BagAt (w : World) (g : Nat) (x : Value) : Prop := w.heap[g]? = some (.cells #[.slice none 0 0, .slice none 0 0, x, .slice none 0 0, .slice none 0 0, .slice none 0 0, .slice none 0 0, .slice none 0 0, .slice none 0 0, .slice none 0 0, .slice none 0 0, .slice none 0 0, .slice none 0 0, .slice none 0 0, .slice none 0 0, .slice none 0 0, .slice none 0 0] 83 (0, 0))
section
variable {w w' : World} {g : Nat} {x : Value}
theorem BagAt.lt (h : BagAt w g x) : g < w.heap.size := (Array.getElem?_eq_some_iff.1 h).1
theorem BagAt.keep (h : BagAt w g x) (hb : w'.heap[g]? = w.heap[g]?) : BagAt w' g x := hb.trans h
theorem BagAt.ext (h : BagAt w g x) (u : Ext) : BagAt (w.ext u) g x := h.keep ((Below.of_ext w u (Nat.le_refl _)).block g h.lt)
theorem BagAt.fz (h : BagAt w g x) (k : Nat) : w.frozen? ⟨g, k, none⟩ = false := by
  rw [World.frozen?, show w.heap[g]? = _ from h]; simp
theorem BagAt.set (h : BagAt w g x) (y : Value) : BagAt (w.setCell ⟨g, 2, none⟩ y) g y := row_setA h 2 y
theorem BagAt.c0 (h : BagAt w g x) : w.cell? ⟨g, 0, none⟩ = some (.slice none 0 0) := cell_of_row w g _ _ _ (0, 0) h
theorem BagAt.c1 (h : BagAt w g x) : w.cell? ⟨g, 1, none⟩ = some (.slice none 0 0) := cell_of_row w g _ _ _ (0, 0) h
theorem BagAt.c2 (h : BagAt w g x) : w.cell? ⟨g, 2, none⟩ = some x := cell_of_row w g _ _ _ (0, 0) h
theorem BagAt.c3 (h : BagAt w g x) : w.cell? ⟨g, 3, none⟩ = some (.slice none 0 0) := cell_of_row w g _ _ _ (0, 0) h
theorem BagAt.c4 (h : BagAt w g x) : w.cell? ⟨g, 4, none⟩ = some (.slice none 0 0) := cell_of_row w g _ _ _ (0, 0) h
theorem BagAt.c5 (h : BagAt w g x) : w.cell? ⟨g, 5, none⟩ = some (.slice none 0 0) := cell_of_row w g _ _ _ (0, 0) h
theorem BagAt.c6 (h : BagAt w g x) : w.cell? ⟨g, 6, none⟩ = some (.slice none 0 0) := cell_of_row w g _ _ _ (0, 0) h
theorem BagAt.c7 (h : BagAt w g x) : w.cell? ⟨g, 7, none⟩ = some (.slice none 0 0) := cell_of_row w g _ _ _ (0, 0) h
theorem BagAt.c8 (h : BagAt w g x) : w.cell? ⟨g, 8, none⟩ = some (.slice none 0 0) := cell_of_row w g _ _ _ (0, 0) h
theorem BagAt.c9 (h : BagAt w g x) : w.cell? ⟨g, 9, none⟩ = some (.slice none 0 0) := cell_of_row w g _ _ _ (0, 0) h
theorem BagAt.c10 (h : BagAt w g x) : w.cell? ⟨g, 10, none⟩ = some (.slice none 0 0) := cell_of_row w g _ _ _ (0, 0) h
theorem BagAt.c11 (h : BagAt w g x) : w.cell? ⟨g, 11, none⟩ = some (.slice none 0 0) := cell_of_row w g _ _ _ (0, 0) h
theorem BagAt.c12 (h : BagAt w g x) : w.cell? ⟨g, 12, none⟩ = some (.slice none 0 0) := cell_of_row w g _ _ _ (0, 0) h
theorem BagAt.c13 (h : BagAt w g x) : w.cell? ⟨g, 13, none⟩ = some (.slice none 0 0) := cell_of_row w g _ _ _ (0, 0) h
theorem BagAt.c14 (h : BagAt w g x) : w.cell? ⟨g, 14, none⟩ = some (.slice none 0 0) := cell_of_row w g _ _ _ (0, 0) h
theorem BagAt.c15 (h : BagAt w g x) : w.cell? ⟨g, 15, none⟩ = some (.slice none 0 0) := cell_of_row w g _ _ _ (0, 0) h
theorem BagAt.c16 (h : BagAt w g x) : w.cell? ⟨g, 16, none⟩ = some (.slice none 0 0) := cell_of_row w g _ _ _ (0, 0) h
end
theorem info_bag : (Tryz.prog.info? 83).map (fun i => (i.zero, i.size)) = some (some (.agg #[.slice none 0 0, .slice none 0 0, .slice none 0 0, .slice none 0 0, .slice none 0 0, .slice none 0 0, .slice none 0 0, .slice none 0 0, .slice none 0 0, .slice none 0 0, .slice none 0 0, .slice none 0 0, .slice none 0 0, .slice none 0 0, .slice none 0 0, .slice none 0 0, .slice none 0 0]), 17) := by kernel_rfl
set_option maxRecDepth 100000 in
set_option maxHeartbeats 8000000 in
theorem putInts_any (w : World) (gb B : Nat) (bg x : Hdr) (hs : List Hdr) (hb : BagAt w gb bg.v) (hg : gb < B) (hB : B ≤ w.heap.size) (ho : OwnL w B 22 (fun _ => False) bg.v hs) (hn : hs.length ≤ 1000) :
    Calls Tryz.prog 38 #[.pointer (some ⟨gb, 0, none⟩), .slice x.a x.n x.c] w (fun e w' => e = .returned (.tuple #[]) ∧ ∃ bg' : Hdr, BagAt w' gb bg'.v ∧ OwnL w' B 22 (fun _ => False) bg'.v (hs ++ [x]) ∧ Below gb w w') := by
  obtain ⟨i0, hi, hz, hz1, hz2⟩ := info_parts info_sInts
  have HI0 := hide hi; have HZ := hide hz; have HZ1 := hide hz1; have HZ2 := hide hz2
  clear hi hz hz1 hz2
  have HB := hide hb; have HO := hide ho
  have hc := hb.c2
  have hlt := hb.lt
  have HBW := hide hB
  clear hb ho hB
  go_enter Tryz.func38, Tryz.ntmps38
  go_wp2_with (at_builtin; refine wpList_push (α := Hdr) w [.slice x.a x.n x.c] 22 rfl (.tmp 8) (.tmp 10) 36 rfl B 22 i0 _ 24 Tryz.underlying36 HI0.out HZ.out HZ1.out HZ2.out rfl (by decide) (fun _ => False) (fun _ => False) bg.v hs x rfl HO.out w.heap.size rfl rfl rfl (fun _ h => h) (fun _ _ h => h) (fun _ h => h.elim) (by omega) (by omega) HBW.out ?_; intro v' w' ho1 hgr h5; obtain ⟨a', c', rfl⟩ := ho1.form; have hbg := HB.out.keep (w' := w') ((hgr.block gb (by simp; omega) (fun e => by have := (HO.out.below_ gb e.symm).1; omega)).trans (Below.heap_alloc w _ gb hlt)); have hc2 := hbg.c2; have hf2 := hbg.fz 2; have hl2 := hbg.lt; have HBG := hide hbg; have HO1 := hide ho1; have HGR := hide hgr; clear hbg ho1 hgr h5)
  have HO2 : OwnL w' B 22 (fun _ => False) (.slice a' (hs.length + 1) c') (hs ++ [x]) := by
    have h := HO1.out
    rw [List.length_append] at h
    exact h
  go_end0
  refine ⟨rfl, ⟨a', _, c'⟩, HBG.out.set _, HO2.setCell (p := ⟨gb, 2, none⟩) (fun h => h) (fun e => by have := (HO2.below_ gb e).1; omega) _, ?_⟩
  have h1 : Below gb w (w.alloc (.cells #[.slice x.a x.n x.c] 22)) := (Below.refl _ _).alloc (by have := HBW.out; omega) _
  exact (h1.grown HGR.out (by have := HBW.out; simp; omega) (fun g e => by have := (HO.out.below_ g e).1; omega)).setCell (Nat.le_refl _) _
set_option maxRecDepth 100000 in
set_option maxHeartbeats 16000000 in
theorem apart_any (w : World) (gb B : Nat) (S : Nat → Prop) (A : Option Addr) (n c : Nat) (hs : List Hdr) (f : Nat → List Int) (hb : BagAt w gb (.slice A n c)) (hS : S gb) (hF : FlatAt w w B S A n c hs f) (hB : B ≤ w.heap.size) (hn : n ≤ 1000) (hm : ∀ (k : Nat) (h : Hdr), hs[k]? = some h → h.n ≤ 1000000) :
    Calls Tryz.prog 39 #[.pointer (some ⟨gb, 0, none⟩)] w (fun e w' => e = .returned (.bool true) ∧ Below B w w') := by
  have HB := hide hb; have HSG := hide hS
  have hc0 := hb.c0
  have hl0 := hb.lt
  have HFI := hide (fun (W0 W1 : World) (u0 u1 : Ext) (e0 : W0 = w.ext u0) (e1 : W1 = W0.ext u1) => flatInts_any W1 B S A n c hs f (by
    subst e0 e1
    have h0 := (hF.ext hB u0).ext (by rw [size_ext]; omega) u1
    exact ⟨h0.ls, h0.rows, h0.nS, Below.refl _ _, fun b hb => by have := hF.Sb b hb; rw [size_ext, size_ext]; omega, fun _ _ => rfl⟩) (by subst e0 e1; rw [size_ext, size_ext]; omega) hn hm)
  have HBW := hide hB
  clear hb hS hF hn hm
  go_enter Tryz.func39, Tryz.ntmps39
  go_wp2_with (first
    | (go_at_call 47; refine (flatLimbs_nil _).mono ?_; rintro e X0 ⟨rfl, u0, hx0⟩; have hB0 : BagAt X0 gb (.slice A n c) := (by rw [hx0]; exact HB.out.ext u0); have HB0 := hide hB0; have hc1 := hB0.c1; have hl1 := hB0.lt; have HX0 := hide hx0; clear hB0 hc0 hl0 hx0)
    | (go_at_call 48; refine (flatWords_nil _).mono ?_; rintro e X1 ⟨rfl, u1, hx1⟩; have hB1 : BagAt X1 gb (.slice A n c) := (by rw [hx1]; exact HB0.out.ext u1); have HB1 := hide hB1; have hc2 := hB1.c2; have hl2 := hB1.lt; have HX1 := hide hx1; clear hB1 hc1 hl1 hx1)
    | (go_at_call 49; refine (HFI.out _ _ _ _ HX0.out HX1.out).mono ?_; rintro e X2 ⟨rfl, hx2, hk2⟩; have hB2 := HB1.out.keep (hk2 gb HSG.out); have HB2 := hide hB2; have hc3 := hB2.c3; have hl3 := hB2.lt; have HX2 := hide hx2; clear hB2 hk2 hx2; clear hc2 hl2)
    | (go_at_call 50; refine (flatLongs_nil _).mono ?_; rintro e X3 ⟨rfl, u3, hx3⟩; have hB3 : BagAt X3 gb (.slice A n c) := (by rw [hx3]; exact HB2.out.ext u3); have HB3 := hide hB3; have hc4 := hB3.c4; have hl4 := hB3.lt; have HX3 := hide hx3; clear hB3 hc3 hl3 hx3)
    | (go_at_call 51; refine (flatTexts_nil _).mono ?_; rintro e X4 ⟨rfl, u4, hx4⟩; have hB4 : BagAt X4 gb (.slice A n c) := (by rw [hx4]; exact HB3.out.ext u4); have HB4 := hide hB4; have hc5 := hB4.c5; have hl5 := hB4.lt; have HX4 := hide hx4; clear hB4 hc4 hl4 hx4)
    | (go_at_call 52; refine (flatBytes_nil _).mono ?_; rintro e X5 ⟨rfl, u5, hx5⟩; have hB5 : BagAt X5 gb (.slice A n c) := (by rw [hx5]; exact HB4.out.ext u5); have HB5 := hide hB5; have hc6 := hB5.c6; have hl6 := hB5.lt; have HX5 := hide hx5; clear hB5 hc5 hl5 hx5)
    | (go_at_call 53; refine (flatTruths_nil _).mono ?_; rintro e X6 ⟨rfl, u6, hx6⟩; have hB6 : BagAt X6 gb (.slice A n c) := (by rw [hx6]; exact HB5.out.ext u6); have HB6 := hide hB6; have hc7 := hB6.c7; have hl7 := hB6.lt; have HX6 := hide hx6; clear hB6 hc6 hl6 hx6)
    | (go_at_call 54; refine (flatRow_nil _).mono ?_; rintro e X7 ⟨rfl, u7, hx7⟩; have hB7 : BagAt X7 gb (.slice A n c) := (by rw [hx7]; exact HB6.out.ext u7); have HB7 := hide hB7; have hc8 := hB7.c8; have hl8 := hB7.lt; have HX7 := hide hx7; clear hB7 hc7 hl7 hx7)
    | (go_at_call 55; refine (flatBlocks_nil _).mono ?_; rintro e X8 ⟨rfl, u8, hx8⟩; have hB8 : BagAt X8 gb (.slice A n c) := (by rw [hx8]; exact HB7.out.ext u8); have HB8 := hide hB8; have hc9 := hB8.c9; have hl9 := hB8.lt; have HX8 := hide hx8; clear hB8 hc8 hl8 hx8)
    | (go_at_call 56; refine (flatFuncs_nil _).mono ?_; rintro e X9 ⟨rfl, u9, hx9⟩; have hB9 : BagAt X9 gb (.slice A n c) := (by rw [hx9]; exact HB8.out.ext u9); have HB9 := hide hB9; have hc10 := hB9.c10; have hl10 := hB9.lt; have HX9 := hide hx9; clear hB9 hc9 hl9 hx9)
    | (go_at_call 57; refine (flatTargets_nil _).mono ?_; rintro e X10 ⟨rfl, u10, hx10⟩; have hB10 : BagAt X10 gb (.slice A n c) := (by rw [hx10]; exact HB9.out.ext u10); have HB10 := hide hB10; have hc11 := hB10.c11; have hl11 := hB10.lt; have HX10 := hide hx10; clear hB10 hc10 hl10 hx10)
    | (go_at_call 58; refine (flatMachines_nil _).mono ?_; rintro e X11 ⟨rfl, u11, hx11⟩; have hB11 : BagAt X11 gb (.slice A n c) := (by rw [hx11]; exact HB10.out.ext u11); have HB11 := hide hB11; have hc12 := hB11.c12; have hl12 := hB11.lt; have HX11 := hide hx11; clear hB11 hc11 hl11 hx11)
    | (go_at_call 59; refine (flatLocs_nil _).mono ?_; rintro e X12 ⟨rfl, u12, hx12⟩; have hB12 : BagAt X12 gb (.slice A n c) := (by rw [hx12]; exact HB11.out.ext u12); have HB12 := hide hB12; have hc13 := hB12.c13; have hl13 := hB12.lt; have HX12 := hide hx12; clear hB12 hc12 hl12 hx12)
    | (go_at_call 60; refine (flatFacts_nil _).mono ?_; rintro e X13 ⟨rfl, u13, hx13⟩; have hB13 : BagAt X13 gb (.slice A n c) := (by rw [hx13]; exact HB12.out.ext u13); have HB13 := hide hB13; have hc14 := hB13.c14; have hl14 := hB13.lt; have HX13 := hide hx13; clear hB13 hc13 hl13 hx13)
    | (go_at_call 61; refine (flatEdges_nil _).mono ?_; rintro e X14 ⟨rfl, u14, hx14⟩; have hB14 : BagAt X14 gb (.slice A n c) := (by rw [hx14]; exact HB13.out.ext u14); have HB14 := hide hB14; have hc15 := hB14.c15; have hl15 := hB14.lt; have HX14 := hide hx14; clear hB14 hc14 hl14 hx14)
    | (go_at_call 62; refine (flatTiles_nil _).mono ?_; rintro e X15 ⟨rfl, u15, hx15⟩; have hB15 : BagAt X15 gb (.slice A n c) := (by rw [hx15]; exact HB14.out.ext u15); have HB15 := hide hB15; have hc16 := hB15.c16; have hl16 := hB15.lt; have HX15 := hide hx15; clear hB15 hc15 hl15 hx15)
    | (go_at_call 63; refine (flatCalls_nil _).mono ?_; rintro e X16 ⟨rfl, u16, hx16⟩))
  go_ret
  have hw0 : Below B w X0 := by rw [HX0.out]; exact Below.of_ext w u0 HBW.out
  have hw1 : Below B w X1 := hw0.trans (by rw [HX1.out]; exact Below.of_ext X0 u1 (Nat.le_trans HBW.out hw0.size))
  have hw2 : Below B w X2 := hw1.trans HX2.out
  have hw3 : Below B w X3 := hw2.trans (by rw [HX3.out]; exact Below.of_ext X2 u3 (Nat.le_trans HBW.out hw2.size))
  have hw4 : Below B w X4 := hw3.trans (by rw [HX4.out]; exact Below.of_ext X3 u4 (Nat.le_trans HBW.out hw3.size))
  have hw5 : Below B w X5 := hw4.trans (by rw [HX5.out]; exact Below.of_ext X4 u5 (Nat.le_trans HBW.out hw4.size))
  have hw6 : Below B w X6 := hw5.trans (by rw [HX6.out]; exact Below.of_ext X5 u6 (Nat.le_trans HBW.out hw5.size))
  have hw7 : Below B w X7 := hw6.trans (by rw [HX7.out]; exact Below.of_ext X6 u7 (Nat.le_trans HBW.out hw6.size))
  have hw8 : Below B w X8 := hw7.trans (by rw [HX8.out]; exact Below.of_ext X7 u8 (Nat.le_trans HBW.out hw7.size))
  have hw9 : Below B w X9 := hw8.trans (by rw [HX9.out]; exact Below.of_ext X8 u9 (Nat.le_trans HBW.out hw8.size))
  have hw10 : Below B w X10 := hw9.trans (by rw [HX10.out]; exact Below.of_ext X9 u10 (Nat.le_trans HBW.out hw9.size))
  have hw11 : Below B w X11 := hw10.trans (by rw [HX11.out]; exact Below.of_ext X10 u11 (Nat.le_trans HBW.out hw10.size))
  have hw12 : Below B w X12 := hw11.trans (by rw [HX12.out]; exact Below.of_ext X11 u12 (Nat.le_trans HBW.out hw11.size))
  have hw13 : Below B w X13 := hw12.trans (by rw [HX13.out]; exact Below.of_ext X12 u13 (Nat.le_trans HBW.out hw12.size))
  have hw14 : Below B w X14 := hw13.trans (by rw [HX14.out]; exact Below.of_ext X13 u14 (Nat.le_trans HBW.out hw13.size))
  have hw15 : Below B w X15 := hw14.trans (by rw [HX15.out]; exact Below.of_ext X14 u15 (Nat.le_trans HBW.out hw14.size))
  have hw16 : Below B w X16 := hw15.trans (by rw [hx16]; exact Below.of_ext X15 u16 (Nat.le_trans HBW.out hw15.size))
  refine ⟨rfl, ?_⟩
  rw [← hx16]
  exact hw16
end Go.Proofs.YthmglmmafgdmhaaGreat
