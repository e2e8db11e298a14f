/- law28: walks: a certificate's text. law28: walks: Right, Print. law28: walks: the document's text of a fact. Printed by gen_p28h.py. -/
import Derived.Test.YtppkanniefignaaGreatDoorG28
import Derived.Test.YtppkanniefignaaGreatDoorG27
set_option linter.unusedSimpArgs false
set_option linter.unusedVariables false
namespace Go.Proofs.YtppkanniefignaaGreatDoor
open Go.RowKit Go.Maps
theorem info_any28 : (Tryz.prog.info? 20).map (fun i => (i.zero, i.size, i.bytes)) = some (some .nilIface, 1, 16) := by kernel_rfl
def KindsP : Post := fun v w => ∃ A, v = .slice A 4 4 ∧ Sl w (fun _ => True) A 4 4 kindsB
theorem KindsP.stable_ {F : World → Prop} {mem : Bool} (hm : mem = true) : stable F mem KindsP := stable_mem hm fun _ _ u ⟨A, hv, h⟩ => ⟨A, hv, h.ext u⟩
def PtrT (t : ByteArray) : Post := fun v w => ∃ b off, v = .pointer (some ⟨b, off, none⟩) ∧ b < w.heap.size ∧ w.cell? ⟨b, off, none⟩ = some (.string t)
theorem PtrT.stable_ {F : World → Prop} {t : ByteArray} {mem : Bool} (hm : mem = true) : stable F mem (PtrT t) := stable_mem hm fun _ w u ⟨b, off, hv, hb, h⟩ => ⟨b, off, hv, by rw [size_ext]; omega, by rw [cell?_ext _ _ _ hb]; exact h⟩
def PartP (B : Nat) (ps : List Pt) : Post := fun v w => OwnL w B 20 (fun _ => False) v ps
theorem PartP.stable_ {F : World → Prop} {B : Nat} {ps : List Pt} {mem : Bool} (hm : mem = true) : stable F mem (PartP B ps) := stable_mem hm fun _ _ u h => OwnL.ext h u
theorem linesB_cons (acc : ByteArray) (p : List Pt) (l : List (List Pt)) : linesB acc (p :: l) = linesB (acc ++ lineB p) l := rfl
theorem at_text {w : World} {S : Nat → Prop} {A : Option Addr} {n c : Nat} {xs : List ByteArray} (h : Sl w S A n c xs) {k : Nat} (hk : k < n) {x : ByteArray} (hx : xs[k]? = some x) : ∃ b off, A = some ⟨b, off, none⟩ ∧ b < w.heap.size ∧ w.cell? ⟨b, off + k, none⟩ = some (.string x) := by
 obtain ⟨b, off, y, us, e, hb, _, hy, hus, hc⟩ := h.at_ hk
 rw [hx] at hy
 injection hy with hy
 subst hy
 obtain ⟨rfl, _⟩ := hus
 refine ⟨b, off, e, hb, ?_⟩
 have := hc 0 _ rfl
 simpa [Rep.size] using this
theorem kindT_at (kn : Nat) (h1 : 1 ≤ kn) (h4 : kn ≤ 4) : kindsB[kn - 1]? = some (kindT kn) := by
 rcases (by omega : kn = 1 ∨ kn = 2 ∨ kn = 3 ∨ kn = 4) with rfl | rfl | rfl | rfl <;> rfl
theorem RepL.parts {w : World} {S : Nat → Prop} : ∀ (ps : List Pt), (∀ p ∈ ps, PtIn p) → RepL w S ps (ps.map ptV)
 | [], _ => rfl
 | p :: l, h => ⟨[ptV p], l.map ptV, rfl, ⟨rfl, h p (by simp)⟩, RepL.parts l fun q hq => h q (List.mem_cons_of_mem _ hq)⟩
set_option maxRecDepth 100000 in
set_option maxHeartbeats 32000000 in
theorem show28_any (w : World) (S S2 : Nat → Prop) (A B : Option Addr) (n k m j : Nat) (x : Cert) (h : Sl w S A n k x.tiles) (g : Sl w S2 B m j x.facts) (hv : VarsP w) (hf : fitsB x = true) : Calls Tryz.prog 47 #[.agg #[.slice A n k, .slice B m j]] w (RetX (.string (showB x)) w) := by
 obtain ⟨tl, fl⟩ := x
 simp only at h g
 obtain ⟨i0, hi, hz, hz1, hz2⟩ := info_parts info_any28
 have HI0 := hide hi; have HZ := hide hz; have HZ1 := hide hz1; have HZ2 := hide hz2
 clear hi hz hz1 hz2
 have HF := hide (fits_in hf)
 have hn : n ≤ 200 := by rw [← h.len]; exact HF.out.t
 have hm : m ≤ 400 := by rw [← g.len]; exact HF.out.f
 have HS := hide (h.more (S' := fun q => q < w.heap.size) fun q hq _ => hq)
 have HS2 := hide (g.more (S' := fun q => q < w.heap.size) fun q hq _ => hq)
 have HV := hide hv
 obtain ⟨C, hC⟩ : ∃ C, w.heap.size = C := ⟨_, rfl⟩
 obtain ⟨b, hb⟩ : ∃ b, C + 1 = b := ⟨_, rfl⟩
 obtain ⟨W0, hW0⟩ : ∃ W0, (w.alloc (.cells #[.slice A n k, .slice B m j] 26)).alloc (.cells #[.pointer none, .slice none 0 0] 87) = W0 := ⟨_, rfl⟩
 have HBD0 := hide (show BdF b b (Lib.byteCells ByteArray.empty.data.toList) W0 from by
  have h := Lib.IsBuilderF.of (Lib.fresh_isBuilder 87 5 (w.alloc (.cells #[.slice A n k, .slice B m j] 26)))
  have e : (w.alloc (.cells #[.slice A n k, .slice B m j] 26)).heap.size = w.heap.size + 1 := by simp
  rw [e] at h
  rw [← hW0, ← hb, ← hC]
  exact h)
 have HB0 := hide (show Below C w W0 from by rw [← hW0, ← hC]; exact ((Below.refl _ _).alloc (Nat.le_refl _) _).alloc (by simp) _)
 have hr0 : W0.heap[C]? = some (.cells #[.slice A n k, .slice B m j] 26 (0, 0)) := by rw [← hW0, Below.heap_alloc _ _ _ (by simp; omega), ← hC]; exact heap_alloc_new w _
 have a0 : W0.cell? ⟨C, 0, none⟩ = some (.slice A n k) := cell_of_row W0 C _ _ _ (0, 0) hr0
 have a1 : W0.cell? ⟨C, 1, none⟩ = some (.slice B m j) := cell_of_row W0 C _ _ _ (0, 0) hr0
 have l0 : C < W0.heap.size := (Array.getElem?_eq_some_iff.1 hr0).1
 have HR0 := hide hr0
 have hbl : b ≤ W0.heap.size := by omega
 have HBL := hide hbl
 obtain ⟨T0, hT0⟩ : ∃ T, linesB ByteArray.empty (tl.map tileP) = T := ⟨_, rfl⟩
 obtain ⟨T1, hT1⟩ : ∃ T, linesB T0 (fl.map edgeP) = T := ⟨_, rfl⟩
 have hsh : showB ⟨tl, fl⟩ = T1 := by unfold showB; simp only; rw [hT0, hT1]
 rw [hsh]
 have HT0 := hide hT0; have HT1 := hide hT1
 have HCQ := hide hC; have HBQ := hide hb; have HWQ := hide hW0
 clear h g hf hv hr0 hsh hT0 hT1 hC hb hW0 hbl
 go_enter Tryz.func47, Tryz.ntmps47
 go_upto_region 2 with (fail)
 rw [HWQ.out, HCQ.out, HBQ.out]
 go_wp2_with fail
 go_loopw [17] (fun i wr => ∃ (k1 : Nat) (acc : ByteArray), i = .int .i64 k1 ∧ k1 ≤ n ∧ BdF b b (Lib.byteCells acc.data.toList) wr ∧ Below b W0 wr ∧ linesB acc ((tl.drop k1).map tileP) = T0 ∧ acc.size ≤ 5000 * k1) (fun i _ => n - (intOf i).toNat)
 case atStart => exact ⟨0, ByteArray.empty, rfl, Nat.zero_le _, HBD0.out, Below.refl _ _, HT0.out, Nat.zero_le _⟩
 case round =>
  obtain ⟨k1, acc, rfl, hk, hbd, hbw, hli, hsz⟩ := hrel
  have HBD := hide hbd; have HBW := hide hbw; have HLI := hide hli; have HSZ := hide hsz
  have HWw := hide (show Below w.heap.size w wr from by rw [HCQ.out]; exact HB0.out.trans (hbw.mono (by have := HBQ.out; omega)))
  clear hbd hbw hli hsz
  by_cases hlt : k1 < n
  ·obtain ⟨bb, off, t, At, nt, ct, hA, hbb, hx, hx1, hx2, hs1, c0, c1, c2⟩ := at_Tile (HS.out.belowAll HWw.out) hlt
   have HX := hide (drop_at hx)
   have HTI := hide (tileOk_in (HF.out.ts t (mem_at hx)))
   have HSB := hide hs1
   obtain ⟨kd, pr, bl⟩ := t
   dsimp only at c0 c1 c2 hx1 hx2 hs1
   have HSB := hide hs1
   obtain ⟨kn, hkn⟩ : ∃ kn : Nat, kd = (kn : Int) := ⟨kd.toNat, by have := HTI.out.k1; simp only at this; omega⟩
   subst hkn
   have hk1 : 1 ≤ kn := by have := HTI.out.k1; simp only at this; omega
   have hk4 : kn ≤ 4 := by have := HTI.out.k4; simp only at this; omega
   obtain ⟨km, hkm⟩ : ∃ km, kn - 1 = km := ⟨_, rfl⟩
   have hkm1 : (kn : Int) - 1 = (km : Int) := by omega
   have hkmw : IntKind.i64.wrap (km : Int) = (km : Int) := IntWalk.i64_in _ (by omega)
   have hkm3 : (km : Int) < 4 := by omega
   subst hA
   obtain ⟨F, hF⟩ : ∃ F, wr.heap.size = F := ⟨_, rfl⟩
   obtain ⟨W2, hW2⟩ : ∃ W, wr.alloc (.cells #[.int .i64 kn, .int .i64 pr, .slice At nt ct] 35) = W := ⟨_, rfl⟩
   have hrow : W2.heap[F]? = some (.cells #[.int .i64 kn, .int .i64 pr, .slice At nt ct] 35 (0, 0)) := by rw [← hW2, ← hF]; exact heap_alloc_new wr _
   obtain ⟨m0, m1, m2⟩ := cells3 hrow
   have ml : F < W2.heap.size := (Array.getElem?_eq_some_iff.1 hrow).1
   have HBD2 := hide (show BdF b b (Lib.byteCells acc.data.toList) W2 from by rw [← hW2]; exact HBD.out.keep fun q hq => Below.heap_alloc wr _ q hq)
   have HBW2 := hide (show Below b W0 W2 from by rw [← hW2]; exact HBW.out.alloc (by have := HBW.out.size; have := HBL.out; omega) _)
   have HWw2 := hide (show Below w.heap.size w W2 from by rw [← hW2]; exact HWw.out.alloc HWw.out.size _)
   have HSB2 := hide (show Sl W2 (fun q => q < w.heap.size) At nt ct bl from by rw [← hW2]; exact HSB.out.alloc _)
   have HFQ := hide hF; have HW2 := hide hW2
   have HX1 := hide hx2
   clear hx hrow hF hW2 hx1 hx2 hs1
   go_upto_region 5 with (fail)
   rw [HW2.out]
   try rw [HFQ.out]
   clear c0 c1 c2
   have HKI := hide (fun u : Ext => kinds28_any (W2.ext u))
   refine wp_region_flow_ext [] [1, 5, 12, 13] (by kernel_rfl) rfl (by kernel_rfl) ?_
   repeat (refine flow_known (by kernel_rfl) (fun K hK => ?_); go_simp; (first | (refine hK _ ?_; clear hK K) | (apply Exists.intro; refine ⟨fun _ => ?_, hK _ ?_⟩; (fail); clear hK K)))
   refine flow_keep0 KindsP (by kernel_rfl) (KindsP.stable_ rfl) ?_ ?_
   ·intro u
    go_simp
    refine (HKI.out u).mono ?_
    rintro e _ ⟨Ak, rfl, hs, u2, rfl⟩
    exact ⟨_, rfl, ⟨Ak, rfl, hs.more fun _ _ _ => trivial⟩, onW_ext ⟨_, rfl⟩ ⟨u2, rfl⟩⟩
   repeat (refine flow_known (by kernel_rfl) (fun K hK => ?_); go_simp; (first | (refine hK _ ?_; clear hK K) | (apply Exists.intro; refine ⟨fun _ => ?_, hK _ ?_⟩; (fail); clear hK K)))
   refine flow_keep [true] (PtrT (kindT kn)) (by kernel_rfl) (PtrT.stable_ rfl) ?_ ?_
   ·intro u
    try simp only [List.nil_append, List.cons_append, useH_f, useH_t, useH_nil]
    rintro _ ⟨Ak, rfl, hs⟩
    obtain ⟨bk, ok, rfl, hbk, hck⟩ := at_text hs (k := km) (by omega) (by rw [← hkm]; exact kindT_at kn hk1 hk4)
    go_simp
    exact ⟨⟨_, _, rfl, hbk, hck⟩, onW_same ⟨_, rfl⟩⟩
   refine flow_out [false, true] (.string (kindT kn)) (by kernel_rfl) ?_ ?_
   ·intro u
    try simp only [List.nil_append, List.cons_append, useH_f, useH_t, useH_nil]
    rintro _ ⟨bk, ok, rfl, hbk, hck⟩
    go_simp
   repeat (refine flow_known (by kernel_rfl) (fun K hK => ?_); go_simp; (first | (refine hK _ ?_; clear hK K) | (apply Exists.intro; refine ⟨fun _ => ?_, hK _ ?_⟩; (fail); clear hK K)))
   have HP4 := hide (show ∀ p ∈ [Pt.str tTile, .str (kindT kn), .int pr, .str tColon], PtIn p from by
    intro p hp
    simp only [List.mem_cons, List.not_mem_nil, or_false] at hp
    rcases hp with rfl | rfl | rfl | rfl
    ·show tTile.size ≤ 1048576; decide
    ·show (kindT kn).size ≤ 1048576
     rcases (by omega : kn = 1 ∨ kn = 2 ∨ kn = 3 ∨ kn = 4) with e | e | e | e <;> rw [e] <;> decide
    ·exact HX1.out
    ·show tColon.size ≤ 1048576; decide)
   refine flow_keep0 (PartP W2.heap.size [Pt.str tTile, .str (kindT kn), .int pr, .str tColon]) (by kernel_rfl) (PartP.stable_ rfl) ?_ ?_
   ·intro u
    go_simp
    exact ⟨OwnL.lit (W2.ext u) W2.heap.size 20 (fun _ => False) _ _ 4 _ (RepL.parts _ HP4.out) rfl (by decide) (by rw [size_ext]; omega) (by rw [size_ext]) id, onW_alloc rfl ⟨_, rfl⟩⟩
   refine flow_keep [false, false, true] (PartP W2.heap.size [Pt.str tTile, .str (kindT kn), .int pr, .str tColon]) (by kernel_rfl) (PartP.stable_ rfl) ?_ ?_
   ·intro u
    try simp only [List.nil_append, List.cons_append, useH_f, useH_t, useH_nil]
    intro v hv
    go_simp
    first | exact ⟨hv, onW_same ⟨_, rfl⟩⟩ | exact onW_same ⟨_, rfl⟩
   refine flow_done [true, true, true, true] (by kernel_rfl) ?_
   intro u
   simp only [List.nil_append, List.cons_append, endH_f, endH_t, endH_nil]
   rintro _ - _ - _ - v hv
   obtain ⟨Ap, cp, rfl⟩ : ∃ A c, v = .slice A 4 c := OwnL.form hv
   have HP0 := hide hv
   go_simp
   obtain ⟨W3, hW3⟩ : ∃ W, W2.ext u = W := ⟨_, rfl⟩
   rw [hW3] at HP0 ⊢
   have HBD3 := hide (show BdF b b (Lib.byteCells acc.data.toList) W3 from by rw [← hW3]; exact HBD2.out.keep fun q hq => ext_block W2 u q hq)
   have HB23 := hide (show Below W2.heap.size W2 W3 from by rw [← hW3]; exact Below.of_ext W2 u (Nat.le_refl _))
   have HSB3 := hide (HSB2.out.belowAll HB23.out)
   have m2' : W3.cell? ⟨F, 2, none⟩ = some (.slice At nt ct) := (World.cell?_of_block (HB23.out.block F ml)).trans m2
   have ml' : F < W3.heap.size := Nat.lt_of_lt_of_le ml HB23.out.size
   obtain ⟨E, hE⟩ : ∃ E, W2.heap.size = E := ⟨_, rfl⟩
   rw [hE] at HP0 HB23
   have HEQ := hide hE
   have hnt : nt ≤ 200 := by rw [← HSB3.out.len]; exact HTI.out.n
   have HW3 := hide hW3
   clear hv hW3 m0 m1 m2 ml hE HSB2 HP4 HKI hkm hkm1 hkmw hkm3
   go_wp2_with fail
   go_loopw [6, 37] (fun v i wr2 => ∃ (k2 : Nat) (A' : Option Addr) (c' : Nat), v = .slice A' (4 + k2) c' ∧ i = .int .i64 k2 ∧ k2 ≤ nt ∧ OwnL wr2 E 20 (fun _ => False) (.slice A' (4 + k2) c') ([Pt.str tTile, .str (kindT kn), .int pr, .str tColon] ++ (bl.take k2).map .int) ∧ Below E W3 wr2) (fun _ i _ => nt - (intOf i).toNat)
   case atStart => exact ⟨0, Ap, cp, rfl, rfl, Nat.zero_le _, by have h : OwnL W3 E 20 (fun _ => False) (.slice Ap 4 cp) [Pt.str tTile, Pt.str (kindT kn), Pt.int pr, Pt.str tColon] := HP0.out; simpa using h, Below.refl _ _⟩
   case round =>
    obtain ⟨k2, A', c', rfl, rfl, hk2, ho, hbe⟩ := hrel
    obtain ⟨wr2, hwr2⟩ : ∃ V, V = wr := ⟨_, rfl⟩
    subst hwr2
    have HO := hide ho; have HBE := hide hbe
    clear ho hbe
    by_cases hlt2 : k2 < nt
    ·have hwE : w.heap.size ≤ E := by have := HWw2.out.size; have := HEQ.out; omega
     obtain ⟨b2, off2, y, hA2, hb2, hy, hyi, d0⟩ := at_int (HSB3.out.below HBE.out fun q hq => by omega) hlt2
     subst hA2
     have HTK := hide (take_at hy)
     have hkx : (4 + k2 + 1) * 16 ≤ 140737488355328 := by omega
     clear hy
     go_wp2_with (at_builtin; refine wpList_push (α := Pt) wr2 [ptV (.int y)] 20 rfl (.tmp 41) (.tmp 44) 145 rfl E 20 i0 _ 16 Tryz.underlying145 HI0.out HZ.out HZ1.out HZ2.out rfl (by decide) (fun _ => False) (fun _ => False) (.slice A' (4 + k2) c') _ (.int y) rfl HO.out wr2.heap.size rfl rfl ⟨rfl, hyi⟩ (fun _ h => h) (fun _ _ h => h) (fun _ h => h.elim) (by have h := (HO.out.sl (S' := fun _ => True) fun _ _ _ => trivial).len; omega) (by have h := (HO.out.sl (S' := fun _ => True) fun _ _ _ => trivial).len; omega) (by have := HBE.out.size; have := HB23.out.size; have := HEQ.out; omega) ?_; intro v' W4 ho1 hgr h5; have HO1 := hide ho1; have HBE1 := hide (below_push HBE.out HO.out (by have := HBE.out.size; have := HB23.out.size; have := HEQ.out; omega) hgr); clear ho1 hgr h5)
     obtain ⟨A3, c3, rfl⟩ : ∃ A c, v' = .slice A (4 + (k2 + 1)) c := by
      obtain ⟨A3, c3, h⟩ := HO1.out.form
      refine ⟨A3, c3, h.trans ?_⟩
      have h2 := (HO.out.sl (S' := fun _ => True) fun _ _ _ => trivial).len
      rw [List.length_append, h2]
      rfl
     have HO2 := hide (show OwnL W4 E 20 (fun _ => False) (.slice A3 (4 + (k2 + 1)) c3) ([Pt.str tTile, .str (kindT kn), .int pr, .str tColon] ++ (bl.take (k2 + 1)).map .int) from by
      have h := HO1.out
      rw [HTK.out, List.map_append]
      rw [List.append_assoc] at h
      exact h)
     go_roundw
     case rel => exact ⟨k2 + 1, A3, c3, rfl, by go_num, by omega, HO2.out, HBE1.out⟩
     case measure => simp [intOf]; omega
    ·have hwE : w.heap.size ≤ E := by have := HWw2.out.size; have := HEQ.out; omega
     have hbE : b ≤ E := by have := HBW2.out.size; have := HEQ.out; have := HBL.out; omega
     have hE2 : E ≤ wr2.heap.size := by have := HBE.out.size; have := HB23.out.size; have := HEQ.out; omega
     have HB2r := hide (HB23.out.trans HBE.out)
     obtain ⟨P, hP⟩ : ∃ P, tileP ⟨(kn : Int), pr, bl⟩ = P := ⟨_, rfl⟩
     have hop : OwnL wr2 E 20 (fun _ => False) (.slice A' (4 + k2) c') P := by
      have h := HO.out
      rw [take_end HSB3.out.len hlt2] at h
      rw [← hP]
      exact h
     have hps : (lineB P).size ≤ 5000 := hP ▸ line_tile_sz HTI.out
     have hpn : P ≠ [] := by rw [← hP]; unfold tileP; simp
     have HVr := hide (HV.out.below (HWw2.out.trans (HB2r.out.mono hwE)) HV.out.v.sz)
     have HSN := hide (shown28_any wr2 (fun _ => True) A' (4 + k2) c' P (hop.sl fun _ _ _ => trivial) (by omega) HVr.out hpn (by omega))
     obtain ⟨tx, htx⟩ : ∃ tx, lineB P = tx := ⟨_, rfl⟩
     rw [htx] at HSN hps
     have HWS := hide (fun u3 : Ext => writeString_any b b (Lib.byteCells acc.data.toList) tx (wr2.ext u3) ((HBD2.out.keep fun q hq => HB2r.out.block q (by have := HEQ.out; omega)).keep fun q hq => ext_block wr2 u3 q hq) (by rw [Lib.byteCells_length, ← size_list]; have h := HSZ.out; omega) (by rw [size_ext]; omega))
     have HLN := hide (show linesB (acc ++ tx) ((tl.drop (k1 + 1)).map tileP) = T0 from by
      have h := HLI.out
      rw [HX.out, List.map_cons, linesB_cons, hP, htx] at h
      exact h)
     have h5k : (acc ++ tx).size ≤ 5000 * (k1 + 1) := by rw [ByteArray.size_append]; have := HSZ.out; omega
     have H5K := hide h5k
     clear hP hop hpn htx h5k
     go_wp2_with (first
      | (go_at_call 101; (with_reducible refine HSN.out.mono ?_); rintro e _ ⟨rfl, u3, rfl⟩)
      | (go_at_call 58; (with_reducible refine (HWS.out _).mono ?_); rintro e w3 ⟨rfl, hb3, hbl3, hok3⟩; have HB3 := hide hb3; have HBL3 := hide hbl3; clear hb3 hbl3 hok3))
     go_roundw
     case rel => exact ⟨k1 + 1, acc ++ tx, by go_num, by omega, by rw [← bytes_app]; exact HB3.out, HBW2.out.trans (((HB2r.out.mono hbE).ext (by omega) _).trans HBL3.out), HLN.out, H5K.out⟩
     case measure => simp [intOf]; omega
  ·have HACC := hide (show acc = T0 from by have h := HLI.out; rw [drop_end HS.out.len hlt] at h; exact h)
   have a1' : wr.cell? ⟨C, 1, none⟩ = some (.slice B m j) := (World.cell?_of_block (HBW.out.block C (by have := HBQ.out; omega))).trans a1
   have l1' : C < wr.heap.size := by have := HBW.out.size; omega
   have HSZ0 := hide (show acc.size ≤ 1000000 from by have := HSZ.out; omega)
   have HT1' := hide (show linesB acc (fl.map edgeP) = T1 from by rw [HACC.out]; exact HT1.out)
   clear HACC HLI HSZ a0 a1
   go_wp2_with fail
   go_loopw [54] (fun i wr => ∃ (k1 : Nat) (acc : ByteArray), i = .int .i64 k1 ∧ k1 ≤ m ∧ BdF b b (Lib.byteCells acc.data.toList) wr ∧ Below b W0 wr ∧ linesB acc ((fl.drop k1).map edgeP) = T1 ∧ acc.size ≤ 1000000 + 60000 * k1) (fun i _ => m - (intOf i).toNat)
   case atStart => exact ⟨0, acc, rfl, Nat.zero_le _, HBD.out, HBW.out, HT1'.out, by have := HSZ0.out; omega⟩
   case round =>
    clear a1' l1' hlt hk HBD HBW HWw HSZ0 HT1'
    obtain ⟨k3, acc3, rfl, hk, hbd, hbw, hli, hsz⟩ := hrel
    obtain ⟨wq, hwq⟩ : ∃ V, V = wr := ⟨_, rfl⟩
    subst hwq
    have HBD := hide hbd; have HBW := hide hbw; have HLI := hide hli; have HSZ := hide hsz
    have HWw := hide (show Below w.heap.size w wq from by rw [HCQ.out]; exact HB0.out.trans (hbw.mono (by have := HBQ.out; omega)))
    clear hbd hbw hli hsz
    by_cases hlt : k3 < m
    ·obtain ⟨bb, off, l, Al, nl, cl, hA, hbb, hx, hs1, c0⟩ := at_factRow (HS2.out.belowAll HWw.out) hlt
     have HX := hide (drop_at hx)
     have HRI := hide (rowOk_in (HF.out.fs l (mem_at hx)))
     have HFI := hide (show ∀ f ∈ l, FactIn f from fun f hf => factOk_in (HRI.out.1 f hf))
     have HSB := hide hs1
     have hnl : nl ≤ 600 := by rw [← hs1.len]; exact HRI.out.2
     subst hA
     obtain ⟨E, hE⟩ : ∃ E, wq.heap.size = E := ⟨_, rfl⟩
     obtain ⟨W3, hW3⟩ : ∃ W, wq.alloc (.cells #[.iface 9 (.string ⟨#[101, 100, 103, 101]⟩)] 20) = W := ⟨_, rfl⟩
     have HP0 := hide (show OwnL W3 E 20 (fun _ => False) (.slice (some ⟨E, 0, none⟩) 1 1) (edgeP (l.take 0)) from by
      rw [← hW3]
      exact OwnL.lit wq E 20 (fun _ => False) [Pt.str tEdge] [ptV (.str tEdge)] 1 E (RepL.parts _ (fun p hp => by rw [List.mem_singleton] at hp; subst hp; show tEdge.size ≤ 1048576; decide)) rfl (by decide) (by omega) hE.symm id)
     have HEQ := hide hE; have HW3 := hide hW3
     have HB3 := hide (show Below E wq W3 from by rw [← hW3, ← hE]; exact (Below.refl _ _).alloc (Nat.le_refl _) _)
     have HSB3 := hide (show Sl W3 (fun q => q < w.heap.size) Al nl cl l from by rw [← hW3]; exact HSB.out.alloc _)
     clear hx hs1 hE hW3
     go_upto_region 17 with (fail)
     rw [HW3.out]
     try rw [HEQ.out]
     clear c0
     go_wp2_with fail
     go_loopw [11, 62] (fun v i wr2 => ∃ (k2 : Nat) (A' : Option Addr) (q' c' : Nat), v = .slice A' q' c' ∧ i = .int .i64 k2 ∧ k2 ≤ nl ∧ OwnL wr2 E 20 (fun _ => False) (.slice A' q' c') (edgeP (l.take k2)) ∧ Below E W3 wr2) (fun _ i _ => nl - (intOf i).toNat)
     case atStart => exact ⟨0, _, 1, 1, rfl, rfl, Nat.zero_le _, HP0.out, Below.refl _ _⟩
     case round =>
      obtain ⟨k2, A', q', c', rfl, rfl, hk2, ho, hbe⟩ := hrel
      obtain ⟨wr2, hwr2⟩ : ∃ V, V = wr := ⟨_, rfl⟩
      subst hwr2
      have HO := hide ho; have HBE := hide hbe
      have hwE : w.heap.size ≤ E := by have := HWw.out.size; have := HEQ.out; omega
      have hE2 : E ≤ wr2.heap.size := by have := HBE.out.size; have := HB3.out.size; have := HEQ.out; omega
      have HQ := hide (show (edgeP (l.take k2)).length = q' from (ho.sl (S' := fun _ => True) fun _ _ _ => trivial).len)
      have hq3 : q' ≤ 2401 := by
       rw [← HQ.out]
       refine Nat.le_trans (edge_len fun f hf => HFI.out f (List.mem_of_mem_take hf)) ?_
       have : (l.take k2).length ≤ k2 := by rw [List.length_take]; omega
       omega
      clear ho hbe
      by_cases hlt2 : k2 < nl
      ·obtain ⟨b2, off2, y, hA2, hb2, hy, hy1, hy2, d0, d1, d2⟩ := at_Fact (HSB3.out.below HBE.out fun q hq => by omega) hlt2
       subst hA2
       obtain ⟨vy, ⟨sy, ny⟩⟩ := y
       dsimp only at d0 d1 d2 hy1 hy2
       obtain ⟨F, hF⟩ : ∃ F, wr2.heap.size = F := ⟨_, rfl⟩
       obtain ⟨W4, hW4⟩ : ∃ W, wr2.alloc (.cells #[.int .i64 vy, .bool sy, .int .i64 ny] 42) = W := ⟨_, rfl⟩
       have hrow : W4.heap[F]? = some (.cells #[.int .i64 vy, .bool sy, .int .i64 ny] 42 (0, 0)) := by rw [← hW4, ← hF]; exact heap_alloc_new wr2 _
       have HO4 := hide (show OwnL W4 E 20 (fun _ => False) (.slice A' q' c') (edgeP (l.take k2)) from by rw [← hW4]; exact HO.out.alloc _)
       have HBE4 := hide (show Below E W3 W4 from by rw [← hW4]; exact HBE.out.alloc hE2 _)
       have HFN := hide (show ∀ g, (Value.slice A' q' c').ownBlock = some g → g ≠ F from fun g hg => by have := (HO.out.below_ g hg).2; omega)
       have HTK := hide (take_at hy)
       have HPI := hide (show ∀ p ∈ factP ⟨vy, ⟨sy, ny⟩⟩, PtIn p from by
        intro p hp
        simp only [factP, List.mem_cons, List.not_mem_nil, or_false] at hp
        rcases hp with rfl | rfl | rfl
        ·exact hy1
        ·show tEq.size ≤ 1048576; decide
        ·exact hy2)
       have HROW := hide hrow
       have HW4 := hide hW4; have HFQ := hide hF
       have HE4 := hide (show E ≤ W4.heap.size from by have := HBE4.out.size; have := HB3.out.size; have := HEQ.out; omega)
       clear hy hrow hW4 hF hy1 hy2
       by_cases hk0 : k2 = 0
       ·have hz2 : decide (0 < k2) = false := by simp; omega
        have HSNOC := hide (show edgeP (l.take (k2 + 1)) = edgeP (l.take k2) ++ factP ⟨vy, ⟨sy, ny⟩⟩ from by rw [HTK.out, edgeP_snoc, if_pos (by rw [hk0]; rfl)]; rfl)
        clear hk0
        go_upto_region 22 with (fail)
        rw [HW4.out]
        try rw [HFQ.out]
        clear d0 d1 d2
        obtain ⟨m0, m1, m2⟩ := cells3 HROW.out
        have ml : F < W4.heap.size := (Array.getElem?_eq_some_iff.1 HROW.out).1
        go_wp2_with (at_builtin; refine wpList_push_at (α := Pt) (W4.alloc (.cells #[.iface 118 (.int .i64 vy), .iface 9 (.string ⟨#[61]⟩), .iface 40 (.agg #[.bool sy, .int .i64 ny])] 20)) rfl (.tmp 73) (.tmp 81) 145 rfl E 20 i0 _ 16 Tryz.underlying145 HI0.out HZ.out HZ1.out HZ2.out rfl (by decide) (fun _ => False) (fun _ => False) (.slice A' q' c') _ (factP ⟨vy, ⟨sy, ny⟩⟩) rfl (HO4.out.alloc _) ⟨W4.heap.size, 0, none⟩ 3 3 ((factP ⟨vy, ⟨sy, ny⟩⟩).map ptV) rfl rfl (RepL.parts _ HPI.out) (fun j u hj => lit_news (us := (factP ⟨vy, ⟨sy, ny⟩⟩).map ptV) (heap_alloc_new W4 _) j u hj) (fun _ _ h => h) (fun _ _ h => h) (fun _ h => h.elim) (by rw [HQ.out]; unfold maxLen; omega) (by rw [HQ.out]; omega) (by have := HE4.out; simp; omega) ?_; intro v' W5 ho1 hgr h5; have HO1 := hide ho1; have HBE1 := hide (below_push HBE4.out HO4.out HE4.out hgr); clear ho1 hgr h5)
        obtain ⟨A3, c3, rfl⟩ := HO1.out.form
        go_roundw
        case rel => exact ⟨k2 + 1, A3, _, c3, rfl, by go_num, by omega, by rw [HSNOC.out]; exact HO1.out, HBE1.out⟩
        case measure => simp [intOf]; omega
       ·have hz2 : decide (0 < k2) = true := by simp; omega
        have HSNOC := hide (show edgeP (l.take (k2 + 1)) = (edgeP (l.take k2) ++ [Pt.str tComma]) ++ factP ⟨vy, ⟨sy, ny⟩⟩ from by
         rw [HTK.out, edgeP_snoc, if_neg (by
          intro e
          have h1 := congrArg List.length e
          rw [List.length_take, HSB3.out.len] at h1
          simp at h1
          omega)]
         simp)
        clear hk0
        go_upto_region 21 with (fail)
        rw [HW4.out]
        try rw [HFQ.out]
        clear d0 d1 d2
        go_wp2_with (first
         | (at_builtin; refine wpList_push (α := Pt) W4 [ptV (.str tComma)] 20 rfl (.tmp 69) (.tmp 71) 145 rfl E 20 i0 _ 16 Tryz.underlying145 HI0.out HZ.out HZ1.out HZ2.out rfl (by decide) (fun _ => False) (fun _ => False) (.slice A' q' c') _ (.str tComma) rfl HO4.out W4.heap.size rfl rfl ⟨rfl, (show tComma.size ≤ 1048576 from by decide)⟩ (fun _ h => h) (fun _ _ h => h) (fun _ h => h.elim) (by rw [HQ.out]; omega) (by rw [HQ.out]; omega) HE4.out ?_; intro v' W5 ho1 hgr h5; have HBE5 := hide (below_push HBE4.out HO4.out HE4.out hgr); have HR5 := hide (show W5.heap[F]? = some (.cells #[.int .i64 vy, .bool sy, .int .i64 ny] 42 (0, 0)) from ((hgr.block F (by have := (Array.getElem?_eq_some_iff.1 HROW.out).1; simp; omega) (fun e => HFN.out F e.symm rfl)).trans (Below.heap_alloc W4 _ F (Array.getElem?_eq_some_iff.1 HROW.out).1)).trans HROW.out); obtain ⟨A5, c5, hv5⟩ : ∃ A c, v' = .slice A (q' + 1) c := (by obtain ⟨A5, c5, h⟩ := ho1.form; exact ⟨A5, c5, h.trans (by rw [List.length_append, HQ.out]; rfl)⟩); subst hv5; have HO5 := hide ho1; obtain ⟨m0, m1, m2⟩ := cells3 HR5.out; have ml : F < W5.heap.size := (Array.getElem?_eq_some_iff.1 HR5.out).1; clear ho1 hgr h5)
         | (at_builtin; refine wpList_push_at (α := Pt) (W5.alloc (.cells #[.iface 118 (.int .i64 vy), .iface 9 (.string ⟨#[61]⟩), .iface 40 (.agg #[.bool sy, .int .i64 ny])] 20)) rfl (.tmp 73) (.tmp 81) 145 rfl E 20 i0 _ 16 Tryz.underlying145 HI0.out HZ.out HZ1.out HZ2.out rfl (by decide) (fun _ => False) (fun _ => False) (.slice A5 (q' + 1) c5) _ (factP ⟨vy, ⟨sy, ny⟩⟩) rfl (HO5.out.alloc _) ⟨W5.heap.size, 0, none⟩ 3 3 ((factP ⟨vy, ⟨sy, ny⟩⟩).map ptV) rfl rfl (RepL.parts _ HPI.out) (fun j u hj => lit_news (us := (factP ⟨vy, ⟨sy, ny⟩⟩).map ptV) (heap_alloc_new W5 _) j u hj) (fun _ _ h => h) (fun _ _ h => h) (fun _ h => h.elim) (by rw [List.length_append, HQ.out]; show q' + 1 + 3 ≤ maxLen; unfold maxLen; omega) (by rw [List.length_append, HQ.out]; show (q' + 1 + 3) * 16 ≤ _; omega) (by have h1 := HBE5.out.size; have h2 := HB3.out.size; have := HEQ.out; simp; omega) ?_; intro v' W6 ho1 hgr h5; have HO1 := hide ho1; have HBE1 := hide (below_push HBE5.out HO5.out (by have h1 := HBE5.out.size; have h2 := HB3.out.size; have := HEQ.out; omega) hgr); clear ho1 hgr h5))
        obtain ⟨A3, c3, rfl⟩ := HO1.out.form
        go_roundw
        case rel => exact ⟨k2 + 1, A3, _, c3, rfl, by go_num, by omega, by rw [HSNOC.out]; exact HO1.out, HBE1.out⟩
        case measure => simp [intOf]; omega
      ·have hbE : b ≤ E := by have := HBW.out.size; have := HEQ.out; have := HBL.out; omega
       have HB2r := hide (HB3.out.trans HBE.out)
       obtain ⟨P, hP⟩ : ∃ P, edgeP l = P := ⟨_, rfl⟩
       have hop : OwnL wr2 E 20 (fun _ => False) (.slice A' q' c') P := by
        have h := HO.out
        rw [take_end HSB3.out.len hlt2] at h
        rw [← hP]
        exact h
       have hps : (lineB P).size ≤ 60000 := hP ▸ line_edge_sz HFI.out HRI.out.2
       have hpn : P ≠ [] := by rw [← hP]; simp [edgeP]
       have HVr := hide (HV.out.below (HWw.out.trans (HB2r.out.mono hwE)) HV.out.v.sz)
       have HSN := hide (shown28_any wr2 (fun _ => True) A' q' c' P (hop.sl fun _ _ _ => trivial) (by omega) HVr.out hpn (by omega))
       obtain ⟨tx, htx⟩ : ∃ tx, lineB P = tx := ⟨_, rfl⟩
       rw [htx] at HSN hps
       have HWS := hide (fun u3 : Ext => writeString_any b b (Lib.byteCells acc3.data.toList) tx (wr2.ext u3) ((HBD.out.keep fun q hq => HB2r.out.block q (by have := HEQ.out; omega)).keep fun q hq => ext_block wr2 u3 q hq) (by rw [Lib.byteCells_length, ← size_list]; have h := HSZ.out; omega) (by rw [size_ext]; omega))
       have HLN := hide (show linesB (acc3 ++ tx) ((fl.drop (k3 + 1)).map edgeP) = T1 from by
        have h := HLI.out
        rw [HX.out, List.map_cons, linesB_cons, hP, htx] at h
        exact h)
       have h5k : (acc3 ++ tx).size ≤ 1000000 + 60000 * (k3 + 1) := by rw [ByteArray.size_append]; have := HSZ.out; omega
       have H5K := hide h5k
       clear hP hop hpn htx h5k
       go_wp2_with (first
        | (go_at_call 101; (with_reducible refine HSN.out.mono ?_); rintro e _ ⟨rfl, u3, rfl⟩)
        | (go_at_call 58; (with_reducible refine (HWS.out _).mono ?_); rintro e w3 ⟨rfl, hb3, hbl3, hok3⟩; have HB4 := hide hb3; have HBL3 := hide hbl3; clear hb3 hbl3 hok3))
       go_roundw
       case rel => exact ⟨k3 + 1, acc3 ++ tx, by go_num, by omega, by rw [← bytes_app]; exact HB4.out, HBW.out.trans (((HB2r.out.mono hbE).ext (by omega) _).trans HBL3.out), HLN.out, H5K.out⟩
       case measure => simp [intOf]; omega
    ·have HACC := hide (show acc3 = T1 from by have h := HLI.out; rw [drop_end HS2.out.len hlt] at h; exact h)
     have HST := hide (Tryz.Builder_String_any_k b b acc3.data.toList wq HBD.out (by have := HBW.out.size; have := HBL.out; omega))
     go_wp2_with (go_at_call 59; (with_reducible refine HST.out.mono ?_); rintro e w2 ⟨rfl, _, hbl2, _⟩; have HB2 := hide hbl2; clear hbl2)
     go_ret
     refine ⟨?_, ?_⟩
     ·rw [← HACC.out]
      show Ending.returned (.string ⟨acc3.data.toList.toArray⟩) = Ending.returned (.string acc3)
      rw [show (⟨acc3.data.toList.toArray⟩ : ByteArray) = acc3 by cases acc3; simp]
     ·rw [HCQ.out] at HWw
      exact Below.to_ext (by rw [HCQ.out]; exact HWw.out.trans (HB2.out.mono (by have := HBQ.out; omega)))
end Go.Proofs.YtppkanniefignaaGreatDoor
namespace Go.Proofs.YtppkanniefignaaGreatDoor
open Go.RowKit Go.Maps
set_option maxRecDepth 100000 in
set_option maxHeartbeats 8000000 in
theorem right28_any (w : World) (S S2 : Nat → Prop) (A B : Option Addr) (n k m j : Nat) (x : Cert) (h : Sl w S A n k x.tiles) (g : Sl w S2 B m j x.facts) (hv : VarsP w) : Calls Tryz.prog 17 #[.agg #[.slice A n k, .slice B m j]] w (RetX (.bool (rightB x)) w) := by
 obtain ⟨W0, hW0⟩ : ∃ W0, w.alloc (.cells #[.slice A n k, .slice B m j] 26) = W0 := ⟨_, rfl⟩
 have h0 : Sl W0 S A n k x.tiles := by rw [← hW0]; exact h.alloc _
 have g0 : Sl W0 S2 B m j x.facts := by rw [← hW0]; exact g.alloc _
 have HB := hide (show Below w.heap.size w W0 from by rw [← hW0]; exact (Below.refl _ _).alloc (Nat.le_refl _) _)
 have HV := hide (hv.below HB.out hv.v.sz)
 have HF := hide (fits28_any W0 S S2 A B n k m j x h0 g0)
 obtain ⟨F, hF⟩ : ∃ g, w.heap.size = g := ⟨_, rfl⟩
 have hrow : W0.heap[F]? = some (.cells #[.slice A n k, .slice B m j] 26 (0, 0)) := by rw [← hW0, ← hF]; exact heap_alloc_new w _
 have k0 : W0.cell? ⟨F, 0, none⟩ = some (.slice A n k) := cell_of_row W0 F _ _ _ (0, 0) hrow
 have k1 : W0.cell? ⟨F, 1, none⟩ = some (.slice B m j) := cell_of_row W0 F _ _ _ (0, 0) hrow
 have gl : F < W0.heap.size := (Array.getElem?_eq_some_iff.1 hrow).1
 cases hfb : fitsB x with
 | false =>
  rw [hfb] at HF
  have HE := hide (show rightB x = false from by unfold rightB; rw [hfb]; rfl)
  clear hfb h g h0 g0 hv hrow
  go_enter Tryz.func17, Tryz.ntmps17
  go_wp2_with (first | (go_at_call 49; (with_reducible refine HF.out.mono ?_); rintro e _ ⟨rfl, u1, rfl⟩))
  go_ret
  exact RetX.b HE.out.symm (HB.out.ext HB.out.size _)
 | true =>
  rw [hfb] at HF
  have HSH := hide (fun u : Ext => show28_any (W0.ext u) S S2 A B n k m j x (h0.ext u) (g0.ext u) (HV.out.ext u) hfb)
  obtain ⟨tx, htx⟩ : ∃ t, showB x = t := ⟨_, rfl⟩
  rw [htx] at HSH
  have HE := hide (show rightB x = decide ((tx.size : Int) ≤ 262144) from by unfold rightB; rw [hfb, htx, Bool.eq_iff_iff]; simp; omega)
  clear hfb h g h0 g0 hv hrow htx
  go_enter Tryz.func17, Tryz.ntmps17
  go_wp2_with (first | (go_at_call 49; (with_reducible refine HF.out.mono ?_); rintro e _ ⟨rfl, u1, rfl⟩) | (go_at_call 47; (with_reducible refine (HSH.out _).mono ?_); rintro e _ ⟨rfl, u2, rfl⟩))
  go_ret
  exact RetX.b (by rw [HE.out]) ((HB.out.ext HB.out.size _).ext (by rw [size_ext]; have := HB.out.size; omega) _)
theorem right_fits {x : Cert} (h : rightB x = true) : fitsB x = true := by unfold rightB at h; rw [Bool.and_eq_true] at h; exact h.1
set_option maxRecDepth 100000 in
set_option maxHeartbeats 8000000 in
theorem print28_any (w : World) (S S2 : Nat → Prop) (A B : Option Addr) (n k m j : Nat) (x : Cert) (h : Sl w S A n k x.tiles) (g : Sl w S2 B m j x.facts) (hv : VarsP w) : Calls Tryz.prog 15 #[.agg #[.slice A n k, .slice B m j]] w (RetX (.tuple #[.string (printB28 x).1, .int .i64 (printB28 x).2]) w) := by
 obtain ⟨W0, hW0⟩ : ∃ W0, w.alloc (.cells #[.slice A n k, .slice B m j] 26) = W0 := ⟨_, rfl⟩
 have h0 : Sl W0 S A n k x.tiles := by rw [← hW0]; exact h.alloc _
 have g0 : Sl W0 S2 B m j x.facts := by rw [← hW0]; exact g.alloc _
 have HB := hide (show Below w.heap.size w W0 from by rw [← hW0]; exact (Below.refl _ _).alloc (Nat.le_refl _) _)
 have HV := hide (hv.below HB.out hv.v.sz)
 have HF := hide (right28_any W0 S S2 A B n k m j x h0 g0 HV.out)
 obtain ⟨F, hF⟩ : ∃ g, w.heap.size = g := ⟨_, rfl⟩
 have hrow : W0.heap[F]? = some (.cells #[.slice A n k, .slice B m j] 26 (0, 0)) := by rw [← hW0, ← hF]; exact heap_alloc_new w _
 have k0 : W0.cell? ⟨F, 0, none⟩ = some (.slice A n k) := cell_of_row W0 F _ _ _ (0, 0) hrow
 have k1 : W0.cell? ⟨F, 1, none⟩ = some (.slice B m j) := cell_of_row W0 F _ _ _ (0, 0) hrow
 have gl : F < W0.heap.size := (Array.getElem?_eq_some_iff.1 hrow).1
 cases hfb : rightB x with
 | false =>
  rw [hfb] at HF
  have HE := hide (show printB28 x = (ByteArray.empty, 2) from by unfold printB28; rw [hfb]; rfl)
  rw [HE.out]
  clear hfb h g h0 g0 hv hrow
  go_enter Tryz.func15, Tryz.ntmps15
  go_wp2_with (first | (go_at_call 17; (with_reducible refine HF.out.mono ?_); rintro e _ ⟨rfl, u1, rfl⟩))
  go_ret2
  exact ⟨rfl, (HB.out.ext HB.out.size _).to_ext⟩
 | true =>
  rw [hfb] at HF
  have HSH := hide (fun u : Ext => show28_any (W0.ext u) S S2 A B n k m j x (h0.ext u) (g0.ext u) (HV.out.ext u) (right_fits hfb))
  have HE := hide (show printB28 x = (showB x, 0) from by unfold printB28; rw [hfb]; rfl)
  rw [HE.out]
  generalize showB x = tx at HSH
  clear hfb h g h0 g0 hv hrow HE
  go_enter Tryz.func15, Tryz.ntmps15
  go_wp2_with (first | (go_at_call 17; (with_reducible refine HF.out.mono ?_); rintro e _ ⟨rfl, u1, rfl⟩) | (go_at_call 47; (with_reducible refine (HSH.out _).mono ?_); rintro e _ ⟨rfl, u2, rfl⟩))
  go_ret2
  exact ⟨rfl, ((HB.out.ext HB.out.size _).ext (by rw [size_ext]; have := HB.out.size; omega) _).to_ext⟩
end Go.Proofs.YtppkanniefignaaGreatDoor
namespace Go.Proofs.YtppkanniefignaaGreatDoor
open Go.RowKit Go.Maps
def writtenB (f : Fact) : ByteArray := ptB (.nm (.var f.var)) ++ ⟨#[32, 61, 32]⟩ ++ (if f.loc.slot = true then ⟨#[115]⟩ else ⟨#[114]⟩) ++ itoaB f.loc.n
set_option maxRecDepth 100000 in
set_option maxHeartbeats 8000000 in
theorem dwritten28_any (w : World) (f : Fact) (hv : VarsP w) (hf : FactIn f) : Calls Tryz.prog 103 #[facV f] w (RetX (.string (writtenB f)) w) := by
 obtain ⟨v, ⟨s, n⟩⟩ := f
 have a1 := hf.v1; have a2 := hf.v2; have a3 := hf.n1; have a4 := hf.n2
 simp only at a1 a2 a3 a4
 have HIV := hide (fun (W : World) (h : VarsP W) => itoaP_any v ⟨by omega, by omega⟩ W h)
 have HIH := hide (fun (W : World) (h : VarsP W) => itoaP_any (-1 - v) ⟨by omega, by omega⟩ W h)
 have HIN := hide (fun (W : World) (h : VarsP W) => itoaP_any n ⟨by omega, by omega⟩ W h)
 have z1 := itoa_in (n := v) (by omega) (by omega)
 have z2 := itoa_in (n := -1 - v) (by omega) (by omega)
 have z3 := itoa_in (n := n) (by omega) (by omega)
 have hwr : IntKind.i64.wrap (-1 - v) = -1 - v := IntWalk.i64_in _ (by omega)
 obtain ⟨p, hp⟩ : ∃ p, ptB (.nm (.var v)) = p := ⟨_, rfl⟩
 unfold writtenB
 simp only
 rw [hp]
 obtain ⟨tv, htv⟩ : ∃ t, itoaB v = t := ⟨_, rfl⟩
 obtain ⟨th, hth⟩ : ∃ t, itoaB (-1 - v) = t := ⟨_, rfl⟩
 obtain ⟨tn, htn⟩ : ∃ t, itoaB n = t := ⟨_, rfl⟩
 have hp2 : (if v < 0 then (⟨#[104]⟩ : ByteArray) ++ th else ⟨#[118]⟩ ++ tv) = p := by rw [← hp, ← htv, ← hth]; rfl
 rw [htv] at HIV z1
 rw [hth] at HIH z2
 rw [htn] at HIN z3 ⊢
 have l1 : (⟨#[32, 61, 32]⟩ : ByteArray).size = 3 := rfl
 have l2 : (⟨#[104]⟩ : ByteArray).size = 1 := rfl
 have l3 : (⟨#[118]⟩ : ByteArray).size = 1 := rfl
 have l4 : (⟨#[115]⟩ : ByteArray).size = 1 := rfl
 have l5 : (⟨#[114]⟩ : ByteArray).size = 1 := rfl
 have hps : p.size ≤ 22 := by rw [← hp2]; split <;> rw [ByteArray.size_append] <;> omega
 obtain ⟨W0, hW0⟩ : ∃ W0, w.alloc (.cells #[.int .i64 v, .bool s, .int .i64 n] 42) = W0 := ⟨_, rfl⟩
 have HB := hide (show Below w.heap.size w W0 from by rw [← hW0]; exact (Below.refl _ _).alloc (Nat.le_refl _) _)
 have HV := hide (hv.below HB.out hv.v.sz)
 obtain ⟨F, hF⟩ : ∃ g, w.heap.size = g := ⟨_, rfl⟩
 have hrow : W0.heap[F]? = some (.cells #[.int .i64 v, .bool s, .int .i64 n] 42 (0, 0)) := by rw [← hW0, ← hF]; exact heap_alloc_new w _
 obtain ⟨k0, k1, k2⟩ := cells3 hrow
 have gl : F < W0.heap.size := (Array.getElem?_eq_some_iff.1 hrow).1
 clear hrow hp htv hth htn hf
 by_cases hneg : v < 0
 ·have HP := hide (show (⟨#[104]⟩ : ByteArray) ++ th = p from by rw [← hp2, if_pos hneg])
  clear hp2
  cases s with
  | true =>
   simp only [if_true]
   have h1 : decide (v < 0) = true := by simp; omega
   have e0 : ((⟨#[104]⟩ : ByteArray) ++ th) = p := HP.out
   have g1 : (⟨#[118]⟩ : ByteArray).size + tv.size ≤ 9223372036854775807 := by rw [l3]; omega
   have g2 : (⟨#[104]⟩ : ByteArray).size + th.size ≤ 9223372036854775807 := by rw [l2]; omega
   have g3 : p.size + (⟨#[32, 61, 32]⟩ : ByteArray).size ≤ 9223372036854775807 := by rw [l1]; omega
   have g4 : (p ++ ⟨#[32, 61, 32]⟩).size + (⟨#[115]⟩ : ByteArray).size ≤ 9223372036854775807 := by rw [ByteArray.size_append, l1, l4]; omega
   have g5 : (p ++ ⟨#[32, 61, 32]⟩ ++ ⟨#[115]⟩).size + tn.size ≤ 9223372036854775807 := by rw [ByteArray.size_append, ByteArray.size_append, l1, l4]; omega
   clear hv hneg l1 l2 l3 l4 l5
   go_enter Tryz.func103, Tryz.ntmps103
   go_wp2_with (first
    | (go_at_call 102; (first | (with_reducible refine (HIV.out _ HV.out).mono ?_) | (with_reducible refine (HIH.out _ HV.out).mono ?_) | (with_reducible refine (HIN.out _ HV.out).mono ?_)); rintro e _ ⟨rfl, u1, rfl⟩; replace HV := hide (HV.out.ext u1); replace HB := hide (HB.out.ext HB.out.size u1))
    | (simp only [run_string_add_sum _ _ _ g1, run_string_add_sum _ _ _ g2, e0, run_string_add_sum _ _ _ g3, run_string_add_sum _ _ _ g4, run_string_add_sum _ _ _ g5]))
   go_ret
   exact ⟨rfl, HB.out.to_ext⟩
  | false =>
   simp only [Bool.false_eq_true, if_false]
   have h1 : decide (v < 0) = true := by simp; omega
   have e0 : ((⟨#[104]⟩ : ByteArray) ++ th) = p := HP.out
   have g1 : (⟨#[118]⟩ : ByteArray).size + tv.size ≤ 9223372036854775807 := by rw [l3]; omega
   have g2 : (⟨#[104]⟩ : ByteArray).size + th.size ≤ 9223372036854775807 := by rw [l2]; omega
   have g3 : p.size + (⟨#[32, 61, 32]⟩ : ByteArray).size ≤ 9223372036854775807 := by rw [l1]; omega
   have g4 : (p ++ ⟨#[32, 61, 32]⟩).size + (⟨#[114]⟩ : ByteArray).size ≤ 9223372036854775807 := by rw [ByteArray.size_append, l1, l5]; omega
   have g5 : (p ++ ⟨#[32, 61, 32]⟩ ++ ⟨#[114]⟩).size + tn.size ≤ 9223372036854775807 := by rw [ByteArray.size_append, ByteArray.size_append, l1, l5]; omega
   clear hv hneg l1 l2 l3 l4 l5
   go_enter Tryz.func103, Tryz.ntmps103
   go_wp2_with (first
    | (go_at_call 102; (first | (with_reducible refine (HIV.out _ HV.out).mono ?_) | (with_reducible refine (HIH.out _ HV.out).mono ?_) | (with_reducible refine (HIN.out _ HV.out).mono ?_)); rintro e _ ⟨rfl, u1, rfl⟩; replace HV := hide (HV.out.ext u1); replace HB := hide (HB.out.ext HB.out.size u1))
    | (simp only [run_string_add_sum _ _ _ g1, run_string_add_sum _ _ _ g2, e0, run_string_add_sum _ _ _ g3, run_string_add_sum _ _ _ g4, run_string_add_sum _ _ _ g5]))
   go_ret
   exact ⟨rfl, HB.out.to_ext⟩
 ·have HP := hide (show (⟨#[118]⟩ : ByteArray) ++ tv = p from by rw [← hp2, if_neg hneg])
  clear hp2
  cases s with
  | true =>
   simp only [if_true]
   have h1 : decide (v < 0) = false := by simp; omega
   have e0 : ((⟨#[118]⟩ : ByteArray) ++ tv) = p := HP.out
   have g1 : (⟨#[118]⟩ : ByteArray).size + tv.size ≤ 9223372036854775807 := by rw [l3]; omega
   have g2 : (⟨#[104]⟩ : ByteArray).size + th.size ≤ 9223372036854775807 := by rw [l2]; omega
   have g3 : p.size + (⟨#[32, 61, 32]⟩ : ByteArray).size ≤ 9223372036854775807 := by rw [l1]; omega
   have g4 : (p ++ ⟨#[32, 61, 32]⟩).size + (⟨#[115]⟩ : ByteArray).size ≤ 9223372036854775807 := by rw [ByteArray.size_append, l1, l4]; omega
   have g5 : (p ++ ⟨#[32, 61, 32]⟩ ++ ⟨#[115]⟩).size + tn.size ≤ 9223372036854775807 := by rw [ByteArray.size_append, ByteArray.size_append, l1, l4]; omega
   clear hv hneg l1 l2 l3 l4 l5
   go_enter Tryz.func103, Tryz.ntmps103
   go_wp2_with (first
    | (go_at_call 102; (first | (with_reducible refine (HIV.out _ HV.out).mono ?_) | (with_reducible refine (HIH.out _ HV.out).mono ?_) | (with_reducible refine (HIN.out _ HV.out).mono ?_)); rintro e _ ⟨rfl, u1, rfl⟩; replace HV := hide (HV.out.ext u1); replace HB := hide (HB.out.ext HB.out.size u1))
    | (simp only [run_string_add_sum _ _ _ g1, run_string_add_sum _ _ _ g2, e0, run_string_add_sum _ _ _ g3, run_string_add_sum _ _ _ g4, run_string_add_sum _ _ _ g5]))
   go_ret
   exact ⟨rfl, HB.out.to_ext⟩
  | false =>
   simp only [Bool.false_eq_true, if_false]
   have h1 : decide (v < 0) = false := by simp; omega
   have e0 : ((⟨#[118]⟩ : ByteArray) ++ tv) = p := HP.out
   have g1 : (⟨#[118]⟩ : ByteArray).size + tv.size ≤ 9223372036854775807 := by rw [l3]; omega
   have g2 : (⟨#[104]⟩ : ByteArray).size + th.size ≤ 9223372036854775807 := by rw [l2]; omega
   have g3 : p.size + (⟨#[32, 61, 32]⟩ : ByteArray).size ≤ 9223372036854775807 := by rw [l1]; omega
   have g4 : (p ++ ⟨#[32, 61, 32]⟩).size + (⟨#[114]⟩ : ByteArray).size ≤ 9223372036854775807 := by rw [ByteArray.size_append, l1, l5]; omega
   have g5 : (p ++ ⟨#[32, 61, 32]⟩ ++ ⟨#[114]⟩).size + tn.size ≤ 9223372036854775807 := by rw [ByteArray.size_append, ByteArray.size_append, l1, l5]; omega
   clear hv hneg l1 l2 l3 l4 l5
   go_enter Tryz.func103, Tryz.ntmps103
   go_wp2_with (first
    | (go_at_call 102; (first | (with_reducible refine (HIV.out _ HV.out).mono ?_) | (with_reducible refine (HIH.out _ HV.out).mono ?_) | (with_reducible refine (HIN.out _ HV.out).mono ?_)); rintro e _ ⟨rfl, u1, rfl⟩; replace HV := hide (HV.out.ext u1); replace HB := hide (HB.out.ext HB.out.size u1))
    | (simp only [run_string_add_sum _ _ _ g1, run_string_add_sum _ _ _ g2, e0, run_string_add_sum _ _ _ g3, run_string_add_sum _ _ _ g4, run_string_add_sum _ _ _ g5]))
   go_ret
   exact ⟨rfl, HB.out.to_ext⟩
end Go.Proofs.YtppkanniefignaaGreatDoor
