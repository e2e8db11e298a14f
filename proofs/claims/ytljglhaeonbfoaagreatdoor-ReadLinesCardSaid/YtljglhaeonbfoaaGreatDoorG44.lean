/- law04: what stands while the document reads a line. law04: walks: the document reads a line. Printed by gen_d4h.py. -/
import Derived.Test.YtljglhaeonbfoaaGreatDoorG43
import Derived.Test.YtljglhaeonbfoaaGreatDoorG28
import Derived.BigRegion
set_option linter.unusedSimpArgs false
set_option linter.unusedVariables false
namespace Go.Proofs.YtljglhaeonbfoaaGreatDoor
open Go.RowKit
section
variable {w0 w W W' : World} {R I Z M c : Nat} {S : Nat → Prop} {s s' : Cur} {T TZ TI : TypeId} {cs cs' zs zs' is is' : Array Value}
theorem DY4.setz (h : DY4 w0 W R Z M c S TZ T zs cs s) {j : Nat} {x : Value} (hr : zs.setIfInBounds j x = zs') : DY4 w0 (W.setCell ⟨Z, j, none⟩ x) R Z M c S TZ T zs' cs s :=
 ⟨⟨h.xa.ra.set h.z1 j x, (Below.heap_setCell W ⟨Z, j, none⟩ x M (by show M ≠ Z; have := h.z2; omega)).trans h.xa.row, h.xa.o2⟩, by rw [row_setB h.zrow, hr], h.z1, h.z2⟩
structure DW4 (w0 W : World) (R I Z M c : Nat) (S : Nat → Prop) (TI TZ T : TypeId) (is zs cs : Array Value) (s : Cur) : Prop where
 ya : DY4 w0 W R Z M c S TZ T zs cs s
 irow : W.heap[I]? = some (.cells is TI (0, 0))
 i1 : R ≤ I
 i2 : I < Z
theorem DW4.iz (h : DW4 w0 W R I Z M c S TI TZ T is zs cs s) : DY4 w0 W R I Z c S TI TZ is zs s := ⟨h.ya.zx, h.irow, h.i1, h.i2⟩
theorem DW4.start (h : DY4 w0 W R I Z c S TI TZ is zs s) (cs : Array Value) (T : TypeId) : DW4 w0 (W.alloc (.cells cs T)) R I Z W.heap.size c S TI TZ T is zs cs s := ⟨DY4.start h.xa cs T, (h.zx.alloc (.cells cs T)).row, h.z1, h.z2⟩
theorem DW4.call (h : DW4 w0 W R I Z M c S TI TZ T is zs cs s) (hon : Only c W W') (hat : DocAt W' S c s') : DW4 w0 W' R I Z M c S TI TZ T is zs cs s' := ⟨h.ya.call hon hat, (h.iz.call hon hat).zrow, h.i1, h.i2⟩
theorem DW4.set (h : DW4 w0 W R I Z M c S TI TZ T is zs cs s) {j : Nat} {x : Value} (hr : cs.setIfInBounds j x = cs') : DW4 w0 (W.setCell ⟨M, j, none⟩ x) R I Z M c S TI TZ T is zs cs' s :=
 ⟨h.ya.set hr, (Below.heap_setCell W ⟨M, j, none⟩ x I (by show I ≠ M; have := h.i2; have := h.ya.z2; omega)).trans h.irow, h.i1, h.i2⟩
theorem DY4.fin84 {z0 z1 z2 z3 z4 z5 z6 z7 t0 t1 t2 t3 : Value} (h : DY4 w0 W R I Z c S TI TZ #[z0, z1, z2, z3, z4, z5, z6, z7] #[t0, t1, t2, t3] s) (v0 v1 v2 v3 v4 v5 v6 v7 u0 u1 u2 u3 : Value) :
  DY4 w0 ((((((((((((W.setCell ⟨I, 0, none⟩ v0).setCell ⟨I, 1, none⟩ v1).setCell ⟨I, 2, none⟩ v2).setCell ⟨I, 3, none⟩ v3).setCell ⟨I, 4, none⟩ v4).setCell ⟨I, 5, none⟩ v5).setCell ⟨I, 6, none⟩ v6).setCell ⟨I, 7, none⟩ v7).setCell ⟨Z, 0, none⟩ u0).setCell ⟨Z, 1, none⟩ u1).setCell ⟨Z, 2, none⟩ u2).setCell ⟨Z, 3, none⟩ u3) R I Z c S TI TZ #[v0, v1, v2, v3, v4, v5, v6, v7] #[u0, u1, u2, u3] s := by
 have hsetz0 := h.setz (j := 0) (x := v0) (zs' := #[v0, z1, z2, z3, z4, z5, z6, z7]) rfl
 have hsetz1 := hsetz0.setz (j := 1) (x := v1) (zs' := #[v0, v1, z2, z3, z4, z5, z6, z7]) rfl
 have hsetz2 := hsetz1.setz (j := 2) (x := v2) (zs' := #[v0, v1, v2, z3, z4, z5, z6, z7]) rfl
 have hsetz3 := hsetz2.setz (j := 3) (x := v3) (zs' := #[v0, v1, v2, v3, z4, z5, z6, z7]) rfl
 have hsetz4 := hsetz3.setz (j := 4) (x := v4) (zs' := #[v0, v1, v2, v3, v4, z5, z6, z7]) rfl
 have hsetz5 := hsetz4.setz (j := 5) (x := v5) (zs' := #[v0, v1, v2, v3, v4, v5, z6, z7]) rfl
 have hsetz6 := hsetz5.setz (j := 6) (x := v6) (zs' := #[v0, v1, v2, v3, v4, v5, v6, z7]) rfl
 have hsetz7 := hsetz6.setz (j := 7) (x := v7) (zs' := #[v0, v1, v2, v3, v4, v5, v6, v7]) rfl
 have hset0 := hsetz7.set (j := 0) (x := u0) (cs' := #[u0, t1, t2, t3]) rfl
 have hset1 := hset0.set (j := 1) (x := u1) (cs' := #[u0, u1, t2, t3]) rfl
 have hset2 := hset1.set (j := 2) (x := u2) (cs' := #[u0, u1, u2, t3]) rfl
 have hset3 := hset2.set (j := 3) (x := u3) (cs' := #[u0, u1, u2, u3]) rfl
 exact hset3
theorem own_set84 {b : Nat} {v : Value} {l : List Int} (h : OwnL W b 3 (fun _ => False) v l) (hI : I < b) (hZ : Z < b) (v0 v1 v2 v3 v4 v5 v6 v7 u0 u1 u2 u3 : Value) :
  OwnL ((((((((((((W.setCell ⟨I, 0, none⟩ v0).setCell ⟨I, 1, none⟩ v1).setCell ⟨I, 2, none⟩ v2).setCell ⟨I, 3, none⟩ v3).setCell ⟨I, 4, none⟩ v4).setCell ⟨I, 5, none⟩ v5).setCell ⟨I, 6, none⟩ v6).setCell ⟨I, 7, none⟩ v7).setCell ⟨Z, 0, none⟩ u0).setCell ⟨Z, 1, none⟩ u1).setCell ⟨Z, 2, none⟩ u2).setCell ⟨Z, 3, none⟩ u3) b 3 (fun _ => False) v l := own_set4 (own_set8 h hI _ _ _ _ _ _ _ _) hZ _ _ _ _
end
def zeroIns : Ins := ⟨0, 0, 0, 0, 0, 0, [], 0⟩
def LnIs (r : Ln) (i : Ins) (t : Term) (b : Bool) : Prop := match r with
 | .term t' => i = zeroIns ∧ t = t' ∧ b = true
 | .ins i' => i = i' ∧ t = zeroTerm ∧ b = false
def DLnP (S : Nat → Prop) (c : Nat) (w : World) (r : Ln × Cur) (e : Ending) (w' : World) : Prop :=
 ∃ (i : Ins) (t : Term) (b : Bool) (A : Option Addr) (n k : Nat), LnIs r.1 i t b ∧ e = .returned (.tuple #[.agg #[.int .i64 i.op, .int .i64 i.dst, .int .i64 i.a, .int .i64 i.b, .int .i64 i.imm, .int .i64 i.callee, .slice A n k, .int .i64 i.many], tmV t, .bool b]) ∧ OwnL w' w.heap.size 3 (fun _ => False) (.slice A n k) i.args ∧ DocAt w' S c r.2 ∧ Only c w w'
theorem size_ins4 : (Tryz.prog.info? 45).map (·.size) = some 8 := by kernel_rfl
theorem size_term4 : (Tryz.prog.info? 50).map (·.size) = some 4 := by kernel_rfl
theorem results_line4 {fn : Func} {p q t1 : Tmp} {I Z : Nat} {a0 a1 a2 a3 a4 a5 a6 a7 b0 b1 b2 b3 : Value} (h : fn.results = #[.cell p 45, .cell q 50, .tmp t1]) (tmps : Array Value) (w : World)
  (hp : tmps.getD p undef = .pointer (some ⟨I, 0, none⟩)) (hq : tmps.getD q undef = .pointer (some ⟨Z, 0, none⟩)) (hI : w.heap[I]? = some (.cells #[a0, a1, a2, a3, a4, a5, a6, a7] 45 (0, 0))) (hZ : w.heap[Z]? = some (.cells #[b0, b1, b2, b3] 50 (0, 0))) :
  (results fn tmps).run Tryz.prog w = .ok (.tuple #[.agg #[a0, a1, a2, a3, a4, a5, a6, a7], .agg #[b0, b1, b2, b3], tmps.getD t1 undef]) w := by
 have hp' : tmps[p]?.getD undef = .pointer (some ⟨I, 0, none⟩) := by simpa using hp
 have hq' : tmps[q]?.getD undef = .pointer (some ⟨Z, 0, none⟩) := by simpa using hq
 have l1 := run_loadVar_row w I _ _ _ (0, 0) _ hI Tryz.underlying45 rfl size_ins4
 have l2 := run_loadVar_row w Z _ _ _ (0, 0) _ hZ Tryz.underlying50 rfl size_term4
 simp [results, h, hp', hq', asAddr, l1, l2]
theorem dnumber_any {w : World} {S : Nat → Prop} {c : Nat} {s : Cur} (h : DocAt w S c s) : Calls Tryz.prog 154 #[.pointer (some ⟨c, 0, none⟩)] w (DocP S c w (numC 0 63 s).2 (.int .i64 (numC 0 63 s).1)) := by
 have HN := hide (dNum h 0 63)
 clear h
 go_enter Tryz.func154, Tryz.ntmps154
 go_wp2_with (go_at_call 105; (with_reducible refine HN.out.mono ?_); rintro e w2 ⟨rfl, hat, hon⟩)
 go_ret
 exact ⟨rfl, hat, hon⟩
end Go.Proofs.YtljglhaeonbfoaaGreatDoor
namespace Go.Proofs.YtljglhaeonbfoaaGreatDoor
open Go.RowKit
theorem DY4.drew4 {w0 W : World} {R I Z c : Nat} {S : Nat → Prop} {s : Cur} {TZ TI : TypeId} {zs is : Array Value} (h : DY4 w0 W R I Z c S TI TZ is zs s) : DY4 w0 W.drew R I Z c S TI TZ is zs s := h.call (Only.of_below ((Below.refl _ _).drew)) (h.xa.ra.rd.cur.below ((Below.refl _ _).drew))
set_option maxRecDepth 100000 in
set_option maxHeartbeats 32000000 in
theorem dline_any (w : World) (S : Nat → Prop) (c : Nat) (s : Cur) (h : Dd4 w S c s) : Calls Tryz.prog 106 #[.pointer (some ⟨c, 0, none⟩)] w (DLnP S c w (oneC true s)) := by
 have HNS := hide h.cur.nS
 obtain ⟨R, hR⟩ : ∃ R, w.heap.size = R := ⟨_, rfl⟩
 obtain ⟨S1, hS1⟩ : ∃ S1 : Nat → Prop, S1 = fun b => S b ∧ b < R := ⟨_, rfl⟩
 have HT0 := hide (show DA4 w w R c S1 s from by rw [hS1, ← hR]; exact DA4.start h)
 have HS1 := hide hS1
 obtain ⟨I, hI⟩ : ∃ I, w.heap.size = I := ⟨_, rfl⟩
 have HIR := hide (show w.heap.size ≤ I from by omega)
 obtain ⟨W0, hW0⟩ : ∃ W0, w.alloc (.cells #[.int .i64 0, .int .i64 0, .int .i64 0, .int .i64 0, .int .i64 0, .int .i64 0, .slice none 0 0, .int .i64 0] 45) = W0 := ⟨_, rfl⟩
 have HT00 := hide (show DX4 w W0 R I c S1 45 #[.int .i64 0, .int .i64 0, .int .i64 0, .int .i64 0, .int .i64 0, .int .i64 0, .slice none 0 0, .int .i64 0] s from by rw [← hW0, ← hI]; exact DX4.start HT0.out _ _)
 obtain ⟨Z, hZ⟩ : ∃ Z, W0.heap.size = Z := ⟨_, rfl⟩
 obtain ⟨W1, hW1⟩ : ∃ W1, W0.alloc (.cells #[.int .i64 0, .int .i64 0, .int .i64 0, .int .i64 0] 50) = W1 := ⟨_, rfl⟩
 have HT1 := hide (show DY4 w W1 R I Z c S1 45 50 #[.int .i64 0, .int .i64 0, .int .i64 0, .int .i64 0, .int .i64 0, .int .i64 0, .slice none 0 0, .int .i64 0] #[.int .i64 0, .int .i64 0, .int .i64 0, .int .i64 0] s from by rw [← hW1, ← hZ]; exact DY4.start HT00.out _ _)
 obtain ⟨X, hX⟩ : ∃ X, oneC true s = X := ⟨_, rfl⟩
 rw [hX]
 have HXQ := hide hX
 have HZI := hide (show Z = I + 1 from by rw [← hZ, ← hW0, ← hI]; simp)
 clear h hS1 hX HT0 HT00 hR
 have cur1 := HT1.out.xa.ra.rd.cur
 cases hb1 : isC (.nm tTrap) s with
 | true =>
  have HK1 := hide (fun (W : World) (hat : DocAt W S1 c s) => show Calls Tryz.prog 47 #[.pointer (some ⟨c, 0, none⟩), .string ⟨#[116, 114, 97, 112]⟩] W (DocP S1 c W (popC s) (.bool true)) from dKeyT hat hb1)
  obtain ⟨s1, hs1⟩ : ∃ s1, popC s = s1 := ⟨_, rfl⟩
  have HE := hide (show X = (Ln.term ⟨4, 0, 0, 0⟩, s1) from by rw [← HXQ.out]; unfold oneC; rw [if_pos hb1, hs1]; rfl)
  rw [hs1] at HK1
  clear hs1
  clear hb1
  clear cur1
  go_enter Tryz.func106, Tryz.ntmps106
  go_upto_region 1 with fail
  try rw [hI]
  try rw [hW0]
  try rw [hZ]
  try rw [hW1]
  clear hW0 hW1 hZ hI
  obtain ⟨z0, z1, z2, z3, z4, z5, z6, z7, y0, y1, y2, y3, y4, y5, y6, y7, zl⟩ := rowc8 HT1.out.zrow
  obtain ⟨t0, t1, t2, t3, q0, q1, q2, q3, tl⟩ := rowc4 HT1.out.xa.row
  go_wp2_with (go_at_call 47; (with_reducible refine (HK1.out _ HT1.out.xa.ra.rd.cur).mono ?_); rintro e V1 ⟨rfl, hat, hon⟩; refine Hd.out ?_)
  have HC1 := hide (HT1.out.call hon hat)
  clear hat hon
  clear z0 z1 z2 z3 z4 z5 z6 z7 y0 y1 y2 y3 y4 y5 y6 y7 zl t0 t1 t2 t3 q0 q1 q2 q3 tl
  obtain ⟨z0, z1, z2, z3, z4, z5, z6, z7, y0, y1, y2, y3, y4, y5, y6, y7, zl⟩ := rowc8 HC1.out.zrow
  obtain ⟨t0, t1, t2, t3, q0, q1, q2, q3, tl⟩ := rowc4 HC1.out.xa.row
  have HFN := hide (DY4.fin84 HC1.out (.int .i64 0) (.int .i64 0) (.int .i64 0) (.int .i64 0) (.int .i64 0) (.int .i64 0) (.slice none 0 0) (.int .i64 0) (.int .i64 4) (.int .i64 0) (.int .i64 0) (.int .i64 0))
  have ne1 : ¬ I = Z := by have := HZI.out; omega
  have ne2 : ¬ Z = I := by have := HZI.out; omega
  have lt1 : I < Z := by have := HZI.out; omega
  refine hide ?_
  go_wp2_with fail
  refine bodyPost_ret (results_line4 (I := I) (Z := Z) Tryz.results106 _ _ rfl rfl HFN.out.zrow HFN.out.xa.row) rfl ?_
  rw [HE.out]
  exact ⟨_, _, _, none, 0, 0, ⟨rfl, rfl, rfl⟩, rfl, OwnL.nil_ _ _ _ _, HFN.out.xa.ra.rd.cur.moreS (fun b _ h => by rw [HS1.out] at h; exact h.1) HNS.out, HFN.out.xa.ra.only⟩
 | false =>
 cases hb2 : isC (.nm tReturn) s with
 | true =>
  have HK1 := hide (fun (W : World) (hat : DocAt W S1 c s) => show Calls Tryz.prog 47 #[.pointer (some ⟨c, 0, none⟩), .string ⟨#[116, 114, 97, 112]⟩] W (DocP S1 c W s (.bool false)) from dKeyF hat hb1)
  have HK2 := hide (fun (W : World) (hat : DocAt W S1 c s) => show Calls Tryz.prog 47 #[.pointer (some ⟨c, 0, none⟩), .string ⟨#[114, 101, 116, 117, 114, 110]⟩] W (DocP S1 c W (popC s) (.bool true)) from dKeyT hat hb2)
  obtain ⟨s1, hs1⟩ : ∃ s1, popC s = s1 := ⟨_, rfl⟩
  obtain ⟨v, hv⟩ : ∃ v, (if endsC s1 = true then (0, s1) else varC s1) = v := ⟨_, rfl⟩
  have HE := hide (show X = (Ln.term ⟨3, v.1, 0, 0⟩, v.2) from by rw [← HXQ.out]; unfold oneC; rw [if_neg (by rw [hb1]; decide), if_pos hb2, hs1, ← hv]; rfl)
  rw [hs1] at HK2
  clear hs1
  clear hb1 hb2
  clear cur1
  go_enter Tryz.func106, Tryz.ntmps106
  go_upto_region 1 with fail
  try rw [hI]
  try rw [hW0]
  try rw [hZ]
  try rw [hW1]
  clear hW0 hW1 hZ hI
  obtain ⟨z0, z1, z2, z3, z4, z5, z6, z7, y0, y1, y2, y3, y4, y5, y6, y7, zl⟩ := rowc8 HT1.out.zrow
  obtain ⟨t0, t1, t2, t3, q0, q1, q2, q3, tl⟩ := rowc4 HT1.out.xa.row
  go_wp2_with (go_at_call 47; (with_reducible refine (HK1.out _ HT1.out.xa.ra.rd.cur).mono ?_); rintro e V1 ⟨rfl, hat, hon⟩; refine Hd.out ?_)
  have HC1 := hide (HT1.out.call hon hat)
  clear hat hon
  clear z0 z1 z2 z3 z4 z5 z6 z7 y0 y1 y2 y3 y4 y5 y6 y7 zl t0 t1 t2 t3 q0 q1 q2 q3 tl
  obtain ⟨z0, z1, z2, z3, z4, z5, z6, z7, y0, y1, y2, y3, y4, y5, y6, y7, zl⟩ := rowc8 HC1.out.zrow
  obtain ⟨t0, t1, t2, t3, q0, q1, q2, q3, tl⟩ := rowc4 HC1.out.xa.row
  refine hide ?_
  go_wp2_with (go_at_call 47; (with_reducible refine (HK2.out _ HC1.out.xa.ra.rd.cur).mono ?_); rintro e V2 ⟨rfl, hat, hon⟩; refine Hd.out ?_)
  have HC2 := hide (HC1.out.call hon hat)
  clear hat hon
  clear z0 z1 z2 z3 z4 z5 z6 z7 y0 y1 y2 y3 y4 y5 y6 y7 zl t0 t1 t2 t3 q0 q1 q2 q3 tl
  obtain ⟨z0, z1, z2, z3, z4, z5, z6, z7, y0, y1, y2, y3, y4, y5, y6, y7, zl⟩ := rowc8 HC2.out.zrow
  obtain ⟨t0, t1, t2, t3, q0, q1, q2, q3, tl⟩ := rowc4 HC2.out.xa.row
  obtain ⟨M, hM⟩ : ∃ M, V2.heap.size = M := ⟨_, rfl⟩
  have HX := hide (show DW4 w (V2.alloc (.cells #[.int .i64 3, .int .i64 0, .int .i64 0, .int .i64 0] 50)) R I Z M c S1 45 50 50 #[.int .i64 0, .int .i64 0, .int .i64 0, .int .i64 0, .int .i64 0, .int .i64 0, .slice none 0 0, .int .i64 0] #[.int .i64 0, .int .i64 0, .int .i64 0, .int .i64 0] #[.int .i64 3, .int .i64 0, .int .i64 0, .int .i64 0] _ from by rw [← hM]; exact DW4.start HC2.out _ _)
  obtain ⟨YM, hYM⟩ : ∃ Y, V2.alloc (.cells #[.int .i64 3, .int .i64 0, .int .i64 0, .int .i64 0] 50) = Y := ⟨_, rfl⟩
  have HXN := hide (show DW4 w YM R I Z M c S1 45 50 50 #[.int .i64 0, .int .i64 0, .int .i64 0, .int .i64 0, .int .i64 0, .int .i64 0, .slice none 0 0, .int .i64 0] #[.int .i64 0, .int .i64 0, .int .i64 0, .int .i64 0] #[.int .i64 3, .int .i64 0, .int .i64 0, .int .i64 0] _ from hYM ▸ HX.out)
  have HYM := hide hYM
  clear hYM
  clear z0 z1 z2 z3 z4 z5 z6 z7 y0 y1 y2 y3 y4 y5 y6 y7 zl t0 t1 t2 t3 q0 q1 q2 q3 tl
  have HMX := hide (dMore HXN.out.ya.xa.ra.rd.cur)
  have hcl := HXN.out.ya.xa.ra.cl
  obtain ⟨m0, m1, m2, m3, f0, f1, f2, f3, ml⟩ := rowc4 HXN.out.ya.xa.row
  obtain ⟨z0, z1, z2, z3, z4, z5, z6, z7, y0, y1, y2, y3, y4, y5, y6, y7, zl⟩ := rowc8 HXN.out.irow
  obtain ⟨t0, t1, t2, t3, q0, q1, q2, q3, tl⟩ := rowc4 HXN.out.ya.zrow
  cases HXN.out.ya.xa.ra.rd.cur.ends_ with
  | no he hm =>
   rw [hm] at HMX
   rw [if_pos he] at hv
   subst hv
   clear he hm
   refine hide ?_
   go_upto_region 5 with fail
   rw [HYM.out]
   go_upto_region 7 with (go_at_call 51; (with_reducible refine HMX.out.mono ?_); rintro e w9 ⟨rfl, rfl⟩)
   refine Hd.out ?_
   have HFN := hide (DY4.fin84 HXN.out.iz (.int .i64 0) (.int .i64 0) (.int .i64 0) (.int .i64 0) (.int .i64 0) (.int .i64 0) (.slice none 0 0) (.int .i64 0) (.int .i64 3) (.int .i64 0) (.int .i64 0) (.int .i64 0))
   have ne1 : ¬ I = Z := by have := HZI.out; omega
   have ne2 : ¬ Z = I := by have := HZI.out; omega
   have lt1 : I < Z := by have := HZI.out; omega
   have ne3 : ¬ I = M := by have := HX.out.i2; have := HX.out.ya.z2; omega
   have ne4 : ¬ M = I := by have := HX.out.i2; have := HX.out.ya.z2; omega
   have ne5 : ¬ Z = M := by have := HX.out.ya.z2; omega
   have ne6 : ¬ M = Z := by have := HX.out.ya.z2; omega
   refine hide ?_
   go_region
   have HFD := hide (HFN.out.drew4)
   go_wp2_with fail
   refine bodyPost_ret (results_line4 (I := I) (Z := Z) Tryz.results106 _ _ rfl rfl HFD.out.zrow HFD.out.xa.row) rfl ?_
   rw [HE.out]
   exact ⟨_, _, _, none, 0, 0, ⟨rfl, rfl, rfl⟩, rfl, OwnL.nil_ _ _ _ _, HFD.out.xa.ra.rd.cur.moreS (fun b _ h => by rw [HS1.out] at h; exact h.1) HNS.out, HFD.out.xa.ra.only⟩
  | eol he hm n0 k0' b off k0 hn0 hb c0 =>
   rw [hm] at HMX
   rw [if_pos he] at hv
   subst hv
   clear he hm
   refine hide ?_
   go_upto_region 5 with fail
   rw [HYM.out]
   go_upto_region 7 with (go_at_call 51; (with_reducible refine HMX.out.mono ?_); rintro e w9 ⟨rfl, rfl⟩)
   refine Hd.out ?_
   have HFN := hide (DY4.fin84 HXN.out.iz (.int .i64 0) (.int .i64 0) (.int .i64 0) (.int .i64 0) (.int .i64 0) (.int .i64 0) (.slice none 0 0) (.int .i64 0) (.int .i64 3) (.int .i64 0) (.int .i64 0) (.int .i64 0))
   have ne1 : ¬ I = Z := by have := HZI.out; omega
   have ne2 : ¬ Z = I := by have := HZI.out; omega
   have lt1 : I < Z := by have := HZI.out; omega
   have ne3 : ¬ I = M := by have := HX.out.i2; have := HX.out.ya.z2; omega
   have ne4 : ¬ M = I := by have := HX.out.i2; have := HX.out.ya.z2; omega
   have ne5 : ¬ Z = M := by have := HX.out.ya.z2; omega
   have ne6 : ¬ M = Z := by have := HX.out.ya.z2; omega
   refine hide ?_
   go_region
   have HFD := hide (HFN.out.drew4)
   go_wp2_with fail
   refine bodyPost_ret (results_line4 (I := I) (Z := Z) Tryz.results106 _ _ rfl rfl HFD.out.zrow HFD.out.xa.row) rfl ?_
   rw [HE.out]
   exact ⟨_, _, _, none, 0, 0, ⟨rfl, rfl, rfl⟩, rfl, OwnL.nil_ _ _ _ _, HFD.out.xa.ra.rd.cur.moreS (fun b _ h => by rw [HS1.out] at h; exact h.1) HNS.out, HFD.out.xa.ra.only⟩
  | go he hm x n0 k0' b off k0 hn0 hb c0 hx4 =>
   rw [hm] at HMX
   rw [if_neg (by rw [he]; decide)] at hv
   have HVX := hide (show Calls Tryz.prog 104 #[.pointer (some ⟨c, 0, none⟩)] _ (DocP S1 c _ v.2 (.int .i64 v.1)) from hv ▸ dvariable_any HXN.out.ya.xa.ra.rd)
   clear he hm hv
   refine hide ?_
   go_upto_region 5 with fail
   rw [HYM.out]
   go_wp2_with (first | (go_at_call 51; (with_reducible refine HMX.out.mono ?_); rintro e w9 ⟨rfl, rfl⟩) | (go_at_call 104; (with_reducible refine HVX.out.mono ?_); rintro e V3 ⟨rfl, hat, hon⟩; refine Hd.out ?_))
   have HC3 := hide (HXN.out.call hon hat)
   clear hat hon
   clear z0 z1 z2 z3 z4 z5 z6 z7 y0 y1 y2 y3 y4 y5 y6 y7 zl t0 t1 t2 t3 q0 q1 q2 q3 tl m0 m1 m2 m3 f0 f1 f2 f3 ml
   obtain ⟨m0, m1, m2, m3, f0, f1, f2, f3, ml⟩ := rowc4 HC3.out.ya.xa.row
   obtain ⟨z0, z1, z2, z3, z4, z5, z6, z7, y0, y1, y2, y3, y4, y5, y6, y7, zl⟩ := rowc8 HC3.out.irow
   obtain ⟨t0, t1, t2, t3, q0, q1, q2, q3, tl⟩ := rowc4 HC3.out.ya.zrow
   obtain ⟨Y4, hY4⟩ : ∃ Y, V3.setCell ⟨M, 1, none⟩ (.int .i64 v.1) = Y := ⟨_, rfl⟩
   have HY4 := hide (show DW4 w Y4 R I Z M c S1 45 50 50 #[.int .i64 0, .int .i64 0, .int .i64 0, .int .i64 0, .int .i64 0, .int .i64 0, .slice none 0 0, .int .i64 0] #[.int .i64 0, .int .i64 0, .int .i64 0, .int .i64 0] #[.int .i64 3, .int .i64 v.1, .int .i64 0, .int .i64 0] _ from hY4 ▸ HC3.out.set (j := 1) (x := .int .i64 v.1) rfl)
   have k4 := (rowc4 HC3.out.ya.xa.row).2.1
   have e4 := HC3.out.ya.xa.fz 1
   have l4 := HC3.out.ya.xa.ml
   clear z0 z1 z2 z3 z4 z5 z6 z7 y0 y1 y2 y3 y4 y5 y6 y7 zl t0 t1 t2 t3 q0 q1 q2 q3 tl m0 m1 m2 m3 f0 f1 f2 f3 ml
   obtain ⟨m0, m1, m2, m3, f0, f1, f2, f3, ml⟩ := rowc4 HY4.out.ya.xa.row
   obtain ⟨z0, z1, z2, z3, z4, z5, z6, z7, y0, y1, y2, y3, y4, y5, y6, y7, zl⟩ := rowc8 HY4.out.irow
   obtain ⟨t0, t1, t2, t3, q0, q1, q2, q3, tl⟩ := rowc4 HY4.out.ya.zrow
   have HFN := hide (DY4.fin84 HY4.out.iz (.int .i64 0) (.int .i64 0) (.int .i64 0) (.int .i64 0) (.int .i64 0) (.int .i64 0) (.slice none 0 0) (.int .i64 0) (.int .i64 3) (.int .i64 v.1) (.int .i64 0) (.int .i64 0))
   have ne1 : ¬ I = Z := by have := HZI.out; omega
   have ne2 : ¬ Z = I := by have := HZI.out; omega
   have lt1 : I < Z := by have := HZI.out; omega
   have ne3 : ¬ I = M := by have := HX.out.i2; have := HX.out.ya.z2; omega
   have ne4 : ¬ M = I := by have := HX.out.i2; have := HX.out.ya.z2; omega
   have ne5 : ¬ Z = M := by have := HX.out.ya.z2; omega
   have ne6 : ¬ M = Z := by have := HX.out.ya.z2; omega
   refine hide ?_
   go_wp2_with fail
   go_region
   have HFD := hide (HFN.out.drew4)
   go_wp2_with fail
   refine bodyPost_ret (results_line4 (I := I) (Z := Z) Tryz.results106 _ _ rfl rfl HFD.out.zrow HFD.out.xa.row) rfl ?_
   rw [HE.out]
   exact ⟨_, _, _, none, 0, 0, ⟨rfl, rfl, rfl⟩, rfl, OwnL.nil_ _ _ _ _, HFD.out.xa.ra.rd.cur.moreS (fun b _ h => by rw [HS1.out] at h; exact h.1) HNS.out, HFD.out.xa.ra.only⟩
 | false =>
 cases hb3 : isC (.mk tArrow) s with
 | true =>
  have HK1 := hide (fun (W : World) (hat : DocAt W S1 c s) => show Calls Tryz.prog 47 #[.pointer (some ⟨c, 0, none⟩), .string ⟨#[116, 114, 97, 112]⟩] W (DocP S1 c W s (.bool false)) from dKeyF hat hb1)
  have HK2 := hide (fun (W : World) (hat : DocAt W S1 c s) => show Calls Tryz.prog 47 #[.pointer (some ⟨c, 0, none⟩), .string ⟨#[114, 101, 116, 117, 114, 110]⟩] W (DocP S1 c W s (.bool false)) from dKeyF hat hb2)
  have HK3 := hide (fun (W : World) (hat : DocAt W S1 c s) => show Calls Tryz.prog 153 #[.pointer (some ⟨c, 0, none⟩), .string ⟨#[226, 134, 146]⟩] W (DocP S1 c W (popC s) (.bool true)) from dIsT hat hb3)
  obtain ⟨s1, hs1⟩ : ∃ s1, popC s = s1 := ⟨_, rfl⟩
  obtain ⟨v, hv⟩ : ∃ v, numC 0 63 s1 = v := ⟨_, rfl⟩
  have HE := hide (show X = (Ln.term ⟨1, 0, v.1, 0⟩, v.2) from by rw [← HXQ.out]; unfold oneC; rw [if_neg (by rw [hb1]; decide), if_neg (by rw [hb2]; decide), if_pos hb3, hs1, ← hv]; rfl)
  rw [hs1] at HK3
  clear hs1
  clear hb1 hb2 hb3
  clear cur1
  go_enter Tryz.func106, Tryz.ntmps106
  go_upto_region 1 with fail
  try rw [hI]
  try rw [hW0]
  try rw [hZ]
  try rw [hW1]
  clear hW0 hW1 hZ hI
  obtain ⟨z0, z1, z2, z3, z4, z5, z6, z7, y0, y1, y2, y3, y4, y5, y6, y7, zl⟩ := rowc8 HT1.out.zrow
  obtain ⟨t0, t1, t2, t3, q0, q1, q2, q3, tl⟩ := rowc4 HT1.out.xa.row
  go_wp2_with (go_at_call 47; (with_reducible refine (HK1.out _ HT1.out.xa.ra.rd.cur).mono ?_); rintro e V1 ⟨rfl, hat, hon⟩; refine Hd.out ?_)
  have HC1 := hide (HT1.out.call hon hat)
  clear hat hon
  clear z0 z1 z2 z3 z4 z5 z6 z7 y0 y1 y2 y3 y4 y5 y6 y7 zl t0 t1 t2 t3 q0 q1 q2 q3 tl
  obtain ⟨z0, z1, z2, z3, z4, z5, z6, z7, y0, y1, y2, y3, y4, y5, y6, y7, zl⟩ := rowc8 HC1.out.zrow
  obtain ⟨t0, t1, t2, t3, q0, q1, q2, q3, tl⟩ := rowc4 HC1.out.xa.row
  refine hide ?_
  go_wp2_with (go_at_call 47; (with_reducible refine (HK2.out _ HC1.out.xa.ra.rd.cur).mono ?_); rintro e V2 ⟨rfl, hat, hon⟩; refine Hd.out ?_)
  have HC2 := hide (HC1.out.call hon hat)
  clear hat hon
  clear z0 z1 z2 z3 z4 z5 z6 z7 y0 y1 y2 y3 y4 y5 y6 y7 zl t0 t1 t2 t3 q0 q1 q2 q3 tl
  obtain ⟨z0, z1, z2, z3, z4, z5, z6, z7, y0, y1, y2, y3, y4, y5, y6, y7, zl⟩ := rowc8 HC2.out.zrow
  obtain ⟨t0, t1, t2, t3, q0, q1, q2, q3, tl⟩ := rowc4 HC2.out.xa.row
  refine hide ?_
  go_wp2_with (go_at_call 153; (with_reducible refine (HK3.out _ HC2.out.xa.ra.rd.cur).mono ?_); rintro e V3 ⟨rfl, hat, hon⟩; refine Hd.out ?_)
  have HC3 := hide (HC2.out.call hon hat)
  clear hat hon
  clear z0 z1 z2 z3 z4 z5 z6 z7 y0 y1 y2 y3 y4 y5 y6 y7 zl t0 t1 t2 t3 q0 q1 q2 q3 tl
  obtain ⟨z0, z1, z2, z3, z4, z5, z6, z7, y0, y1, y2, y3, y4, y5, y6, y7, zl⟩ := rowc8 HC3.out.zrow
  obtain ⟨t0, t1, t2, t3, q0, q1, q2, q3, tl⟩ := rowc4 HC3.out.xa.row
  have HN := hide (show Calls Tryz.prog 154 #[.pointer (some ⟨c, 0, none⟩)] _ (DocP S1 c _ v.2 (.int .i64 v.1)) from hv ▸ dnumber_any HC3.out.xa.ra.rd.cur)
  clear hv
  refine hide ?_
  go_wp2_with (go_at_call 154; (with_reducible refine HN.out.mono ?_); rintro e V4 ⟨rfl, hat, hon⟩; refine Hd.out ?_)
  have HC4 := hide (HC3.out.call hon hat)
  clear hat hon
  clear z0 z1 z2 z3 z4 z5 z6 z7 y0 y1 y2 y3 y4 y5 y6 y7 zl t0 t1 t2 t3 q0 q1 q2 q3 tl
  obtain ⟨z0, z1, z2, z3, z4, z5, z6, z7, y0, y1, y2, y3, y4, y5, y6, y7, zl⟩ := rowc8 HC4.out.zrow
  obtain ⟨t0, t1, t2, t3, q0, q1, q2, q3, tl⟩ := rowc4 HC4.out.xa.row
  have HFN := hide (DY4.fin84 HC4.out (.int .i64 0) (.int .i64 0) (.int .i64 0) (.int .i64 0) (.int .i64 0) (.int .i64 0) (.slice none 0 0) (.int .i64 0) (.int .i64 1) (.int .i64 0) (.int .i64 v.1) (.int .i64 0))
  have ne1 : ¬ I = Z := by have := HZI.out; omega
  have ne2 : ¬ Z = I := by have := HZI.out; omega
  have lt1 : I < Z := by have := HZI.out; omega
  refine hide ?_
  go_wp2_with fail
  refine bodyPost_ret (results_line4 (I := I) (Z := Z) Tryz.results106 _ _ rfl rfl HFN.out.zrow HFN.out.xa.row) rfl ?_
  rw [HE.out]
  exact ⟨_, _, _, none, 0, 0, ⟨rfl, rfl, rfl⟩, rfl, OwnL.nil_ _ _ _ _, HFN.out.xa.ra.rd.cur.moreS (fun b _ h => by rw [HS1.out] at h; exact h.1) HNS.out, HFN.out.xa.ra.only⟩
 | false =>
 cases hb4 : isC (.nm tStore) s with
 | true =>
  have HK1 := hide (fun (W : World) (hat : DocAt W S1 c s) => show Calls Tryz.prog 47 #[.pointer (some ⟨c, 0, none⟩), .string ⟨#[116, 114, 97, 112]⟩] W (DocP S1 c W s (.bool false)) from dKeyF hat hb1)
  have HK2 := hide (fun (W : World) (hat : DocAt W S1 c s) => show Calls Tryz.prog 47 #[.pointer (some ⟨c, 0, none⟩), .string ⟨#[114, 101, 116, 117, 114, 110]⟩] W (DocP S1 c W s (.bool false)) from dKeyF hat hb2)
  have HK3 := hide (fun (W : World) (hat : DocAt W S1 c s) => show Calls Tryz.prog 153 #[.pointer (some ⟨c, 0, none⟩), .string ⟨#[226, 134, 146]⟩] W (DocP S1 c W s (.bool false)) from dIsF hat hb3)
  have HK4 := hide (fun (W : World) (hat : DocAt W S1 c s) => show Calls Tryz.prog 47 #[.pointer (some ⟨c, 0, none⟩), .string ⟨#[115, 116, 111, 114, 101]⟩] W (DocP S1 c W (popC s) (.bool true)) from dKeyT hat hb4)
  obtain ⟨s1, hs1⟩ : ∃ s1, popC s = s1 := ⟨_, rfl⟩
  obtain ⟨a, ha⟩ : ∃ v, varC s1 = v := ⟨_, rfl⟩
  obtain ⟨m, hm⟩ : ∃ v, immC a.2 = v := ⟨_, rfl⟩
  obtain ⟨b, hb⟩ : ∃ v, varC m.2 = v := ⟨_, rfl⟩
  have HE := hide (show X = (Ln.ins ⟨12, 0, a.1, b.1, m.1, 0, [], 0⟩, b.2) from by rw [← HXQ.out]; unfold oneC; rw [if_neg (by rw [hb1]; decide), if_neg (by rw [hb2]; decide), if_neg (by rw [hb3]; decide), if_pos hb4, hs1, ← hb, ← hm, ← ha])
  rw [hs1] at HK4
  clear hs1
  clear hb1 hb2 hb3 hb4
  clear cur1
  go_enter Tryz.func106, Tryz.ntmps106
  go_upto_region 1 with fail
  try rw [hI]
  try rw [hW0]
  try rw [hZ]
  try rw [hW1]
  clear hW0 hW1 hZ hI
  obtain ⟨z0, z1, z2, z3, z4, z5, z6, z7, y0, y1, y2, y3, y4, y5, y6, y7, zl⟩ := rowc8 HT1.out.zrow
  obtain ⟨t0, t1, t2, t3, q0, q1, q2, q3, tl⟩ := rowc4 HT1.out.xa.row
  go_wp2_with (go_at_call 47; (with_reducible refine (HK1.out _ HT1.out.xa.ra.rd.cur).mono ?_); rintro e V1 ⟨rfl, hat, hon⟩; refine Hd.out ?_)
  have HC1 := hide (HT1.out.call hon hat)
  clear hat hon
  clear z0 z1 z2 z3 z4 z5 z6 z7 y0 y1 y2 y3 y4 y5 y6 y7 zl t0 t1 t2 t3 q0 q1 q2 q3 tl
  obtain ⟨z0, z1, z2, z3, z4, z5, z6, z7, y0, y1, y2, y3, y4, y5, y6, y7, zl⟩ := rowc8 HC1.out.zrow
  obtain ⟨t0, t1, t2, t3, q0, q1, q2, q3, tl⟩ := rowc4 HC1.out.xa.row
  refine hide ?_
  go_wp2_with (go_at_call 47; (with_reducible refine (HK2.out _ HC1.out.xa.ra.rd.cur).mono ?_); rintro e V2 ⟨rfl, hat, hon⟩; refine Hd.out ?_)
  have HC2 := hide (HC1.out.call hon hat)
  clear hat hon
  clear z0 z1 z2 z3 z4 z5 z6 z7 y0 y1 y2 y3 y4 y5 y6 y7 zl t0 t1 t2 t3 q0 q1 q2 q3 tl
  obtain ⟨z0, z1, z2, z3, z4, z5, z6, z7, y0, y1, y2, y3, y4, y5, y6, y7, zl⟩ := rowc8 HC2.out.zrow
  obtain ⟨t0, t1, t2, t3, q0, q1, q2, q3, tl⟩ := rowc4 HC2.out.xa.row
  refine hide ?_
  go_wp2_with (go_at_call 153; (with_reducible refine (HK3.out _ HC2.out.xa.ra.rd.cur).mono ?_); rintro e V3 ⟨rfl, hat, hon⟩; refine Hd.out ?_)
  have HC3 := hide (HC2.out.call hon hat)
  clear hat hon
  clear z0 z1 z2 z3 z4 z5 z6 z7 y0 y1 y2 y3 y4 y5 y6 y7 zl t0 t1 t2 t3 q0 q1 q2 q3 tl
  obtain ⟨z0, z1, z2, z3, z4, z5, z6, z7, y0, y1, y2, y3, y4, y5, y6, y7, zl⟩ := rowc8 HC3.out.zrow
  obtain ⟨t0, t1, t2, t3, q0, q1, q2, q3, tl⟩ := rowc4 HC3.out.xa.row
  refine hide ?_
  go_wp2_with (go_at_call 47; (with_reducible refine (HK4.out _ HC3.out.xa.ra.rd.cur).mono ?_); rintro e V4 ⟨rfl, hat, hon⟩; refine Hd.out ?_)
  have HC4 := hide (HC3.out.call hon hat)
  clear hat hon
  clear z0 z1 z2 z3 z4 z5 z6 z7 y0 y1 y2 y3 y4 y5 y6 y7 zl t0 t1 t2 t3 q0 q1 q2 q3 tl
  obtain ⟨z0, z1, z2, z3, z4, z5, z6, z7, y0, y1, y2, y3, y4, y5, y6, y7, zl⟩ := rowc8 HC4.out.zrow
  obtain ⟨t0, t1, t2, t3, q0, q1, q2, q3, tl⟩ := rowc4 HC4.out.xa.row
  have HA := hide (show Calls Tryz.prog 104 #[.pointer (some ⟨c, 0, none⟩)] _ (DocP S1 c _ a.2 (.int .i64 a.1)) from ha ▸ dvariable_any HC4.out.xa.ra.rd)
  clear ha
  refine hide ?_
  go_wp2_with (go_at_call 104; (with_reducible refine HA.out.mono ?_); rintro e V5 ⟨rfl, hat, hon⟩; refine Hd.out ?_)
  have HC5 := hide (HC4.out.call hon hat)
  clear hat hon
  clear z0 z1 z2 z3 z4 z5 z6 z7 y0 y1 y2 y3 y4 y5 y6 y7 zl t0 t1 t2 t3 q0 q1 q2 q3 tl
  obtain ⟨z0, z1, z2, z3, z4, z5, z6, z7, y0, y1, y2, y3, y4, y5, y6, y7, zl⟩ := rowc8 HC5.out.zrow
  obtain ⟨t0, t1, t2, t3, q0, q1, q2, q3, tl⟩ := rowc4 HC5.out.xa.row
  obtain ⟨M, hM⟩ : ∃ M, V5.heap.size = M := ⟨_, rfl⟩
  have HX := hide (show DW4 w (V5.alloc (.cells #[.int .i64 12, .int .i64 0, .int .i64 a.1, .int .i64 0, .int .i64 0, .int .i64 0, .slice none 0 0, .int .i64 0] 45)) R I Z M c S1 45 50 45 #[.int .i64 0, .int .i64 0, .int .i64 0, .int .i64 0, .int .i64 0, .int .i64 0, .slice none 0 0, .int .i64 0] #[.int .i64 0, .int .i64 0, .int .i64 0, .int .i64 0] #[.int .i64 12, .int .i64 0, .int .i64 a.1, .int .i64 0, .int .i64 0, .int .i64 0, .slice none 0 0, .int .i64 0] _ from by rw [← hM]; exact DW4.start HC5.out _ _)
  have HN := hide (show Calls Tryz.prog 105 #[.pointer (some ⟨c, 0, none⟩), .int .i64 (-1099511627776), .int .i64 1099511627776] _ (DocP S1 c _ m.2 (.int .i64 m.1)) from (by have h := dNum HX.out.ya.xa.ra.rd.cur (-1099511627776) 1099511627776; rw [show numC (-1099511627776) 1099511627776 a.2 = m from hm] at h; exact h))
  clear hm
  refine hide ?_
  go_wp2_with (go_at_call 105; (with_reducible refine HN.out.mono ?_); rintro e V6 ⟨rfl, hat, hon⟩; refine Hd.out ?_)
  have HC6 := hide (HX.out.call hon hat)
  clear hat hon
  clear z0 z1 z2 z3 z4 z5 z6 z7 y0 y1 y2 y3 y4 y5 y6 y7 zl t0 t1 t2 t3 q0 q1 q2 q3 tl
  obtain ⟨m0, m1, m2, m3, m4, m5, m6, m7, f0, f1, f2, f3, f4, f5, f6, f7, ml⟩ := rowc8 HC6.out.ya.xa.row
  obtain ⟨z0, z1, z2, z3, z4, z5, z6, z7, y0, y1, y2, y3, y4, y5, y6, y7, zl⟩ := rowc8 HC6.out.irow
  obtain ⟨t0, t1, t2, t3, q0, q1, q2, q3, tl⟩ := rowc4 HC6.out.ya.zrow
  obtain ⟨Y7, hY7⟩ : ∃ Y, V6.setCell ⟨M, 4, none⟩ (.int .i64 m.1) = Y := ⟨_, rfl⟩
  have HY7 := hide (show DW4 w Y7 R I Z M c S1 45 50 45 #[.int .i64 0, .int .i64 0, .int .i64 0, .int .i64 0, .int .i64 0, .int .i64 0, .slice none 0 0, .int .i64 0] #[.int .i64 0, .int .i64 0, .int .i64 0, .int .i64 0] #[.int .i64 12, .int .i64 0, .int .i64 a.1, .int .i64 0, .int .i64 m.1, .int .i64 0, .slice none 0 0, .int .i64 0] _ from hY7 ▸ HC6.out.set (j := 4) (x := .int .i64 m.1) rfl)
  have k7 := (rowc8 HC6.out.ya.xa.row).2.2.2.2.1
  have e7 := HC6.out.ya.xa.fz 4
  have l7 := HC6.out.ya.xa.ml
  clear z0 z1 z2 z3 z4 z5 z6 z7 y0 y1 y2 y3 y4 y5 y6 y7 zl t0 t1 t2 t3 q0 q1 q2 q3 tl m0 m1 m2 m3 m4 m5 m6 m7 f0 f1 f2 f3 f4 f5 f6 f7 ml
  obtain ⟨m0, m1, m2, m3, m4, m5, m6, m7, f0, f1, f2, f3, f4, f5, f6, f7, ml⟩ := rowc8 HY7.out.ya.xa.row
  obtain ⟨z0, z1, z2, z3, z4, z5, z6, z7, y0, y1, y2, y3, y4, y5, y6, y7, zl⟩ := rowc8 HY7.out.irow
  obtain ⟨t0, t1, t2, t3, q0, q1, q2, q3, tl⟩ := rowc4 HY7.out.ya.zrow
  have HB := hide (show Calls Tryz.prog 104 #[.pointer (some ⟨c, 0, none⟩)] _ (DocP S1 c _ b.2 (.int .i64 b.1)) from hb ▸ dvariable_any HY7.out.ya.xa.ra.rd)
  clear hb
  refine hide ?_
  go_wp2_with (go_at_call 104; (with_reducible refine HB.out.mono ?_); rintro e V8 ⟨rfl, hat, hon⟩; refine Hd.out ?_)
  have HC8 := hide (HY7.out.call hon hat)
  clear hat hon
  clear z0 z1 z2 z3 z4 z5 z6 z7 y0 y1 y2 y3 y4 y5 y6 y7 zl t0 t1 t2 t3 q0 q1 q2 q3 tl m0 m1 m2 m3 m4 m5 m6 m7 f0 f1 f2 f3 f4 f5 f6 f7 ml
  obtain ⟨m0, m1, m2, m3, m4, m5, m6, m7, f0, f1, f2, f3, f4, f5, f6, f7, ml⟩ := rowc8 HC8.out.ya.xa.row
  obtain ⟨z0, z1, z2, z3, z4, z5, z6, z7, y0, y1, y2, y3, y4, y5, y6, y7, zl⟩ := rowc8 HC8.out.irow
  obtain ⟨t0, t1, t2, t3, q0, q1, q2, q3, tl⟩ := rowc4 HC8.out.ya.zrow
  obtain ⟨Y9, hY9⟩ : ∃ Y, V8.setCell ⟨M, 3, none⟩ (.int .i64 b.1) = Y := ⟨_, rfl⟩
  have HY9 := hide (show DW4 w Y9 R I Z M c S1 45 50 45 #[.int .i64 0, .int .i64 0, .int .i64 0, .int .i64 0, .int .i64 0, .int .i64 0, .slice none 0 0, .int .i64 0] #[.int .i64 0, .int .i64 0, .int .i64 0, .int .i64 0] #[.int .i64 12, .int .i64 0, .int .i64 a.1, .int .i64 b.1, .int .i64 m.1, .int .i64 0, .slice none 0 0, .int .i64 0] _ from hY9 ▸ HC8.out.set (j := 3) (x := .int .i64 b.1) rfl)
  have k9 := (rowc8 HC8.out.ya.xa.row).2.2.2.1
  have e9 := HC8.out.ya.xa.fz 3
  have l9 := HC8.out.ya.xa.ml
  clear z0 z1 z2 z3 z4 z5 z6 z7 y0 y1 y2 y3 y4 y5 y6 y7 zl t0 t1 t2 t3 q0 q1 q2 q3 tl m0 m1 m2 m3 m4 m5 m6 m7 f0 f1 f2 f3 f4 f5 f6 f7 ml
  obtain ⟨m0, m1, m2, m3, m4, m5, m6, m7, f0, f1, f2, f3, f4, f5, f6, f7, ml⟩ := rowc8 HY9.out.ya.xa.row
  obtain ⟨z0, z1, z2, z3, z4, z5, z6, z7, y0, y1, y2, y3, y4, y5, y6, y7, zl⟩ := rowc8 HY9.out.irow
  obtain ⟨t0, t1, t2, t3, q0, q1, q2, q3, tl⟩ := rowc4 HY9.out.ya.zrow
  have HFN := hide (DY4.fin84 HY9.out.iz (.int .i64 12) (.int .i64 0) (.int .i64 a.1) (.int .i64 b.1) (.int .i64 m.1) (.int .i64 0) (.slice none 0 0) (.int .i64 0) (.int .i64 0) (.int .i64 0) (.int .i64 0) (.int .i64 0))
  have ne1 : ¬ I = Z := by have := HZI.out; omega
  have ne2 : ¬ Z = I := by have := HZI.out; omega
  have lt1 : I < Z := by have := HZI.out; omega
  refine hide ?_
  go_wp2_with fail
  refine bodyPost_ret (results_line4 (I := I) (Z := Z) Tryz.results106 _ _ rfl rfl HFN.out.zrow HFN.out.xa.row) rfl ?_
  rw [HE.out]
  exact ⟨_, _, _, none, 0, 0, ⟨rfl, rfl, rfl⟩, rfl, OwnL.nil_ _ _ _ _, HFN.out.xa.ra.rd.cur.moreS (fun b _ h => by rw [HS1.out] at h; exact h.1) HNS.out, HFN.out.xa.ra.only⟩
 | false =>
 cases hb5 : isC (.nm tCall) s with
 | true =>
  have HK1 := hide (fun (W : World) (hat : DocAt W S1 c s) => show Calls Tryz.prog 47 #[.pointer (some ⟨c, 0, none⟩), .string ⟨#[116, 114, 97, 112]⟩] W (DocP S1 c W s (.bool false)) from dKeyF hat hb1)
  have HK2 := hide (fun (W : World) (hat : DocAt W S1 c s) => show Calls Tryz.prog 47 #[.pointer (some ⟨c, 0, none⟩), .string ⟨#[114, 101, 116, 117, 114, 110]⟩] W (DocP S1 c W s (.bool false)) from dKeyF hat hb2)
  have HK3 := hide (fun (W : World) (hat : DocAt W S1 c s) => show Calls Tryz.prog 153 #[.pointer (some ⟨c, 0, none⟩), .string ⟨#[226, 134, 146]⟩] W (DocP S1 c W s (.bool false)) from dIsF hat hb3)
  have HK4 := hide (fun (W : World) (hat : DocAt W S1 c s) => show Calls Tryz.prog 47 #[.pointer (some ⟨c, 0, none⟩), .string ⟨#[115, 116, 111, 114, 101]⟩] W (DocP S1 c W s (.bool false)) from dKeyF hat hb4)
  have HK5 := hide (fun (W : World) (hat : DocAt W S1 c s) => show Calls Tryz.prog 47 #[.pointer (some ⟨c, 0, none⟩), .string ⟨#[99, 97, 108, 108]⟩] W (DocP S1 c W (popC s) (.bool true)) from dKeyT hat hb5)
  obtain ⟨s1, hs1⟩ : ∃ s1, popC s = s1 := ⟨_, rfl⟩
  obtain ⟨a, ha⟩ : ∃ v, numC 0 99 s1 = v := ⟨_, rfl⟩
  obtain ⟨m, hm⟩ : ∃ v, someC true false ([], a.2) = v := ⟨_, rfl⟩
  have HE := hide (show X = (Ln.ins ⟨13, 0, 0, 0, 0, a.1, m.1, 0⟩, m.2) from by rw [← HXQ.out]; unfold oneC; rw [if_neg (by rw [hb1]; decide), if_neg (by rw [hb2]; decide), if_neg (by rw [hb3]; decide), if_neg (by rw [hb4]; decide), if_pos hb5, hs1, ← hm, ← ha]; rfl)
  rw [hs1] at HK5
  clear hs1
  clear hb1 hb2 hb3 hb4 hb5
  clear cur1
  go_enter Tryz.func106, Tryz.ntmps106
  go_upto_region 1 with fail
  try rw [hI]
  try rw [hW0]
  try rw [hZ]
  try rw [hW1]
  clear hW0 hW1 hZ hI
  obtain ⟨z0, z1, z2, z3, z4, z5, z6, z7, y0, y1, y2, y3, y4, y5, y6, y7, zl⟩ := rowc8 HT1.out.zrow
  obtain ⟨t0, t1, t2, t3, q0, q1, q2, q3, tl⟩ := rowc4 HT1.out.xa.row
  go_wp2_with (go_at_call 47; (with_reducible refine (HK1.out _ HT1.out.xa.ra.rd.cur).mono ?_); rintro e V1 ⟨rfl, hat, hon⟩; refine Hd.out ?_)
  have HC1 := hide (HT1.out.call hon hat)
  clear hat hon
  clear z0 z1 z2 z3 z4 z5 z6 z7 y0 y1 y2 y3 y4 y5 y6 y7 zl t0 t1 t2 t3 q0 q1 q2 q3 tl
  obtain ⟨z0, z1, z2, z3, z4, z5, z6, z7, y0, y1, y2, y3, y4, y5, y6, y7, zl⟩ := rowc8 HC1.out.zrow
  obtain ⟨t0, t1, t2, t3, q0, q1, q2, q3, tl⟩ := rowc4 HC1.out.xa.row
  refine hide ?_
  go_wp2_with (go_at_call 47; (with_reducible refine (HK2.out _ HC1.out.xa.ra.rd.cur).mono ?_); rintro e V2 ⟨rfl, hat, hon⟩; refine Hd.out ?_)
  have HC2 := hide (HC1.out.call hon hat)
  clear hat hon
  clear z0 z1 z2 z3 z4 z5 z6 z7 y0 y1 y2 y3 y4 y5 y6 y7 zl t0 t1 t2 t3 q0 q1 q2 q3 tl
  obtain ⟨z0, z1, z2, z3, z4, z5, z6, z7, y0, y1, y2, y3, y4, y5, y6, y7, zl⟩ := rowc8 HC2.out.zrow
  obtain ⟨t0, t1, t2, t3, q0, q1, q2, q3, tl⟩ := rowc4 HC2.out.xa.row
  refine hide ?_
  go_wp2_with (go_at_call 153; (with_reducible refine (HK3.out _ HC2.out.xa.ra.rd.cur).mono ?_); rintro e V3 ⟨rfl, hat, hon⟩; refine Hd.out ?_)
  have HC3 := hide (HC2.out.call hon hat)
  clear hat hon
  clear z0 z1 z2 z3 z4 z5 z6 z7 y0 y1 y2 y3 y4 y5 y6 y7 zl t0 t1 t2 t3 q0 q1 q2 q3 tl
  obtain ⟨z0, z1, z2, z3, z4, z5, z6, z7, y0, y1, y2, y3, y4, y5, y6, y7, zl⟩ := rowc8 HC3.out.zrow
  obtain ⟨t0, t1, t2, t3, q0, q1, q2, q3, tl⟩ := rowc4 HC3.out.xa.row
  refine hide ?_
  go_wp2_with (go_at_call 47; (with_reducible refine (HK4.out _ HC3.out.xa.ra.rd.cur).mono ?_); rintro e V4 ⟨rfl, hat, hon⟩; refine Hd.out ?_)
  have HC4 := hide (HC3.out.call hon hat)
  clear hat hon
  clear z0 z1 z2 z3 z4 z5 z6 z7 y0 y1 y2 y3 y4 y5 y6 y7 zl t0 t1 t2 t3 q0 q1 q2 q3 tl
  obtain ⟨z0, z1, z2, z3, z4, z5, z6, z7, y0, y1, y2, y3, y4, y5, y6, y7, zl⟩ := rowc8 HC4.out.zrow
  obtain ⟨t0, t1, t2, t3, q0, q1, q2, q3, tl⟩ := rowc4 HC4.out.xa.row
  refine hide ?_
  go_wp2_with (go_at_call 47; (with_reducible refine (HK5.out _ HC4.out.xa.ra.rd.cur).mono ?_); rintro e V5 ⟨rfl, hat, hon⟩; refine Hd.out ?_)
  have HC5 := hide (HC4.out.call hon hat)
  clear hat hon
  clear z0 z1 z2 z3 z4 z5 z6 z7 y0 y1 y2 y3 y4 y5 y6 y7 zl t0 t1 t2 t3 q0 q1 q2 q3 tl
  obtain ⟨z0, z1, z2, z3, z4, z5, z6, z7, y0, y1, y2, y3, y4, y5, y6, y7, zl⟩ := rowc8 HC5.out.zrow
  obtain ⟨t0, t1, t2, t3, q0, q1, q2, q3, tl⟩ := rowc4 HC5.out.xa.row
  have HA := hide (show Calls Tryz.prog 105 #[.pointer (some ⟨c, 0, none⟩), .int .i64 0, .int .i64 99] _ (DocP S1 c _ a.2 (.int .i64 a.1)) from ha ▸ dNum HC5.out.xa.ra.rd.cur 0 99)
  clear ha
  refine hide ?_
  go_wp2_with (go_at_call 105; (with_reducible refine HA.out.mono ?_); rintro e V6 ⟨rfl, hat, hon⟩; refine Hd.out ?_)
  have HC6 := hide (HC5.out.call hon hat)
  clear hat hon
  clear z0 z1 z2 z3 z4 z5 z6 z7 y0 y1 y2 y3 y4 y5 y6 y7 zl t0 t1 t2 t3 q0 q1 q2 q3 tl
  obtain ⟨z0, z1, z2, z3, z4, z5, z6, z7, y0, y1, y2, y3, y4, y5, y6, y7, zl⟩ := rowc8 HC6.out.zrow
  obtain ⟨t0, t1, t2, t3, q0, q1, q2, q3, tl⟩ := rowc4 HC6.out.xa.row
  obtain ⟨M, hM⟩ : ∃ M, V6.heap.size = M := ⟨_, rfl⟩
  have HX := hide (show DW4 w (V6.alloc (.cells #[.int .i64 13, .int .i64 0, .int .i64 0, .int .i64 0, .int .i64 0, .int .i64 a.1, .slice none 0 0, .int .i64 0] 45)) R I Z M c S1 45 50 45 #[.int .i64 0, .int .i64 0, .int .i64 0, .int .i64 0, .int .i64 0, .int .i64 0, .slice none 0 0, .int .i64 0] #[.int .i64 0, .int .i64 0, .int .i64 0, .int .i64 0] #[.int .i64 13, .int .i64 0, .int .i64 0, .int .i64 0, .int .i64 0, .int .i64 a.1, .slice none 0 0, .int .i64 0] _ from by rw [← hM]; exact DW4.start HC6.out _ _)
  have HN := hide (show Calls Tryz.prog 49 #[.pointer (some ⟨c, 0, none⟩), .bool false] _ (DListP S1 c _ m) from hm ▸ dsome_any _ S1 c a.2 false HX.out.ya.xa.ra.rd)
  clear hm
  refine hide ?_
  go_wp2_with (go_at_call 49; (with_reducible refine HN.out.mono ?_); rintro e V7 ⟨A, n, k, rfl, ho, hat, hon⟩; refine Hd.out ?_)
  have HC7 := hide (HX.out.call hon hat)
  clear hat hon
  have HO := hide (show OwnL V7 (M + 1) 3 (fun _ => False) (.slice A n k) m.1 from ho.lower28 (by rw [World.size_alloc]; omega))
  clear ho
  clear z0 z1 z2 z3 z4 z5 z6 z7 y0 y1 y2 y3 y4 y5 y6 y7 zl t0 t1 t2 t3 q0 q1 q2 q3 tl
  obtain ⟨m0, m1, m2, m3, m4, m5, m6, m7, f0, f1, f2, f3, f4, f5, f6, f7, ml⟩ := rowc8 HC7.out.ya.xa.row
  obtain ⟨z0, z1, z2, z3, z4, z5, z6, z7, y0, y1, y2, y3, y4, y5, y6, y7, zl⟩ := rowc8 HC7.out.irow
  obtain ⟨t0, t1, t2, t3, q0, q1, q2, q3, tl⟩ := rowc4 HC7.out.ya.zrow
  obtain ⟨Y8, hY8⟩ : ∃ Y, V7.setCell ⟨M, 6, none⟩ (.slice A n k) = Y := ⟨_, rfl⟩
  have HY8 := hide (show DW4 w Y8 R I Z M c S1 45 50 45 #[.int .i64 0, .int .i64 0, .int .i64 0, .int .i64 0, .int .i64 0, .int .i64 0, .slice none 0 0, .int .i64 0] #[.int .i64 0, .int .i64 0, .int .i64 0, .int .i64 0] #[.int .i64 13, .int .i64 0, .int .i64 0, .int .i64 0, .int .i64 0, .int .i64 a.1, .slice A n k, .int .i64 0] _ from hY8 ▸ HC7.out.set (j := 6) (x := .slice A n k) rfl)
  have k8 := (rowc8 HC7.out.ya.xa.row).2.2.2.2.2.2.1
  have e8 := HC7.out.ya.xa.fz 6
  have l8 := HC7.out.ya.xa.ml
  clear z0 z1 z2 z3 z4 z5 z6 z7 y0 y1 y2 y3 y4 y5 y6 y7 zl t0 t1 t2 t3 q0 q1 q2 q3 tl m0 m1 m2 m3 m4 m5 m6 m7 f0 f1 f2 f3 f4 f5 f6 f7 ml
  obtain ⟨m0, m1, m2, m3, m4, m5, m6, m7, f0, f1, f2, f3, f4, f5, f6, f7, ml⟩ := rowc8 HY8.out.ya.xa.row
  obtain ⟨z0, z1, z2, z3, z4, z5, z6, z7, y0, y1, y2, y3, y4, y5, y6, y7, zl⟩ := rowc8 HY8.out.irow
  obtain ⟨t0, t1, t2, t3, q0, q1, q2, q3, tl⟩ := rowc4 HY8.out.ya.zrow
  have HFN := hide (DY4.fin84 HY8.out.iz (.int .i64 13) (.int .i64 0) (.int .i64 0) (.int .i64 0) (.int .i64 0) (.int .i64 a.1) (.slice A n k) (.int .i64 0) (.int .i64 0) (.int .i64 0) (.int .i64 0) (.int .i64 0))
  have HOF := hide ((own_set84 (hY8 ▸ own_set1 HO.out (Nat.lt_succ_self M)) (I := I) (Z := Z) (by have := HX.out.i2; have := HX.out.ya.z2; omega) (by have := HX.out.ya.z2; omega) (.int .i64 13) (.int .i64 0) (.int .i64 0) (.int .i64 0) (.int .i64 0) (.int .i64 a.1) (.slice A n k) (.int .i64 0) (.int .i64 0) (.int .i64 0) (.int .i64 0) (.int .i64 0)).lower28 (b' := w.heap.size) (by have := HX.out.i2; have := HX.out.ya.z2; have := HIR.out; omega))
  have ne1 : ¬ I = Z := by have := HZI.out; omega
  have ne2 : ¬ Z = I := by have := HZI.out; omega
  have lt1 : I < Z := by have := HZI.out; omega
  refine hide ?_
  go_wp2_with fail
  refine bodyPost_ret (results_line4 (I := I) (Z := Z) Tryz.results106 _ _ rfl rfl HFN.out.zrow HFN.out.xa.row) rfl ?_
  rw [HE.out]
  exact ⟨_, _, _, A, n, k, ⟨rfl, rfl, rfl⟩, rfl, HOF.out, HFN.out.xa.ra.rd.cur.moreS (fun b _ h => by rw [HS1.out] at h; exact h.1) HNS.out, HFN.out.xa.ra.only⟩
 | false =>
 obtain ⟨v, hv⟩ : ∃ v, varC s = v := ⟨_, rfl⟩
 cases hb6 : isC (.mk tArrow) v.2 with
 | true =>
  have HK1 := hide (fun (W : World) (hat : DocAt W S1 c s) => show Calls Tryz.prog 47 #[.pointer (some ⟨c, 0, none⟩), .string ⟨#[116, 114, 97, 112]⟩] W (DocP S1 c W s (.bool false)) from dKeyF hat hb1)
  have HK2 := hide (fun (W : World) (hat : DocAt W S1 c s) => show Calls Tryz.prog 47 #[.pointer (some ⟨c, 0, none⟩), .string ⟨#[114, 101, 116, 117, 114, 110]⟩] W (DocP S1 c W s (.bool false)) from dKeyF hat hb2)
  have HK3 := hide (fun (W : World) (hat : DocAt W S1 c s) => show Calls Tryz.prog 153 #[.pointer (some ⟨c, 0, none⟩), .string ⟨#[226, 134, 146]⟩] W (DocP S1 c W s (.bool false)) from dIsF hat hb3)
  have HK4 := hide (fun (W : World) (hat : DocAt W S1 c s) => show Calls Tryz.prog 47 #[.pointer (some ⟨c, 0, none⟩), .string ⟨#[115, 116, 111, 114, 101]⟩] W (DocP S1 c W s (.bool false)) from dKeyF hat hb4)
  have HK5 := hide (fun (W : World) (hat : DocAt W S1 c s) => show Calls Tryz.prog 47 #[.pointer (some ⟨c, 0, none⟩), .string ⟨#[99, 97, 108, 108]⟩] W (DocP S1 c W s (.bool false)) from dKeyF hat hb5)
  obtain ⟨s1, hs1⟩ : ∃ s1, popC v.2 = s1 := ⟨_, rfl⟩
  obtain ⟨a, ha⟩ : ∃ v, numC 0 63 s1 = v := ⟨_, rfl⟩
  obtain ⟨m, hm⟩ : ∃ v, numC 0 63 a.2 = v := ⟨_, rfl⟩
  have HE := hide (show X = (Ln.term ⟨2, v.1, a.1, m.1⟩, m.2) from by rw [← HXQ.out]; unfold oneC; rw [if_neg (by rw [hb1]; decide), if_neg (by rw [hb2]; decide), if_neg (by rw [hb3]; decide), if_neg (by rw [hb4]; decide), if_neg (by rw [hb5]; decide), hv]; simp only; rw [if_pos hb6, hs1, ← hm, ← ha]; rfl)
  have HI6 := hide (fun (W : World) (hat : DocAt W S1 c v.2) => show Calls Tryz.prog 153 #[.pointer (some ⟨c, 0, none⟩), .string ⟨#[226, 134, 146]⟩] W (DocP S1 c W (popC v.2) (.bool true)) from dIsT hat hb6)
  rw [hs1] at HI6
  clear hs1 hb6
  clear hb1 hb2 hb3 hb4 hb5
  clear cur1
  go_enter Tryz.func106, Tryz.ntmps106
  go_upto_region 1 with fail
  try rw [hI]
  try rw [hW0]
  try rw [hZ]
  try rw [hW1]
  clear hW0 hW1 hZ hI
  obtain ⟨z0, z1, z2, z3, z4, z5, z6, z7, y0, y1, y2, y3, y4, y5, y6, y7, zl⟩ := rowc8 HT1.out.zrow
  obtain ⟨t0, t1, t2, t3, q0, q1, q2, q3, tl⟩ := rowc4 HT1.out.xa.row
  go_wp2_with (go_at_call 47; (with_reducible refine (HK1.out _ HT1.out.xa.ra.rd.cur).mono ?_); rintro e V1 ⟨rfl, hat, hon⟩; refine Hd.out ?_)
  have HC1 := hide (HT1.out.call hon hat)
  clear hat hon
  clear z0 z1 z2 z3 z4 z5 z6 z7 y0 y1 y2 y3 y4 y5 y6 y7 zl t0 t1 t2 t3 q0 q1 q2 q3 tl
  obtain ⟨z0, z1, z2, z3, z4, z5, z6, z7, y0, y1, y2, y3, y4, y5, y6, y7, zl⟩ := rowc8 HC1.out.zrow
  obtain ⟨t0, t1, t2, t3, q0, q1, q2, q3, tl⟩ := rowc4 HC1.out.xa.row
  refine hide ?_
  go_wp2_with (go_at_call 47; (with_reducible refine (HK2.out _ HC1.out.xa.ra.rd.cur).mono ?_); rintro e V2 ⟨rfl, hat, hon⟩; refine Hd.out ?_)
  have HC2 := hide (HC1.out.call hon hat)
  clear hat hon
  clear z0 z1 z2 z3 z4 z5 z6 z7 y0 y1 y2 y3 y4 y5 y6 y7 zl t0 t1 t2 t3 q0 q1 q2 q3 tl
  obtain ⟨z0, z1, z2, z3, z4, z5, z6, z7, y0, y1, y2, y3, y4, y5, y6, y7, zl⟩ := rowc8 HC2.out.zrow
  obtain ⟨t0, t1, t2, t3, q0, q1, q2, q3, tl⟩ := rowc4 HC2.out.xa.row
  refine hide ?_
  go_wp2_with (go_at_call 153; (with_reducible refine (HK3.out _ HC2.out.xa.ra.rd.cur).mono ?_); rintro e V3 ⟨rfl, hat, hon⟩; refine Hd.out ?_)
  have HC3 := hide (HC2.out.call hon hat)
  clear hat hon
  clear z0 z1 z2 z3 z4 z5 z6 z7 y0 y1 y2 y3 y4 y5 y6 y7 zl t0 t1 t2 t3 q0 q1 q2 q3 tl
  obtain ⟨z0, z1, z2, z3, z4, z5, z6, z7, y0, y1, y2, y3, y4, y5, y6, y7, zl⟩ := rowc8 HC3.out.zrow
  obtain ⟨t0, t1, t2, t3, q0, q1, q2, q3, tl⟩ := rowc4 HC3.out.xa.row
  refine hide ?_
  go_wp2_with (go_at_call 47; (with_reducible refine (HK4.out _ HC3.out.xa.ra.rd.cur).mono ?_); rintro e V4 ⟨rfl, hat, hon⟩; refine Hd.out ?_)
  have HC4 := hide (HC3.out.call hon hat)
  clear hat hon
  clear z0 z1 z2 z3 z4 z5 z6 z7 y0 y1 y2 y3 y4 y5 y6 y7 zl t0 t1 t2 t3 q0 q1 q2 q3 tl
  obtain ⟨z0, z1, z2, z3, z4, z5, z6, z7, y0, y1, y2, y3, y4, y5, y6, y7, zl⟩ := rowc8 HC4.out.zrow
  obtain ⟨t0, t1, t2, t3, q0, q1, q2, q3, tl⟩ := rowc4 HC4.out.xa.row
  refine hide ?_
  go_wp2_with (go_at_call 47; (with_reducible refine (HK5.out _ HC4.out.xa.ra.rd.cur).mono ?_); rintro e V5 ⟨rfl, hat, hon⟩; refine Hd.out ?_)
  have HC5 := hide (HC4.out.call hon hat)
  clear hat hon
  clear z0 z1 z2 z3 z4 z5 z6 z7 y0 y1 y2 y3 y4 y5 y6 y7 zl t0 t1 t2 t3 q0 q1 q2 q3 tl
  obtain ⟨z0, z1, z2, z3, z4, z5, z6, z7, y0, y1, y2, y3, y4, y5, y6, y7, zl⟩ := rowc8 HC5.out.zrow
  obtain ⟨t0, t1, t2, t3, q0, q1, q2, q3, tl⟩ := rowc4 HC5.out.xa.row
  have HA := hide (show Calls Tryz.prog 104 #[.pointer (some ⟨c, 0, none⟩)] _ (DocP S1 c _ v.2 (.int .i64 v.1)) from hv ▸ dvariable_any HC5.out.xa.ra.rd)
  clear hv
  refine hide ?_
  go_wp2_with (go_at_call 104; (with_reducible refine HA.out.mono ?_); rintro e V6 ⟨rfl, hat, hon⟩; refine Hd.out ?_)
  have HC6 := hide (HC5.out.call hon hat)
  clear hat hon
  clear z0 z1 z2 z3 z4 z5 z6 z7 y0 y1 y2 y3 y4 y5 y6 y7 zl t0 t1 t2 t3 q0 q1 q2 q3 tl
  obtain ⟨z0, z1, z2, z3, z4, z5, z6, z7, y0, y1, y2, y3, y4, y5, y6, y7, zl⟩ := rowc8 HC6.out.zrow
  obtain ⟨t0, t1, t2, t3, q0, q1, q2, q3, tl⟩ := rowc4 HC6.out.xa.row
  refine hide ?_
  go_wp2_with (go_at_call 153; (with_reducible refine (HI6.out _ HC6.out.xa.ra.rd.cur).mono ?_); rintro e V7 ⟨rfl, hat, hon⟩; refine Hd.out ?_)
  have HC7 := hide (HC6.out.call hon hat)
  clear hat hon
  clear z0 z1 z2 z3 z4 z5 z6 z7 y0 y1 y2 y3 y4 y5 y6 y7 zl t0 t1 t2 t3 q0 q1 q2 q3 tl
  obtain ⟨z0, z1, z2, z3, z4, z5, z6, z7, y0, y1, y2, y3, y4, y5, y6, y7, zl⟩ := rowc8 HC7.out.zrow
  obtain ⟨t0, t1, t2, t3, q0, q1, q2, q3, tl⟩ := rowc4 HC7.out.xa.row
  obtain ⟨M, hM⟩ : ∃ M, V7.heap.size = M := ⟨_, rfl⟩
  have HX := hide (show DW4 w (V7.alloc (.cells #[.int .i64 2, .int .i64 v.1, .int .i64 0, .int .i64 0] 50)) R I Z M c S1 45 50 50 #[.int .i64 0, .int .i64 0, .int .i64 0, .int .i64 0, .int .i64 0, .int .i64 0, .slice none 0 0, .int .i64 0] #[.int .i64 0, .int .i64 0, .int .i64 0, .int .i64 0] #[.int .i64 2, .int .i64 v.1, .int .i64 0, .int .i64 0] _ from by rw [← hM]; exact DW4.start HC7.out _ _)
  have HN := hide (show Calls Tryz.prog 154 #[.pointer (some ⟨c, 0, none⟩)] _ (DocP S1 c _ a.2 (.int .i64 a.1)) from ha ▸ dnumber_any HX.out.ya.xa.ra.rd.cur)
  clear ha
  refine hide ?_
  go_wp2_with (go_at_call 154; (with_reducible refine HN.out.mono ?_); rintro e V8 ⟨rfl, hat, hon⟩; refine Hd.out ?_)
  have HC8 := hide (HX.out.call hon hat)
  clear hat hon
  clear z0 z1 z2 z3 z4 z5 z6 z7 y0 y1 y2 y3 y4 y5 y6 y7 zl t0 t1 t2 t3 q0 q1 q2 q3 tl
  obtain ⟨m0, m1, m2, m3, f0, f1, f2, f3, ml⟩ := rowc4 HC8.out.ya.xa.row
  obtain ⟨z0, z1, z2, z3, z4, z5, z6, z7, y0, y1, y2, y3, y4, y5, y6, y7, zl⟩ := rowc8 HC8.out.irow
  obtain ⟨t0, t1, t2, t3, q0, q1, q2, q3, tl⟩ := rowc4 HC8.out.ya.zrow
  obtain ⟨Y9, hY9⟩ : ∃ Y, V8.setCell ⟨M, 2, none⟩ (.int .i64 a.1) = Y := ⟨_, rfl⟩
  have HY9 := hide (show DW4 w Y9 R I Z M c S1 45 50 50 #[.int .i64 0, .int .i64 0, .int .i64 0, .int .i64 0, .int .i64 0, .int .i64 0, .slice none 0 0, .int .i64 0] #[.int .i64 0, .int .i64 0, .int .i64 0, .int .i64 0] #[.int .i64 2, .int .i64 v.1, .int .i64 a.1, .int .i64 0] _ from hY9 ▸ HC8.out.set (j := 2) (x := .int .i64 a.1) rfl)
  have k9 := (rowc4 HC8.out.ya.xa.row).2.2.1
  have e9 := HC8.out.ya.xa.fz 2
  have l9 := HC8.out.ya.xa.ml
  clear z0 z1 z2 z3 z4 z5 z6 z7 y0 y1 y2 y3 y4 y5 y6 y7 zl t0 t1 t2 t3 q0 q1 q2 q3 tl m0 m1 m2 m3 f0 f1 f2 f3 ml
  obtain ⟨m0, m1, m2, m3, f0, f1, f2, f3, ml⟩ := rowc4 HY9.out.ya.xa.row
  obtain ⟨z0, z1, z2, z3, z4, z5, z6, z7, y0, y1, y2, y3, y4, y5, y6, y7, zl⟩ := rowc8 HY9.out.irow
  obtain ⟨t0, t1, t2, t3, q0, q1, q2, q3, tl⟩ := rowc4 HY9.out.ya.zrow
  have HB := hide (show Calls Tryz.prog 154 #[.pointer (some ⟨c, 0, none⟩)] _ (DocP S1 c _ m.2 (.int .i64 m.1)) from hm ▸ dnumber_any HY9.out.ya.xa.ra.rd.cur)
  clear hm
  refine hide ?_
  go_wp2_with (go_at_call 154; (with_reducible refine HB.out.mono ?_); rintro e V10 ⟨rfl, hat, hon⟩; refine Hd.out ?_)
  have HC10 := hide (HY9.out.call hon hat)
  clear hat hon
  clear z0 z1 z2 z3 z4 z5 z6 z7 y0 y1 y2 y3 y4 y5 y6 y7 zl t0 t1 t2 t3 q0 q1 q2 q3 tl m0 m1 m2 m3 f0 f1 f2 f3 ml
  obtain ⟨m0, m1, m2, m3, f0, f1, f2, f3, ml⟩ := rowc4 HC10.out.ya.xa.row
  obtain ⟨z0, z1, z2, z3, z4, z5, z6, z7, y0, y1, y2, y3, y4, y5, y6, y7, zl⟩ := rowc8 HC10.out.irow
  obtain ⟨t0, t1, t2, t3, q0, q1, q2, q3, tl⟩ := rowc4 HC10.out.ya.zrow
  obtain ⟨Y11, hY11⟩ : ∃ Y, V10.setCell ⟨M, 3, none⟩ (.int .i64 m.1) = Y := ⟨_, rfl⟩
  have HY11 := hide (show DW4 w Y11 R I Z M c S1 45 50 50 #[.int .i64 0, .int .i64 0, .int .i64 0, .int .i64 0, .int .i64 0, .int .i64 0, .slice none 0 0, .int .i64 0] #[.int .i64 0, .int .i64 0, .int .i64 0, .int .i64 0] #[.int .i64 2, .int .i64 v.1, .int .i64 a.1, .int .i64 m.1] _ from hY11 ▸ HC10.out.set (j := 3) (x := .int .i64 m.1) rfl)
  have k11 := (rowc4 HC10.out.ya.xa.row).2.2.2.1
  have e11 := HC10.out.ya.xa.fz 3
  have l11 := HC10.out.ya.xa.ml
  clear z0 z1 z2 z3 z4 z5 z6 z7 y0 y1 y2 y3 y4 y5 y6 y7 zl t0 t1 t2 t3 q0 q1 q2 q3 tl m0 m1 m2 m3 f0 f1 f2 f3 ml
  obtain ⟨m0, m1, m2, m3, f0, f1, f2, f3, ml⟩ := rowc4 HY11.out.ya.xa.row
  obtain ⟨z0, z1, z2, z3, z4, z5, z6, z7, y0, y1, y2, y3, y4, y5, y6, y7, zl⟩ := rowc8 HY11.out.irow
  obtain ⟨t0, t1, t2, t3, q0, q1, q2, q3, tl⟩ := rowc4 HY11.out.ya.zrow
  have HFN := hide (DY4.fin84 HY11.out.iz (.int .i64 0) (.int .i64 0) (.int .i64 0) (.int .i64 0) (.int .i64 0) (.int .i64 0) (.slice none 0 0) (.int .i64 0) (.int .i64 2) (.int .i64 v.1) (.int .i64 a.1) (.int .i64 m.1))
  have ne1 : ¬ I = Z := by have := HZI.out; omega
  have ne2 : ¬ Z = I := by have := HZI.out; omega
  have lt1 : I < Z := by have := HZI.out; omega
  have ne3 : ¬ I = M := by have := HX.out.i2; have := HX.out.ya.z2; omega
  have ne4 : ¬ M = I := by have := HX.out.i2; have := HX.out.ya.z2; omega
  have ne5 : ¬ Z = M := by have := HX.out.ya.z2; omega
  have ne6 : ¬ M = Z := by have := HX.out.ya.z2; omega
  refine hide ?_
  go_wp2_with fail
  go_region
  have HFD := hide (HFN.out.drew4)
  go_wp2_with fail
  refine bodyPost_ret (results_line4 (I := I) (Z := Z) Tryz.results106 _ _ rfl rfl HFD.out.zrow HFD.out.xa.row) rfl ?_
  rw [HE.out]
  exact ⟨_, _, _, none, 0, 0, ⟨rfl, rfl, rfl⟩, rfl, OwnL.nil_ _ _ _ _, HFD.out.xa.ra.rd.cur.moreS (fun b _ h => by rw [HS1.out] at h; exact h.1) HNS.out, HFD.out.xa.ra.only⟩
 | false =>
  have HK1 := hide (fun (W : World) (hat : DocAt W S1 c s) => show Calls Tryz.prog 47 #[.pointer (some ⟨c, 0, none⟩), .string ⟨#[116, 114, 97, 112]⟩] W (DocP S1 c W s (.bool false)) from dKeyF hat hb1)
  have HK2 := hide (fun (W : World) (hat : DocAt W S1 c s) => show Calls Tryz.prog 47 #[.pointer (some ⟨c, 0, none⟩), .string ⟨#[114, 101, 116, 117, 114, 110]⟩] W (DocP S1 c W s (.bool false)) from dKeyF hat hb2)
  have HK3 := hide (fun (W : World) (hat : DocAt W S1 c s) => show Calls Tryz.prog 153 #[.pointer (some ⟨c, 0, none⟩), .string ⟨#[226, 134, 146]⟩] W (DocP S1 c W s (.bool false)) from dIsF hat hb3)
  have HK4 := hide (fun (W : World) (hat : DocAt W S1 c s) => show Calls Tryz.prog 47 #[.pointer (some ⟨c, 0, none⟩), .string ⟨#[115, 116, 111, 114, 101]⟩] W (DocP S1 c W s (.bool false)) from dKeyF hat hb4)
  have HK5 := hide (fun (W : World) (hat : DocAt W S1 c s) => show Calls Tryz.prog 47 #[.pointer (some ⟨c, 0, none⟩), .string ⟨#[99, 97, 108, 108]⟩] W (DocP S1 c W s (.bool false)) from dKeyF hat hb5)
  obtain ⟨s3, hs3⟩ : ∃ s3, markC [tLeft] v.2 = s3 := ⟨_, rfl⟩
  obtain ⟨r, hr⟩ : ∃ r, rightC true v.1 s3 = r := ⟨_, rfl⟩
  have HE := hide (show X = (Ln.ins r.1, r.2) from by rw [← HXQ.out]; unfold oneC; rw [if_neg (by rw [hb1]; decide), if_neg (by rw [hb2]; decide), if_neg (by rw [hb3]; decide), if_neg (by rw [hb4]; decide), if_neg (by rw [hb5]; decide), hv]; simp only; rw [if_neg (by rw [hb6]; decide), hs3, ← hr]; rfl)
  have HI6 := hide (fun (W : World) (hat : DocAt W S1 c v.2) => show Calls Tryz.prog 153 #[.pointer (some ⟨c, 0, none⟩), .string ⟨#[226, 134, 146]⟩] W (DocP S1 c W v.2 (.bool false)) from dIsF hat hb6)
  clear hb6
  clear hb1 hb2 hb3 hb4 hb5
  clear cur1
  go_enter Tryz.func106, Tryz.ntmps106
  go_upto_region 1 with fail
  try rw [hI]
  try rw [hW0]
  try rw [hZ]
  try rw [hW1]
  clear hW0 hW1 hZ hI
  obtain ⟨z0, z1, z2, z3, z4, z5, z6, z7, y0, y1, y2, y3, y4, y5, y6, y7, zl⟩ := rowc8 HT1.out.zrow
  obtain ⟨t0, t1, t2, t3, q0, q1, q2, q3, tl⟩ := rowc4 HT1.out.xa.row
  go_wp2_with (go_at_call 47; (with_reducible refine (HK1.out _ HT1.out.xa.ra.rd.cur).mono ?_); rintro e V1 ⟨rfl, hat, hon⟩; refine Hd.out ?_)
  have HC1 := hide (HT1.out.call hon hat)
  clear hat hon
  clear z0 z1 z2 z3 z4 z5 z6 z7 y0 y1 y2 y3 y4 y5 y6 y7 zl t0 t1 t2 t3 q0 q1 q2 q3 tl
  obtain ⟨z0, z1, z2, z3, z4, z5, z6, z7, y0, y1, y2, y3, y4, y5, y6, y7, zl⟩ := rowc8 HC1.out.zrow
  obtain ⟨t0, t1, t2, t3, q0, q1, q2, q3, tl⟩ := rowc4 HC1.out.xa.row
  refine hide ?_
  go_wp2_with (go_at_call 47; (with_reducible refine (HK2.out _ HC1.out.xa.ra.rd.cur).mono ?_); rintro e V2 ⟨rfl, hat, hon⟩; refine Hd.out ?_)
  have HC2 := hide (HC1.out.call hon hat)
  clear hat hon
  clear z0 z1 z2 z3 z4 z5 z6 z7 y0 y1 y2 y3 y4 y5 y6 y7 zl t0 t1 t2 t3 q0 q1 q2 q3 tl
  obtain ⟨z0, z1, z2, z3, z4, z5, z6, z7, y0, y1, y2, y3, y4, y5, y6, y7, zl⟩ := rowc8 HC2.out.zrow
  obtain ⟨t0, t1, t2, t3, q0, q1, q2, q3, tl⟩ := rowc4 HC2.out.xa.row
  refine hide ?_
  go_wp2_with (go_at_call 153; (with_reducible refine (HK3.out _ HC2.out.xa.ra.rd.cur).mono ?_); rintro e V3 ⟨rfl, hat, hon⟩; refine Hd.out ?_)
  have HC3 := hide (HC2.out.call hon hat)
  clear hat hon
  clear z0 z1 z2 z3 z4 z5 z6 z7 y0 y1 y2 y3 y4 y5 y6 y7 zl t0 t1 t2 t3 q0 q1 q2 q3 tl
  obtain ⟨z0, z1, z2, z3, z4, z5, z6, z7, y0, y1, y2, y3, y4, y5, y6, y7, zl⟩ := rowc8 HC3.out.zrow
  obtain ⟨t0, t1, t2, t3, q0, q1, q2, q3, tl⟩ := rowc4 HC3.out.xa.row
  refine hide ?_
  go_wp2_with (go_at_call 47; (with_reducible refine (HK4.out _ HC3.out.xa.ra.rd.cur).mono ?_); rintro e V4 ⟨rfl, hat, hon⟩; refine Hd.out ?_)
  have HC4 := hide (HC3.out.call hon hat)
  clear hat hon
  clear z0 z1 z2 z3 z4 z5 z6 z7 y0 y1 y2 y3 y4 y5 y6 y7 zl t0 t1 t2 t3 q0 q1 q2 q3 tl
  obtain ⟨z0, z1, z2, z3, z4, z5, z6, z7, y0, y1, y2, y3, y4, y5, y6, y7, zl⟩ := rowc8 HC4.out.zrow
  obtain ⟨t0, t1, t2, t3, q0, q1, q2, q3, tl⟩ := rowc4 HC4.out.xa.row
  refine hide ?_
  go_wp2_with (go_at_call 47; (with_reducible refine (HK5.out _ HC4.out.xa.ra.rd.cur).mono ?_); rintro e V5 ⟨rfl, hat, hon⟩; refine Hd.out ?_)
  have HC5 := hide (HC4.out.call hon hat)
  clear hat hon
  clear z0 z1 z2 z3 z4 z5 z6 z7 y0 y1 y2 y3 y4 y5 y6 y7 zl t0 t1 t2 t3 q0 q1 q2 q3 tl
  obtain ⟨z0, z1, z2, z3, z4, z5, z6, z7, y0, y1, y2, y3, y4, y5, y6, y7, zl⟩ := rowc8 HC5.out.zrow
  obtain ⟨t0, t1, t2, t3, q0, q1, q2, q3, tl⟩ := rowc4 HC5.out.xa.row
  have HA := hide (show Calls Tryz.prog 104 #[.pointer (some ⟨c, 0, none⟩)] _ (DocP S1 c _ v.2 (.int .i64 v.1)) from hv ▸ dvariable_any HC5.out.xa.ra.rd)
  clear hv
  refine hide ?_
  go_wp2_with (go_at_call 104; (with_reducible refine HA.out.mono ?_); rintro e V6 ⟨rfl, hat, hon⟩; refine Hd.out ?_)
  have HC6 := hide (HC5.out.call hon hat)
  clear hat hon
  clear z0 z1 z2 z3 z4 z5 z6 z7 y0 y1 y2 y3 y4 y5 y6 y7 zl t0 t1 t2 t3 q0 q1 q2 q3 tl
  obtain ⟨z0, z1, z2, z3, z4, z5, z6, z7, y0, y1, y2, y3, y4, y5, y6, y7, zl⟩ := rowc8 HC6.out.zrow
  obtain ⟨t0, t1, t2, t3, q0, q1, q2, q3, tl⟩ := rowc4 HC6.out.xa.row
  refine hide ?_
  go_wp2_with (go_at_call 153; (with_reducible refine (HI6.out _ HC6.out.xa.ra.rd.cur).mono ?_); rintro e V7 ⟨rfl, hat, hon⟩; refine Hd.out ?_)
  have HC7 := hide (HC6.out.call hon hat)
  clear hat hon
  clear z0 z1 z2 z3 z4 z5 z6 z7 y0 y1 y2 y3 y4 y5 y6 y7 zl t0 t1 t2 t3 q0 q1 q2 q3 tl
  obtain ⟨z0, z1, z2, z3, z4, z5, z6, z7, y0, y1, y2, y3, y4, y5, y6, y7, zl⟩ := rowc8 HC7.out.zrow
  obtain ⟨t0, t1, t2, t3, q0, q1, q2, q3, tl⟩ := rowc4 HC7.out.xa.row
  have HMK := hide (show Calls Tryz.prog 155 #[.pointer (some ⟨c, 0, none⟩), .slice (some ⟨V7.heap.size, 0, none⟩) 1 1] (V7.alloc (.cells #[.string ⟨#[226, 134, 144]⟩] 9)) (DocP S1 c (V7.alloc (.cells #[.string ⟨#[226, 134, 144]⟩] 9)) s3 (.tuple #[])) from by
   have h := dMark (HC7.out.xa.ra.rd.alloc (.cells #[.string ⟨#[226, 134, 144]⟩] 9)).cur (ts := [tLeft]) (Sl.lit (S := fun _ => False) (S' := fun b => c < b) (us := [.string ⟨#[226, 134, 144]⟩]) rfl ⟨[.string ⟨#[226, 134, 144]⟩], [], rfl, ⟨rfl, by unfold maxLen; decide⟩, rfl⟩ rfl (by decide) (fun _ h => h.elim) (by have := HC7.out.xa.ra.cl; omega)) (by show ¬ c < c; omega)
   rw [hs3] at h
   exact h)
  clear hs3
  have HAL := hide (HC7.out.call ((Only.refl c V7).alloc (.cells #[.string ⟨#[226, 134, 144]⟩] 9)) (HC7.out.xa.ra.rd.alloc (.cells #[.string ⟨#[226, 134, 144]⟩] 9)).cur)
  refine hide ?_
  go_wp2_with (go_at_call 155; (with_reducible refine HMK.out.mono ?_); rintro e V8 ⟨rfl, hat, hon⟩; refine Hd.out ?_)
  have HC8 := hide (HAL.out.call hon hat)
  clear hat hon
  clear z0 z1 z2 z3 z4 z5 z6 z7 y0 y1 y2 y3 y4 y5 y6 y7 zl t0 t1 t2 t3 q0 q1 q2 q3 tl
  obtain ⟨z0, z1, z2, z3, z4, z5, z6, z7, y0, y1, y2, y3, y4, y5, y6, y7, zl⟩ := rowc8 HC8.out.zrow
  obtain ⟨t0, t1, t2, t3, q0, q1, q2, q3, tl⟩ := rowc4 HC8.out.xa.row
  have HRT := hide (show Calls Tryz.prog 156 #[.pointer (some ⟨c, 0, none⟩), .int .i64 v.1] _ (DInsP S1 c _ r) from hr ▸ dright_any _ S1 c s3 v.1 HC8.out.xa.ra.rd)
  clear hr
  refine hide ?_
  go_wp2_with (go_at_call 156; (with_reducible refine HRT.out.mono ?_); rintro e V9 ⟨A, n, k, rfl, ho, hat, hon⟩; refine Hd.out ?_)
  have HC9 := hide (HC8.out.call hon hat)
  clear hat hon
  clear z0 z1 z2 z3 z4 z5 z6 z7 y0 y1 y2 y3 y4 y5 y6 y7 zl t0 t1 t2 t3 q0 q1 q2 q3 tl
  obtain ⟨z0, z1, z2, z3, z4, z5, z6, z7, y0, y1, y2, y3, y4, y5, y6, y7, zl⟩ := rowc8 HC9.out.zrow
  obtain ⟨t0, t1, t2, t3, q0, q1, q2, q3, tl⟩ := rowc4 HC9.out.xa.row
  have HO := hide (ho.lower28 (b' := Z + 1) (by have := HC8.out.xa.ml; omega))
  clear ho
  have HFN := hide (DY4.fin84 HC9.out (.int .i64 r.1.op) (.int .i64 r.1.dst) (.int .i64 r.1.a) (.int .i64 r.1.b) (.int .i64 r.1.imm) (.int .i64 r.1.callee) (.slice A n k) (.int .i64 r.1.many) (.int .i64 0) (.int .i64 0) (.int .i64 0) (.int .i64 0))
  have HOF := hide ((own_set84 HO.out (I := I) (Z := Z) (by have := HZI.out; omega) (Nat.lt_succ_self Z) (.int .i64 r.1.op) (.int .i64 r.1.dst) (.int .i64 r.1.a) (.int .i64 r.1.b) (.int .i64 r.1.imm) (.int .i64 r.1.callee) (.slice A n k) (.int .i64 r.1.many) (.int .i64 0) (.int .i64 0) (.int .i64 0) (.int .i64 0)).lower28 (b' := w.heap.size) (by have := HZI.out; have := HIR.out; omega))
  have ne1 : ¬ I = Z := by have := HZI.out; omega
  have ne2 : ¬ Z = I := by have := HZI.out; omega
  have lt1 : I < Z := by have := HZI.out; omega
  refine hide ?_
  go_wp2_with fail
  refine bodyPost_ret (results_line4 (I := I) (Z := Z) Tryz.results106 _ _ rfl rfl HFN.out.zrow HFN.out.xa.row) rfl ?_
  rw [HE.out]
  exact ⟨_, _, _, A, n, k, ⟨rfl, rfl, rfl⟩, rfl, HOF.out, HFN.out.xa.ra.rd.cur.moreS (fun b _ h => by rw [HS1.out] at h; exact h.1) HNS.out, HFN.out.xa.ra.only⟩
end Go.Proofs.YtljglhaeonbfoaaGreatDoor
