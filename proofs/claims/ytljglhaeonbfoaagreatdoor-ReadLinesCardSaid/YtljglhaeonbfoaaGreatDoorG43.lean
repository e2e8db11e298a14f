/- law04: walks: the document's names of Ops, and what stands while it reads an instruction. law04: walks: what stands right of an arrow: the document's. Printed by gen_d4f.py. -/
import Derived.Test.YtljglhaeonbfoaaGreatDoorG42
import Derived.Test.YtljglhaeonbfoaaGreatDoorG33
set_option linter.unusedSimpArgs false
set_option linter.unusedVariables false
namespace Go.Proofs.YtljglhaeonbfoaaGreatDoor
open Go.RowKit
section
variable {w0 w W W' : World} {R Z M c : Nat} {S : Nat → Prop} {s s' : Cur} {T TZ : TypeId} {cs cs' zs zs' : Array Value}
theorem rowc8 {W : World} {M : Nat} {a b d e f g h i : Value} {T : TypeId} (hr : W.heap[M]? = some (.cells #[a, b, d, e, f, g, h, i] T (0, 0))) : W.cell? ⟨M, 0, none⟩ = some a ∧ W.cell? ⟨M, 1, none⟩ = some b ∧ W.cell? ⟨M, 2, none⟩ = some d ∧ W.cell? ⟨M, 3, none⟩ = some e ∧ W.cell? ⟨M, 4, none⟩ = some f ∧ W.cell? ⟨M, 5, none⟩ = some g ∧ W.cell? ⟨M, 6, none⟩ = some h ∧ W.cell? ⟨M, 7, none⟩ = some i ∧
  W.frozen? ⟨M, 0, none⟩ = false ∧ W.frozen? ⟨M, 1, none⟩ = false ∧ W.frozen? ⟨M, 2, none⟩ = false ∧ W.frozen? ⟨M, 3, none⟩ = false ∧ W.frozen? ⟨M, 4, none⟩ = false ∧ W.frozen? ⟨M, 5, none⟩ = false ∧ W.frozen? ⟨M, 6, none⟩ = false ∧ W.frozen? ⟨M, 7, none⟩ = false ∧ M < W.heap.size := by
 have hf : ∀ j, W.frozen? ⟨M, j, none⟩ = false := fun j => by simp [World.frozen?, hr]
 exact ⟨cell_of_row W M _ _ _ (0, 0) hr, cell_of_row W M _ _ _ (0, 0) hr, cell_of_row W M _ _ _ (0, 0) hr, cell_of_row W M _ _ _ (0, 0) hr, cell_of_row W M _ _ _ (0, 0) hr, cell_of_row W M _ _ _ (0, 0) hr, cell_of_row W M _ _ _ (0, 0) hr, cell_of_row W M _ _ _ (0, 0) hr, hf 0, hf 1, hf 2, hf 3, hf 4, hf 5, hf 6, hf 7, (Array.getElem?_eq_some_iff.1 hr).1⟩
theorem rowc4 {W : World} {M : Nat} {a b d e : Value} {T : TypeId} (hr : W.heap[M]? = some (.cells #[a, b, d, e] T (0, 0))) : W.cell? ⟨M, 0, none⟩ = some a ∧ W.cell? ⟨M, 1, none⟩ = some b ∧ W.cell? ⟨M, 2, none⟩ = some d ∧ W.cell? ⟨M, 3, none⟩ = some e ∧
  W.frozen? ⟨M, 0, none⟩ = false ∧ W.frozen? ⟨M, 1, none⟩ = false ∧ W.frozen? ⟨M, 2, none⟩ = false ∧ W.frozen? ⟨M, 3, none⟩ = false ∧ M < W.heap.size := by
 have hf : ∀ j, W.frozen? ⟨M, j, none⟩ = false := fun j => by simp [World.frozen?, hr]
 exact ⟨cell_of_row W M _ _ _ (0, 0) hr, cell_of_row W M _ _ _ (0, 0) hr, cell_of_row W M _ _ _ (0, 0) hr, cell_of_row W M _ _ _ (0, 0) hr, hf 0, hf 1, hf 2, hf 3, (Array.getElem?_eq_some_iff.1 hr).1⟩
structure DY4 (w0 W : World) (R Z M c : Nat) (S : Nat → Prop) (TZ T : TypeId) (zs cs : Array Value) (s : Cur) : Prop where
 xa : DX4 w0 W R M c S T cs s
 zrow : W.heap[Z]? = some (.cells zs TZ (0, 0))
 z1 : R ≤ Z
 z2 : Z < M
theorem DY4.zx (h : DY4 w0 W R Z M c S TZ T zs cs s) : DX4 w0 W R Z c S TZ zs s := ⟨h.xa.ra, h.zrow, h.z1⟩
theorem DY4.start (h : DX4 w0 W R Z c S TZ zs s) (cs : Array Value) (T : TypeId) : DY4 w0 (W.alloc (.cells cs T)) R Z W.heap.size c S TZ T zs cs s := ⟨DX4.start h.ra cs T, (h.alloc (.cells cs T)).row, h.o2, h.ml⟩
theorem DY4.call (h : DY4 w0 W R Z M c S TZ T zs cs s) (hon : Only c W W') (hat : DocAt W' S c s') : DY4 w0 W' R Z M c S TZ T zs cs s' := ⟨h.xa.call hon hat, (h.zx.call hon hat).row, h.z1, h.z2⟩
theorem DY4.set (h : DY4 w0 W R Z M c S TZ T zs cs s) {j : Nat} {x : Value} (hr : cs.setIfInBounds j x = cs') : DY4 w0 (W.setCell ⟨M, j, none⟩ x) R Z M c S TZ T zs cs' s := ⟨h.xa.set hr, (Below.heap_setCell W ⟨M, j, none⟩ x Z (by show Z ≠ M; have := h.z2; omega)).trans h.zrow, h.z1, h.z2⟩
theorem DX4.fin8 {z0 z1 z2 z3 z4 z5 z6 z7 : Value} (h : DX4 w0 W R Z c S TZ #[z0, z1, z2, z3, z4, z5, z6, z7] s) (v0 v1 v2 v3 v4 v5 v6 v7 : Value) :
  DX4 w0 ((((((((W.setCell ⟨Z, 0, none⟩ v0).setCell ⟨Z, 1, none⟩ v1).setCell ⟨Z, 2, none⟩ v2).setCell ⟨Z, 3, none⟩ v3).setCell ⟨Z, 4, none⟩ v4).setCell ⟨Z, 5, none⟩ v5).setCell ⟨Z, 6, none⟩ v6).setCell ⟨Z, 7, none⟩ v7) R Z c S TZ #[v0, v1, v2, v3, v4, v5, v6, v7] s := by
 have hset0 := h.set (j := 0) (x := v0) (cs' := #[v0, z1, z2, z3, z4, z5, z6, z7]) rfl
 have hset1 := hset0.set (j := 1) (x := v1) (cs' := #[v0, v1, z2, z3, z4, z5, z6, z7]) rfl
 have hset2 := hset1.set (j := 2) (x := v2) (cs' := #[v0, v1, v2, z3, z4, z5, z6, z7]) rfl
 have hset3 := hset2.set (j := 3) (x := v3) (cs' := #[v0, v1, v2, v3, z4, z5, z6, z7]) rfl
 have hset4 := hset3.set (j := 4) (x := v4) (cs' := #[v0, v1, v2, v3, v4, z5, z6, z7]) rfl
 have hset5 := hset4.set (j := 5) (x := v5) (cs' := #[v0, v1, v2, v3, v4, v5, z6, z7]) rfl
 have hset6 := hset5.set (j := 6) (x := v6) (cs' := #[v0, v1, v2, v3, v4, v5, v6, z7]) rfl
 have hset7 := hset6.set (j := 7) (x := v7) (cs' := #[v0, v1, v2, v3, v4, v5, v6, v7]) rfl
 exact hset7
theorem own_set8 {b : Nat} {v : Value} {l : List Int} (h : OwnL W b 3 (fun _ => False) v l) (hb : Z < b) (v0 v1 v2 v3 v4 v5 v6 v7 : Value) :
  OwnL ((((((((W.setCell ⟨Z, 0, none⟩ v0).setCell ⟨Z, 1, none⟩ v1).setCell ⟨Z, 2, none⟩ v2).setCell ⟨Z, 3, none⟩ v3).setCell ⟨Z, 4, none⟩ v4).setCell ⟨Z, 5, none⟩ v5).setCell ⟨Z, 6, none⟩ v6).setCell ⟨Z, 7, none⟩ v7) b 3 (fun _ => False) v l := by
 have one : ∀ {W : World} (j : Nat) (x : Value), OwnL W b 3 (fun _ => False) v l → OwnL (W.setCell ⟨Z, j, none⟩ x) b 3 (fun _ => False) v l := fun j x h => h.setCell (fun e => e) (fun e => by have h5 : b ≤ Z := (h.below_ _ e).1; omega) _
 exact one 7 v7 (one 6 v6 (one 5 v5 (one 4 v4 (one 3 v3 (one 2 v2 (one 1 v1 (one 0 v0 h)))))))
theorem own_set1 {b j : Nat} {x v : Value} {l : List Int} (h : OwnL W b 3 (fun _ => False) v l) (hb : M < b) : OwnL (W.setCell ⟨M, j, none⟩ x) b 3 (fun _ => False) v l := h.setCell (fun e => e) (fun e => by have h5 : b ≤ M := (h.below_ _ e).1; omega) _
theorem own_set4 {b : Nat} {v : Value} {l : List Int} (h : OwnL W b 3 (fun _ => False) v l) (hb : Z < b) (v0 v1 v2 v3 : Value) :
  OwnL ((((W.setCell ⟨Z, 0, none⟩ v0).setCell ⟨Z, 1, none⟩ v1).setCell ⟨Z, 2, none⟩ v2).setCell ⟨Z, 3, none⟩ v3) b 3 (fun _ => False) v l := own_set1 (own_set1 (own_set1 (own_set1 h hb) hb) hb) hb
def DInsP (S : Nat → Prop) (c : Nat) (w : World) (r : Ins × Cur) (e : Ending) (w' : World) : Prop :=
 ∃ A n k, e = .returned (.agg #[.int .i64 r.1.op, .int .i64 r.1.dst, .int .i64 r.1.a, .int .i64 r.1.b, .int .i64 r.1.imm, .int .i64 r.1.callee, .slice A n k, .int .i64 r.1.many]) ∧ OwnL w' w.heap.size 3 (fun _ => False) (.slice A n k) r.1.args ∧ DocAt w' S c r.2 ∧ Only c w w'
theorem dKeyT (h : DocAt w S c s) {t : ByteArray} (hb : isC (.nm t) s = true) : Calls Tryz.prog 47 #[.pointer (some ⟨c, 0, none⟩), .string t] w (DocP S c w (popC s) (.bool true)) := by
 have h := dKey h t
 rw [hb] at h
 exact h
theorem dKeyF (h : DocAt w S c s) {t : ByteArray} (hb : isC (.nm t) s = false) : Calls Tryz.prog 47 #[.pointer (some ⟨c, 0, none⟩), .string t] w (DocP S c w s (.bool false)) := by
 have h := dKey h t
 rw [hb] at h
 exact h
theorem dIsT (h : DocAt w S c s) {t : ByteArray} (hb : isC (.mk t) s = true) : Calls Tryz.prog 153 #[.pointer (some ⟨c, 0, none⟩), .string t] w (DocP S c w (popC s) (.bool true)) := by
 have h := dIs h t
 rw [hb] at h
 exact h
theorem dIsF (h : DocAt w S c s) {t : ByteArray} (hb : isC (.mk t) s = false) : Calls Tryz.prog 153 #[.pointer (some ⟨c, 0, none⟩), .string t] w (DocP S c w s (.bool false)) := by
 have h := dIs h t
 rw [hb] at h
 exact h
end
set_option maxRecDepth 100000 in
set_option maxHeartbeats 4000000 in
theorem name4_any (k : Nat) (h1 : 2 ≤ k) (h2 : k ≤ 10) (w : World) : Calls Tryz.prog 79 #[.int .i64 (k : Int)] w (RetX (.string (opT (k : Int))) w) := by
 rcases (by omega : k = 2 ∨ k = 3 ∨ k = 4 ∨ k = 5 ∨ k = 6 ∨ k = 7 ∨ k = 8 ∨ k = 9 ∨ k = 10) with rfl | rfl | rfl | rfl | rfl | rfl | rfl | rfl | rfl
 all_goals
  go_enter Tryz.func79, Tryz.ntmps79
  go_wp2_with fail
  go_ret
  exact ⟨rfl, ext_refl _⟩
end Go.Proofs.YtljglhaeonbfoaaGreatDoor
namespace Go.Proofs.YtljglhaeonbfoaaGreatDoor
open Go.RowKit
theorem opT_drop4 {q : Nat} (h1 : 2 ≤ q) (h2 : q ≤ 10) : opsB.drop (q - 2) = opT (q : Int) :: opsB.drop (q + 1 - 2) := by
 rcases (by omega : q = 2 ∨ q = 3 ∨ q = 4 ∨ q = 5 ∨ q = 6 ∨ q = 7 ∨ q = 8 ∨ q = 9 ∨ q = 10) with rfl | rfl | rfl | rfl | rfl | rfl | rfl | rfl | rfl <;> rfl
def rightC (q : Bool) (d : Int) (s : Cur) : Ins × Cur := insC q (opC s).1 d (opC s).2
set_option maxRecDepth 100000 in
set_option maxHeartbeats 32000000 in
theorem dright_any (w : World) (S : Nat → Prop) (c : Nat) (s : Cur) (d : Int) (h : Dd4 w S c s) : Calls Tryz.prog 156 #[.pointer (some ⟨c, 0, none⟩), .int .i64 d] w (DInsP S c w (rightC true d s)) := by
 have HNS := hide h.cur.nS
 obtain ⟨R, hR⟩ : ∃ R, w.heap.size = R := ⟨_, rfl⟩
 obtain ⟨S1, hS1⟩ : ∃ S1 : Nat → Prop, S1 = fun b => S b ∧ b < R := ⟨_, rfl⟩
 have HT0 := hide (show DA4 w w R c S1 s from by rw [hS1, ← hR]; exact DA4.start h)
 have HS1 := hide hS1
 have HRQ := hide hR
 obtain ⟨Z, hZ⟩ : ∃ Z, w.heap.size = Z := ⟨_, rfl⟩
 have HZR := hide (show R ≤ Z ∧ w.heap.size ≤ Z from by omega)
 have HT1 := hide (show DX4 w (w.alloc (.cells #[.int .i64 0, .int .i64 0, .int .i64 0, .int .i64 0, .int .i64 0, .int .i64 0, .slice none 0 0, .int .i64 0] 45)) R Z c S1 45 #[.int .i64 0, .int .i64 0, .int .i64 0, .int .i64 0, .int .i64 0, .int .i64 0, .slice none 0 0, .int .i64 0] s from by rw [← hZ]; exact DX4.start HT0.out _ _)
 obtain ⟨X, hX⟩ : ∃ X, rightC true d s = X := ⟨_, rfl⟩
 rw [hX]
 have HXQ := hide (show insC true (opC s).1 d (opC s).2 = X from hX)
 clear h hS1 hX HT0 hR
 go_enter Tryz.func156, Tryz.ntmps156
 go_wp2_with fail
 try rw [hZ]
 obtain ⟨W1, hW1⟩ : ∃ W1, w.alloc (.cells #[.int .i64 0, .int .i64 0, .int .i64 0, .int .i64 0, .int .i64 0, .int .i64 0, .slice none 0 0, .int .i64 0] 45) = W1 := ⟨_, rfl⟩
 rw [hW1] at HT1
 try rw [hW1]
 clear hW1 hZ
 go_loopw [5] (fun i wr => ∃ q : Nat, i = .int .i64 q ∧ 2 ≤ q ∧ q ≤ 11 ∧ DX4 w wr R Z c S1 45 #[.int .i64 0, .int .i64 0, .int .i64 0, .int .i64 0, .int .i64 0, .int .i64 0, .slice none 0 0, .int .i64 0] s ∧ kindC opsB 2 s = kindC (opsB.drop (q - 2)) q s) (fun i _ => 11 - (intOf i).toNat)
 case atStart => exact ⟨2, rfl, by omega, by omega, HT1.out, rfl⟩
 case round =>
  obtain ⟨q, rfl, hq1, hq2, ht, hkk⟩ := hrel
  have HT2 := hide ht; have HKK := hide hkk
  clear ht hkk HT1
  by_cases hlt : q ≤ 10
  ·have g0 : (q : Int) ≤ 10 := by omega
   have HNM := hide (name4_any q hq1 hlt wr)
   have HKD := hide (show kindC opsB 2 s = if isC (.nm (opT (q : Int))) s = true then (q, popC s) else kindC (opsB.drop (q + 1 - 2)) (q + 1) s from by rw [HKK.out, opT_drop4 hq1 hlt, kindC_cons4])
   obtain ⟨t, ht⟩ : ∃ t, opT (q : Int) = t := ⟨_, rfl⟩
   rw [ht] at HNM HKD
   clear ht
   obtain ⟨z0, z1, z2, z3, z4, z5, z6, z7, y0, y1, y2, y3, y4, y5, y6, y7, zl⟩ := rowc8 HT2.out.row
   cases hb : isC (.nm t) s with
   | true =>
    have HK := hide (fun u : Ext => dKeyT (HT2.out.ra.rd.cur.ext u) hb)
    have HOP := hide (show opC s = ((q : Int), popC s) from by
     have h := HKD.out
     rw [if_pos hb] at h
     unfold opC
     simp only
     rw [h, if_pos (by simp only; omega)])
    obtain ⟨s1, hs1⟩ : ∃ s1, popC s = s1 := ⟨_, rfl⟩
    rw [hs1] at HK HOP
    have HE := hide (show X = (⟨(q : Int), d, (varC s1).1, (varC (varC s1).2).1, 0, 0, [], 0⟩, (varC (varC s1).2).2) from by
     rw [← HXQ.out, HOP.out]
     simp only
     unfold insC
     rw [if_neg (show ¬ (q : Int) = 1 by omega), if_neg (show ¬ (q : Int) = 13 by omega)]
     simp only [if_neg (show ¬ (q : Int) = 11 by omega), if_pos (show (q : Int) ≤ 10 by omega)])
    clear hb hs1
    go_wp2_with (first | (go_at_call 79; (with_reducible refine HNM.out.mono ?_); rintro e _ ⟨rfl, u, rfl⟩) | (go_at_call 47; (with_reducible refine (HK.out _).mono ?_); rintro e V ⟨rfl, hat, hon⟩; refine Hd.out ?_))
    have HT := hide ((HT2.out.ext u).call hon hat)
    clear hat hon
    clear z0 z1 z2 z3 z4 z5 z6 z7 y0 y1 y2 y3 y4 y5 y6 y7 zl
    obtain ⟨z0, z1, z2, z3, z4, z5, z6, z7, y0, y1, y2, y3, y4, y5, y6, y7, zl⟩ := rowc8 HT.out.row
    have HA := hide (dvariable_any HT.out.ra.rd)
    obtain ⟨a, ha⟩ : ∃ a, varC s1 = a := ⟨_, rfl⟩
    rw [ha] at HA HE
    clear ha
    refine hide ?_
    have HTo := HT
    go_wp2_with (go_at_call 104; (with_reducible refine HA.out.mono ?_); rintro e V1 ⟨rfl, hat, hon⟩; refine Hd.out ?_)
    have HT3 := hide (HT.out.call hon hat)
    clear hat hon
    clear z0 z1 z2 z3 z4 z5 z6 z7 y0 y1 y2 y3 y4 y5 y6 y7 zl
    obtain ⟨z0, z1, z2, z3, z4, z5, z6, z7, y0, y1, y2, y3, y4, y5, y6, y7, zl⟩ := rowc8 HT3.out.row
    obtain ⟨b, hb⟩ : ∃ b, varC a.2 = b := ⟨_, rfl⟩
    rw [hb] at HE
    obtain ⟨M, hM⟩ : ∃ M, V1.heap.size = M := ⟨_, rfl⟩
    have HX := hide (show DY4 w (V1.alloc (.cells #[.int .i64 q, .int .i64 d, .int .i64 a.1, .int .i64 0, .int .i64 0, .int .i64 0, .slice none 0 0, .int .i64 0] 45)) R Z M c S1 45 45 #[.int .i64 0, .int .i64 0, .int .i64 0, .int .i64 0, .int .i64 0, .int .i64 0, .slice none 0 0, .int .i64 0] #[.int .i64 q, .int .i64 d, .int .i64 a.1, .int .i64 0, .int .i64 0, .int .i64 0, .slice none 0 0, .int .i64 0] _ from by rw [← hM]; exact DY4.start HT3.out _ _)
    have HB := hide (hb ▸ dvariable_any HX.out.xa.ra.rd)
    clear hb HTo
    refine hide ?_
    go_wp2_with (go_at_call 104; (with_reducible refine HB.out.mono ?_); rintro e V2 ⟨rfl, hat, hon⟩; refine Hd.out ?_)
    have HX2 := hide (HX.out.call hon hat)
    clear hat hon
    clear z0 z1 z2 z3 z4 z5 z6 z7 y0 y1 y2 y3 y4 y5 y6 y7 zl
    obtain ⟨m0, m1, m2, m3, m4, m5, m6, m7, f0, f1, f2, f3, f4, f5, f6, f7, ml⟩ := rowc8 HX2.out.xa.row
    obtain ⟨z0, z1, z2, z3, z4, z5, z6, z7, y0, y1, y2, y3, y4, y5, y6, y7, zl⟩ := rowc8 HX2.out.zrow
    obtain ⟨Y, hY⟩ : ∃ Y, V2.setCell ⟨M, 3, none⟩ (.int .i64 b.1) = Y := ⟨_, rfl⟩
    have HY := hide (show DY4 w Y R Z M c S1 45 45 #[.int .i64 0, .int .i64 0, .int .i64 0, .int .i64 0, .int .i64 0, .int .i64 0, .slice none 0 0, .int .i64 0] #[.int .i64 q, .int .i64 d, .int .i64 a.1, .int .i64 b.1, .int .i64 0, .int .i64 0, .slice none 0 0, .int .i64 0] _ from hY ▸ HX2.out.set (j := 3) (x := .int .i64 b.1) rfl)
    clear z0 z1 z2 z3 z4 z5 z6 z7 y0 y1 y2 y3 y4 y5 y6 y7 zl
    clear m0 m1 m2 m3 m4 m5 m6 m7 f0 f1 f2 f3 f4 f5 f6 f7 ml
    obtain ⟨m0, m1, m2, m3, m4, m5, m6, m7, f0, f1, f2, f3, f4, f5, f6, f7, ml⟩ := rowc8 HY.out.xa.row
    obtain ⟨z0, z1, z2, z3, z4, z5, z6, z7, y0, y1, y2, y3, y4, y5, y6, y7, zl⟩ := rowc8 HY.out.zrow
    have k3 := (rowc8 HX2.out.xa.row).2.2.2.1
    have e3 := HX2.out.xa.fz 3
    have kl := HX2.out.xa.ml
    have HFN := hide (DX4.fin8 HY.out.zx (.int .i64 q) (.int .i64 d) (.int .i64 a.1) (.int .i64 b.1) (.int .i64 0) (.int .i64 0) (.slice none 0 0) (.int .i64 0))
    refine hide ?_
    go_wp2_with fail
    refine bodyPost_ret (results_cell_row Tryz.results156 _ _ Z _ _ (0, 0) _ rfl HFN.out.row Tryz.underlying45 rfl (by kernel_rfl)) rfl ?_
    rw [HE.out]
    exact ⟨none, 0, 0, rfl, OwnL.nil_ _ _ _ _, HFN.out.ra.rd.cur.moreS (fun b _ h => by rw [HS1.out] at h; exact h.1) HNS.out, HFN.out.ra.only⟩
   | false =>
    have HK := hide (fun u : Ext => dKeyF (HT2.out.ra.rd.cur.ext u) hb)
    have HKN := hide (show kindC opsB 2 s = kindC (opsB.drop (q + 1 - 2)) (q + 1) s from by have h := HKD.out; rw [if_neg (by rw [hb]; decide)] at h; exact h)
    clear hb HKD
    go_wp2_with (first | (go_at_call 79; (with_reducible refine HNM.out.mono ?_); rintro e _ ⟨rfl, u, rfl⟩) | (go_at_call 47; (with_reducible refine (HK.out _).mono ?_); rintro e V ⟨rfl, hat, hon⟩; have HT := hide ((HT2.out.ext u).call hon hat); clear hat hon))
    go_roundw
    case rel => exact ⟨q + 1, by go_num, by omega, by omega, HT.out, HKN.out⟩
    case measure => simp [intOf]; omega
  ·have g0 : ¬ (q : Int) ≤ 10 := by omega
   have hq11 : q = 11 := by omega
   have HK0 := hide (show kindC opsB 2 s = (0, s) from by rw [HKK.out, hq11]; rfl)
   have HOP := hide (show opC s = (if isC (.nm tConst) s = true then (1, popC s) else if isC (.nm tLoad) s = true then (11, popC s) else if isC (.nm tCall) s = true then (13, popC s) else (14, s)) from by
    unfold opC
    simp only
    rw [HK0.out]
    simp)
   clear hq11 HK0 HKK
   obtain ⟨z0, z1, z2, z3, z4, z5, z6, z7, y0, y1, y2, y3, y4, y5, y6, y7, zl⟩ := rowc8 HT2.out.row
   cases hb1 : isC (.nm tConst) s with
   | true =>
    have HK := hide (fun (W : World) (hat : DocAt W S1 c s) => show Calls Tryz.prog 47 #[.pointer (some ⟨c, 0, none⟩), .string ⟨#[99, 111, 110, 115, 116]⟩] W (DocP S1 c W (popC s) (.bool true)) from dKeyT hat hb1)
    obtain ⟨s1, hs1⟩ : ∃ s1, popC s = s1 := ⟨_, rfl⟩
    obtain ⟨m, hm⟩ : ∃ m, immC s1 = m := ⟨_, rfl⟩
    have HE := hide (show X = (⟨1, d, 0, 0, m.1, 0, [], 0⟩, m.2) from by rw [← HXQ.out, HOP.out, if_pos hb1, hs1, ← hm]; rfl)
    rw [hs1] at HK
    clear hb1 hs1
    go_wp2_with (go_at_call 47; (with_reducible refine (HK.out _ HT2.out.ra.rd.cur).mono ?_); rintro e V ⟨rfl, hat, hon⟩; refine Hd.out ?_)
    have HT := hide (HT2.out.call hon hat)
    clear hat hon
    clear z0 z1 z2 z3 z4 z5 z6 z7 y0 y1 y2 y3 y4 y5 y6 y7 zl
    obtain ⟨z0, z1, z2, z3, z4, z5, z6, z7, y0, y1, y2, y3, y4, y5, y6, y7, zl⟩ := rowc8 HT.out.row
    have HN := hide (show Calls Tryz.prog 105 #[.pointer (some ⟨c, 0, none⟩), .int .i64 (-1099511627776), .int .i64 1099511627776] V (DocP S1 c V m.2 (.int .i64 m.1)) from hm ▸ dNum HT.out.ra.rd.cur (-1099511627776) 1099511627776)
    clear hm
    refine hide ?_
    go_wp2_with (go_at_call 105; (with_reducible refine HN.out.mono ?_); rintro e V1 ⟨rfl, hat, hon⟩; refine Hd.out ?_)
    have HT3 := hide (HT.out.call hon hat)
    clear hat hon
    clear z0 z1 z2 z3 z4 z5 z6 z7 y0 y1 y2 y3 y4 y5 y6 y7 zl
    obtain ⟨z0, z1, z2, z3, z4, z5, z6, z7, y0, y1, y2, y3, y4, y5, y6, y7, zl⟩ := rowc8 HT3.out.row
    have HFN := hide (DX4.fin8 HT3.out (.int .i64 1) (.int .i64 d) (.int .i64 0) (.int .i64 0) (.int .i64 m.1) (.int .i64 0) (.slice none 0 0) (.int .i64 0))
    refine hide ?_
    go_wp2_with fail
    refine bodyPost_ret (results_cell_row Tryz.results156 _ _ Z _ _ (0, 0) _ rfl HFN.out.row Tryz.underlying45 rfl (by kernel_rfl)) rfl ?_
    rw [HE.out]
    exact ⟨none, 0, 0, rfl, OwnL.nil_ _ _ _ _, HFN.out.ra.rd.cur.moreS (fun b _ h => by rw [HS1.out] at h; exact h.1) HNS.out, HFN.out.ra.only⟩
   | false =>
   cases hb2 : isC (.nm tLoad) s with
   | true =>
    have HK1 := hide (fun (W : World) (hat : DocAt W S1 c s) => show Calls Tryz.prog 47 #[.pointer (some ⟨c, 0, none⟩), .string ⟨#[99, 111, 110, 115, 116]⟩] W (DocP S1 c W s (.bool false)) from dKeyF hat hb1)
    have HK := hide (fun (W : World) (hat : DocAt W S1 c s) => show Calls Tryz.prog 47 #[.pointer (some ⟨c, 0, none⟩), .string ⟨#[108, 111, 97, 100]⟩] W (DocP S1 c W (popC s) (.bool true)) from dKeyT hat hb2)
    obtain ⟨s1, hs1⟩ : ∃ s1, popC s = s1 := ⟨_, rfl⟩
    obtain ⟨a, ha⟩ : ∃ a, varC s1 = a := ⟨_, rfl⟩
    obtain ⟨m, hm⟩ : ∃ m, immC a.2 = m := ⟨_, rfl⟩
    have HE := hide (show X = (⟨11, d, a.1, 0, m.1, 0, [], 0⟩, m.2) from by rw [← HXQ.out, HOP.out, if_neg (by rw [hb1]; decide), if_pos hb2, hs1, ← hm, ← ha]; rfl)
    rw [hs1] at HK
    clear hb1 hb2 hs1
    go_wp2_with (go_at_call 47; (with_reducible refine (HK1.out _ HT2.out.ra.rd.cur).mono ?_); rintro e V0 ⟨rfl, hat, hon⟩; refine Hd.out ?_)
    have HT1 := hide (HT2.out.call hon hat)
    clear hat hon
    clear z0 z1 z2 z3 z4 z5 z6 z7 y0 y1 y2 y3 y4 y5 y6 y7 zl
    obtain ⟨z0, z1, z2, z3, z4, z5, z6, z7, y0, y1, y2, y3, y4, y5, y6, y7, zl⟩ := rowc8 HT1.out.row
    refine hide ?_
    go_wp2_with (go_at_call 47; (with_reducible refine (HK.out _ HT1.out.ra.rd.cur).mono ?_); rintro e V ⟨rfl, hat, hon⟩; refine Hd.out ?_)
    have HT := hide (HT1.out.call hon hat)
    clear hat hon
    clear z0 z1 z2 z3 z4 z5 z6 z7 y0 y1 y2 y3 y4 y5 y6 y7 zl
    obtain ⟨z0, z1, z2, z3, z4, z5, z6, z7, y0, y1, y2, y3, y4, y5, y6, y7, zl⟩ := rowc8 HT.out.row
    have HA := hide (show Calls Tryz.prog 104 #[.pointer (some ⟨c, 0, none⟩)] V (DocP S1 c V a.2 (.int .i64 a.1)) from ha ▸ dvariable_any HT.out.ra.rd)
    clear ha
    refine hide ?_
    go_wp2_with (go_at_call 104; (with_reducible refine HA.out.mono ?_); rintro e V1 ⟨rfl, hat, hon⟩; refine Hd.out ?_)
    have HT3 := hide (HT.out.call hon hat)
    clear hat hon
    clear z0 z1 z2 z3 z4 z5 z6 z7 y0 y1 y2 y3 y4 y5 y6 y7 zl
    obtain ⟨z0, z1, z2, z3, z4, z5, z6, z7, y0, y1, y2, y3, y4, y5, y6, y7, zl⟩ := rowc8 HT3.out.row
    obtain ⟨M, hM⟩ : ∃ M, V1.heap.size = M := ⟨_, rfl⟩
    have HX := hide (show DY4 w (V1.alloc (.cells #[.int .i64 11, .int .i64 d, .int .i64 a.1, .int .i64 0, .int .i64 0, .int .i64 0, .slice none 0 0, .int .i64 0] 45)) R Z M c S1 45 45 #[.int .i64 0, .int .i64 0, .int .i64 0, .int .i64 0, .int .i64 0, .int .i64 0, .slice none 0 0, .int .i64 0] #[.int .i64 11, .int .i64 d, .int .i64 a.1, .int .i64 0, .int .i64 0, .int .i64 0, .slice none 0 0, .int .i64 0] _ from by rw [← hM]; exact DY4.start HT3.out _ _)
    have HN := hide (show Calls Tryz.prog 105 #[.pointer (some ⟨c, 0, none⟩), .int .i64 (-1099511627776), .int .i64 1099511627776] _ (DocP S1 c _ m.2 (.int .i64 m.1)) from (by have h := dNum HX.out.xa.ra.rd.cur (-1099511627776) 1099511627776; rw [show numC (-1099511627776) 1099511627776 a.2 = m from hm] at h; exact h))
    clear hm
    refine hide ?_
    go_wp2_with (go_at_call 105; (with_reducible refine HN.out.mono ?_); rintro e V2 ⟨rfl, hat, hon⟩; refine Hd.out ?_)
    have HX2 := hide (HX.out.call hon hat)
    clear hat hon
    clear z0 z1 z2 z3 z4 z5 z6 z7 y0 y1 y2 y3 y4 y5 y6 y7 zl
    obtain ⟨m0, m1, m2, m3, m4, m5, m6, m7, f0, f1, f2, f3, f4, f5, f6, f7, ml⟩ := rowc8 HX2.out.xa.row
    obtain ⟨z0, z1, z2, z3, z4, z5, z6, z7, y0, y1, y2, y3, y4, y5, y6, y7, zl⟩ := rowc8 HX2.out.zrow
    obtain ⟨Y, hY⟩ : ∃ Y, V2.setCell ⟨M, 4, none⟩ (.int .i64 m.1) = Y := ⟨_, rfl⟩
    have HY := hide (show DY4 w Y R Z M c S1 45 45 #[.int .i64 0, .int .i64 0, .int .i64 0, .int .i64 0, .int .i64 0, .int .i64 0, .slice none 0 0, .int .i64 0] #[.int .i64 11, .int .i64 d, .int .i64 a.1, .int .i64 0, .int .i64 m.1, .int .i64 0, .slice none 0 0, .int .i64 0] _ from hY ▸ HX2.out.set (j := 4) (x := .int .i64 m.1) rfl)
    clear z0 z1 z2 z3 z4 z5 z6 z7 y0 y1 y2 y3 y4 y5 y6 y7 zl
    clear m0 m1 m2 m3 m4 m5 m6 m7 f0 f1 f2 f3 f4 f5 f6 f7 ml
    obtain ⟨m0, m1, m2, m3, m4, m5, m6, m7, f0, f1, f2, f3, f4, f5, f6, f7, ml⟩ := rowc8 HY.out.xa.row
    obtain ⟨z0, z1, z2, z3, z4, z5, z6, z7, y0, y1, y2, y3, y4, y5, y6, y7, zl⟩ := rowc8 HY.out.zrow
    have k3 := (rowc8 HX2.out.xa.row).2.2.2.2.1
    have e3 := HX2.out.xa.fz 4
    have kl := HX2.out.xa.ml
    have HFN := hide (DX4.fin8 HY.out.zx (.int .i64 11) (.int .i64 d) (.int .i64 a.1) (.int .i64 0) (.int .i64 m.1) (.int .i64 0) (.slice none 0 0) (.int .i64 0))
    refine hide ?_
    go_wp2_with fail
    refine bodyPost_ret (results_cell_row Tryz.results156 _ _ Z _ _ (0, 0) _ rfl HFN.out.row Tryz.underlying45 rfl (by kernel_rfl)) rfl ?_
    rw [HE.out]
    exact ⟨none, 0, 0, rfl, OwnL.nil_ _ _ _ _, HFN.out.ra.rd.cur.moreS (fun b _ h => by rw [HS1.out] at h; exact h.1) HNS.out, HFN.out.ra.only⟩
   | false =>
   cases hb3 : isC (.nm tCall) s with
   | true =>
    have HK1 := hide (fun (W : World) (hat : DocAt W S1 c s) => show Calls Tryz.prog 47 #[.pointer (some ⟨c, 0, none⟩), .string ⟨#[99, 111, 110, 115, 116]⟩] W (DocP S1 c W s (.bool false)) from dKeyF hat hb1)
    have HK2 := hide (fun (W : World) (hat : DocAt W S1 c s) => show Calls Tryz.prog 47 #[.pointer (some ⟨c, 0, none⟩), .string ⟨#[108, 111, 97, 100]⟩] W (DocP S1 c W s (.bool false)) from dKeyF hat hb2)
    have HK := hide (fun (W : World) (hat : DocAt W S1 c s) => show Calls Tryz.prog 47 #[.pointer (some ⟨c, 0, none⟩), .string ⟨#[99, 97, 108, 108]⟩] W (DocP S1 c W (popC s) (.bool true)) from dKeyT hat hb3)
    obtain ⟨s1, hs1⟩ : ∃ s1, popC s = s1 := ⟨_, rfl⟩
    obtain ⟨a, ha⟩ : ∃ a, numC 0 99 s1 = a := ⟨_, rfl⟩
    obtain ⟨m, hm⟩ : ∃ m, someC true false ([], a.2) = m := ⟨_, rfl⟩
    have HE := hide (show X = (⟨13, d, 0, 0, 0, a.1, m.1, 0⟩, m.2) from by rw [← HXQ.out, HOP.out, if_neg (by rw [hb1]; decide), if_neg (by rw [hb2]; decide), if_pos hb3, hs1, ← hm, ← ha]; rfl)
    rw [hs1] at HK
    clear hb1 hb2 hb3 hs1
    go_wp2_with (go_at_call 47; (with_reducible refine (HK1.out _ HT2.out.ra.rd.cur).mono ?_); rintro e V0 ⟨rfl, hat, hon⟩; refine Hd.out ?_)
    have HT11 := hide (HT2.out.call hon hat)
    clear hat hon
    clear z0 z1 z2 z3 z4 z5 z6 z7 y0 y1 y2 y3 y4 y5 y6 y7 zl
    obtain ⟨z0, z1, z2, z3, z4, z5, z6, z7, y0, y1, y2, y3, y4, y5, y6, y7, zl⟩ := rowc8 HT11.out.row
    refine hide ?_
    skip
    go_wp2_with (go_at_call 47; (with_reducible refine (HK2.out _ HT11.out.ra.rd.cur).mono ?_); rintro e V0 ⟨rfl, hat, hon⟩; refine Hd.out ?_)
    have HT12 := hide (HT11.out.call hon hat)
    clear hat hon
    clear z0 z1 z2 z3 z4 z5 z6 z7 y0 y1 y2 y3 y4 y5 y6 y7 zl
    obtain ⟨z0, z1, z2, z3, z4, z5, z6, z7, y0, y1, y2, y3, y4, y5, y6, y7, zl⟩ := rowc8 HT12.out.row
    refine hide ?_
    skip
    go_wp2_with (go_at_call 47; (with_reducible refine (HK.out _ HT12.out.ra.rd.cur).mono ?_); rintro e V ⟨rfl, hat, hon⟩; refine Hd.out ?_)
    have HT := hide (HT12.out.call hon hat)
    clear hat hon
    clear z0 z1 z2 z3 z4 z5 z6 z7 y0 y1 y2 y3 y4 y5 y6 y7 zl
    obtain ⟨z0, z1, z2, z3, z4, z5, z6, z7, y0, y1, y2, y3, y4, y5, y6, y7, zl⟩ := rowc8 HT.out.row
    have HA := hide (show Calls Tryz.prog 105 #[.pointer (some ⟨c, 0, none⟩), .int .i64 0, .int .i64 99] V (DocP S1 c V a.2 (.int .i64 a.1)) from ha ▸ dNum HT.out.ra.rd.cur 0 99)
    clear ha
    refine hide ?_
    go_wp2_with (go_at_call 105; (with_reducible refine HA.out.mono ?_); rintro e V1 ⟨rfl, hat, hon⟩; refine Hd.out ?_)
    have HT3 := hide (HT.out.call hon hat)
    clear hat hon
    clear z0 z1 z2 z3 z4 z5 z6 z7 y0 y1 y2 y3 y4 y5 y6 y7 zl
    obtain ⟨z0, z1, z2, z3, z4, z5, z6, z7, y0, y1, y2, y3, y4, y5, y6, y7, zl⟩ := rowc8 HT3.out.row
    obtain ⟨M, hM⟩ : ∃ M, V1.heap.size = M := ⟨_, rfl⟩
    have HX := hide (show DY4 w (V1.alloc (.cells #[.int .i64 13, .int .i64 d, .int .i64 0, .int .i64 0, .int .i64 0, .int .i64 a.1, .slice none 0 0, .int .i64 0] 45)) R Z M c S1 45 45 #[.int .i64 0, .int .i64 0, .int .i64 0, .int .i64 0, .int .i64 0, .int .i64 0, .slice none 0 0, .int .i64 0] #[.int .i64 13, .int .i64 d, .int .i64 0, .int .i64 0, .int .i64 0, .int .i64 a.1, .slice none 0 0, .int .i64 0] _ from by rw [← hM]; exact DY4.start HT3.out _ _)
    have HN := hide (show Calls Tryz.prog 49 #[.pointer (some ⟨c, 0, none⟩), .bool false] _ (DListP S1 c _ m) from hm ▸ dsome_any _ S1 c a.2 false HX.out.xa.ra.rd)
    clear hm
    refine hide ?_
    go_wp2_with (go_at_call 49; (with_reducible refine HN.out.mono ?_); rintro e V2 ⟨A, n, k, rfl, ho, hat, hon⟩; refine Hd.out ?_)
    have HO := hide (show OwnL V2 (M + 1) 3 (fun _ => False) (.slice A n k) m.1 from ho.lower28 (by rw [World.size_alloc]; omega))
    clear ho
    have HX2 := hide (HX.out.call hon hat)
    clear hat hon
    clear z0 z1 z2 z3 z4 z5 z6 z7 y0 y1 y2 y3 y4 y5 y6 y7 zl
    obtain ⟨m0, m1, m2, m3, m4, m5, m6, m7, f0, f1, f2, f3, f4, f5, f6, f7, ml⟩ := rowc8 HX2.out.xa.row
    obtain ⟨z0, z1, z2, z3, z4, z5, z6, z7, y0, y1, y2, y3, y4, y5, y6, y7, zl⟩ := rowc8 HX2.out.zrow
    obtain ⟨Y, hY⟩ : ∃ Y, V2.setCell ⟨M, 6, none⟩ (.slice A n k) = Y := ⟨_, rfl⟩
    have HY := hide (show DY4 w Y R Z M c S1 45 45 #[.int .i64 0, .int .i64 0, .int .i64 0, .int .i64 0, .int .i64 0, .int .i64 0, .slice none 0 0, .int .i64 0] #[.int .i64 13, .int .i64 d, .int .i64 0, .int .i64 0, .int .i64 0, .int .i64 a.1, .slice A n k, .int .i64 0] _ from hY ▸ HX2.out.set (j := 6) (x := .slice A n k) rfl)
    clear z0 z1 z2 z3 z4 z5 z6 z7 y0 y1 y2 y3 y4 y5 y6 y7 zl
    clear m0 m1 m2 m3 m4 m5 m6 m7 f0 f1 f2 f3 f4 f5 f6 f7 ml
    obtain ⟨m0, m1, m2, m3, m4, m5, m6, m7, f0, f1, f2, f3, f4, f5, f6, f7, ml⟩ := rowc8 HY.out.xa.row
    obtain ⟨z0, z1, z2, z3, z4, z5, z6, z7, y0, y1, y2, y3, y4, y5, y6, y7, zl⟩ := rowc8 HY.out.zrow
    have k3 := (rowc8 HX2.out.xa.row).2.2.2.2.2.2.1
    have e3 := HX2.out.xa.fz 6
    have kl := HX2.out.xa.ml
    have HFN := hide (DX4.fin8 HY.out.zx (.int .i64 13) (.int .i64 d) (.int .i64 0) (.int .i64 0) (.int .i64 0) (.int .i64 a.1) (.slice A n k) (.int .i64 0))
    have HOF := hide ((own_set8 (hY ▸ own_set1 HO.out (Nat.lt_succ_self M)) (Z := Z) (by have := HY.out.z2; omega) (.int .i64 13) (.int .i64 d) (.int .i64 0) (.int .i64 0) (.int .i64 0) (.int .i64 a.1) (.slice A n k) (.int .i64 0)).lower28 (b' := w.heap.size) (by have := HY.out.z2; have := HZR.out.2; omega))
    refine hide ?_
    go_wp2_with fail
    refine bodyPost_ret (results_cell_row Tryz.results156 _ _ Z _ _ (0, 0) _ rfl HFN.out.row Tryz.underlying45 rfl (by kernel_rfl)) rfl ?_
    rw [HE.out]
    exact ⟨A, n, k, rfl, HOF.out, HFN.out.ra.rd.cur.moreS (fun b _ h => by rw [HS1.out] at h; exact h.1) HNS.out, HFN.out.ra.only⟩
   | false =>
   have HK1 := hide (fun (W : World) (hat : DocAt W S1 c s) => show Calls Tryz.prog 47 #[.pointer (some ⟨c, 0, none⟩), .string ⟨#[99, 111, 110, 115, 116]⟩] W (DocP S1 c W s (.bool false)) from dKeyF hat hb1)
   have HK2 := hide (fun (W : World) (hat : DocAt W S1 c s) => show Calls Tryz.prog 47 #[.pointer (some ⟨c, 0, none⟩), .string ⟨#[108, 111, 97, 100]⟩] W (DocP S1 c W s (.bool false)) from dKeyF hat hb2)
   have HK3 := hide (fun (W : World) (hat : DocAt W S1 c s) => show Calls Tryz.prog 47 #[.pointer (some ⟨c, 0, none⟩), .string ⟨#[99, 97, 108, 108]⟩] W (DocP S1 c W s (.bool false)) from dKeyF hat hb3)
   obtain ⟨a, ha⟩ : ∃ a, varC s = a := ⟨_, rfl⟩
   have HE := hide (show X = (⟨14, d, a.1, 0, 0, 0, [], 0⟩, a.2) from by rw [← HXQ.out, HOP.out, if_neg (by rw [hb1]; decide), if_neg (by rw [hb2]; decide), if_neg (by rw [hb3]; decide), ← ha]; rfl)
   clear hb1 hb2 hb3
   go_wp2_with (go_at_call 47; (with_reducible refine (HK1.out _ HT2.out.ra.rd.cur).mono ?_); rintro e V0 ⟨rfl, hat, hon⟩; refine Hd.out ?_)
   have HT11 := hide (HT2.out.call hon hat)
   clear hat hon
   clear z0 z1 z2 z3 z4 z5 z6 z7 y0 y1 y2 y3 y4 y5 y6 y7 zl
   obtain ⟨z0, z1, z2, z3, z4, z5, z6, z7, y0, y1, y2, y3, y4, y5, y6, y7, zl⟩ := rowc8 HT11.out.row
   refine hide ?_
   skip
   go_wp2_with (go_at_call 47; (with_reducible refine (HK2.out _ HT11.out.ra.rd.cur).mono ?_); rintro e V0 ⟨rfl, hat, hon⟩; refine Hd.out ?_)
   have HT12 := hide (HT11.out.call hon hat)
   clear hat hon
   clear z0 z1 z2 z3 z4 z5 z6 z7 y0 y1 y2 y3 y4 y5 y6 y7 zl
   obtain ⟨z0, z1, z2, z3, z4, z5, z6, z7, y0, y1, y2, y3, y4, y5, y6, y7, zl⟩ := rowc8 HT12.out.row
   refine hide ?_
   skip
   go_wp2_with (go_at_call 47; (with_reducible refine (HK3.out _ HT12.out.ra.rd.cur).mono ?_); rintro e V0 ⟨rfl, hat, hon⟩; refine Hd.out ?_)
   have HT13 := hide (HT12.out.call hon hat)
   clear hat hon
   clear z0 z1 z2 z3 z4 z5 z6 z7 y0 y1 y2 y3 y4 y5 y6 y7 zl
   obtain ⟨z0, z1, z2, z3, z4, z5, z6, z7, y0, y1, y2, y3, y4, y5, y6, y7, zl⟩ := rowc8 HT13.out.row
   refine hide ?_
   skip
   have HA := hide (show Calls Tryz.prog 104 #[.pointer (some ⟨c, 0, none⟩)] _ (DocP S1 c _ a.2 (.int .i64 a.1)) from ha ▸ dvariable_any HT13.out.ra.rd)
   clear ha
   go_wp2_with (go_at_call 104; (with_reducible refine HA.out.mono ?_); rintro e V1 ⟨rfl, hat, hon⟩; refine Hd.out ?_)
   have HT3 := hide (HT13.out.call hon hat)
   clear hat hon
   clear z0 z1 z2 z3 z4 z5 z6 z7 y0 y1 y2 y3 y4 y5 y6 y7 zl
   obtain ⟨z0, z1, z2, z3, z4, z5, z6, z7, y0, y1, y2, y3, y4, y5, y6, y7, zl⟩ := rowc8 HT3.out.row
   have HFN := hide (DX4.fin8 HT3.out (.int .i64 14) (.int .i64 d) (.int .i64 a.1) (.int .i64 0) (.int .i64 0) (.int .i64 0) (.slice none 0 0) (.int .i64 0))
   refine hide ?_
   go_wp2_with fail
   refine bodyPost_ret (results_cell_row Tryz.results156 _ _ Z _ _ (0, 0) _ rfl HFN.out.row Tryz.underlying45 rfl (by kernel_rfl)) rfl ?_
   rw [HE.out]
   exact ⟨none, 0, 0, rfl, OwnL.nil_ _ _ _ _, HFN.out.ra.rd.cur.moreS (fun b _ h => by rw [HS1.out] at h; exact h.1) HNS.out, HFN.out.ra.only⟩
end Go.Proofs.YtljglhaeonbfoaaGreatDoor
