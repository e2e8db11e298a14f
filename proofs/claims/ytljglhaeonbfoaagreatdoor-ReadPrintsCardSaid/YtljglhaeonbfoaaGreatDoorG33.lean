/- law04: walks: what an instruction has, behind its name. law04: walks: a store is read. Printed by gen_w4f.py. -/
import Derived.Test.YtljglhaeonbfoaaGreatDoorG56
set_option linter.unusedSimpArgs false
set_option linter.unusedVariables false
namespace Go.Proofs.YtljglhaeonbfoaaGreatDoor
open Go.RowKit
theorem cells8 {W : World} {M : Nat} {a b d e f g h i : Value} {T : TypeId} (hr : W.heap[M]? = some (.cells #[a, b, d, e, f, g, h, i] T (0, 0))) : W.cell? ⟨M, 0, none⟩ = some a ∧ W.cell? ⟨M, 1, none⟩ = some b ∧ W.cell? ⟨M, 2, none⟩ = some d ∧ W.cell? ⟨M, 3, none⟩ = some e ∧ W.cell? ⟨M, 4, none⟩ = some f ∧ W.cell? ⟨M, 5, none⟩ = some g ∧ W.cell? ⟨M, 6, none⟩ = some h ∧ W.cell? ⟨M, 7, none⟩ = some i :=
 ⟨cell_of_row W M _ _ _ (0, 0) hr, cell_of_row W M _ _ _ (0, 0) hr, cell_of_row W M _ _ _ (0, 0) hr, cell_of_row W M _ _ _ (0, 0) hr, cell_of_row W M _ _ _ (0, 0) hr, cell_of_row W M _ _ _ (0, 0) hr, cell_of_row W M _ _ _ (0, 0) hr, cell_of_row W M _ _ _ (0, 0) hr⟩
def InsP (S : Nat → Prop) (c : Nat) (w : World) (r : Ins × Cur) (e : Ending) (w' : World) : Prop :=
 ∃ A n k, e = .returned (.iface 45 (.agg #[.int .i64 r.1.op, .int .i64 r.1.dst, .int .i64 r.1.a, .int .i64 r.1.b, .int .i64 r.1.imm, .int .i64 r.1.callee, .slice A n k, .int .i64 r.1.many])) ∧ OwnL w' w.heap.size 3 (fun _ => False) (.slice A n k) r.1.args ∧ CurAt w' S c r.2 ∧ Only c w w'
theorem immC_in (s : Cur) : -1099511627776 ≤ (immC s).1 ∧ (immC s).1 ≤ 1099511627776 := numC_rng (by decide) (by decide) s
set_option maxRecDepth 100000 in
set_option maxHeartbeats 16000000 in
theorem ins_any (w : World) (S : Nat → Prop) (c : Nat) (s : Cur) (o dst : Int) (h : Rd4 w S c s) : Calls Tryz.prog 143 #[rd4 c, .int .i64 o, .int .i64 dst] w (InsP S c w (insC false o dst s)) := by
 have HNS := hide h.cur.nS
 obtain ⟨R, hR⟩ : ∃ R, w.heap.size = R := ⟨_, rfl⟩
 obtain ⟨S1, hS1⟩ : ∃ S1 : Nat → Prop, S1 = fun b => S b ∧ b < R := ⟨_, rfl⟩
 obtain ⟨W1, hW1⟩ : ∃ W1, w.alloc (.cells #[.pointer (some ⟨c, 0, none⟩)] 77) = W1 := ⟨_, rfl⟩
 have HT1 := hide (show RA4 w W1 R c S1 s from by rw [hS1, ← hW1, ← hR]; exact RA4.start h)
 have HS1 := hide hS1
 have HRQ := hide hR
 obtain ⟨M, hM⟩ : ∃ M, W1.heap.size = M := ⟨_, rfl⟩
 obtain ⟨X, hX⟩ : ∃ X, insC false o dst s = X := ⟨_, rfl⟩
 rw [hX]
 have HXQ := hide hX
 have HMQ := hide hM
 have r0 := HT1.out.k0
 have rl : R < M := by have := HT1.out.rl; omega
 clear h hS1 hX
 have HX2 := hide (show XA4 w (W1.alloc (.cells #[.int .i64 o, .int .i64 dst, .int .i64 0, .int .i64 0, .int .i64 0, .int .i64 0, .slice none 0 0, .int .i64 0] 45)) R M c S1 45 #[.int .i64 o, .int .i64 dst, .int .i64 0, .int .i64 0, .int .i64 0, .int .i64 0, .slice none 0 0, .int .i64 0] s from by rw [← hM]; exact XA4.start HT1.out _ _)
 by_cases h1 : o = 1
 ·subst h1
  have HE := hide (show X = (⟨1, dst, 0, 0, (immC s).1, 0, [], 0⟩, (immC s).2) from by rw [← HXQ.out]; rfl)
  have HI := hide (imm_any HX2.out.ra.rd.cur)
  have HSF := hide (show SufX s (immC s).2 from sfx_num (-1099511627776) 1099511627776 s)
  generalize immC s = q at HE HI HSF
  go_enter Tryz.func143, Tryz.ntmps143
  go_wp2_with (go_at_call 179; (with_reducible refine HI.out.mono ?_); rintro e V1 ⟨rfl, hat, hon⟩; have HV1 := hide (HX2.out.call hon hat HSF.out); clear hat hon; obtain ⟨m0, m1, m2, m3, m4, m5, m6, m7⟩ := cells8 HV1.out.row; have ml := HV1.out.ml; have ff := HV1.out.fz 4; obtain ⟨Y1, hY⟩ : ∃ Y, V1.setCell ⟨M, 4, none⟩ (.int .i64 q.1) = Y := ⟨_, rfl⟩; have HY1 := hide (show XA4 w Y1 R M c S1 45 _ _ from hY ▸ HV1.out.set (j := 4) (x := .int .i64 q.1) rfl); have y0 := HY1.out.ra.k0; have yl := HY1.out.ra.rl; obtain ⟨z0, z1, z2, z3, z4, z5, z6, z7⟩ := cells8 HY1.out.row; have zl := HY1.out.ml)
  go_ret
  rw [HE.out]
  exact ⟨none, 0, 0, rfl, OwnL.nil_ _ _ _ _, HY1.out.ra.rd.cur.moreS (fun b _ h => by rw [HS1.out] at h; exact h.1) HNS.out, HY1.out.ra.only⟩
 ·by_cases h2 : o = 13
  ·subst h2
   have hn13 : ((13 : Int) == 1) = false := rfl
   obtain ⟨q, hq⟩ : ∃ q, numC 0 99 s = q := ⟨_, rfl⟩
   obtain ⟨l, hl⟩ : ∃ l, someC false false ([], q.2) = l := ⟨_, rfl⟩
   have HE := hide (show X = (⟨13, dst, 0, 0, 0, q.1, l.1, 0⟩, l.2) from by rw [← HXQ.out, ← hl, ← hq]; rfl)
   have HN := hide (show Calls Tryz.prog 97 #[.pointer (some ⟨c, 0, none⟩), .int .i64 0, .int .i64 99] _ _ from cNum HX2.out.ra.rd.cur 0 99)
   rw [hq] at HN
   have HSF := hide (show SufX s q.2 from hq ▸ sfx_num 0 99 s)
   have HSM := hide (fun (W : World) (h : Rd4 W S1 c q.2) => show Calls Tryz.prog 41 #[rd4 c, .bool false] W (ListP S1 c W l) from hl ▸ some_any W S1 c q.2 false h)
   have HSL := hide (show SufX q.2 l.2 from hl ▸ sfx_some false false ([], q.2))
   clear hq hl
   go_enter Tryz.func143, Tryz.ntmps143
   go_wp2_with (first | (go_at_call 97; (with_reducible refine HN.out.mono ?_); rintro e V1 ⟨rfl, hat, hon⟩; have HV1 := hide (HX2.out.call hon hat HSF.out); clear hat hon; obtain ⟨m0, m1, m2, m3, m4, m5, m6, m7⟩ := cells8 HV1.out.row; have ml := HV1.out.ml; have ff := HV1.out.fz 5; obtain ⟨Y1, hY⟩ : ∃ Y, V1.setCell ⟨M, 5, none⟩ (.int .i64 q.1) = Y := ⟨_, rfl⟩; have HY1 := hide (show XA4 w Y1 R M c S1 45 _ _ from hY ▸ HV1.out.set (j := 5) (x := .int .i64 q.1) rfl); have y0 := HY1.out.ra.k0; have yl := HY1.out.ra.rl) | (go_at_call 41; (with_reducible refine (HSM.out _ HY1.out.ra.rd).mono ?_); rintro e V2 ⟨A, n, k, rfl, ho, hat, hon⟩; have HV2 := hide (HY1.out.call hon hat HSL.out); have HO := hide ho; clear hat hon ho m0 m1 m2 m3 m4 m5 m6 m7 ml ff y0 yl hY; obtain ⟨m0, m1, m2, m3, m4, m5, m6, m7⟩ := cells8 HV2.out.row; have ml := HV2.out.ml; have ff := HV2.out.fz 6; obtain ⟨Y2, hY⟩ : ∃ Y, V2.setCell ⟨M, 6, none⟩ (.slice A n k) = Y := ⟨_, rfl⟩; have HY2 := hide (show XA4 w Y2 R M c S1 45 _ _ from hY ▸ HV2.out.set (j := 6) (x := .slice A n k) rfl); have HOY := hide (show OwnL Y2 w.heap.size 3 (fun _ => False) (.slice A n k) _ from hY ▸ (HO.out.setCell (fun e => e) (fun e => by have h5 : Y1.heap.size ≤ M := (HO.out.below_ _ e).1; have h6 := HY1.out.ml; omega) _).lower28 HY1.out.ra.only.size); have y0 := HY2.out.ra.k0; have yl := HY2.out.ra.rl; obtain ⟨z0, z1, z2, z3, z4, z5, z6, z7⟩ := cells8 HY2.out.row; have zl := HY2.out.ml))
   go_ret
   rw [HE.out]
   exact ⟨A, n, k, rfl, HOY.out, HY2.out.ra.rd.cur.moreS (fun b _ h => by rw [HS1.out] at h; exact h.1) HNS.out, HY2.out.ra.only⟩
  ·have b1 : (o == 1) = false := by simpa using h1
   have b2 : (o == 13) = false := by simpa using h2
   have HA := hide (variable_any HX2.out.ra.rd.cur HX2.out.ra.rd.vars HX2.out.ra.rd.wd)
   have HSF := hide (sfx_var s)
   by_cases h3 : o = 11
   ·obtain ⟨m, hm⟩ : ∃ m, immC (varC s).2 = m := ⟨_, rfl⟩
    have HE := hide (show X = (⟨11, dst, (varC s).1, 0, m.1, 0, [], 0⟩, m.2) from by rw [← HXQ.out, ← hm, h3]; rfl)
    have HSM := hide (show SufX (varC s).2 m.2 from hm ▸ sfx_num _ _ _)
    have HI := hide (fun (W : World) (h : CurAt W S1 c (varC s).2) => show Calls Tryz.prog 179 #[rd4 c] W (CurP S1 c W m.2 (.int .i64 m.1)) from hm ▸ imm_any h)
    clear hm
    generalize varC s = q at HE HA HSF HSM HI
    have b3 : (o == 11) = true := by simpa using h3
    have b4 : decide (o ≤ 10) = false := by simp; omega
    have HO11 := hide h3
    clear h1 h2 h3
    go_enter Tryz.func143, Tryz.ntmps143
    go_wp2_with (first | (go_at_call 95; (with_reducible refine HA.out.mono ?_); rintro e V1 ⟨rfl, hat, hon⟩; have HV1 := hide (HX2.out.call hon hat HSF.out); clear hat hon; obtain ⟨m0, m1, m2, m3, m4, m5, m6, m7⟩ := cells8 HV1.out.row; have ml := HV1.out.ml; have ff := HV1.out.fz 2; obtain ⟨Y1, hY⟩ : ∃ Y, V1.setCell ⟨M, 2, none⟩ (.int .i64 q.1) = Y := ⟨_, rfl⟩; have HY1 := hide (show XA4 w Y1 R M c S1 45 _ _ from hY ▸ HV1.out.set (j := 2) (x := .int .i64 q.1) rfl); have y0 := HY1.out.ra.k0; have yl := HY1.out.ra.rl) | (go_at_call 179; (with_reducible refine (HI.out _ HY1.out.ra.rd.cur).mono ?_); rintro e V2 ⟨rfl, hat, hon⟩; have HV2 := hide (HY1.out.call hon hat HSM.out); clear hat hon m0 m1 m2 m3 m4 m5 m6 m7 ml ff y0 yl hY; obtain ⟨m0, m1, m2, m3, m4, m5, m6, m7⟩ := cells8 HV2.out.row; have ml := HV2.out.ml; have ff := HV2.out.fz 4; obtain ⟨Y2, hY⟩ : ∃ Y, V2.setCell ⟨M, 4, none⟩ (.int .i64 m.1) = Y := ⟨_, rfl⟩; have HY2 := hide (show XA4 w Y2 R M c S1 45 _ _ from hY ▸ HV2.out.set (j := 4) (x := .int .i64 m.1) rfl); have y0 := HY2.out.ra.k0; have yl := HY2.out.ra.rl; obtain ⟨z0, z1, z2, z3, z4, z5, z6, z7⟩ := cells8 HY2.out.row; have zl := HY2.out.ml))
    rw [HO11.out] at HY2 ⊢
    go_ret
    rw [HE.out]
    exact ⟨none, 0, 0, rfl, OwnL.nil_ _ _ _ _, HY2.out.ra.rd.cur.moreS (fun b _ h => by rw [HS1.out] at h; exact h.1) HNS.out, HY2.out.ra.only⟩
   ·have b3 : (o == 11) = false := by simpa using h3
    by_cases h4 : o ≤ 10
    ·obtain ⟨m, hm⟩ : ∃ m, varC (varC s).2 = m := ⟨_, rfl⟩
     have HE := hide (show X = (⟨o, dst, (varC s).1, m.1, 0, 0, [], 0⟩, m.2) from by rw [← HXQ.out, ← hm]; unfold insC; rw [if_neg h1, if_neg h2]; simp only; rw [if_neg h3, if_pos h4])
     have HSM := hide (show SufX (varC s).2 m.2 from hm ▸ sfx_var _)
     have HI := hide (fun (W : World) (h : Rd4 W S1 c (varC s).2) => show Calls Tryz.prog 95 #[rd4 c] W (CurP S1 c W m.2 (.int .i64 m.1)) from hm ▸ variable_any h.cur h.vars h.wd)
     clear hm
     generalize varC s = q at HE HA HSF HSM HI
     have b4 : decide (o ≤ 10) = true := by simpa using h4
     clear h1 h2 h3
     go_enter Tryz.func143, Tryz.ntmps143
     go_wp2_with (first | (go_at_call 95; (with_reducible refine HA.out.mono ?_); rintro e V1 ⟨rfl, hat, hon⟩; have HV1 := hide (HX2.out.call hon hat HSF.out); clear hat hon; obtain ⟨m0, m1, m2, m3, m4, m5, m6, m7⟩ := cells8 HV1.out.row; have ml := HV1.out.ml; have ff := HV1.out.fz 2; obtain ⟨Y1, hY⟩ : ∃ Y, V1.setCell ⟨M, 2, none⟩ (.int .i64 q.1) = Y := ⟨_, rfl⟩; have HY1 := hide (show XA4 w Y1 R M c S1 45 _ _ from hY ▸ HV1.out.set (j := 2) (x := .int .i64 q.1) rfl); have y0 := HY1.out.ra.k0; have yl := HY1.out.ra.rl) | (go_at_call 95; (with_reducible refine (HI.out _ HY1.out.ra.rd).mono ?_); rintro e V2 ⟨rfl, hat, hon⟩; have HV2 := hide (HY1.out.call hon hat HSM.out); clear hat hon m0 m1 m2 m3 m4 m5 m6 m7 ml ff y0 yl hY; obtain ⟨m0, m1, m2, m3, m4, m5, m6, m7⟩ := cells8 HV2.out.row; have ml := HV2.out.ml; have ff := HV2.out.fz 3; obtain ⟨Y2, hY⟩ : ∃ Y, V2.setCell ⟨M, 3, none⟩ (.int .i64 m.1) = Y := ⟨_, rfl⟩; have HY2 := hide (show XA4 w Y2 R M c S1 45 _ _ from hY ▸ HV2.out.set (j := 3) (x := .int .i64 m.1) rfl); have y0 := HY2.out.ra.k0; have yl := HY2.out.ra.rl; obtain ⟨z0, z1, z2, z3, z4, z5, z6, z7⟩ := cells8 HY2.out.row; have zl := HY2.out.ml))
     go_ret
     rw [HE.out]
     exact ⟨none, 0, 0, rfl, OwnL.nil_ _ _ _ _, HY2.out.ra.rd.cur.moreS (fun b _ h => by rw [HS1.out] at h; exact h.1) HNS.out, HY2.out.ra.only⟩
    ·have HE := hide (show X = (⟨o, dst, (varC s).1, 0, 0, 0, [], 0⟩, (varC s).2) from by rw [← HXQ.out]; unfold insC; rw [if_neg h1, if_neg h2]; simp only; rw [if_neg h3, if_neg h4])
     generalize varC s = q at HE HA HSF
     have b4 : decide (o ≤ 10) = false := by simpa using h4
     clear h1 h2 h3
     go_enter Tryz.func143, Tryz.ntmps143
     go_wp2_with (go_at_call 95; (with_reducible refine HA.out.mono ?_); rintro e V1 ⟨rfl, hat, hon⟩; have HV1 := hide (HX2.out.call hon hat HSF.out); clear hat hon; obtain ⟨m0, m1, m2, m3, m4, m5, m6, m7⟩ := cells8 HV1.out.row; have ml := HV1.out.ml; have ff := HV1.out.fz 2; obtain ⟨Y1, hY⟩ : ∃ Y, V1.setCell ⟨M, 2, none⟩ (.int .i64 q.1) = Y := ⟨_, rfl⟩; have HY1 := hide (show XA4 w Y1 R M c S1 45 _ _ from hY ▸ HV1.out.set (j := 2) (x := .int .i64 q.1) rfl); have y0 := HY1.out.ra.k0; have yl := HY1.out.ra.rl; obtain ⟨z0, z1, z2, z3, z4, z5, z6, z7⟩ := cells8 HY1.out.row; have zl := HY1.out.ml)
     go_ret
     rw [HE.out]
     exact ⟨none, 0, 0, rfl, OwnL.nil_ _ _ _ _, HY1.out.ra.rd.cur.moreS (fun b _ h => by rw [HS1.out] at h; exact h.1) HNS.out, HY1.out.ra.only⟩
end Go.Proofs.YtljglhaeonbfoaaGreatDoor
namespace Go.Proofs.YtljglhaeonbfoaaGreatDoor
open Go.RowKit
def storeC (s : Cur) : Ins × Cur := (⟨12, 0, (varC s).1, (varC (immC (varC s).2).2).1, (immC (varC s).2).1, 0, [], 0⟩, (varC (immC (varC s).2).2).2)
set_option maxRecDepth 100000 in
set_option maxHeartbeats 16000000 in
theorem store_any (w : World) (S : Nat → Prop) (c : Nat) (s : Cur) (h : Rd4 w S c s) : Calls Tryz.prog 142 #[rd4 c] w (InsP S c w (storeC s)) := by
 have HNS := hide h.cur.nS
 obtain ⟨R, hR⟩ : ∃ R, w.heap.size = R := ⟨_, rfl⟩
 obtain ⟨S1, hS1⟩ : ∃ S1 : Nat → Prop, S1 = fun b => S b ∧ b < R := ⟨_, rfl⟩
 obtain ⟨W1, hW1⟩ : ∃ W1, w.alloc (.cells #[.pointer (some ⟨c, 0, none⟩)] 77) = W1 := ⟨_, rfl⟩
 have HT1 := hide (show RA4 w W1 R c S1 s from by rw [hS1, ← hW1, ← hR]; exact RA4.start h)
 have HS1 := hide hS1
 have HRQ := hide hR
 obtain ⟨X, hX⟩ : ∃ X, storeC s = X := ⟨_, rfl⟩
 rw [hX]
 have HXQ := hide hX
 have r0 := HT1.out.k0
 have rl := HT1.out.rl
 clear h hS1 hX
 obtain ⟨m, hm⟩ : ∃ m, immC (varC s).2 = m := ⟨_, rfl⟩
 obtain ⟨b, hb⟩ : ∃ b, varC m.2 = b := ⟨_, rfl⟩
 have HE := hide (show X = (⟨12, 0, (varC s).1, b.1, m.1, 0, [], 0⟩, b.2) from by rw [← HXQ.out, ← hb, ← hm]; rfl)
 have HSM := hide (show SufX (varC s).2 m.2 from hm ▸ sfx_num _ _ _)
 have HSB := hide (show SufX m.2 b.2 from hb ▸ sfx_var _)
 have HI := hide (fun (W : World) (h : CurAt W S1 c (varC s).2) => show Calls Tryz.prog 179 #[rd4 c] W (CurP S1 c W m.2 (.int .i64 m.1)) from hm ▸ imm_any h)
 have HB := hide (fun (W : World) (h : Rd4 W S1 c m.2) => show Calls Tryz.prog 95 #[rd4 c] W (CurP S1 c W b.2 (.int .i64 b.1)) from hb ▸ variable_any h.cur h.vars h.wd)
 have HA := hide (variable_any HT1.out.rd.cur HT1.out.rd.vars HT1.out.rd.wd)
 have HSF := hide (sfx_var s)
 clear hm hb
 generalize varC s = q at HE HA HSF HSM HI
 go_enter Tryz.func142, Tryz.ntmps142
 go_wp2_with (first | (go_at_call 95; (with_reducible refine HA.out.mono ?_); rintro e V1 ⟨rfl, hat, hon⟩; have HV1 := hide (HT1.out.call hon hat HSF.out); clear hat hon r0 rl; have r0 := HV1.out.k0; obtain ⟨M, hM⟩ : ∃ M, V1.heap.size = M := ⟨_, rfl⟩; have rl : R < M := (by have := HV1.out.rl; omega); have HX2 := hide (show XA4 w (V1.alloc (.cells #[.int .i64 12, .int .i64 0, .int .i64 q.1, .int .i64 0, .int .i64 0, .int .i64 0, .slice none 0 0, .int .i64 0] 45)) R M c S1 45 #[.int .i64 12, .int .i64 0, .int .i64 q.1, .int .i64 0, .int .i64 0, .int .i64 0, .slice none 0 0, .int .i64 0] q.2 from (by rw [← hM]; exact XA4.start HV1.out _ _))) | (go_at_call 179; (with_reducible refine (HI.out _ HX2.out.ra.rd.cur).mono ?_); rintro e V2 ⟨rfl, hat, hon⟩; have HV2 := hide (HX2.out.call hon hat HSM.out); clear hat hon; obtain ⟨m0, m1, m2, m3, m4, m5, m6, m7⟩ := cells8 HV2.out.row; have ml := HV2.out.ml; have ff := HV2.out.fz 4; obtain ⟨Y2, hY⟩ : ∃ Y, V2.setCell ⟨M, 4, none⟩ (.int .i64 m.1) = Y := ⟨_, rfl⟩; have HY2 := hide (show XA4 w Y2 R M c S1 45 _ _ from hY ▸ HV2.out.set (j := 4) (x := .int .i64 m.1) rfl); have y0 := HY2.out.ra.k0; have yl := HY2.out.ra.rl) | (go_at_call 95; (with_reducible refine (HB.out _ HY2.out.ra.rd).mono ?_); rintro e V3 ⟨rfl, hat, hon⟩; have HV3 := hide (HY2.out.call hon hat HSB.out); clear hat hon m0 m1 m2 m3 m4 m5 m6 m7 ml ff y0 yl hY; obtain ⟨m0, m1, m2, m3, m4, m5, m6, m7⟩ := cells8 HV3.out.row; have ml := HV3.out.ml; have ff := HV3.out.fz 3; obtain ⟨Y3, hY⟩ : ∃ Y, V3.setCell ⟨M, 3, none⟩ (.int .i64 b.1) = Y := ⟨_, rfl⟩; have HY3 := hide (show XA4 w Y3 R M c S1 45 _ _ from hY ▸ HV3.out.set (j := 3) (x := .int .i64 b.1) rfl); have y0 := HY3.out.ra.k0; have yl := HY3.out.ra.rl; obtain ⟨z0, z1, z2, z3, z4, z5, z6, z7⟩ := cells8 HY3.out.row; have zl := HY3.out.ml))
 go_ret
 rw [HE.out]
 exact ⟨none, 0, 0, rfl, OwnL.nil_ _ _ _ _, HY3.out.ra.rd.cur.moreS (fun b _ h => by rw [HS1.out] at h; exact h.1) HNS.out, HY3.out.ra.only⟩
end Go.Proofs.YtljglhaeonbfoaaGreatDoor
