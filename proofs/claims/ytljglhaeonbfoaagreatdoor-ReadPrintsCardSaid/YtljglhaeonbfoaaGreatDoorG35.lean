/- law04: walks: a line is read. Printed by gen_w4h.py. law04: walks: is the reader not broken; what stands while a block is read. -/
import Derived.Test.YtljglhaeonbfoaaGreatDoorG33
import Derived.Test.YtljglhaeonbfoaaGreatDoorG31
import Derived.BigGuardPart
set_option linter.unusedSimpArgs false
set_option linter.unusedVariables false
namespace Go.Proofs.YtljglhaeonbfoaaGreatDoor
open Go.RowKit
theorem cells4 {W : World} {M : Nat} {a b d e : Value} {T : TypeId} (hr : W.heap[M]? = some (.cells #[a, b, d, e] T (0, 0))) : W.cell? ⟨M, 0, none⟩ = some a ∧ W.cell? ⟨M, 1, none⟩ = some b ∧ W.cell? ⟨M, 2, none⟩ = some d ∧ W.cell? ⟨M, 3, none⟩ = some e :=
 ⟨cell_of_row W M _ _ _ (0, 0) hr, cell_of_row W M _ _ _ (0, 0) hr, cell_of_row W M _ _ _ (0, 0) hr, cell_of_row W M _ _ _ (0, 0) hr⟩
def LnV (w' : World) (B : Nat) (v : Value) : Ln → Prop
 | .ins i => ∃ A n k, v = .iface 45 (.agg #[.int .i64 i.op, .int .i64 i.dst, .int .i64 i.a, .int .i64 i.b, .int .i64 i.imm, .int .i64 i.callee, .slice A n k, .int .i64 i.many]) ∧ OwnL w' B 3 (fun _ => False) (.slice A n k) i.args
 | .term t => v = .iface 50 (.agg #[.int .i64 t.kind, .int .i64 t.a, .int .i64 t.to0, .int .i64 t.to1])
def LnP (S : Nat → Prop) (c : Nat) (w : World) (r : Ln × Cur) (e : Ending) (w' : World) : Prop :=
 ∃ v, e = .returned v ∧ LnV w' w.heap.size v r.1 ∧ CurAt w' S c r.2 ∧ Only c w w'
abbrev tmCs (k a x y : Int) : Array Value := #[.int .i64 k, .int .i64 a, .int .i64 x, .int .i64 y]
section
variable {w0 w W W' : World} {R M c : Nat} {S : Nat → Prop} {T : TypeId} {cs cs' : Array Value} {s s' : Cur}
theorem XA4.drew (h : XA4 w0 W R M c S T cs s) : XA4 w0 W.drew R M c S T cs s := h.call (Only.drew_ c W) h.ra.rd.cur.drew (SufX.refl s)
theorem XA4.facts (h : XA4 w0 W R M c S T cs s) : W.cell? ⟨R, 0, none⟩ = some (.pointer (some ⟨c, 0, none⟩)) ∧ R < W.heap.size ∧ M < W.heap.size ∧ W.frozen? ⟨M, 0, none⟩ = false ∧ W.frozen? ⟨M, 1, none⟩ = false ∧ W.frozen? ⟨M, 2, none⟩ = false ∧ W.frozen? ⟨M, 3, none⟩ = false := ⟨h.ra.k0, h.ra.rl, h.ml, h.fz 0, h.fz 1, h.fz 2, h.fz 3⟩
end
def csB (v n m : Int) : Nat → Array Value
 | 0 => tmCs 4 0 0 0
 | 1 => tmCs 4 0 0 0
 | 2 => tmCs 4 0 0 0
 | 3 => tmCs 2 0 0 0
 | 4 => tmCs 2 v 0 0
 | _ => tmCs 2 v n m
def crB (s n m : Cur) : Nat → Cur
 | 0 => s
 | 1 => n
 | _ => m
set_option maxRecDepth 100000 in
set_option maxHeartbeats 32000000 in
theorem one_any (w : World) (S : Nat → Prop) (c : Nat) (s : Cur) (h : Rd4 w S c s) : Calls Tryz.prog 99 #[rd4 c] w (LnP S c w (oneC false s)) := by
 have HNS := hide h.cur.nS
 obtain ⟨R, hR⟩ : ∃ R, w.heap.size = R := ⟨_, rfl⟩
 obtain ⟨S1, hS1⟩ : ∃ S1 : Nat → Prop, S1 = fun b => S b ∧ b < R := ⟨_, rfl⟩
 obtain ⟨W1, hW1⟩ : ∃ W1, w.alloc (.cells #[.pointer (some ⟨c, 0, none⟩)] 77) = W1 := ⟨_, rfl⟩
 have HT1 := hide (show RA4 w W1 R c S1 s from by rw [hS1, ← hW1, ← hR]; exact RA4.start h)
 have HS1 := hide hS1
 have HRQ := hide hR
 obtain ⟨M, hM⟩ : ∃ M, W1.heap.size = M := ⟨_, rfl⟩
 obtain ⟨X, hX⟩ : ∃ X, oneC false s = X := ⟨_, rfl⟩
 rw [hX]
 have HXQ := hide hX
 have r0 := HT1.out.k0
 have rl : R < M := by have := HT1.out.rl; omega
 have HX0 := hide (show XA4 w (W1.alloc (.cells (tmCs 4 0 0 0) 50)) R M c S1 50 (tmCs 4 0 0 0) s from by rw [← hM]; exact XA4.start HT1.out _ _)
 clear h hS1 hX
 obtain ⟨q1, hq⟩ : ∃ q, isC (.nm tTrap) s = q := ⟨_, rfl⟩
 have HQ1 := hide hq
 cases q1 with
 | true =>
  have HK1 := hide (fun (W : World) (h : CurAt W S1 c s) => show Calls Tryz.prog 39 #[.pointer (some ⟨c, 0, none⟩), .string ⟨#[116, 114, 97, 112]⟩] W (CurP S1 c W (popC s) (.bool true)) from by have h := cKey h tTrap; rw [hq] at h; exact h)
  clear hq
  have HE := hide (show X = (.term ⟨4, 0, 0, 0⟩, popC s) from by rw [← HXQ.out]; unfold oneC; rw [if_pos HQ1.out]; rfl)
  go_enter Tryz.func99, Tryz.ntmps99
  go_wp2_with (first | (go_at_call 39; (with_reducible refine (HK1.out _ HX0.out.ra.rd.cur).mono ?_); rintro e V1 ⟨rfl, hat, hon⟩; have HX1 := hide (HX0.out.call hon hat (sfx_over true s)); clear hat hon r0 rl; obtain ⟨m0, m1, m2, m3⟩ := cells4 HX1.out.row; obtain ⟨r0, rl, ml, f0, f1, f2, f3⟩ := HX1.out.facts))
  go_ret
  rw [HE.out]
  exact ⟨_, rfl, rfl, HX1.out.ra.rd.cur.moreS (fun b _ h => by rw [HS1.out] at h; exact h.1) HNS.out, HX1.out.ra.only⟩
 | false =>
  have HK1 := hide (fun (W : World) (h : CurAt W S1 c s) => show Calls Tryz.prog 39 #[.pointer (some ⟨c, 0, none⟩), .string ⟨#[116, 114, 97, 112]⟩] W (CurP S1 c W (s) (.bool false)) from by have h := cKey h tTrap; rw [hq] at h; exact h)
  clear hq
  obtain ⟨q2, hq⟩ : ∃ q, isC (.nm tReturn) s = q := ⟨_, rfl⟩
  have HQ2 := hide hq
  cases q2 with
  | true =>
   have HK2 := hide (fun (W : World) (h : CurAt W S1 c s) => show Calls Tryz.prog 39 #[.pointer (some ⟨c, 0, none⟩), .string ⟨#[114, 101, 116, 117, 114, 110]⟩] W (CurP S1 c W (popC s) (.bool true)) from by have h := cKey h tReturn; rw [hq] at h; exact h)
   clear hq
   have HEN := hide (fun (W : World) (h : CurAt W S1 c (popC s)) => cEnds h)
   cases he : endsC (popC s) with
   | true =>
    have HE := hide (show X = (.term ⟨3, 0, 0, 0⟩, popC s) from by rw [← HXQ.out]; unfold oneC; rw [if_neg (by rw [HQ1.out]; decide), if_pos HQ2.out]; simp only [termL]; rw [if_pos he])
    rw [he] at HEN
    clear he
    go_enter Tryz.func99, Tryz.ntmps99
    go_wp2_with (first | (go_at_call 39; (with_reducible refine (HK1.out _ HX0.out.ra.rd.cur).mono ?_); rintro e V1 ⟨rfl, hat, hon⟩; have HX1 := hide (HX0.out.call hon hat (sfx_over false s)); clear hat hon r0 rl; obtain ⟨m0, m1, m2, m3⟩ := cells4 HX1.out.row; obtain ⟨r0, rl, ml, f0, f1, f2, f3⟩ := HX1.out.facts) | (go_at_call 39; (with_reducible refine (HK2.out _ HX1.out.ra.rd.cur).mono ?_); rintro e V2 ⟨rfl, hat, hon⟩; have HX2 := hide (HX1.out.call hon hat (sfx_over true s)); clear hat hon m0 m1 m2 m3 r0 rl ml f0 f1 f2 f3; obtain ⟨m0, m1, m2, m3⟩ := cells4 HX2.out.row; obtain ⟨r0, rl, ml, f0, f1, f2, f3⟩ := HX2.out.facts; obtain ⟨Y, hY⟩ : ∃ Y, V2.setCell ⟨M, 0, none⟩ (.int .i64 3) = Y := ⟨_, rfl⟩; have HY := hide (show XA4 w Y R M c S1 50 (tmCs 3 0 0 0) (popC s) from hY ▸ HX2.out.set (j := 0) (x := .int .i64 3) rfl); obtain ⟨y0, yl, zl, g0, g1, g2, g3⟩ := HY.out.facts; obtain ⟨z0, z1, z2, z3⟩ := cells4 HY.out.row) | (go_at_call 92; (with_reducible refine (HEN.out _ HY.out.ra.rd.cur).mono ?_); rintro e w' ⟨rfl, rfl⟩))
    go_ret
    rw [HE.out]
    exact ⟨_, rfl, rfl, HY.out.ra.rd.cur.moreS (fun b _ h => by rw [HS1.out] at h; exact h.1) HNS.out, HY.out.ra.only⟩
   | false =>
    obtain ⟨v, hv⟩ : ∃ v, varC (popC s) = v := ⟨_, rfl⟩
    have HE := hide (show X = (.term ⟨3, v.1, 0, 0⟩, v.2) from by rw [← HXQ.out]; unfold oneC; rw [if_neg (by rw [HQ1.out]; decide), if_pos HQ2.out]; simp only [termL]; rw [if_neg (by rw [he]; decide), hv])
    rw [he] at HEN
    have HVA := hide (fun (W : World) (h : Rd4 W S1 c (popC s)) => show Calls Tryz.prog 95 #[rd4 c] W (CurP S1 c W v.2 (.int .i64 v.1)) from hv ▸ variable_any h.cur h.vars h.wd)
    have HSV := hide (show SufX (popC s) v.2 from hv ▸ sfx_var _)
    clear he hv
    go_enter Tryz.func99, Tryz.ntmps99
    go_wp2_with (first | (go_at_call 39; (with_reducible refine (HK1.out _ HX0.out.ra.rd.cur).mono ?_); rintro e V1 ⟨rfl, hat, hon⟩; have HX1 := hide (HX0.out.call hon hat (sfx_over false s)); clear hat hon r0 rl; obtain ⟨m0, m1, m2, m3⟩ := cells4 HX1.out.row; obtain ⟨r0, rl, ml, f0, f1, f2, f3⟩ := HX1.out.facts) | (go_at_call 39; (with_reducible refine (HK2.out _ HX1.out.ra.rd.cur).mono ?_); rintro e V2 ⟨rfl, hat, hon⟩; have HX2 := hide (HX1.out.call hon hat (sfx_over true s)); clear hat hon m0 m1 m2 m3 r0 rl ml f0 f1 f2 f3; obtain ⟨m0, m1, m2, m3⟩ := cells4 HX2.out.row; obtain ⟨r0, rl, ml, f0, f1, f2, f3⟩ := HX2.out.facts; obtain ⟨Y, hY⟩ : ∃ Y, V2.setCell ⟨M, 0, none⟩ (.int .i64 3) = Y := ⟨_, rfl⟩; have HY := hide (show XA4 w Y R M c S1 50 (tmCs 3 0 0 0) (popC s) from hY ▸ HX2.out.set (j := 0) (x := .int .i64 3) rfl); obtain ⟨y0, yl, zl, g0, g1, g2, g3⟩ := HY.out.facts; obtain ⟨z0, z1, z2, z3⟩ := cells4 HY.out.row) | (go_at_call 92; (with_reducible refine (HEN.out _ HY.out.ra.rd.cur).mono ?_); rintro e w' ⟨rfl, rfl⟩) | (go_at_call 95; (with_reducible refine (HVA.out _ HY.out.ra.rd).mono ?_); rintro e V3 ⟨rfl, hat, hon⟩; have HX3 := hide (HY.out.call hon hat HSV.out); clear hat hon m0 m1 m2 m3 r0 rl ml f0 f1 f2 f3 y0 yl zl g0 g1 g2 g3 z0 z1 z2 z3 hY; obtain ⟨m0, m1, m2, m3⟩ := cells4 HX3.out.row; obtain ⟨r0, rl, ml, f0, f1, f2, f3⟩ := HX3.out.facts; obtain ⟨Z, hZ⟩ : ∃ Y, V3.setCell ⟨M, 1, none⟩ (.int .i64 v.1) = Y := ⟨_, rfl⟩; have HZ := hide (show XA4 w Z R M c S1 50 (tmCs 3 v.1 0 0) v.2 from hZ ▸ HX3.out.set (j := 1) (x := .int .i64 v.1) rfl); obtain ⟨z0, z1, z2, z3⟩ := cells4 HZ.out.row; have zl := HZ.out.ml))
    go_ret
    rw [HE.out]
    exact ⟨_, rfl, rfl, HZ.out.ra.rd.cur.moreS (fun b _ h => by rw [HS1.out] at h; exact h.1) HNS.out, HZ.out.ra.only⟩
  | false =>
   have HK2 := hide (fun (W : World) (h : CurAt W S1 c s) => show Calls Tryz.prog 39 #[.pointer (some ⟨c, 0, none⟩), .string ⟨#[114, 101, 116, 117, 114, 110]⟩] W (CurP S1 c W (s) (.bool false)) from by have h := cKey h tReturn; rw [hq] at h; exact h)
   clear hq
   obtain ⟨q3, hq⟩ : ∃ q, isC (.mk tArrow) s = q := ⟨_, rfl⟩
   have HQ3 := hide hq
   cases q3 with
   | true =>
    have HK3 := hide (fun (W : World) (h : CurAt W S1 c s) => show Calls Tryz.prog 140 #[.pointer (some ⟨c, 0, none⟩), .string ⟨#[226, 134, 146]⟩] W (CurP S1 c W (popC s) (.bool true)) from by have h := cIsM h tArrow; rw [hq] at h; exact h)
    clear hq
    obtain ⟨n, hn⟩ : ∃ n, numC 0 63 (popC s) = n := ⟨_, rfl⟩
    have HE := hide (show X = (.term ⟨1, 0, n.1, 0⟩, n.2) from by rw [← HXQ.out]; unfold oneC; rw [if_neg (by rw [HQ1.out]; decide), if_neg (by rw [HQ2.out]; decide), if_pos HQ3.out, ← hn]; rfl)
    have HB := hide (fun (W : World) (h : CurAt W S1 c (popC s)) => show Calls Tryz.prog 141 #[rd4 c] W (CurP S1 c W n.2 (.int .i64 n.1)) from hn ▸ blockN_any h)
    have HSN := hide (show SufX (popC s) n.2 from hn ▸ sfx_num _ _ _)
    clear hn
    go_enter Tryz.func99, Tryz.ntmps99
    go_wp2_with (first | (go_at_call 39; (with_reducible refine (HK1.out _ HX0.out.ra.rd.cur).mono ?_); rintro e V1 ⟨rfl, hat, hon⟩; have HX1 := hide (HX0.out.call hon hat (sfx_over false s)); clear hat hon r0 rl; obtain ⟨m0, m1, m2, m3⟩ := cells4 HX1.out.row; obtain ⟨r0, rl, ml, f0, f1, f2, f3⟩ := HX1.out.facts) | (go_at_call 39; (with_reducible refine (HK2.out _ HX1.out.ra.rd.cur).mono ?_); rintro e V2 ⟨rfl, hat, hon⟩; have HX2 := hide (HX1.out.call hon hat (sfx_over false s)); clear hat hon m0 m1 m2 m3 r0 rl ml f0 f1 f2 f3; obtain ⟨m0, m1, m2, m3⟩ := cells4 HX2.out.row; obtain ⟨r0, rl, ml, f0, f1, f2, f3⟩ := HX2.out.facts) | (go_at_call 140; (with_reducible refine (HK3.out _ HX2.out.ra.rd.cur).mono ?_); rintro e V3 ⟨rfl, hat, hon⟩; have HX3 := hide (HX2.out.call hon hat (sfx_over true s)); clear hat hon m0 m1 m2 m3 r0 rl ml f0 f1 f2 f3; obtain ⟨m0, m1, m2, m3⟩ := cells4 HX3.out.row; obtain ⟨r0, rl, ml, f0, f1, f2, f3⟩ := HX3.out.facts) | (go_at_call 141; (with_reducible refine (HB.out _ HX3.out.ra.rd.cur).mono ?_); rintro e V4 ⟨rfl, hat, hon⟩; have HX4 := hide (HX3.out.call hon hat HSN.out); clear hat hon m0 m1 m2 m3 r0 rl ml f0 f1 f2 f3; obtain ⟨m0, m1, m2, m3⟩ := cells4 HX4.out.row; obtain ⟨r0, rl, ml, f0, f1, f2, f3⟩ := HX4.out.facts; obtain ⟨Y, hY⟩ : ∃ Y, V4.setCell ⟨M, 0, none⟩ (.int .i64 1) = Y := ⟨_, rfl⟩; have HY := hide (show XA4 w Y R M c S1 50 (tmCs 1 0 0 0) n.2 from hY ▸ HX4.out.set (j := 0) (x := .int .i64 1) rfl); obtain ⟨y0, yl, zl, g0, g1, g2, g3⟩ := HY.out.facts; obtain ⟨z0, z1, z2, z3⟩ := cells4 HY.out.row; obtain ⟨Z, hZ⟩ : ∃ Z, Y.setCell ⟨M, 2, none⟩ (.int .i64 n.1) = Z := ⟨_, rfl⟩; have HZ := hide (show XA4 w Z R M c S1 50 (tmCs 1 0 n.1 0) n.2 from hZ ▸ HY.out.set (j := 2) (x := .int .i64 n.1) rfl); obtain ⟨t0, t1, t2, t3⟩ := cells4 HZ.out.row; have tl := HZ.out.ml))
    go_ret
    rw [HE.out]
    exact ⟨_, rfl, rfl, HZ.out.ra.rd.cur.moreS (fun b _ h => by rw [HS1.out] at h; exact h.1) HNS.out, HZ.out.ra.only⟩
   | false =>
    have HK3 := hide (fun (W : World) (h : CurAt W S1 c s) => show Calls Tryz.prog 140 #[.pointer (some ⟨c, 0, none⟩), .string ⟨#[226, 134, 146]⟩] W (CurP S1 c W (s) (.bool false)) from by have h := cIsM h tArrow; rw [hq] at h; exact h)
    clear hq
    obtain ⟨q4, hq⟩ : ∃ q, isC (.nm tStore) s = q := ⟨_, rfl⟩
    have HQ4 := hide hq
    cases q4 with
    | true =>
     have HK4 := hide (fun (W : World) (h : CurAt W S1 c s) => show Calls Tryz.prog 39 #[.pointer (some ⟨c, 0, none⟩), .string ⟨#[115, 116, 111, 114, 101]⟩] W (CurP S1 c W (popC s) (.bool true)) from by have h := cKey h tStore; rw [hq] at h; exact h)
     clear hq
     obtain ⟨r, hr⟩ : ∃ r, storeC (popC s) = r := ⟨_, rfl⟩
     have HE := hide (show X = (.ins r.1, r.2) from by rw [← HXQ.out]; unfold oneC; rw [if_neg (by rw [HQ1.out]; decide), if_neg (by rw [HQ2.out]; decide), if_neg (by rw [HQ3.out]; decide), if_pos HQ4.out, ← hr]; rfl)
     have HSR := hide (fun (W : World) (h : Rd4 W S1 c (popC s)) => show Calls Tryz.prog 142 #[rd4 c] W (InsP S1 c W r) from hr ▸ store_any W S1 c (popC s) h)
     clear hr
     go_enter Tryz.func99, Tryz.ntmps99
     go_wp2_with (first | (go_at_call 39; (with_reducible refine (HK1.out _ HX0.out.ra.rd.cur).mono ?_); rintro e V1 ⟨rfl, hat, hon⟩; have HX1 := hide (HX0.out.call hon hat (sfx_over false s)); clear hat hon r0 rl; obtain ⟨m0, m1, m2, m3⟩ := cells4 HX1.out.row; obtain ⟨r0, rl, ml, f0, f1, f2, f3⟩ := HX1.out.facts) | (go_at_call 39; (with_reducible refine (HK2.out _ HX1.out.ra.rd.cur).mono ?_); rintro e V2 ⟨rfl, hat, hon⟩; have HX2 := hide (HX1.out.call hon hat (sfx_over false s)); clear hat hon m0 m1 m2 m3 r0 rl ml f0 f1 f2 f3; obtain ⟨m0, m1, m2, m3⟩ := cells4 HX2.out.row; obtain ⟨r0, rl, ml, f0, f1, f2, f3⟩ := HX2.out.facts) | (go_at_call 140; (with_reducible refine (HK3.out _ HX2.out.ra.rd.cur).mono ?_); rintro e V3 ⟨rfl, hat, hon⟩; have HX3 := hide (HX2.out.call hon hat (sfx_over false s)); clear hat hon m0 m1 m2 m3 r0 rl ml f0 f1 f2 f3; obtain ⟨m0, m1, m2, m3⟩ := cells4 HX3.out.row; obtain ⟨r0, rl, ml, f0, f1, f2, f3⟩ := HX3.out.facts) | (go_at_call 39; (with_reducible refine (HK4.out _ HX3.out.ra.rd.cur).mono ?_); rintro e V4 ⟨rfl, hat, hon⟩; have HX4 := hide (HX3.out.call hon hat (sfx_over true s)); clear hat hon m0 m1 m2 m3 r0 rl ml f0 f1 f2 f3; obtain ⟨m0, m1, m2, m3⟩ := cells4 HX4.out.row; obtain ⟨r0, rl, ml, f0, f1, f2, f3⟩ := HX4.out.facts) | (go_at_call 142; (with_reducible refine (HSR.out _ HX4.out.ra.rd).mono ?_); rintro e V ⟨A, n, k, rfl, ho, hat, hon⟩; have HO := hide ho; have HAT := hide hat; have HON := hide hon; clear ho hat hon))
     go_ret
     rw [HE.out]
     exact ⟨_, rfl, ⟨A, n, k, rfl, HO.out.lower28 (by have := HX4.out.ra.only.size; omega)⟩, HAT.out.moreS (fun b _ h => by rw [HS1.out] at h; exact h.1) HNS.out, HX4.out.ra.only.trans HON.out⟩
    | false =>
     have HK4 := hide (fun (W : World) (h : CurAt W S1 c s) => show Calls Tryz.prog 39 #[.pointer (some ⟨c, 0, none⟩), .string ⟨#[115, 116, 111, 114, 101]⟩] W (CurP S1 c W (s) (.bool false)) from by have h := cKey h tStore; rw [hq] at h; exact h)
     clear hq
     obtain ⟨q5, hq⟩ : ∃ q, isC (.nm tCall) s = q := ⟨_, rfl⟩
     have HQ5 := hide hq
     cases q5 with
     | true =>
      have HK5 := hide (fun (W : World) (h : CurAt W S1 c s) => show Calls Tryz.prog 39 #[.pointer (some ⟨c, 0, none⟩), .string ⟨#[99, 97, 108, 108]⟩] W (CurP S1 c W (popC s) (.bool true)) from by have h := cKey h tCall; rw [hq] at h; exact h)
      clear hq
      obtain ⟨r, hr⟩ : ∃ r, insC false 13 0 (popC s) = r := ⟨_, rfl⟩
      have HE := hide (show X = (.ins r.1, r.2) from by rw [← HXQ.out]; unfold oneC; rw [if_neg (by rw [HQ1.out]; decide), if_neg (by rw [HQ2.out]; decide), if_neg (by rw [HQ3.out]; decide), if_neg (by rw [HQ4.out]; decide), if_pos HQ5.out, ← hr]; rfl)
      have HSR := hide (fun (W : World) (h : Rd4 W S1 c (popC s)) => show Calls Tryz.prog 143 #[rd4 c, .int .i64 13, .int .i64 0] W (InsP S1 c W r) from hr ▸ ins_any W S1 c (popC s) 13 0 h)
      clear hr
      go_enter Tryz.func99, Tryz.ntmps99
      go_wp2_with (first | (go_at_call 39; (with_reducible refine (HK1.out _ HX0.out.ra.rd.cur).mono ?_); rintro e V1 ⟨rfl, hat, hon⟩; have HX1 := hide (HX0.out.call hon hat (sfx_over false s)); clear hat hon r0 rl; obtain ⟨m0, m1, m2, m3⟩ := cells4 HX1.out.row; obtain ⟨r0, rl, ml, f0, f1, f2, f3⟩ := HX1.out.facts) | (go_at_call 39; (with_reducible refine (HK2.out _ HX1.out.ra.rd.cur).mono ?_); rintro e V2 ⟨rfl, hat, hon⟩; have HX2 := hide (HX1.out.call hon hat (sfx_over false s)); clear hat hon m0 m1 m2 m3 r0 rl ml f0 f1 f2 f3; obtain ⟨m0, m1, m2, m3⟩ := cells4 HX2.out.row; obtain ⟨r0, rl, ml, f0, f1, f2, f3⟩ := HX2.out.facts) | (go_at_call 140; (with_reducible refine (HK3.out _ HX2.out.ra.rd.cur).mono ?_); rintro e V3 ⟨rfl, hat, hon⟩; have HX3 := hide (HX2.out.call hon hat (sfx_over false s)); clear hat hon m0 m1 m2 m3 r0 rl ml f0 f1 f2 f3; obtain ⟨m0, m1, m2, m3⟩ := cells4 HX3.out.row; obtain ⟨r0, rl, ml, f0, f1, f2, f3⟩ := HX3.out.facts) | (go_at_call 39; (with_reducible refine (HK4.out _ HX3.out.ra.rd.cur).mono ?_); rintro e V4 ⟨rfl, hat, hon⟩; have HX4 := hide (HX3.out.call hon hat (sfx_over false s)); clear hat hon m0 m1 m2 m3 r0 rl ml f0 f1 f2 f3; obtain ⟨m0, m1, m2, m3⟩ := cells4 HX4.out.row; obtain ⟨r0, rl, ml, f0, f1, f2, f3⟩ := HX4.out.facts) | (go_at_call 39; (with_reducible refine (HK5.out _ HX4.out.ra.rd.cur).mono ?_); rintro e V5 ⟨rfl, hat, hon⟩; have HX5 := hide (HX4.out.call hon hat (sfx_over true s)); clear hat hon m0 m1 m2 m3 r0 rl ml f0 f1 f2 f3; obtain ⟨m0, m1, m2, m3⟩ := cells4 HX5.out.row; obtain ⟨r0, rl, ml, f0, f1, f2, f3⟩ := HX5.out.facts) | (go_at_call 143; (with_reducible refine (HSR.out _ HX5.out.ra.rd).mono ?_); rintro e V ⟨A, n, k, rfl, ho, hat, hon⟩; have HO := hide ho; have HAT := hide hat; have HON := hide hon; clear ho hat hon))
      go_ret
      rw [HE.out]
      exact ⟨_, rfl, ⟨A, n, k, rfl, HO.out.lower28 (by have := HX5.out.ra.only.size; omega)⟩, HAT.out.moreS (fun b _ h => by rw [HS1.out] at h; exact h.1) HNS.out, HX5.out.ra.only.trans HON.out⟩
     | false =>
      have HK5 := hide (fun (W : World) (h : CurAt W S1 c s) => show Calls Tryz.prog 39 #[.pointer (some ⟨c, 0, none⟩), .string ⟨#[99, 97, 108, 108]⟩] W (CurP S1 c W (s) (.bool false)) from by have h := cKey h tCall; rw [hq] at h; exact h)
      clear hq
      obtain ⟨v, hv⟩ : ∃ v, varC s = v := ⟨_, rfl⟩
      have HVA := hide (fun (W : World) (h : Rd4 W S1 c s) => show Calls Tryz.prog 95 #[rd4 c] W (CurP S1 c W v.2 (.int .i64 v.1)) from hv ▸ variable_any h.cur h.vars h.wd)
      have HSV := hide (show SufX s v.2 from hv ▸ sfx_var _)
      have HV := hide hv
      clear hv
      obtain ⟨q6, hq⟩ : ∃ q, isC (.mk tArrow) v.2 = q := ⟨_, rfl⟩
      have HQ6 := hide hq
      cases q6 with
      | true =>
       have HK6 := hide (fun (W : World) (h : CurAt W S1 c v.2) => show Calls Tryz.prog 140 #[.pointer (some ⟨c, 0, none⟩), .string ⟨#[226, 134, 146]⟩] W (CurP S1 c W (popC v.2) (.bool true)) from by have h := cIsM h tArrow; rw [hq] at h; exact h)
       clear hq
       obtain ⟨n, hn⟩ : ∃ n, numC 0 63 (popC v.2) = n := ⟨_, rfl⟩
       obtain ⟨m, hm⟩ : ∃ m, numC 0 63 n.2 = m := ⟨_, rfl⟩
       have HE := hide (show X = (.term ⟨2, v.1, n.1, m.1⟩, m.2) from by rw [← HXQ.out]; unfold oneC; rw [if_neg (by rw [HQ1.out]; decide), if_neg (by rw [HQ2.out]; decide), if_neg (by rw [HQ3.out]; decide), if_neg (by rw [HQ4.out]; decide), if_neg (by rw [HQ5.out]; decide)]; simp only; rw [HV.out, if_pos HQ6.out, hn, hm]; rfl)
       have HB1 := hide (fun (W : World) (h : CurAt W S1 c (popC v.2)) => show Calls Tryz.prog 141 #[rd4 c] W (CurP S1 c W n.2 (.int .i64 n.1)) from hn ▸ blockN_any h)
       have HB2 := hide (fun (W : World) (h : CurAt W S1 c n.2) => show Calls Tryz.prog 141 #[rd4 c] W (CurP S1 c W m.2 (.int .i64 m.1)) from hm ▸ blockN_any h)
       have HSN := hide (show SufX (popC v.2) n.2 from hn ▸ sfx_num _ _ _)
       have HSM := hide (show SufX n.2 m.2 from hm ▸ sfx_num _ _ _)
       clear hn hm
       go_enter Tryz.func99, Tryz.ntmps99
       go_wp2_with (first | (go_at_call 39; (with_reducible refine (HK1.out _ HX0.out.ra.rd.cur).mono ?_); rintro e V1 ⟨rfl, hat, hon⟩; have HX1 := hide (HX0.out.call hon hat (sfx_over false s)); clear hat hon r0 rl; obtain ⟨m0, m1, m2, m3⟩ := cells4 HX1.out.row; obtain ⟨r0, rl, ml, f0, f1, f2, f3⟩ := HX1.out.facts) | (go_at_call 39; (with_reducible refine (HK2.out _ HX1.out.ra.rd.cur).mono ?_); rintro e V2 ⟨rfl, hat, hon⟩; have HX2 := hide (HX1.out.call hon hat (sfx_over false s)); clear hat hon m0 m1 m2 m3 r0 rl ml f0 f1 f2 f3; obtain ⟨m0, m1, m2, m3⟩ := cells4 HX2.out.row; obtain ⟨r0, rl, ml, f0, f1, f2, f3⟩ := HX2.out.facts) | (go_at_call 140; (with_reducible refine (HK3.out _ HX2.out.ra.rd.cur).mono ?_); rintro e V3 ⟨rfl, hat, hon⟩; have HX3 := hide (HX2.out.call hon hat (sfx_over false s)); clear hat hon m0 m1 m2 m3 r0 rl ml f0 f1 f2 f3; obtain ⟨m0, m1, m2, m3⟩ := cells4 HX3.out.row; obtain ⟨r0, rl, ml, f0, f1, f2, f3⟩ := HX3.out.facts) | (go_at_call 39; (with_reducible refine (HK4.out _ HX3.out.ra.rd.cur).mono ?_); rintro e V4 ⟨rfl, hat, hon⟩; have HX4 := hide (HX3.out.call hon hat (sfx_over false s)); clear hat hon m0 m1 m2 m3 r0 rl ml f0 f1 f2 f3; obtain ⟨m0, m1, m2, m3⟩ := cells4 HX4.out.row; obtain ⟨r0, rl, ml, f0, f1, f2, f3⟩ := HX4.out.facts) | (go_at_call 39; (with_reducible refine (HK5.out _ HX4.out.ra.rd.cur).mono ?_); rintro e V5 ⟨rfl, hat, hon⟩; have HX5 := hide (HX4.out.call hon hat (sfx_over false s)); clear hat hon m0 m1 m2 m3 r0 rl ml f0 f1 f2 f3; obtain ⟨m0, m1, m2, m3⟩ := cells4 HX5.out.row; obtain ⟨r0, rl, ml, f0, f1, f2, f3⟩ := HX5.out.facts) | (go_at_call 95; (with_reducible refine (HVA.out _ HX5.out.ra.rd).mono ?_); rintro e V6 ⟨rfl, hat, hon⟩; have HX6 := hide (HX5.out.call hon hat HSV.out); clear hat hon m0 m1 m2 m3 r0 rl ml f0 f1 f2 f3; obtain ⟨m0, m1, m2, m3⟩ := cells4 HX6.out.row; obtain ⟨r0, rl, ml, f0, f1, f2, f3⟩ := HX6.out.facts) | (go_at_call 140; (with_reducible refine (HK6.out _ HX6.out.ra.rd.cur).mono ?_); rintro e V7 ⟨rfl, hat, hon⟩; have HX7 := hide (HX6.out.call hon hat (sfx_over true v.2)); clear hat hon m0 m1 m2 m3 r0 rl ml f0 f1 f2 f3; obtain ⟨m0, m1, m2, m3⟩ := cells4 HX7.out.row; obtain ⟨r0, rl, ml, f0, f1, f2, f3⟩ := HX7.out.facts; refine Hd.out ?_))
       refine hide ?_
       go_wp2_with fail
       refine wp_region_chain (fun i W => XA4 w W R M c S1 50 (csB v.1 n.1 m.1 i) (crB (popC v.2) n.2 m.2 i)) [2, 4, 7, 9, 11] [[], [], [1], [], [3, 2, 1], [2, 4, 1, 3], [], [6, 4, 3, 2, 1], [0, 6, 7, 4, 3, 2, 1], [8, 0, 7, 6, 4, 3, 2, 1], [0, 1, 2, 3, 4, 5, 6, 7, 8, 9], [0, 1, 2, 3, 4, 5, 6, 7, 8, 9, 10]] (by kernel_rfl) rfl (by kernel_rfl) (by kernel_rfl) (by kernel_rfl) (fun i W u h => h.ext u) HX7.out.drew ?_
       clear m0 m1 m2 m3 r0 rl ml f0 f1 f2 f3
       refine flowC_known (by kernel_rfl) (by kernel_rfl) (fun K hK => ?_); go_simp; refine ⟨_, fun _ _ _ => rfl, hK _ ?_⟩; clear hK K
       refine flowC_known (by kernel_rfl) (by kernel_rfl) (fun K hK => ?_); go_simp; refine ⟨.agg #[.pointer (some ⟨c, 0, none⟩)], fun i W hW => ?_, hK _ ?_⟩
       ·obtain ⟨r0, rl, ml, f0, f1, f2, f3⟩ := hW.facts
        go_simp
       clear hK K
       apply flowC_write [] 0 (fun x => x = .int .i64 n.1)
       ·kernel_rfl
       ·kernel_rfl
       ·kernel_rfl
       ·intro W hW
        try simp only [List.nil_append, List.cons_append, useH_f, useH_t, useH_nil]
        go_simp
        refine (HB1.out _ hW.ra.rd.cur).mono ?_
        rintro e w' ⟨rfl, hat, hon⟩
        exact ⟨_, rfl, rfl, hW.call hon hat HSN.out, fun h => by cases h⟩
       refine flowC_known (by kernel_rfl) (by kernel_rfl) (fun K hK => ?_); go_simp; refine ⟨.agg #[.pointer (some ⟨c, 0, none⟩)], fun i W hW => ?_, hK _ ?_⟩
       ·obtain ⟨r0, rl, ml, f0, f1, f2, f3⟩ := hW.facts
        go_simp
       clear hK K
       apply flowC_write [false] 1 (fun x => x = .int .i64 m.1)
       ·kernel_rfl
       ·kernel_rfl
       ·kernel_rfl
       ·intro W hW
        try simp only [List.nil_append, List.cons_append, useH_f, useH_t, useH_nil]
        go_simp
        refine (HB2.out _ hW.ra.rd.cur).mono ?_
        rintro e w' ⟨rfl, hat, hon⟩
        exact ⟨_, rfl, rfl, hW.call hon hat HSM.out, fun h => by cases h⟩
       refine flowC_use [true, true] (.agg #[.int .i64 n.1, .int .i64 m.1]) (by kernel_rfl) (by kernel_rfl) (fun i W hW => ?_) ?_
       ·try simp only [List.nil_append, List.cons_append, useH_f, useH_t, useH_nil]
        rintro _ rfl _ rfl
        go_simp
       refine flowC_known (by kernel_rfl) (by kernel_rfl) (fun K hK => ?_); go_simp; refine ⟨_, fun _ _ _ => rfl, hK _ ?_⟩; clear hK K
       apply flowC_write [false, false] 2 (fun _ => True)
       ·kernel_rfl
       ·kernel_rfl
       ·kernel_rfl
       ·intro W hW
        try simp only [List.nil_append, List.cons_append, useH_f, useH_t, useH_nil]
        obtain ⟨r0, rl, ml, f0, f1, f2, f3⟩ := hW.facts
        obtain ⟨m0, m1, m2, m3⟩ := cells4 hW.row
        go_simp
        exact ⟨hW.set rfl, fun h => by cases h⟩
       refine flowC_known (by kernel_rfl) (by kernel_rfl) (fun K hK => ?_); go_simp; refine ⟨_, fun _ _ _ => rfl, hK _ ?_⟩; clear hK K
       apply flowC_write [false, false, false] 3 (fun _ => True)
       ·kernel_rfl
       ·kernel_rfl
       ·kernel_rfl
       ·intro W hW
        try simp only [List.nil_append, List.cons_append, useH_f, useH_t, useH_nil]
        obtain ⟨r0, rl, ml, f0, f1, f2, f3⟩ := hW.facts
        obtain ⟨m0, m1, m2, m3⟩ := cells4 hW.row
        go_simp
        exact ⟨hW.set rfl, fun h => by cases h⟩
       refine flowC_known (by kernel_rfl) (by kernel_rfl) (fun K hK => ?_); go_simp; refine ⟨_, fun _ _ _ => rfl, hK _ ?_⟩; clear hK K
       apply flowC_write [false, false, false, false] 4 (fun _ => True)
       ·kernel_rfl
       ·kernel_rfl
       ·kernel_rfl
       ·intro W hW
        try simp only [List.nil_append, List.cons_append, useH_f, useH_t, useH_nil]
        obtain ⟨r0, rl, ml, f0, f1, f2, f3⟩ := hW.facts
        obtain ⟨m0, m1, m2, m3⟩ := cells4 hW.row
        go_simp
        exact ⟨(hW.set (j := 2) rfl).set rfl, fun h => by cases h⟩
       refine flowC_done [true, true, true, true, true] (by kernel_rfl) (fun W hW => ?_)
       simp only [List.nil_append, List.cons_append, endH_f, endH_t, endH_nil]
       rintro _ rfl _ rfl _ - _ - _ -
       have HW := hide hW
       obtain ⟨r0, rl, ml, f0, f1, f2, f3⟩ := hW.facts
       obtain ⟨m0, m1, m2, m3⟩ := cells4 hW.row
       clear hW
       go_wp2_with fail
       go_ret
       rw [HE.out]
       exact ⟨_, rfl, rfl, HW.out.ra.rd.cur.moreS (fun b _ h => by rw [HS1.out] at h; exact h.1) HNS.out, HW.out.ra.only⟩
      | false =>
       have HK6 := hide (fun (W : World) (h : CurAt W S1 c v.2) => show Calls Tryz.prog 140 #[.pointer (some ⟨c, 0, none⟩), .string ⟨#[226, 134, 146]⟩] W (CurP S1 c W (v.2) (.bool false)) from by have h := cIsM h tArrow; rw [hq] at h; exact h)
       clear hq
       obtain ⟨mk, hmk⟩ : ∃ m, markC [tLeft] v.2 = m := ⟨_, rfl⟩
       obtain ⟨o, ho⟩ : ∃ o, opC mk = o := ⟨_, rfl⟩
       obtain ⟨r, hr⟩ : ∃ r, insC false o.1 v.1 o.2 = r := ⟨_, rfl⟩
       have HE := hide (show X = (.ins r.1, r.2) from by rw [← HXQ.out]; unfold oneC; rw [if_neg (by rw [HQ1.out]; decide), if_neg (by rw [HQ2.out]; decide), if_neg (by rw [HQ3.out]; decide), if_neg (by rw [HQ4.out]; decide), if_neg (by rw [HQ5.out]; decide)]; simp only; rw [HV.out, if_neg (by rw [HQ6.out]; decide), hmk, ho, hr]; rfl)
       have HSMK := hide (show SufX v.2 mk from hmk ▸ sfx_mark _ _)
       have HSO := hide (show SufX mk o.2 from ho ▸ sfx_op _)
       have HMK := hide (fun (W : World) (h : CurAt W S1 c v.2) (hc : c < W.heap.size) => show Calls Tryz.prog 144 #[.pointer (some ⟨c, 0, none⟩), .slice (some ⟨W.heap.size, 0, none⟩) 1 1] (W.alloc (.cells #[.string ⟨#[226, 134, 144]⟩] 9)) (CurP S1 c (W.alloc (.cells #[.string ⟨#[226, 134, 144]⟩] 9)) mk (.tuple #[])) from by have h := cMark (h.alloc (.cells #[.string ⟨#[226, 134, 144]⟩] 9)) (ts := [tLeft]) (Sl.lit (S := fun _ => False) (S' := fun b => c < b) (us := [.string ⟨#[226, 134, 144]⟩]) rfl ⟨[.string ⟨#[226, 134, 144]⟩], [], rfl, ⟨rfl, by unfold maxLen; decide⟩, rfl⟩ rfl (by decide) (fun _ h => h.elim) hc) (by show ¬ c < c; omega); rw [hmk] at h; exact h)
       have HOP := hide (fun (W : World) (h : Rd4 W S1 c mk) => show Calls Tryz.prog 145 #[rd4 c] W (CurP S1 c W o.2 (.int .i64 o.1)) from ho ▸ op_any W S1 c mk h)
       have HSR := hide (fun (W : World) (h : Rd4 W S1 c o.2) => show Calls Tryz.prog 143 #[rd4 c, .int .i64 o.1, .int .i64 v.1] W (InsP S1 c W r) from hr ▸ ins_any W S1 c o.2 o.1 v.1 h)
       clear hmk ho hr
       go_enter Tryz.func99, Tryz.ntmps99
       go_wp2_with (first | (go_at_call 39; (with_reducible refine (HK1.out _ HX0.out.ra.rd.cur).mono ?_); rintro e V1 ⟨rfl, hat, hon⟩; have HX1 := hide (HX0.out.call hon hat (sfx_over false s)); clear hat hon r0 rl; obtain ⟨m0, m1, m2, m3⟩ := cells4 HX1.out.row; obtain ⟨r0, rl, ml, f0, f1, f2, f3⟩ := HX1.out.facts) | (go_at_call 39; (with_reducible refine (HK2.out _ HX1.out.ra.rd.cur).mono ?_); rintro e V2 ⟨rfl, hat, hon⟩; have HX2 := hide (HX1.out.call hon hat (sfx_over false s)); clear hat hon m0 m1 m2 m3 r0 rl ml f0 f1 f2 f3; obtain ⟨m0, m1, m2, m3⟩ := cells4 HX2.out.row; obtain ⟨r0, rl, ml, f0, f1, f2, f3⟩ := HX2.out.facts) | (go_at_call 140; (with_reducible refine (HK3.out _ HX2.out.ra.rd.cur).mono ?_); rintro e V3 ⟨rfl, hat, hon⟩; have HX3 := hide (HX2.out.call hon hat (sfx_over false s)); clear hat hon m0 m1 m2 m3 r0 rl ml f0 f1 f2 f3; obtain ⟨m0, m1, m2, m3⟩ := cells4 HX3.out.row; obtain ⟨r0, rl, ml, f0, f1, f2, f3⟩ := HX3.out.facts) | (go_at_call 39; (with_reducible refine (HK4.out _ HX3.out.ra.rd.cur).mono ?_); rintro e V4 ⟨rfl, hat, hon⟩; have HX4 := hide (HX3.out.call hon hat (sfx_over false s)); clear hat hon m0 m1 m2 m3 r0 rl ml f0 f1 f2 f3; obtain ⟨m0, m1, m2, m3⟩ := cells4 HX4.out.row; obtain ⟨r0, rl, ml, f0, f1, f2, f3⟩ := HX4.out.facts) | (go_at_call 39; (with_reducible refine (HK5.out _ HX4.out.ra.rd.cur).mono ?_); rintro e V5 ⟨rfl, hat, hon⟩; have HX5 := hide (HX4.out.call hon hat (sfx_over false s)); clear hat hon m0 m1 m2 m3 r0 rl ml f0 f1 f2 f3; obtain ⟨m0, m1, m2, m3⟩ := cells4 HX5.out.row; obtain ⟨r0, rl, ml, f0, f1, f2, f3⟩ := HX5.out.facts) | (go_at_call 95; (with_reducible refine (HVA.out _ HX5.out.ra.rd).mono ?_); rintro e V6 ⟨rfl, hat, hon⟩; have HX6 := hide (HX5.out.call hon hat HSV.out); clear hat hon m0 m1 m2 m3 r0 rl ml f0 f1 f2 f3; obtain ⟨m0, m1, m2, m3⟩ := cells4 HX6.out.row; obtain ⟨r0, rl, ml, f0, f1, f2, f3⟩ := HX6.out.facts) | (go_at_call 140; (with_reducible refine (HK6.out _ HX6.out.ra.rd.cur).mono ?_); rintro e V7 ⟨rfl, hat, hon⟩; have HX7 := hide (HX6.out.call hon hat (sfx_over false v.2)); clear hat hon m0 m1 m2 m3 r0 rl ml f0 f1 f2 f3; obtain ⟨m0, m1, m2, m3⟩ := cells4 HX7.out.row; obtain ⟨r0, rl, ml, f0, f1, f2, f3⟩ := HX7.out.facts) | (go_at_call 144; (with_reducible refine (HMK.out _ HX7.out.ra.rd.cur HX7.out.ra.cl).mono ?_); rintro e V8 ⟨rfl, hat, hon⟩; have HX8 := hide ((HX7.out.alloc (.cells #[.string ⟨#[226, 134, 144]⟩] 9)).call hon hat HSMK.out); clear hat hon m0 m1 m2 m3 r0 rl ml f0 f1 f2 f3; obtain ⟨m0, m1, m2, m3⟩ := cells4 HX8.out.row; obtain ⟨r0, rl, ml, f0, f1, f2, f3⟩ := HX8.out.facts; refine Hd.out ?_))
       have hcR : R ≠ c := by have := HX8.out.ra.o1; omega
       refine hide ?_
       go_wp2_with fail
       refine wp_region_cur c [2] [2] 4 (by kernel_rfl) rfl (by kernel_rfl) (by kernel_rfl) ?_
       simp only [List.take_succ_cons, List.take_zero, List.drop_succ_cons, List.drop_zero]
       refine flowG_knownF (by kernel_rfl) (fun K hK => ⟨.agg #[.pointer (some ⟨c, 0, none⟩)], fun W' hW' => ?_, hK _ ?_⟩)
       ·have x0 : W'.cell? ⟨R, 0, none⟩ = some (.pointer (some ⟨c, 0, none⟩)) := (World.cell?_of_block (hW'.block R rl hcR)).trans r0
        have x1 : R < W'.heap.size := Nat.lt_of_lt_of_le rl hW'.size
        go_simp
       clear hK K
       refine flowG_knownF (by kernel_rfl) (fun K hK => ⟨.agg #[.pointer (some ⟨c, 0, none⟩)], fun W' hW' => ?_, hK _ ?_⟩)
       ·have x0 : W'.cell? ⟨R, 0, none⟩ = some (.pointer (some ⟨c, 0, none⟩)) := (World.cell?_of_block (hW'.block R rl hcR)).trans r0
        have x1 : R < W'.heap.size := Nat.lt_of_lt_of_le rl hW'.size
        go_simp
       clear hK K
       refine flowG_keep [] (CurI S1 c o.2 o.1) (by kernel_rfl) (CurI.stable_ rfl) (by kernel_rfl) (fun u hF => ?_) ?_
       ·try simp only [List.nil_append, List.cons_append, useH_f, useH_t, useH_nil]
        go_simp
        refine (HOP.out _ (HX8.out.ra.rd.ext u)).mono ?_
        rintro e w' ⟨rfl, hat, hon⟩
        exact ⟨_, rfl, ⟨rfl, hat⟩, hF.trans hon, fun h => by cases h⟩
       repeat (refine flowG_known (by kernel_rfl) (fun K hK => ?_); go_simp; (first | (refine hK _ ?_; clear hK K) | (apply Exists.intro; refine ⟨fun w' => ?_, hK _ ?_⟩; (fail); clear hK K)))
       refine flowG_done [true] (by kernel_rfl) (fun W' hW' => ?_)
       simp only [List.nil_append, List.cons_append, endH_f, endH_t, endH_nil]
       rintro _ ⟨rfl, hat⟩
       have HX9 := hide (HX8.out.call hW' hat HSO.out)
       clear hat m0 m1 m2 m3 r0 rl ml f0 f1 f2 f3
       go_wp2_with (go_at_call 143; (with_reducible refine (HSR.out _ HX9.out.ra.rd).mono ?_); rintro e V ⟨A, n, k, rfl, ho, hat, hon⟩; have HO := hide ho; have HAT := hide hat; have HON := hide hon; clear ho hat hon)
       go_ret
       rw [HE.out]
       exact ⟨_, rfl, ⟨A, n, k, rfl, HO.out.lower28 (by have := HX9.out.ra.only.size; omega)⟩, HAT.out.moreS (fun b _ h => by rw [HS1.out] at h; exact h.1) HNS.out, HX9.out.ra.only.trans HON.out⟩
end Go.Proofs.YtljglhaeonbfoaaGreatDoor
namespace Go.Proofs.YtljglhaeonbfoaaGreatDoor
open Go.RowKit
def InsIn (i : Ins) : Prop := InI i.op ∧ InI i.dst ∧ InI i.a ∧ InI i.b ∧ InI i.imm ∧ InI i.callee ∧ InI i.many
def TermIn (t : Term) : Prop := InI t.kind ∧ InI t.a ∧ InI t.to0 ∧ InI t.to1
theorem inI_small {x : Int} (h1 : -1099511627776 ≤ x) (h2 : x ≤ 1099511627776) : InI x := by unfold InI; omega
theorem iI (n : Int) (h : decide (-1099511627776 ≤ n ∧ n ≤ 1099511627776) = true) : InI n := by
 have := of_decide_eq_true h
 exact inI_small this.1 this.2
theorem varC_inI (s : Cur) : InI (varC s).1 := inI_small (by have := varC_in s; omega) (by have := varC_in s; omega)
theorem immC_inI (s : Cur) : InI (immC s).1 := inI_small (immC_in s).1 (immC_in s).2
theorem numC_inI {lo hi : Int} (s : Cur) (h1 : lo ≤ 0) (h2 : 0 ≤ hi) (h3 : -1099511627776 ≤ lo) (h4 : hi ≤ 1099511627776) : InI (numC lo hi s).1 := by
 have := numC_rng h1 h2 s
 exact inI_small (by omega) (by omega)
theorem insC_in (q : Bool) (o dst : Int) (s : Cur) (ho : InI o) (hd : InI dst) : InsIn (insC q o dst s).1 := by
 have z : InI 0 := inI_small (by decide) (by decide)
 unfold insC
 split
 ·exact ⟨ho, hd, z, z, immC_inI _, z, z⟩
 ·split
  ·exact ⟨ho, hd, z, z, z, numC_inI _ (by decide) (by decide) (by decide) (by decide), z⟩
  ·simp only
   refine ⟨ho, hd, varC_inI _, ?_, ?_, z, z⟩
   ·simp only
    split
    ·exact varC_inI _
    ·exact z
   ·simp only
    split
    ·exact immC_inI _
    ·exact z
theorem kind_le4 : ∀ (l : List ByteArray) (k : Nat) (s : Cur), (kindC l k s).1 = 0 ∨ (kindC l k s).1 < k + l.length
 | [], _, _ => .inl rfl
 | t :: l, k, s => by
  rw [kindC_cons4]
  split
  ·exact .inr (by simp)
  ·rcases kind_le4 l (k + 1) s with h | h
   ·exact .inl h
   ·exact .inr (by simp; omega)
theorem opC_inI (s : Cur) : InI (opC s).1 := by
 unfold opC
 simp only
 split
 ·have h := kind_le4 opsB 2 s
  have hl : opsB.length = 9 := rfl
  exact inI_small (by simp only; omega) (by simp only; omega)
 ·split
  ·exact iI 1 rfl
  ·split
   ·exact iI 11 rfl
   ·split
    ·exact iI 13 rfl
    ·exact iI 14 rfl
def LnIn : Ln → Prop
 | .ins i => InsIn i
 | .term t => TermIn t
theorem one_in04i (q : Bool) (s : Cur) : LnIn (oneC q s).1 := by
 have z : InI 0 := iI 0 rfl
 have nb : ∀ s : Cur, InI (numC 0 63 s).1 := fun s => numC_inI _ (by decide) (by decide) (by decide) (by decide)
 unfold oneC
 split
 ·exact ⟨iI 4 rfl, z, z, z⟩
 split
 ·refine ⟨iI 3 rfl, ?_, z, z⟩
  simp only [termL]
  split
  ·exact z
  ·exact varC_inI _
 split
 ·exact ⟨iI 1 rfl, z, nb _, z⟩
 split
 ·exact ⟨iI 12 rfl, z, varC_inI _, varC_inI _, immC_inI _, z, z⟩
 split
 ·exact insC_in _ _ _ _ (iI 13 rfl) z
 ·simp only
  split
  ·exact ⟨iI 2 rfl, varC_inI _, nb _, nb _⟩
  ·exact insC_in _ _ _ _ (opC_inI _) (varC_inI _)
def aliveM (c : Nat) (w : World) : Nat := leftM c w + (match w.cell? ⟨c, 1, none⟩ with
 | some (.int _ e) => if e = 0 then 1 else 0
 | _ => 0)
theorem CurAt.aliveM_ {w : World} {S : Nat → Prop} {c : Nat} {s : Cur} (h : CurAt w S c s) : aliveM c w = aliveC s := by
 obtain ⟨A, n, k, k0, k1, _, _, _, hs⟩ := h.at_
 unfold aliveM aliveC
 rw [h.leftM_, k1]
theorem able_eq (s : Cur) : (moreC s || (errC s).2.2 == 0) = (s.e == 0) := by
 unfold moreC errC
 by_cases h : s.e = 0
 ·rw [if_neg (by simpa using h)]
  cases hw : s.ws with
  | nil => simp [h]
  | cons x l => simp [h]
 ·rw [if_pos h]; simp [h]
set_option maxRecDepth 100000 in
set_option maxHeartbeats 8000000 in
theorem able_any {w : World} {S : Nat → Prop} {c : Nat} {s : Cur} (h : CurAt w S c s) : Calls Tryz.prog 98 #[rd4 c] w (RetX (.bool (s.e == 0)) w) := by
 obtain ⟨W1, hW1⟩ : ∃ W1, w.alloc (.cells #[.pointer (some ⟨c, 0, none⟩)] 77) = W1 := ⟨_, rfl⟩
 have h1 : CurAt W1 S c s := by rw [← hW1]; exact h.alloc _
 have HX := hide (show ∃ u : Ext, W1 = w.ext u by rw [← hW1]; exact ext_alloc _ _)
 have k0 : W1.cell? ⟨w.heap.size, 0, none⟩ = some (.pointer (some ⟨c, 0, none⟩)) := by rw [← hW1]; exact cell_of_row _ _ _ _ _ (0, 0) (heap_alloc_new w _)
 have hsz : w.heap.size < W1.heap.size := by rw [← hW1]; simp
 have HQ := hide (able_eq s)
 have HE := hide (show Calls Tryz.prog 45 #[.pointer (some ⟨c, 0, none⟩)] W1 (RetX (.tuple #[.int .i64 (errC s).1, .int .i64 (errC s).2.1, .int .i64 (errC s).2.2]) W1) from cErr h1)
 have HM := hide (fun u : Ext => cMore (h1.ext u))
 generalize (s.e == 0) = r at HQ ⊢
 generalize moreC s = m at HQ HM
 generalize errC s = x at HQ HE
 obtain ⟨a, b, e⟩ := x
 simp only at HQ HE
 clear h h1
 cases m with
 | true =>
  have hr : r = true := by rw [← HQ.out]; rfl
  subst hr
  go_enter Tryz.func98, Tryz.ntmps98
  go_wp2_with (first | (go_at_call 45; (with_reducible refine HE.out.mono ?_); rintro e _ ⟨rfl, u, rfl⟩) | (go_at_call 43; (with_reducible refine (HM.out _).mono ?_); rintro e w2 ⟨rfl, rfl⟩))
  go_ret
  exact ⟨rfl, extT4 HX.out ⟨u, rfl⟩⟩
 | false =>
  have hr : r = (e == 0) := by rw [← HQ.out]; rfl
  subst hr
  go_enter Tryz.func98, Tryz.ntmps98
  go_wp2_with (first | (go_at_call 45; (with_reducible refine HE.out.mono ?_); rintro e _ ⟨rfl, u, rfl⟩) | (go_at_call 43; (with_reducible refine (HM.out _).mono ?_); rintro e w2 ⟨rfl, rfl⟩))
  go_ret
  exact ⟨rfl, extT4 HX.out ⟨u, rfl⟩⟩
theorem zero_ins4 : (Tryz.prog.info? 45).map (·.zero) = some (some (.agg #[.int .i64 0, .int .i64 0, .int .i64 0, .int .i64 0, .int .i64 0, .int .i64 0, .slice none 0 0, .int .i64 0])) := by kernel_rfl
theorem as_ins4 (v : Value) (w : World) : (Instr.typeAssert (.iface 45 v) 20 45 true).run Tryz.prog w = .ok (.tuple #[v, .bool true]) w := by simp [Instr.typeAssert, run_underlying Tryz.underlying45]
theorem as_ins4_no (t : TypeId) (ht : t ≠ 45) (v : Value) (w : World) : (Instr.typeAssert (.iface t v) 20 45 true).run Tryz.prog w = .ok (.tuple #[.agg #[.int .i64 0, .int .i64 0, .int .i64 0, .int .i64 0, .int .i64 0, .int .i64 0, .slice none 0 0, .int .i64 0], .bool false]) w := by
 obtain ⟨i, e, z⟩ := Option.map_eq_some_iff.1 zero_ins4
 simp [Instr.typeAssert, run_underlying Tryz.underlying45, ht, zeroValue, typeInfo, e, z]
theorem as_term4 (v : Value) (w : World) : (Instr.typeAssert (.iface 50 v) 20 50 false).run Tryz.prog w = .ok v w := by simp [Instr.typeAssert, run_underlying Tryz.underlying50]
section
variable {w0 w W W' : World} {R M c : Nat} {S St St' : Nat → Prop} {T : TypeId} {cs cs' : Array Value} {v v' : Value} {t t' : Term} {l l' : List Ins} {s s' : Cur}
theorem XA4.grown {row : Option Nat} (h : XA4 w0 W R M c S T cs s) (hg : W.grownBy W' row) (hr : ∀ g, row = some g → M < g) : XA4 w0 W' R M c S T cs s :=
 ⟨h.ra.grown hg (fun g e => by have := hr g e; have := h.o2; omega), (hg.block M h.ml (fun e => by have := hr M e.symm; omega)).trans h.row, h.o2⟩
abbrev blCs (v : Value) (t : Term) : Array Value := #[v, .int .i64 t.kind, .int .i64 t.a, .int .i64 t.to0, .int .i64 t.to1]
structure WA4 (w0 W : World) (R M c : Nat) (S : Nat → Prop) (v : Value) (t : Term) (l : List Ins) (St : Nat → Prop) (s : Cur) : Prop where
 xa : XA4 w0 W R M c S 52 (blCs v t) s
 own : OwnL W (M + 1) 45 St v l
 st : ∀ b, St b → M < b ∧ b < W.heap.size
theorem WA4.call (h : WA4 w0 W R M c S v t l St s) (hon : Only c W W') (hat : CurAt W' S c s') (hs : SufX s s') : WA4 w0 W' R M c S v t l St s' where
 xa := h.xa.call hon hat hs
 own := h.own.keep hon.size (fun b hb hl => hon.block b hl (by have := (h.st b hb).1; have := h.xa.o2; have := h.xa.ra.o1; omega)) fun g hg => hon.block g (h.own.below_ g hg).2 (by have := (h.own.below_ g hg).1; have := h.xa.o2; have := h.xa.ra.o1; omega)
 st := fun b hb => ⟨(h.st b hb).1, Nat.lt_of_lt_of_le (h.st b hb).2 hon.size⟩
theorem WA4.ext (h : WA4 w0 W R M c S v t l St s) (u : Ext) : WA4 w0 (W.ext u) R M c S v t l St s := h.call ((Only.refl c W).ext u) (h.xa.ra.rd.cur.ext u) (SufX.refl s)
theorem WA4.alloc (h : WA4 w0 W R M c S v t l St s) (o : Obj) : WA4 w0 (W.alloc o) R M c S v t l St s := h.call ((Only.refl c W).alloc o) (h.xa.ra.rd.cur.alloc o) (SufX.refl s)
theorem WA4.put (h : WA4 w0 W R M c S v t l St s) {j : Nat} {x : Value} (hr : (blCs v t).setIfInBounds j x = blCs v t') : WA4 w0 (W.setCell ⟨M, j, none⟩ x) R M c S v t' l St s where
 xa := h.xa.set hr
 own := h.own.setCell (fun e => by have h5 : M < M := (h.st _ e).1; omega) (fun e => by have h5 : M + 1 ≤ M := (h.own.below_ _ e).1; omega) x
 st := fun b hb => by have := h.st b hb; simpa using this
theorem WA4.again (h : WA4 w0 W R M c S v t l St s) : WA4 w0 (((((W.setCell ⟨M, 0, none⟩ v).setCell ⟨M, 1, none⟩ (.int .i64 t.kind)).setCell ⟨M, 2, none⟩ (.int .i64 t.a)).setCell ⟨M, 3, none⟩ (.int .i64 t.to0)).setCell ⟨M, 4, none⟩ (.int .i64 t.to1)) R M c S v t l St s :=
 ((((h.put (j := 0) (x := v) rfl).put (j := 1) (x := .int .i64 t.kind) rfl).put (j := 2) (x := .int .i64 t.a) rfl).put (j := 3) (x := .int .i64 t.to0) rfl).put (j := 4) (x := .int .i64 t.to1) rfl
theorem WA4.term (h : WA4 w0 W R M c S v t l St s) (t' : Term) : WA4 w0 ((((W.setCell ⟨M, 1, none⟩ (.int .i64 t'.kind)).setCell ⟨M, 2, none⟩ (.int .i64 t'.a)).setCell ⟨M, 3, none⟩ (.int .i64 t'.to0)).setCell ⟨M, 4, none⟩ (.int .i64 t'.to1)) R M c S v t' l St s :=
 (((h.put (t' := ⟨t'.kind, t.a, t.to0, t.to1⟩) (j := 1) (x := .int .i64 t'.kind) rfl).put (t' := ⟨t'.kind, t'.a, t.to0, t.to1⟩) (j := 2) (x := .int .i64 t'.a) rfl).put (t' := ⟨t'.kind, t'.a, t'.to0, t.to1⟩) (j := 3) (x := .int .i64 t'.to0) rfl).put (t' := t') (j := 4) (x := .int .i64 t'.to1) rfl
theorem WA4.push (h : WA4 w0 W R M c S v t l St s) (hg : W.grownBy W' v.ownBlock) (ho : OwnL W' (M + 1) 45 St' v' l') (st : ∀ b, St' b → M < b ∧ b < W'.heap.size) : WA4 w0 (W'.setCell ⟨M, 0, none⟩ v') R M c S v' t l' St' s where
 xa := (h.xa.grown hg (fun g e => by have := (h.own.below_ g e).1; omega)).set rfl
 own := ho.setCell (fun e => by have h5 : M < M := (st _ e).1; omega) (fun e => by have h5 : M + 1 ≤ M := (ho.below_ _ e).1; omega) _
 st := fun b hb => by have := st b hb; simpa using this
end
theorem cells5 {W : World} {M : Nat} {a b d e f : Value} {T : TypeId} (hr : W.heap[M]? = some (.cells #[a, b, d, e, f] T (0, 0))) : W.cell? ⟨M, 0, none⟩ = some a ∧ W.cell? ⟨M, 1, none⟩ = some b ∧ W.cell? ⟨M, 2, none⟩ = some d ∧ W.cell? ⟨M, 3, none⟩ = some e ∧ W.cell? ⟨M, 4, none⟩ = some f :=
 ⟨cell_of_row W M _ _ _ (0, 0) hr, cell_of_row W M _ _ _ (0, 0) hr, cell_of_row W M _ _ _ (0, 0) hr, cell_of_row W M _ _ _ (0, 0) hr, cell_of_row W M _ _ _ (0, 0) hr⟩
def WholeP (S : Nat → Prop) (c : Nat) (w : World) (r : Block × Cur) (e : Ending) (w' : World) : Prop :=
 ∃ A n k St, e = .returned (.agg (blCs (.slice A n k) r.1.term)) ∧ OwnL w' w.heap.size 45 St (.slice A n k) r.1.ins ∧ (∀ b, St b → w.heap.size ≤ b ∧ b < w'.heap.size) ∧ TermIn r.1.term ∧ CurAt w' S c r.2 ∧ Only c w w'
theorem info_Ins4 : (Tryz.prog.info? 45).map (fun i => (i.zero, i.size, i.bytes)) = some (some (.agg #[.int .i64 0, .int .i64 0, .int .i64 0, .int .i64 0, .int .i64 0, .int .i64 0, .slice none 0 0, .int .i64 0]), 8, 80) := by kernel_rfl
end Go.Proofs.YtljglhaeonbfoaaGreatDoor
