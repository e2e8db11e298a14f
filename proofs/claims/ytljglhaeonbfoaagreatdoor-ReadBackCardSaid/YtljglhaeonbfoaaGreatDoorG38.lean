/- law04: walks: ir.long, ir.whole, ir.To; ir.reach where an end goes nowhere; ir.Right of what cannot be written. law04: walks: slices of numbers cloned. law04: walks: ir.To; ir.reach where an end goes nowhere; ir.Right of what cannot be written. -/
import Derived.Test.YtljglhaeonbfoaaGreatDoorG34
import Derived.Test.YtljglhaeonbfoaaGreatDoorG19
import Derived.Test.YtljglhaeonbfoaaGreatDoorW4d
import Derived.Test.YtljglhaeonbfoaaGreatDoorG27
import Derived.Deep.OwnRows
set_option linter.unusedSimpArgs false
set_option linter.unusedVariables false
namespace Go.Proofs.YtljglhaeonbfoaaGreatDoor
open Go.RowKit
theorem blkBox (x : Block) (w : World) (A : Option Addr) (n c : Nat) {C : Nat} (hC : w.heap.size = C) {W0 : World} (hW0 : w.alloc (.cells #[.slice A n c, .int .i64 x.term.kind, .int .i64 x.term.a, .int .i64 x.term.to0, .int .i64 x.term.to1] 52) = W0) :
  W0.cell? ⟨C, 0, none⟩ = some (.slice A n c) ∧ W0.cell? ⟨C, 1, none⟩ = some (.int .i64 x.term.kind) ∧ W0.cell? ⟨C, 2, none⟩ = some (.int .i64 x.term.a) ∧ W0.cell? ⟨C, 3, none⟩ = some (.int .i64 x.term.to0) ∧ W0.cell? ⟨C, 4, none⟩ = some (.int .i64 x.term.to1) ∧ C < W0.heap.size ∧ Below w.heap.size w W0 := by
 have hrow : W0.heap[C]? = some (.cells #[.slice A n c, .int .i64 x.term.kind, .int .i64 x.term.a, .int .i64 x.term.to0, .int .i64 x.term.to1] 52 (0, 0)) := by rw [← hW0, ← hC]; exact heap_alloc_new w _
 exact ⟨cell_of_row W0 C _ _ _ (0, 0) hrow, cell_of_row W0 C _ _ _ (0, 0) hrow, cell_of_row W0 C _ _ _ (0, 0) hrow, cell_of_row W0 C _ _ _ (0, 0) hrow, cell_of_row W0 C _ _ _ (0, 0) hrow, (Array.getElem?_eq_some_iff.1 hrow).1, by rw [← hW0]; exact (Below.refl _ _).alloc (Nat.le_refl _) _⟩
theorem long1_ir (x : Block) (w : World) (S : Nat → Prop) (A : Option Addr) (n c : Nat) (h : Sl w S A n c x.ins) : Calls Tryz.prog 107 #[blkV x A n c] w (RetX (.bool (decide (64 < x.ins.length))) w) := by
 obtain ⟨C, hC⟩ : ∃ C, w.heap.size = C := ⟨_, rfl⟩
 obtain ⟨W0, hW0⟩ : ∃ W, w.alloc (.cells #[.slice A n c, .int .i64 x.term.kind, .int .i64 x.term.a, .int .i64 x.term.to0, .int .i64 x.term.to1] 52) = W := ⟨_, rfl⟩
 obtain ⟨c0, c1, c2, c3, c4, cl, hB⟩ := blkBox x w A n c hC hW0
 have HB0 := hide hB
 have HE := hide (show decide (64 < x.ins.length) = decide ((64 : Int) < (n : Int)) from by rw [h.len, Bool.eq_iff_iff]; simp; try omega)
 clear h hB
 go_enter Tryz.func107, Tryz.ntmps107
 go_wp2_with fail
 go_ret
 exact RetX.b HE.out.symm HB0.out
theorem whole1_ir (x : Ins) (w : World) (S : Nat → Prop) (A : Option Addr) (n c : Nat) (h : Sl w S A n c x.args) (hok : OkI4 x) : Calls Tryz.prog 109 #[insV x A n c] w (RetX (.bool (!insB x)) w) := by
 obtain ⟨C, hC⟩ : ∃ C, w.heap.size = C := ⟨_, rfl⟩
 obtain ⟨W0, hW0⟩ : ∃ W, w.alloc (.cells #[.int .i64 x.op, .int .i64 x.dst, .int .i64 x.a, .int .i64 x.b, .int .i64 x.imm, .int .i64 x.callee, .slice A n c, .int .i64 x.many] 45) = W := ⟨_, rfl⟩
 have hrow : W0.heap[C]? = some (.cells #[.int .i64 x.op, .int .i64 x.dst, .int .i64 x.a, .int .i64 x.b, .int .i64 x.imm, .int .i64 x.callee, .slice A n c, .int .i64 x.many] 45 (0, 0)) := by rw [← hW0, ← hC]; exact heap_alloc_new w _
 have c0 : W0.cell? ⟨C, 0, none⟩ = some (.int .i64 x.op) := cell_of_row W0 C _ _ _ (0, 0) hrow
 have c1 : W0.cell? ⟨C, 1, none⟩ = some (.int .i64 x.dst) := cell_of_row W0 C _ _ _ (0, 0) hrow
 have c2 : W0.cell? ⟨C, 2, none⟩ = some (.int .i64 x.a) := cell_of_row W0 C _ _ _ (0, 0) hrow
 have c3 : W0.cell? ⟨C, 3, none⟩ = some (.int .i64 x.b) := cell_of_row W0 C _ _ _ (0, 0) hrow
 have c4 : W0.cell? ⟨C, 4, none⟩ = some (.int .i64 x.imm) := cell_of_row W0 C _ _ _ (0, 0) hrow
 have c5 : W0.cell? ⟨C, 5, none⟩ = some (.int .i64 x.callee) := cell_of_row W0 C _ _ _ (0, 0) hrow
 have c6 : W0.cell? ⟨C, 6, none⟩ = some (.slice A n c) := cell_of_row W0 C _ _ _ (0, 0) hrow
 have c7 : W0.cell? ⟨C, 7, none⟩ = some (.int .i64 x.many) := cell_of_row W0 C _ _ _ (0, 0) hrow
 have cl : C < W0.heap.size := (Array.getElem?_eq_some_iff.1 hrow).1
 have HB0 := hide (show Below w.heap.size w W0 from by rw [← hW0]; exact (Below.refl _ _).alloc (Nat.le_refl _) _)
 obtain ⟨r, hr⟩ : ∃ r, insB x = r := ⟨_, rfl⟩
 have HI := hide (show Calls Tryz.prog 65 #[insV x A n c] W0 (RetX (.bool r) W0) from hr ▸ isIns_ir x W0 S A n c (by rw [← hW0]; exact h.alloc _) hok)
 have HR := hide hr
 clear hrow h hr
 go_enter Tryz.func109, Tryz.ntmps109
 go_wp2_with (go_at_call 65; (with_reducible refine HI.out.mono ?_); rintro e _ ⟨rfl, u, rfl⟩)
 go_ret
 exact RetX.b (by rw [HR.out]) (HB0.out.ext HB0.out.size u)
set_option maxRecDepth 100000 in
set_option maxHeartbeats 8000000 in
theorem long_ir (f : Fnc) (w : World) (S : Nat → Prop) (A B : Option Addr) (n k m j : Nat) (hp : Sl w S A n k f.params) (hb : Sl w S B m j f.blocks) : Calls Tryz.prog 57 #[fnV A n k B m j] w (RetX (.bool (longF f)) w) := by
 obtain ⟨C, hC⟩ : ∃ C, w.heap.size = C := ⟨_, rfl⟩
 obtain ⟨W0, hW0⟩ : ∃ W, w.alloc (.cells #[.slice A n k, .slice B m j] 25) = W := ⟨_, rfl⟩
 have HR0 := hide (show W0.heap[C]? = some (.cells #[.slice A n k, .slice B m j] 25 (0, 0)) from by rw [← hW0, ← hC]; exact heap_alloc_new w _)
 have a0 : W0.cell? ⟨C, 0, none⟩ = some (.slice A n k) := cell_of_row W0 C _ _ _ (0, 0) HR0.out
 have a1 : W0.cell? ⟨C, 1, none⟩ = some (.slice B m j) := cell_of_row W0 C _ _ _ (0, 0) HR0.out
 have cl : C < W0.heap.size := (Array.getElem?_eq_some_iff.1 HR0.out).1
 have HB0 := hide (show Below w.heap.size w W0 from by rw [← hW0]; exact (Below.refl _ _).alloc (Nat.le_refl _) _)
 have HBL := hide (show w.heap.size ≤ W0.heap.size from HB0.out.size)
 obtain ⟨fb, hfb⟩ : ∃ r, anyF (fun b : Block => decide (64 < b.ins.length)) f.blocks = r := ⟨_, rfl⟩
 have HC := hide (show Calls Tryz.prog 25 #[.slice B m j, .func (.func 107) #[] #[]] W0 (RetX (.bool fb) W0) from hfb ▸ containsBlocks4_any W0 S B m j f.blocks (fun b => decide (64 < b.ins.length)) 107 #[] (by rw [← hW0]; exact hb.alloc _) (fun _ _ => by kernel_rfl) (fun x A1 n1 c1 u2 hx => by rw [show (#[blkV x A1 n1 c1] ++ #[] : Array Value) = #[blkV x A1 n1 c1] from rfl]; exact long1_ir x _ S A1 n1 c1 hx.1))
 have HE := hide (show longF f = (decide ((m : Int) = 0) || decide ((200 : Int) < (m : Int)) || decide ((8 : Int) < (n : Int)) || fb) from by
  unfold longF
  rw [← hfb, anyF_any4, hp.len, hb.len,
   show decide (m = 0) = decide ((m : Int) = 0) from by rw [Bool.eq_iff_iff]; simp; try omega,
   show decide (200 < m) = decide ((200 : Int) < (m : Int)) from by rw [Bool.eq_iff_iff]; simp; try omega,
   show decide (8 < n) = decide ((8 : Int) < (n : Int)) from by rw [Bool.eq_iff_iff]; simp; try omega])
 clear hp hb hfb HR0
 cases e0 : decide ((m : Int) = 0) with
 | true =>
  have hm0 : (m == 0) = true := by simpa using e0
  have hm0i : ((m : Int) == 0) = true := by simpa using e0
  have HQ := hide (show longF f = true from by rw [HE.out, e0]; simp)
  clear HE
  go_enter Tryz.func57, Tryz.ntmps57
  go_wp2_with fail
  go_ret
  exact RetX.b HQ.out.symm HB0.out
 | false =>
 have hm0 : (m == 0) = false := by simpa using e0
 have hm0i : ((m : Int) == 0) = false := by simpa using e0
 cases e2 : decide ((200 : Int) < (m : Int)) with
 | true =>
  have HQ := hide (show longF f = true from by rw [HE.out, e2]; simp)
  clear HE
  go_enter Tryz.func57, Tryz.ntmps57
  go_wp2_with fail
  go_ret
  exact RetX.b HQ.out.symm HB0.out
 | false =>
 cases e8 : decide ((8 : Int) < (n : Int)) with
 | true =>
  have HQ := hide (show longF f = true from by rw [HE.out, e8]; simp)
  clear HE
  go_enter Tryz.func57, Tryz.ntmps57
  go_wp2_with fail
  go_ret
  exact RetX.b HQ.out.symm HB0.out
 | false =>
  have HQ := hide (show longF f = fb from by rw [HE.out, e0, e2, e8]; simp)
  clear HE
  go_enter Tryz.func57, Tryz.ntmps57
  go_wp2_with (go_at_call 25; (with_reducible refine HC.out.mono ?_); rintro e _ ⟨rfl, u2, rfl⟩)
  go_ret
  exact RetX.b HQ.out.symm (HB0.out.ext HBL.out u2)
def seenS (l : List Int) (T : Array Value) : Prop := T.size = 201 ∧ ∀ j, j < 201 → T[j]? = some (.bool (l.contains (j : Int)))
theorem seenS_zero {T : Array Value} (h : T = Array.replicate 201 (.bool false)) : seenS [] T := by
 subst h
 exact ⟨by simp, fun j hj => by simp [hj]⟩
theorem seenS_put {l : List Int} {T : Array Value} {p : Nat} (h : seenS l T) (hp : p < 201) : seenS (l ++ [(p : Int)]) (T.setIfInBounds p (.bool true)) := by
 refine ⟨by simp [h.1], fun j hj => ?_⟩
 rw [Array.getElem?_setIfInBounds]
 by_cases e : p = j
 ·subst e
  rw [if_pos rfl, if_pos (by rw [h.1]; omega)]
  simp
 ·rw [if_neg e, h.2 j hj]
  have : (l ++ [(p : Int)]).contains (j : Int) = l.contains (j : Int) := by
   rw [Bool.eq_iff_iff]
   simp
   omega
  rw [this]
set_option maxRecDepth 100000 in
set_option maxHeartbeats 16000000 in
theorem whole_ir (f : Fnc) (w : World) (S : Nat → Prop) (A B : Option Addr) (n k m j : Nat) (hp : Sl w S A n k f.params) (hb : Sl w S B m j f.blocks) : Calls Tryz.prog 58 #[fnV A n k B m j] w (RetX (.bool (wholeF f)) w) := by
 obtain ⟨ps, bl⟩ := f
 simp only at hp hb
 obtain ⟨C, hC⟩ : ∃ C, w.heap.size = C := ⟨_, rfl⟩
 obtain ⟨W0, hW0⟩ : ∃ W, w.alloc (.cells #[.slice A n k, .slice B m j] 25) = W := ⟨_, rfl⟩
 have HR0 := hide (show W0.heap[C]? = some (.cells #[.slice A n k, .slice B m j] 25 (0, 0)) from by rw [← hW0, ← hC]; exact heap_alloc_new w _)
 have a0 : W0.cell? ⟨C, 0, none⟩ = some (.slice A n k) := cell_of_row W0 C _ _ _ (0, 0) HR0.out
 have a1 : W0.cell? ⟨C, 1, none⟩ = some (.slice B m j) := cell_of_row W0 C _ _ _ (0, 0) HR0.out
 have cl : C < W0.heap.size := (Array.getElem?_eq_some_iff.1 HR0.out).1
 have HB0 := hide (show Below w.heap.size w W0 from by rw [← hW0]; exact (Below.refl _ _).alloc (Nat.le_refl _) _)
 have HBL := hide (show w.heap.size ≤ W0.heap.size from HB0.out.size)
 have HP := hide (show Sl W0 S A n k ps from by rw [← hW0]; exact hp.alloc _)
 have HBK := hide (show Sl W0 S B m j bl from by rw [← hW0]; exact hb.alloc _)
 have hnn := hp.nle
 have hmm := hb.nle
 obtain ⟨X, hX⟩ : ∃ X, wholeF ⟨ps, bl⟩ = X := ⟨_, rfl⟩
 rw [hX]
 have HX := hide (show (parsB [] ps && bl.all blkW) = X from hX)
 have HCQ := hide hC
 obtain ⟨Q, hQ⟩ : ∃ Q, W0.heap.size = Q := ⟨_, rfl⟩
 have HQQ := hide hQ
 have cQ : C < Q := by omega
 clear hp hb hX
 go_enter Tryz.func58, Tryz.ntmps58
 go_wp2_with fail
 go_loopw [11] (fun i wr => ∃ (x : Nat) (T : Array Value), i = .int .i64 x ∧ x ≤ n ∧ wr = W0.alloc (.cells T 144) ∧ seenS (ps.take x) T ∧ parsB [] ps = parsB (ps.take x) (ps.drop x)) (fun i _ => n - (intOf i).toNat)
 case atStart => exact ⟨0, _, rfl, Nat.zero_le _, rfl, seenS_zero (by kernel_rfl), rfl⟩
 case round =>
  obtain ⟨x, T, rfl, hx, rfl, hT, hpb⟩ := hrel
  have HT := hide hT; have HPB := hide hpb
  clear hT hpb
  by_cases hlt : x < n
  ·obtain ⟨b, off, p, rfl, hb, hxp, hpi, c0⟩ := at_int (HP.out.alloc (.cells T 144)) hlt
   have HXP := hide hxp
   have HSTEP := hide (parsB_step HPB.out hxp)
   have hxi : (x : Int) < n := by omega
   clear hxp
   cases hvo : vOk p with
   | false =>
    have HE := hide (show X = false from by rw [← HX.out, HSTEP.out, hvo]; rfl)
    have HV := hide (fun W : World => show Calls Tryz.prog 108 #[.int .i64 p] W (Ret (.bool false) W) from hvo ▸ variable_ir p W)
    clear hvo
    go_wp2_with (go_at_call 108; (with_reducible refine (HV.out _).mono ?_); rintro e w' ⟨rfl, rfl⟩)
    go_ret
    exact RetX.b HE.out.symm (HB0.out.alloc HBL.out _)
   | true =>
    obtain ⟨p1, p2⟩ := vOk_in hvo
    obtain ⟨q, rfl⟩ := Int.eq_ofNat_of_zero_le (show 0 ≤ p by omega)
    have HV := hide (fun W : World => show Calls Tryz.prog 108 #[.int .i64 (q : Int)] W (Ret (.bool true) W) from hvo ▸ variable_ir (q : Int) W)
    have q201 : (q : Int) < 201 := by omega
    have tq := HT.out.2 q (by omega)
    cases hc : (ps.take x).contains (q : Int) with
    | true =>
     rw [hc] at tq
     have HE := hide (show X = false from by rw [← HX.out, HSTEP.out, hvo, hc]; rfl)
     clear hvo hc
     go_wp2_with (go_at_call 108; (with_reducible refine (HV.out _).mono ?_); rintro e w' ⟨rfl, rfl⟩)
     go_ret
     exact RetX.b HE.out.symm (HB0.out.alloc HBL.out _)
    | false =>
     rw [hc] at tq
     have HPN := hide (show parsB [] ps = parsB (ps.take (x + 1)) (ps.drop (x + 1)) from by rw [HSTEP.out, hvo, hc]; rfl)
     have HTN := hide (show seenS (ps.take (x + 1)) (T.setIfInBounds q (.bool true)) from by
      have h := seenS_put (p := q) HT.out (by omega)
      rw [List.take_add_one, HXP.out]
      exact h)
     clear hvo hc
     go_wp2_with (go_at_call 108; (with_reducible refine (HV.out _).mono ?_); rintro e w' ⟨rfl, rfl⟩)
     go_roundw
     case rel => exact ⟨x + 1, T.setIfInBounds q (.bool true), by go_num, by omega, rfl, HTN.out, HPN.out⟩
     case measure => simp [intOf]; omega
  ·have hxn : x = n := by omega
   subst hxn
   have HPT := hide (show X = bl.all blkW from by rw [← HX.out, HPB.out, drop_end HP.out.len hlt]; rfl)
   obtain ⟨W1, hW1⟩ : ∃ W, W0.alloc (.cells T 144) = W := ⟨_, rfl⟩
   rw [hW1]
   have HB1 := hide (show Below w.heap.size w W1 from by rw [← hW1]; exact HB0.out.alloc HBL.out _)
   have HB1L := hide (show w.heap.size ≤ W1.heap.size from HB1.out.size)
   have HR1 := hide (show W1.heap[C]? = some (.cells #[.slice A x k, .slice B m j] 25 (0, 0)) from by rw [← hW1]; exact alloc_row _ HR0.out)
   have HBK1 := hide (show Sl W1 S B m j bl from by rw [← hW1]; exact HBK.out.alloc _)
   have b1 : W1.cell? ⟨C, 1, none⟩ = some (.slice B m j) := cell_of_row W1 C _ _ _ (0, 0) HR1.out
   have cl1 : C < W1.heap.size := (Array.getElem?_eq_some_iff.1 HR1.out).1
   clear a0 a1 cl HT HPB hW1 HP HBK HR0 HX cQ HQQ hQ
   go_wp2_with fail
   go_loopw [29] (fun i wr => ∃ y : Nat, i = .int .i64 y ∧ y ≤ m ∧ X = (bl.drop y).all blkW ∧ ∃ u, wr = W1.ext u) (fun i _ => m - (intOf i).toNat)
   case atStart => exact ⟨0, rfl, Nat.zero_le _, HPT.out, ext_refl _⟩
   case round =>
    obtain ⟨y, rfl, hy, hr, u, rfl⟩ := hrel
    have HR := hide hr
    clear hr
    by_cases hlt : y < m
    ·obtain ⟨b, off, z, A1, n1, c1, rfl, hb, hz, hins, o1, o2, o3, o4, c0, c1_, c2, c3, c4⟩ := at_Block (HBK1.out.ext u) hlt
     have HZ := hide (drop_at hz)
     have hyi : (y : Int) < m := by omega
     clear hz
     obtain ⟨tb, htb⟩ : ∃ r, termB z.term = r := ⟨_, rfl⟩
     obtain ⟨fb, hfb⟩ : ∃ r, anyF (fun i => !insB i) z.ins = r := ⟨_, rfl⟩
     have HT := hide (fun W : World => show Calls Tryz.prog 66 #[tmV z.term] W (RetX (.bool tb) W) from htb ▸ isTerm_ir z.term W ⟨o1, o2, o3, o4⟩)
     have HC := hide (fun (W : World) (hW : Below (W1.ext u).heap.size (W1.ext u) W) => show Calls Tryz.prog 67 #[.slice A1 n1 c1, .func (.func 109) #[] #[]] W (RetX (.bool fb) W) from hfb ▸ containsIns4_any W S A1 n1 c1 z.ins (fun i => !insB i) 109 #[] (hins.belowAll hW) (fun _ _ => by kernel_rfl) (fun x A1 n1 c1 u2 hx => by rw [show (#[insV x A1 n1 c1] ++ #[] : Array Value) = #[insV x A1 n1 c1] from rfl]; exact whole1_ir x _ S A1 n1 c1 hx.1 hx.2))
     have HBW := hide (show blkW z = (tb && !fb) from by unfold blkW; rw [← htb, ← hfb, anyF_any4, any_not4])
     clear hins htb hfb o1 o2 o3 o4
     cases tb with
     | false =>
      have HE := hide (show X = false from by rw [HR.out, HZ.out, List.all_cons, HBW.out]; rfl)
      clear HR HZ HBW
      go_wp2_with (first | (go_at_call 66; refine (HT.out _).mono ?_; rintro e _ ⟨rfl, ux, rfl⟩))
      go_ret
      exact RetX.b HE.out.symm (HB1.out.trans ((show Below W1.heap.size W1 _ from (by repeat (first | exact Below.refl _ _ | assumption | refine Below.alloc ?_ (by simp [size_ext]; try omega) _ | refine Below.ext ?_ (by simp [size_ext]; try omega) _ | refine Below.drew ?_ | refine Below.setCell ?_ (by simp [size_ext]; try omega) _))).mono HB1L.out))
     | true =>
     cases fb with
     | true =>
      have HE := hide (show X = false from by rw [HR.out, HZ.out, List.all_cons, HBW.out]; rfl)
      clear HR HZ HBW
      go_wp2_with (first | (go_at_call 66; refine (HT.out _).mono ?_; rintro e _ ⟨rfl, ux, rfl⟩) | (go_at_call 67; refine (HC.out _ (by repeat (first | exact Below.refl _ _ | assumption | refine Below.alloc ?_ (by simp [size_ext]; try omega) _ | refine Below.ext ?_ (by simp [size_ext]; try omega) _ | refine Below.drew ?_ | refine Below.setCell ?_ (by simp [size_ext]; try omega) _))).mono ?_; rintro e _ ⟨rfl, ux, rfl⟩))
      go_ret
      exact RetX.b HE.out.symm (HB1.out.trans ((show Below W1.heap.size W1 _ from (by repeat (first | exact Below.refl _ _ | assumption | refine Below.alloc ?_ (by simp [size_ext]; try omega) _ | refine Below.ext ?_ (by simp [size_ext]; try omega) _ | refine Below.drew ?_ | refine Below.setCell ?_ (by simp [size_ext]; try omega) _))).mono HB1L.out))
     | false =>
      have HE := hide (show X = (bl.drop (y + 1)).all blkW from by rw [HR.out, HZ.out, List.all_cons, HBW.out]; rfl)
      clear HR HZ HBW
      go_wp2_with (first | (go_at_call 66; refine (HT.out _).mono ?_; rintro e _ ⟨rfl, ux, rfl⟩) | (go_at_call 67; refine (HC.out _ (by repeat (first | exact Below.refl _ _ | assumption | refine Below.alloc ?_ (by simp [size_ext]; try omega) _ | refine Below.ext ?_ (by simp [size_ext]; try omega) _ | refine Below.drew ?_ | refine Below.setCell ?_ (by simp [size_ext]; try omega) _))).mono ?_; rintro e _ ⟨rfl, ux, rfl⟩))
      go_roundw
      case rel => exact ⟨y + 1, by go_num, by omega, HE.out, Below.to_ext (by repeat (first | exact Below.refl _ _ | assumption | refine Below.alloc ?_ (by simp [size_ext]; try omega) _ | refine Below.ext ?_ (by simp [size_ext]; try omega) _ | refine Below.drew ?_ | refine Below.setCell ?_ (by simp [size_ext]; try omega) _))⟩
      case measure => simp [intOf]; omega
    ·have HE := hide (show X = true from by rw [HR.out, drop_end HBK1.out.len hlt]; rfl)
     go_wp2_with fail
     go_ret
     exact RetX.b HE.out.symm (HB1.out.trans ((show Below W1.heap.size W1 _ from (by repeat (first | exact Below.refl _ _ | assumption | refine Below.alloc ?_ (by simp [size_ext]; try omega) _ | refine Below.ext ?_ (by simp [size_ext]; try omega) _ | refine Below.drew ?_ | refine Below.setCell ?_ (by simp [size_ext]; try omega) _))).mono HB1L.out))
end Go.Proofs.YtljglhaeonbfoaaGreatDoor
namespace Go.Proofs.YtljglhaeonbfoaaGreatDoor
open Go.RowKit
def RetCl {α : Type} [Rep α] (T : TypeId) (S : Nat → Prop) (xs : List α) (w : World) (e : Ending) (w' : World) : Prop :=
 ∃ A c, e = .returned (.slice A xs.length c) ∧ OwnL w' w.heap.size T S (.slice A xs.length c) xs ∧ ∃ u : Ext, w' = w.ext u
theorem OwnL.lit0 {α : Type} [Rep α] (w : World) (T : TypeId) (S : Nat → Prop) (hS : ¬ S w.heap.size) : OwnL (w.alloc (.cells #[] T)) w.heap.size T S (.slice (some ⟨w.heap.size, 0, none⟩) 0 0) ([] : List α) :=
 OwnL.of_block (cur := #[]) rfl (Nat.le_refl _) (by unfold maxLen; omega) (Nat.le_refl _) hS (heap_alloc_new w _) (by simp) (by simp [RepL])
theorem clone_ints (w : World) (S : Nat → Prop) (A : Option Addr) (n c : Nat) (xs : List Int) (h : Sl w S A n c xs) (hm : n ≤ 1048576) :
  Calls Tryz.prog 157 #[.slice A n c] w (RetCl 3 (fun b => S b ∧ b < w.heap.size) xs w) := by
 have HL := hide h.len
 cases A with
 | none =>
  have h0 : n = 0 := by have := h.2.2.2.1 rfl; have := h.2.1; omega
  have h0' : c = 0 := h.2.2.2.1 rfl
  subst h0 h0'
  obtain rfl : xs = [] := List.eq_nil_of_length_eq_zero HL.out
  have hnil := fun (w : World) => Lib.run_eql_slice_nil (P := Tryz.prog) w 22 _ none 0 0 0 0 Tryz.underlying22
  clear h
  go_enter Tryz.func157, Tryz.ntmps157
  go_wp2
  go_ret
  exact ⟨none, 0, rfl, OwnL.nil_ _ _ _ _, ext_refl w⟩
 | some ad =>
  have HS := hide ((h.more (S' := fun b => S b ∧ b < w.heap.size) fun b hb h => ⟨h, hb⟩).alloc (.cells #[] 3))
  have hnil := fun (w : World) => Lib.run_eql_slice_nil (P := Tryz.prog) w 22 _ (some ad) n c 0 0 Tryz.underlying22
  obtain ⟨i0, hi, hz, hz1, hz2⟩ := info_parts info_int
  have HI0 := hide hi; have HZ := hide hz; have HZ1 := hide hz1; have HZ2 := hide hz2
  clear h hi hz hz1 hz2
  go_enter Tryz.func157, Tryz.ntmps157
  go_wp2_with (at_builtin; refine wpList_push_sl (α := Int) (w.alloc (.cells #[] 3)) rfl (.tmp 5) (.tmp 6) 22 rfl w.heap.size 3 i0 _ 8 Tryz.underlying22 HI0.out HZ.out HZ1.out HZ2.out rfl (by decide) (fun _ => False) (fun b => S b ∧ b < w.heap.size) (fun b => S b ∧ b < w.heap.size) (.slice (some ⟨w.heap.size, 0, none⟩) 0 0) [] xs rfl (OwnL.lit0 w _ _ (fun h => h)) (some ad) n c rfl HS.out (fun _ h => h.elim) (fun _ _ h => h) (fun g hg h => by simp [Value.ownBlock] at hg; omega) (fun b h => by simp; omega) (by simp; omega) (by simp; omega) (by simp) ?_; intro v' w1 hown' hg _; obtain ⟨A1, c1, rfl⟩ := hown'.form; rw [List.nil_append] at hown'; have HO' := hide hown'; have HG := hide hg; clear hown' hg)
  go_wp2_with fail
  go_ret
  exact ⟨A1, c1, rfl, HO'.out, Below.to_ext (((Below.refl _ _).alloc (Nat.le_refl _) _).grown HG.out (by simp) (fun g hg => by simp [Value.ownBlock] at hg; omega))⟩
end Go.Proofs.YtljglhaeonbfoaaGreatDoor
namespace Go.Proofs.YtljglhaeonbfoaaGreatDoor
open Go.RowKit
theorem sl_twoS {W : World} {C o : Nat} {x y : Int} (hx : InI x) (hy : InI y) (hl : C < W.heap.size) (c2 : W.cell? ⟨C, o, none⟩ = some (.int .i64 x)) (c3 : W.cell? ⟨C, o + 1, none⟩ = some (.int .i64 y)) : Sl W (fun b => b = C) (some ⟨C, o, none⟩) 2 2 [x, y] := by
 refine ⟨rfl, Nat.le_refl _, by unfold maxLen; decide, (fun h => by cases h), fun _ => ⟨C, o, rfl, hl, rfl, fun j z hj => ?_⟩⟩
 match j, hj with
 | 0, hj =>
  obtain rfl : x = z := Option.some.inj hj
  refine ⟨[.int .i64 x], ⟨rfl, hx⟩, fun i u hu => ?_⟩
  match i, hu with
  | 0, hu => obtain rfl := Option.some.inj hu; exact c2
 | 1, hj =>
  obtain rfl : y = z := Option.some.inj hj
  refine ⟨[.int .i64 y], ⟨rfl, hy⟩, fun i u hu => ?_⟩
  match i, hu with
  | 0, hu => obtain rfl := Option.some.inj hu; exact c3
set_option maxRecDepth 100000 in
set_option maxHeartbeats 8000000 in
theorem to_ir (t : Term) (w : World) (h : OkT4 t) (hr : termB t = true) : Calls Tryz.prog 110 #[tmV t] w (fun e w' => ∃ A n c, e = .returned (.slice A n c) ∧ Sl w' (fun b => w.heap.size ≤ b) A n c (toL t) ∧ ∃ u, w' = w.ext u) := by
 obtain ⟨W0, hW0⟩ : ∃ W, w.alloc (.cells #[.int .i64 t.kind, .int .i64 t.a, .int .i64 t.to0, .int .i64 t.to1] 50) = W := ⟨_, rfl⟩
 obtain ⟨C, hC⟩ : ∃ C, w.heap.size = C := ⟨_, rfl⟩
 have hrow : W0.heap[C]? = some (.cells #[.int .i64 t.kind, .int .i64 t.a, .int .i64 t.to0, .int .i64 t.to1] 50 (0, 0)) := by rw [← hW0, ← hC]; exact heap_alloc_new w _
 have c0 : W0.cell? ⟨C, 0, none⟩ = some (.int .i64 t.kind) := cell_of_row W0 C _ _ _ (0, 0) hrow
 have c1 : W0.cell? ⟨C, 1, none⟩ = some (.int .i64 t.a) := cell_of_row W0 C _ _ _ (0, 0) hrow
 have c2 : W0.cell? ⟨C, 2, none⟩ = some (.int .i64 t.to0) := cell_of_row W0 C _ _ _ (0, 0) hrow
 have c3 : W0.cell? ⟨C, 3, none⟩ = some (.int .i64 t.to1) := cell_of_row W0 C _ _ _ (0, 0) hrow
 have cl : C < W0.heap.size := (Array.getElem?_eq_some_iff.1 hrow).1
 have HB0 := hide (show Below w.heap.size w W0 from by rw [← hW0]; exact (Below.refl _ _).alloc (Nat.le_refl _) _)
 have HBL := hide (show w.heap.size ≤ W0.heap.size from HB0.out.size)
 have HT := hide (show Calls Tryz.prog 66 #[tmV t] W0 (RetX (.bool true) W0) from hr ▸ isTerm_ir t W0 h)
 have HI := hide h
 have HCQ := hide hC
 have HSL := hide (fun u : Ext => (sl_twoS h.2.2.1 h.2.2.2 cl c2 c3).ext u)
 obtain ⟨l, hl⟩ : ∃ l, toL t = l := ⟨_, rfl⟩
 rw [hl]
 have HLQ := hide hl
 clear hrow h hr hl
 by_cases k1 : t.kind = 1
 ·have hb : (t.kind == 1) = true := by simpa using k1
  have hl : l = [t.to0] := by rw [← HLQ.out]; unfold toL; rw [if_pos k1]
  subst hl
  clear k1 HLQ
  go_enter Tryz.func110, Tryz.ntmps110
  go_wp2_with (go_at_call 66; (with_reducible refine HT.out.mono ?_); rintro e _ ⟨rfl, u, rfl⟩)
  go_ret
  exact ⟨_, 1, 1, rfl, Sl.lit (S := fun _ => False) (us := [.int .i64 t.to0]) (by simp [size_ext]) (RepL.single ⟨rfl, HI.out.2.2.1⟩) rfl (by decide) (fun _ h => h.elim) (by have := HBL.out; have := HCQ.out; simp [size_ext]; omega), ((HB0.out.ext HBL.out u).alloc (by have := HBL.out; simp [size_ext]; omega) _).to_ext⟩
 have hb1 : (t.kind == 1) = false := by simpa using k1
 by_cases k2 : t.kind = 2
 ·have hb : (t.kind == 2) = true := by simpa using k2
  have hl : l = [t.to0, t.to1] := by rw [← HLQ.out]; unfold toL; rw [if_neg k1, if_pos k2]
  subst hl
  clear k1 k2 HLQ
  go_enter Tryz.func110, Tryz.ntmps110
  go_wp2_with (first | (go_at_call 66; (with_reducible refine HT.out.mono ?_); rintro e _ ⟨rfl, u, rfl⟩) | (go_at_call 157; refine (clone_ints _ (fun b => b = C) _ _ _ _ (HSL.out u) (by decide)).mono ?_; rintro e _ ⟨A, c, rfl, ho, u2, rfl⟩))
  go_ret
  exact ⟨A, 2, c, rfl, (ho.sl fun b hb hk => by
   have := HBL.out; have := HCQ.out
   rcases hk with ⟨hk, _⟩ | hk
   ·omega
   ·rw [size_ext] at hk; omega), (((HB0.out.ext HBL.out u).ext (by have := HBL.out; rw [size_ext]; omega) u2)).to_ext⟩
 have hb2 : (t.kind == 2) = false := by simpa using k2
 have hl : l = [] := by rw [← HLQ.out]; unfold toL; rw [if_neg k1, if_neg k2]
 subst hl
 clear k1 k2 HLQ
 go_enter Tryz.func110, Tryz.ntmps110
 go_wp2_with (go_at_call 66; (with_reducible refine HT.out.mono ?_); rintro e _ ⟨rfl, u, rfl⟩)
 go_ret
 exact ⟨none, 0, 0, rfl, Sl.zero_, (HB0.out.ext HBL.out u).to_ext⟩
theorem info_bool4 : (Tryz.prog.info? 4).map (fun i => (i.zero, i.size, i.bytes)) = some (some (.bool false), 1, 1) := by kernel_rfl
set_option maxRecDepth 100000 in
set_option maxHeartbeats 16000000 in
theorem reach_no (f : Fnc) (w : World) (S : Nat → Prop) (A B : Option Addr) (n k m j : Nat) (hb : Sl w S B m j f.blocks) (hm : m ≤ 64) (ht : ∀ b ∈ f.blocks, termB b.term = true) (hz : f.blocks.all (tgtB m) = false) :
  Calls Tryz.prog 59 #[fnV A n k B m j] w (RetX (.tuple #[.int .i64 0, .bool false]) w) := by
 obtain ⟨ps, bl⟩ := f
 simp only at hb ht hz
 obtain ⟨C, hC⟩ : ∃ C, w.heap.size = C := ⟨_, rfl⟩
 obtain ⟨W0, hW0⟩ : ∃ W, w.alloc (.cells #[.slice A n k, .slice B m j] 25) = W := ⟨_, rfl⟩
 have HR0 := hide (show W0.heap[C]? = some (.cells #[.slice A n k, .slice B m j] 25 (0, 0)) from by rw [← hW0, ← hC]; exact heap_alloc_new w _)
 have a0 : W0.cell? ⟨C, 0, none⟩ = some (.slice A n k) := cell_of_row W0 C _ _ _ (0, 0) HR0.out
 have a1 : W0.cell? ⟨C, 1, none⟩ = some (.slice B m j) := cell_of_row W0 C _ _ _ (0, 0) HR0.out
 have cl : C < W0.heap.size := (Array.getElem?_eq_some_iff.1 HR0.out).1
 have HB0 := hide (show Below w.heap.size w W0 from by rw [← hW0]; exact (Below.refl _ _).alloc (Nat.le_refl _) _)
 have HBL := hide (show w.heap.size ≤ W0.heap.size from HB0.out.size)
 have HBK := hide (show Sl W0 S B m j bl from by rw [← hW0]; exact hb.alloc _)
 have HT := hide ht
 have HZ := hide hz
 obtain ⟨i0, hi, hz0, hz1, hz2⟩ := info_parts info_bool4
 have HI0 := hide hi; have HZ0 := hide hz0; have HZ1 := hide hz1; have HZ2 := hide hz2
 have hCQ := hide hC
 have hby : i0.bytes = 1 := hz2
 clear hb ht hz hi hz0 hz1 hz2
 go_enter Tryz.func59, Tryz.ntmps59
 go_wp2_with (at_make; refine wpList_make_row _ rfl _ _ 145 rfl 4 i0 _ Tryz.underlying145 HI0.out HZ0.out HZ1.out rfl _ _ m rfl rfl (by rw [hby]; omega) (by omega) ?_)
 obtain ⟨W1, hW1⟩ : ∃ W', W0.alloc (.cells (madeCells #[.bool false] m) 4) = W' := ⟨_, rfl⟩
 try rw [hW1]
 have HB1 := hide (show Below w.heap.size w W1 from by rw [← hW1]; exact HB0.out.alloc HBL.out _)
 have HB1L := hide (show w.heap.size ≤ W1.heap.size from HB1.out.size)
 have HR1 := hide (show W1.heap[C]? = some (.cells #[.slice A n k, .slice B m j] 25 (0, 0)) from by rw [← hW1]; exact alloc_row _ HR0.out)
 have HBK1 := hide (show Sl W1 S B m j bl from by rw [← hW1]; exact HBK.out.alloc _)
 have b1 : W1.cell? ⟨C, 1, none⟩ = some (.slice B m j) := cell_of_row W1 C _ _ _ (0, 0) HR1.out
 have cl1 : C < W1.heap.size := (Array.getElem?_eq_some_iff.1 HR1.out).1
 clear a0 a1 cl hW0 hW1 HBK HR0
 go_wp2_with fail
 go_loopw [18] (fun i wr => ∃ y : Nat, i = .int .i64 y ∧ y ≤ m ∧ (bl.drop y).all (tgtB m) = false ∧ ∃ u, wr = W1.ext u) (fun i _ => m - (intOf i).toNat)
 case atStart => exact ⟨0, rfl, Nat.zero_le _, HZ.out, ext_refl _⟩
 case round =>
  obtain ⟨y, rfl, hy, hr, u, rfl⟩ := hrel
  have HR := hide hr
  clear hr
  by_cases hlt : y < m
  ·obtain ⟨b, off, z, A1, n1, c1, rfl, hb, hz, hins, o1, o2, o3, o4, c0, c1_, c2, c3, c4⟩ := at_Block (HBK1.out.ext u) hlt
   have HZQ := hide (drop_at hz)
   have HTB := hide (HT.out z (mem_at hz))
   have hyi : (y : Int) < m := by omega
   have HTO := hide (fun W : World => to_ir z.term W ⟨o1, o2, o3, o4⟩ HTB.out)
   clear hz hins o1 o2 o3 o4
   obtain ⟨L, hL⟩ : ∃ l, toL z.term = l := ⟨_, rfl⟩
   rw [hL] at HTO
   have HLQ := hide (show tgtB m z = L.all (fun x => decide (1 ≤ x) && decide (x < (m : Int))) from by rw [← hL]; rfl)
   clear hL
   go_wp2_with (go_at_call 110; (with_reducible refine (HTO.out _).mono ?_); rintro e V ⟨A3, n3, c3_, rfl, hs, u3, hV⟩; have HS3 := hide hs; have HBV := hide (show Below W1.heap.size W1 V from by rw [hV]; exact (by repeat (first | exact Below.refl _ _ | assumption | refine Below.alloc ?_ (by simp [size_ext]; try omega) _ | refine Below.ext ?_ (by simp [size_ext]; try omega) _ | refine Below.drew ?_ | refine Below.setCell ?_ (by simp [size_ext]; try omega) _))); clear hs hV)
   have HL3 := hide HS3.out.len
   have hn3 := HS3.out.nle
   have d1 : V.cell? ⟨C, 1, none⟩ = some (.slice (some ⟨b, off, none⟩) m j) := cell_of_row V C _ _ _ (0, 0) ((HBV.out.block C cl1).trans HR1.out)
   have dl : C < V.heap.size := by have := HBV.out.size; omega
   go_loop [26] (fun i => ∃ q : Nat, i = .int .i64 q ∧ q ≤ n3 ∧ tgtB m z = (L.drop q).all (fun x => decide (1 ≤ x) && decide (x < (m : Int)))) (fun i => n3 - (intOf i).toNat)
   case atStart => exact ⟨0, rfl, Nat.zero_le _, HLQ.out⟩
   case round =>
    obtain ⟨q, rfl, hq, hrq⟩ := hrel
    have HRQ := hide hrq
    clear hrq
    by_cases hqt : q < n3
    ·obtain ⟨b3, off3, x, rfl, hb3, hx, hxi, e0⟩ := at_int HS3.out hqt
     have HXQ := hide (drop_at hx)
     have hqi : (q : Int) < n3 := by omega
     clear hx
     by_cases x1 : x < 1
     ·have g1 : decide (x < 1) = true := by simpa using x1
      go_wp2_with fail
      go_ret2
      exact ⟨rfl, (HB1.out.trans (HBV.out.mono HB1L.out)).to_ext⟩
     ·have g1 : decide (x < 1) = false := by simpa using x1
      by_cases x2 : (m : Int) ≤ x
      ·have g2 : decide ((m : Int) ≤ x) = true := by simpa using x2
       go_wp2_with fail
       go_ret2
       exact ⟨rfl, (HB1.out.trans (HBV.out.mono HB1L.out)).to_ext⟩
      ·have g2 : decide ((m : Int) ≤ x) = false := by simpa using x2
       have HN := hide (show tgtB m z = (L.drop (q + 1)).all (fun x => decide (1 ≤ x) && decide (x < (m : Int))) from by
        rw [HRQ.out, HXQ.out, List.all_cons, show decide (1 ≤ x) = true from by simp; omega, show decide (x < (m : Int)) = true from by simp; omega]; rfl)
       go_wp2_with fail
       go_round
       case rel => exact ⟨q + 1, by go_num, by omega, HN.out⟩
       case measure => simp [intOf]; omega
    ·have HTZ := hide (show tgtB m z = true from by rw [HRQ.out, drop_end HL3.out hqt]; rfl)
     have HE := hide (show (bl.drop (y + 1)).all (tgtB m) = false from by
      have h := HR.out
      rw [HZQ.out, List.all_cons, HTZ.out] at h
      exact h)
     go_wp2_with fail
     go_roundw
     case rel => exact ⟨y + 1, by go_num, by omega, HE.out, Below.to_ext HBV.out⟩
     case measure => simp [intOf]; omega
  ·exfalso
   have h := HR.out
   rw [drop_end HBK1.out.len hlt] at h
   cases h
set_option maxRecDepth 100000 in
set_option maxHeartbeats 16000000 in
theorem right_no (f : Fnc) (w : World) (S : Nat → Prop) (A B : Option Addr) (n k m j : Nat) (hp : Sl w S A n k f.params) (hb : Sl w S B m j f.blocks) (hm : m ≤ 64) (hf : fncB f = false) :
  ∃ e : Int, (e == 0) = false ∧ Calls Tryz.prog 19 #[fnV A n k B m j] w (RetX (.int .i64 e) w) := by
 obtain ⟨C, hC⟩ : ∃ C, w.heap.size = C := ⟨_, rfl⟩
 obtain ⟨W0, hW0⟩ : ∃ W, w.alloc (.cells #[.slice A n k, .slice B m j] 25) = W := ⟨_, rfl⟩
 have HR0 := hide (show W0.heap[C]? = some (.cells #[.slice A n k, .slice B m j] 25 (0, 0)) from by rw [← hW0, ← hC]; exact heap_alloc_new w _)
 have a0 : W0.cell? ⟨C, 0, none⟩ = some (.slice A n k) := cell_of_row W0 C _ _ _ (0, 0) HR0.out
 have a1 : W0.cell? ⟨C, 1, none⟩ = some (.slice B m j) := cell_of_row W0 C _ _ _ (0, 0) HR0.out
 have cl : C < W0.heap.size := (Array.getElem?_eq_some_iff.1 HR0.out).1
 have HB0 := hide (show Below w.heap.size w W0 from by rw [← hW0]; exact (Below.refl _ _).alloc (Nat.le_refl _) _)
 have HBL := hide (show w.heap.size ≤ W0.heap.size from HB0.out.size)
 have HP := hide (show Sl W0 S A n k f.params from by rw [← hW0]; exact hp.alloc _)
 have HBK := hide (show Sl W0 S B m j f.blocks from by rw [← hW0]; exact hb.alloc _)
 have hbl := hb.len
 clear hp hb HR0
 cases hl : longF f with
 | true =>
  have HL := hide (show Calls Tryz.prog 57 #[fnV A n k B m j] W0 (RetX (.bool true) W0) from hl ▸ long_ir f W0 S A B n k m j HP.out HBK.out)
  clear hl hf
  refine ⟨3, rfl, ?_⟩
  go_enter Tryz.func19, Tryz.ntmps19
  go_wp2_with (go_at_call 57; (with_reducible refine HL.out.mono ?_); rintro e _ ⟨rfl, u, rfl⟩)
  go_ret
  exact RetX.i rfl (HB0.out.ext HBL.out u)
 | false =>
 have HL := hide (show Calls Tryz.prog 57 #[fnV A n k B m j] W0 (RetX (.bool false) W0) from hl ▸ long_ir f W0 S A B n k m j HP.out HBK.out)
 cases hw : wholeF f with
 | false =>
  have HW := hide (fun u : Ext => show Calls Tryz.prog 58 #[fnV A n k B m j] (W0.ext u) (RetX (.bool false) (W0.ext u)) from hw ▸ whole_ir f (W0.ext u) S A B n k m j (HP.out.ext u) (HBK.out.ext u))
  clear hl hw hf
  refine ⟨2, rfl, ?_⟩
  go_enter Tryz.func19, Tryz.ntmps19
  go_wp2_with (first | (go_at_call 57; (with_reducible refine HL.out.mono ?_); rintro e _ ⟨rfl, u, rfl⟩) | (go_at_call 58; (with_reducible refine (HW.out _).mono ?_); rintro e _ ⟨rfl, u2, rfl⟩))
  go_ret
  exact RetX.i rfl ((HB0.out.ext HBL.out u).ext (by have := HBL.out; rw [size_ext]; omega) u2)
 | true =>
  have HW := hide (fun u : Ext => show Calls Tryz.prog 58 #[fnV A n k B m j] (W0.ext u) (RetX (.bool true) (W0.ext u)) from hw ▸ whole_ir f (W0.ext u) S A B n k m j (HP.out.ext u) (HBK.out.ext u))
  have hz := not_right hf (by omega) hl hw
  have htr : ∀ b ∈ f.blocks, termB b.term = true := fun b hb => by
   unfold wholeF at hw
   simp only [Bool.and_eq_true, List.all_eq_true] at hw
   have := hw.2 b hb
   unfold blkW at this
   simp only [Bool.and_eq_true] at this
   exact this.1
  rw [hbl] at hz
  have HQ := hide (fun W (hW : Below W0.heap.size W0 W) => reach_no f W S A B n k m j (HBK.out.belowAll hW) hm htr hz)
  clear hl hw hf htr hz hbl
  refine ⟨9, rfl, ?_⟩
  go_enter Tryz.func19, Tryz.ntmps19
  go_wp2_with (first | (go_at_call 57; (with_reducible refine HL.out.mono ?_); rintro e _ ⟨rfl, u, rfl⟩) | (go_at_call 58; (with_reducible refine (HW.out _).mono ?_); rintro e _ ⟨rfl, u2, rfl⟩) | (go_at_call 59; (with_reducible refine (HQ.out _ (by repeat (first | exact Below.refl _ _ | assumption | refine Below.alloc ?_ (by simp [size_ext]; try omega) _ | refine Below.ext ?_ (by simp [size_ext]; try omega) _ | refine Below.drew ?_ | refine Below.setCell ?_ (by simp [size_ext]; try omega) _))).mono ?_); rintro e _ ⟨rfl, u3, rfl⟩))
  go_ret
  exact RetX.i rfl (((HB0.out.ext HBL.out u).ext (by have := HBL.out; rw [size_ext]; omega) u2).ext (by have := HBL.out; rw [size_ext, size_ext]; omega) u3)
end Go.Proofs.YtljglhaeonbfoaaGreatDoor
