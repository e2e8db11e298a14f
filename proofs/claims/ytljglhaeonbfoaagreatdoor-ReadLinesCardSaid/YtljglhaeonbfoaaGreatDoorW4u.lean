/- law04: walks: can a block be written? -/
import Derived.Test.YtljglhaeonbfoaaGreatDoorG28
import Derived.Test.YtljglhaeonbfoaaGreatDoorG25
set_option linter.unusedSimpArgs false
set_option linter.unusedVariables false
namespace Go.Proofs.YtljglhaeonbfoaaGreatDoor
open Go.RowKit
theorem can1_any (x : Ins) (w : World) (S : Nat → Prop) (A : Option Addr) (n c : Nat) (h : Sl w S A n c x.args) (hok : OkI4 x) : Calls Tryz.prog 64 #[insV x A n c] w (RetX (.bool (!insB x)) w) := by
 obtain ⟨C, hC⟩ : ∃ C, w.heap.size = C := ⟨_, rfl⟩
 obtain ⟨W0, hW0⟩ : ∃ W, w.alloc (.cells #[.int .i64 x.op, .int .i64 x.dst, .int .i64 x.a, .int .i64 x.b, .int .i64 x.imm, .int .i64 x.callee, .slice A n c, .int .i64 x.many] 45) = W := ⟨_, rfl⟩
 have hrow : W0.heap[C]? = some (.cells #[.int .i64 x.op, .int .i64 x.dst, .int .i64 x.a, .int .i64 x.b, .int .i64 x.imm, .int .i64 x.callee, .slice A n c, .int .i64 x.many] 45 (0, 0)) := by rw [← hW0, ← hC]; exact heap_alloc_new w _
 have c0 : W0.cell? ⟨C, 0, none⟩ = some (.int .i64 x.op) := cell_of_row W0 C _ _ _ (0, 0) hrow
 have c1 : W0.cell? ⟨C, 1, none⟩ = some (.int .i64 x.dst) := cell_of_row W0 C _ _ _ (0, 0) hrow
 have c2 : W0.cell? ⟨C, 2, none⟩ = some (.int .i64 x.a) := cell_of_row W0 C _ _ _ (0, 0) hrow
 have c3 : W0.cell? ⟨C, 3, none⟩ = some (.int .i64 x.b) := cell_of_row W0 C _ _ _ (0, 0) hrow
 have c4 : W0.cell? ⟨C, 4, none⟩ = some (.int .i64 x.imm) := cell_of_row W0 C _ _ _ (0, 0) hrow
 have c5 : W0.cell? ⟨C, 5, none⟩ = some (.int .i64 x.callee) := cell_of_row W0 C _ _ _ (0, 0) hrow
 have c6 : W0.cell? ⟨C, 6, none⟩ = some (.slice A n c) := cell_of_row W0 C _ _ _ (0, 0) hrow
 have c7 : W0.cell? ⟨C, 7, none⟩ = some (.int .i64 x.many) := cell_of_row W0 C _ _ _ (0, 0) hrow
 have cl : C < W0.heap.size := (Array.getElem?_eq_some_iff.1 hrow).1
 have HB0 := hide (show Below w.heap.size w W0 from by rw [← hW0]; exact (Below.refl _ _).alloc (Nat.le_refl _) _)
 obtain ⟨r, hr⟩ : ∃ r, insB x = r := ⟨_, rfl⟩
 have HI := hide (show Calls Tryz.prog 65 #[insV x A n c] W0 (RetX (.bool r) W0) from hr ▸ isIns_ir x W0 S A n c (by rw [← hW0]; exact h.alloc _) hok)
 have HR := hide hr
 clear hrow h hr
 go_enter Tryz.func64, Tryz.ntmps64
 go_wp2_with (go_at_call 65; (with_reducible refine HI.out.mono ?_); rintro e _ ⟨rfl, u, rfl⟩)
 go_ret
 exact RetX.b (by rw [HR.out]) (HB0.out.ext HB0.out.size u)
abbrev blkV (b : Block) (A : Option Addr) (n c : Nat) : Value := .agg #[.slice A n c, .int .i64 b.term.kind, .int .i64 b.term.a, .int .i64 b.term.to0, .int .i64 b.term.to1]
set_option maxRecDepth 100000 in
set_option maxHeartbeats 16000000 in
theorem can_any (x : Block) (w : World) (S : Nat → Prop) (A : Option Addr) (n c : Nat) (h : Sl w S A n c x.ins) (hok : OkT4 x.term) : Calls Tryz.prog 24 #[blkV x A n c] w (RetX (.bool (blockB x)) w) := by
 obtain ⟨l, k, a, t0, t1⟩ := x
 simp only at h hok
 obtain ⟨C, hC⟩ : ∃ C, w.heap.size = C := ⟨_, rfl⟩
 obtain ⟨W0, hW0⟩ : ∃ W, w.alloc (.cells #[.slice A n c, .int .i64 k, .int .i64 a, .int .i64 t0, .int .i64 t1] 52) = W := ⟨_, rfl⟩
 have hrow : W0.heap[C]? = some (.cells #[.slice A n c, .int .i64 k, .int .i64 a, .int .i64 t0, .int .i64 t1] 52 (0, 0)) := by rw [← hW0, ← hC]; exact heap_alloc_new w _
 have c0 : W0.cell? ⟨C, 0, none⟩ = some (.slice A n c) := cell_of_row W0 C _ _ _ (0, 0) hrow
 have c1 : W0.cell? ⟨C, 1, none⟩ = some (.int .i64 k) := cell_of_row W0 C _ _ _ (0, 0) hrow
 have c2 : W0.cell? ⟨C, 2, none⟩ = some (.int .i64 a) := cell_of_row W0 C _ _ _ (0, 0) hrow
 have c3 : W0.cell? ⟨C, 3, none⟩ = some (.int .i64 t0) := cell_of_row W0 C _ _ _ (0, 0) hrow
 have c4 : W0.cell? ⟨C, 4, none⟩ = some (.int .i64 t1) := cell_of_row W0 C _ _ _ (0, 0) hrow
 have cl : C < W0.heap.size := (Array.getElem?_eq_some_iff.1 hrow).1
 have HB0 := hide (show Below w.heap.size w W0 from by rw [← hW0]; exact (Below.refl _ _).alloc (Nat.le_refl _) _)
 have HBL := hide (show w.heap.size ≤ W0.heap.size from HB0.out.size)
 have HSL := hide (show Sl W0 S A n c l from by rw [← hW0]; exact h.alloc _)
 obtain ⟨tb, htb⟩ : ∃ r, termB ⟨k, a, t0, t1⟩ = r := ⟨_, rfl⟩
 obtain ⟨fb, hfb⟩ : ∃ r, anyF (fun i => !insB i) l = r := ⟨_, rfl⟩
 have HT := hide (show Calls Tryz.prog 66 #[.agg #[.int .i64 k, .int .i64 a, .int .i64 t0, .int .i64 t1]] W0 (RetX (.bool tb) W0) from htb ▸ isTerm_ir ⟨k, a, t0, t1⟩ W0 hok)
 have HC := hide (fun u : Ext => show Calls Tryz.prog 67 #[.slice A n c, .func (.func 64) #[] #[]] (W0.ext u) (RetX (.bool fb) (W0.ext u)) from hfb ▸ containsIns4_any (W0.ext u) S A n c l (fun i => !insB i) 64 #[] (HSL.out.ext u) (fun _ _ => by kernel_rfl) (fun x A1 n1 c1 u2 hx => by rw [show (#[insV x A1 n1 c1] ++ #[] : Array Value) = #[insV x A1 n1 c1] from rfl]; exact can1_any x _ S A1 n1 c1 hx.1 hx.2))
 obtain ⟨l64, hl64⟩ : ∃ q, decide ((n : Int) ≤ 64) = q := ⟨_, rfl⟩
 obtain ⟨lo, hlo⟩ : ∃ q, decide (0 ≤ min t0 t1) = q := ⟨_, rfl⟩
 obtain ⟨hi, hhi⟩ : ∃ q, decide (max t0 t1 < 64) = q := ⟨_, rfl⟩
 have hl := h.len
 have HE := hide (show blockB ⟨l, ⟨k, a, t0, t1⟩⟩ = (l64 && tb && !fb && lo && hi) from by
  unfold blockB
  rw [← hl64, ← hlo, ← hhi, ← hfb, ← htb, anyF_any4, any_not4, show decide (l.length ≤ 64) = decide ((n : Int) ≤ 64) from by rw [hl, Bool.eq_iff_iff]; simp; try omega,
   show goesB ⟨k, a, t0, t1⟩ = (decide (0 ≤ min t0 t1) && decide (max t0 t1 < 64)) from by unfold goesB; rw [Bool.eq_iff_iff]; simp; omega]
  generalize decide ((n : Int) ≤ 64) = p1
  generalize termB ⟨k, a, t0, t1⟩ = p2
  generalize l.all insB = p3
  generalize decide (0 ≤ min t0 t1) = p4
  generalize decide (max t0 t1 < 64) = p5
  cases p1 <;> cases p2 <;> cases p3 <;> cases p4 <;> cases p5 <;> rfl)
 clear hrow h htb hfb hl hok
 cases l64 with
 | false =>
  go_enter Tryz.func24, Tryz.ntmps24
  go_wp2_with fail
  go_ret
  exact RetX.b (by rw [HE.out]; rfl) HB0.out
 | true =>
 cases tb with
 | false =>
  go_enter Tryz.func24, Tryz.ntmps24
  go_wp2_with (go_at_call 66; (with_reducible refine HT.out.mono ?_); rintro e _ ⟨rfl, u, rfl⟩)
  go_ret
  exact RetX.b (by rw [HE.out]; rfl) (HB0.out.ext HBL.out u)
 | true =>
 cases fb with
 | true =>
  go_enter Tryz.func24, Tryz.ntmps24
  go_wp2_with (first | (go_at_call 66; (with_reducible refine HT.out.mono ?_); rintro e _ ⟨rfl, u, rfl⟩) | (go_at_call 67; (with_reducible refine (HC.out _).mono ?_); rintro e _ ⟨rfl, u2, rfl⟩))
  go_ret
  exact RetX.b (by rw [HE.out]; rfl) ((HB0.out.ext HBL.out u).ext (by have := HBL.out; rw [size_ext]; omega) u2)
 | false =>
 cases lo
 all_goals
  go_enter Tryz.func24, Tryz.ntmps24
  go_wp2_with (first | (go_at_call 66; (with_reducible refine HT.out.mono ?_); rintro e _ ⟨rfl, u, rfl⟩) | (go_at_call 67; (with_reducible refine (HC.out _).mono ?_); rintro e _ ⟨rfl, u2, rfl⟩))
  go_ret
  exact RetX.b (by rw [HE.out]; rfl) ((HB0.out.ext HBL.out u).ext (by have := HBL.out; rw [size_ext]; omega) u2)
theorem cannot_any (x : Block) (w : World) (S : Nat → Prop) (A : Option Addr) (n c : Nat) (h : Sl w S A n c x.ins) (hok : OkT4 x.term) : Calls Tryz.prog 23 #[blkV x A n c] w (RetX (.bool (!blockB x)) w) := by
 obtain ⟨C, hC⟩ : ∃ C, w.heap.size = C := ⟨_, rfl⟩
 obtain ⟨W0, hW0⟩ : ∃ W, w.alloc (.cells #[.slice A n c, .int .i64 x.term.kind, .int .i64 x.term.a, .int .i64 x.term.to0, .int .i64 x.term.to1] 52) = W := ⟨_, rfl⟩
 have hrow : W0.heap[C]? = some (.cells #[.slice A n c, .int .i64 x.term.kind, .int .i64 x.term.a, .int .i64 x.term.to0, .int .i64 x.term.to1] 52 (0, 0)) := by rw [← hW0, ← hC]; exact heap_alloc_new w _
 have c0 : W0.cell? ⟨C, 0, none⟩ = some (.slice A n c) := cell_of_row W0 C _ _ _ (0, 0) hrow
 have c1 : W0.cell? ⟨C, 1, none⟩ = some (.int .i64 x.term.kind) := cell_of_row W0 C _ _ _ (0, 0) hrow
 have c2 : W0.cell? ⟨C, 2, none⟩ = some (.int .i64 x.term.a) := cell_of_row W0 C _ _ _ (0, 0) hrow
 have c3 : W0.cell? ⟨C, 3, none⟩ = some (.int .i64 x.term.to0) := cell_of_row W0 C _ _ _ (0, 0) hrow
 have c4 : W0.cell? ⟨C, 4, none⟩ = some (.int .i64 x.term.to1) := cell_of_row W0 C _ _ _ (0, 0) hrow
 have cl : C < W0.heap.size := (Array.getElem?_eq_some_iff.1 hrow).1
 have HB0 := hide (show Below w.heap.size w W0 from by rw [← hW0]; exact (Below.refl _ _).alloc (Nat.le_refl _) _)
 obtain ⟨r, hr⟩ : ∃ r, blockB x = r := ⟨_, rfl⟩
 have HI := hide (show Calls Tryz.prog 24 #[blkV x A n c] W0 (RetX (.bool r) W0) from hr ▸ can_any x W0 S A n c (by rw [← hW0]; exact h.alloc _) hok)
 have HR := hide hr
 clear hrow h hr
 go_enter Tryz.func23, Tryz.ntmps23
 go_wp2_with (go_at_call 24; (with_reducible refine HI.out.mono ?_); rintro e _ ⟨rfl, u, rfl⟩)
 go_ret
 exact RetX.b (by rw [HR.out]) (HB0.out.ext HB0.out.size u)
end Go.Proofs.YtljglhaeonbfoaaGreatDoor
