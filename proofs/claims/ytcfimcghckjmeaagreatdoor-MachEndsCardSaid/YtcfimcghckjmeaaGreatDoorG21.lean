/- What mir.Right answers, as plain functions: as the program tells it. Walks: the small functions of mir.Right. Walk: (mir.frame).ins. Walk: (mir.frame).term. Walk: mir.Right. Walk: mach.Lost. -/
import Derived.Test.YtcfimcghckjmeaaGreatDoorG17
import Derived.Test.YtcfimcghckjmeaaGreatDoorG18
import Derived.Test.YtcfimcghckjmeaaGreatDoorG2
import Derived.Test.YtcfimcghckjmeaaGreatDoorG20
import Derived.Test.YtcfimcghckjmeaaGreatDoorW9
set_option linter.unusedSimpArgs false
set_option linter.unusedVariables false
namespace Go.Proofs.YtcfimcghckjmeaaGreatDoor
open Go.RowKit

/-- is one of some parts there? -/
def bt (p x : Int) : Bool := bits .and .u8 p x != 0
/-- is something that is not there not 0? -/
def oddB (b : Bool) (n : Int) : Bool := !b && n != 0
def regBad (m : Machine) (r : Int) : Bool := decide (r < 0) || decide (r ≥ m.regs)
def toBad (blocks : Int) (r : Int) : Bool := decide (r < 0) || decide (r ≥ blocks)
/-- the first error of an instruction, from the last case on -/
def insP9 (m : Machine) (frame : Int) (i : Ins) : Int :=
  if IntKind.u64.wrap i.callee > 99 then 2 else if IntKind.u64.wrap i.many > IntKind.u64.wrap m.args.length then 2
  else if anyF (regBad m) [i.dst, i.a, i.b] = true then 10
  else if (bt (hasP i.op) 16 && decide (IntKind.u64.wrap i.imm ≥ IntKind.u64.wrap frame)) = true then 11 else 0
def insP8 (m : Machine) (frame : Int) (i : Ins) : Int :=
  if (bt (hasP i.op) 8 && (decide (i.imm < -1099511627776) || decide (i.imm > 1099511627776))) = true then 2 else insP9 m frame i
def insP7 (m : Machine) (frame : Int) (i : Ins) : Int := if oddB (bt (hasP i.op) 32) i.many = true then 2 else insP8 m frame i
def insP6 (m : Machine) (frame : Int) (i : Ins) : Int := if oddB (bt (hasP i.op) 32) i.callee = true then 2 else insP7 m frame i
def insP5 (m : Machine) (frame : Int) (i : Ins) : Int := if oddB (bt (hasP i.op) 24) i.imm = true then 2 else insP6 m frame i
def insP4 (m : Machine) (frame : Int) (i : Ins) : Int := if oddB (bt (hasP i.op) 4) i.b = true then 2 else insP5 m frame i
def insP3 (m : Machine) (frame : Int) (i : Ins) : Int := if oddB (bt (hasP i.op) 2) i.a = true then 2 else insP4 m frame i
def insP2 (m : Machine) (frame : Int) (i : Ins) : Int := if oddB (bt (hasP i.op) 1) i.dst = true then 2 else insP3 m frame i
def insP (m : Machine) (frame : Int) (i : Ins) : Int := if (hasP i.op == 0) = true then 2 else if (0 : Int) < i.args.length then 2 else insP2 m frame i
/-- the first error of an end -/
def termP (m : Machine) (blocks : Int) (t : Term) : Int :=
  if t.kind = 1 then (if t.a ≠ 0 ∨ t.to1 ≠ 0 then 2 else if toBad blocks t.to0 then 9 else 0)
  else if t.kind = 2 then (if regBad m t.a then 10 else if toBad blocks t.to0 || toBad blocks t.to1 then 9 else 0)
  else if t.kind = 3 then (if t.to0 ≠ 0 ∨ t.to1 ≠ 0 then 2 else if t.a ≠ -1 ∧ t.a ≠ m.ret then 10 else 0)
  else if t.kind = 4 then (if t.a ≠ 0 ∨ t.to0 ≠ 0 ∨ t.to1 ≠ 0 then 2 else 0)
  else 2
/-- the first error of some -/
def inssP (m : Machine) (frame : Int) : List Ins → Int
  | [] => 0
  | i :: l => if insP m frame i = 0 then inssP m frame l else insP m frame i
def blocksP (m : Machine) (frame n : Int) : List Block → Int
  | [] => 0
  | b :: l => if inssP m frame b.ins = 0 then (if termP m n b.term = 0 then blocksP m frame n l else termP m n b.term) else inssP m frame b.ins
def rightT (m : Machine) (t : Target) : Int :=
  if rightM m = false then 2
  else if t.blocks.length = 0 then 3 else if 200 < t.blocks.length then 3 else if IntKind.u64.wrap t.frame > 400 then 3 else if anyF (fun b : Block => decide ((b.ins.length : Int) > 4000)) t.blocks = true then 3
  else blocksP m t.frame t.blocks.length t.blocks
end Go.Proofs.YtcfimcghckjmeaaGreatDoor
set_option linter.unusedSimpArgs false
set_option linter.unusedVariables false
namespace Go.Proofs.YtcfimcghckjmeaaGreatDoor
open Go.RowKit

/-- A frame, in memory. -/
def FrameAt (w : World) (g : Nat) (m : Machine) (frame blocks : Int) : Prop :=
  g < w.heap.size ∧ w.cell? ⟨g, 0, none⟩ = some (.int .i64 m.regs) ∧ w.cell? ⟨g, 4, none⟩ = some (.int .i64 frame) ∧ w.cell? ⟨g, 5, none⟩ = some (.int .i64 blocks)
end Go.Proofs.YtcfimcghckjmeaaGreatDoor
set_option linter.unusedSimpArgs false
set_option linter.unusedVariables false
namespace Go.Proofs.YtcfimcghckjmeaaGreatDoor
open Go.RowKit
section
variable {m : Machine} {frame : Int} {i : Ins} {nm : Nat}
theorem insP9_c (h : 99 < IntKind.u64.wrap i.callee) : insP9 m frame i = 2 := by unfold insP9; rw [if_pos h]
theorem insP9_m (hm : m.args.length = nm) (h : IntKind.u64.wrap i.callee ≤ 99) (h1 : IntKind.u64.wrap nm < IntKind.u64.wrap i.many) : insP9 m frame i = 2 := by unfold insP9; rw [if_neg (by omega), if_pos (by rw [hm]; exact h1)]
theorem insP9_r (hm : m.args.length = nm) (h : IntKind.u64.wrap i.callee ≤ 99) (h1 : IntKind.u64.wrap i.many ≤ IntKind.u64.wrap nm) (h2 : anyF (regBad m) [i.dst, i.a, i.b] = true) : insP9 m frame i = 10 := by
  unfold insP9; rw [if_neg (by omega), if_neg (by rw [hm]; omega), if_pos h2]
theorem insP9_s (hm : m.args.length = nm) (h : IntKind.u64.wrap i.callee ≤ 99) (h1 : IntKind.u64.wrap i.many ≤ IntKind.u64.wrap nm) (h2 : anyF (regBad m) [i.dst, i.a, i.b] = false) (h3 : bt (hasP i.op) 16 = true) (h4 : IntKind.u64.wrap frame ≤ IntKind.u64.wrap i.imm) : insP9 m frame i = 11 := by
  unfold insP9; rw [if_neg (by omega), if_neg (by rw [hm]; omega), if_neg (by rw [h2]; simp), if_pos (by rw [h3]; simpa using h4)]
theorem insP9_n (hm : m.args.length = nm) (h : IntKind.u64.wrap i.callee ≤ 99) (h1 : IntKind.u64.wrap i.many ≤ IntKind.u64.wrap nm) (h2 : anyF (regBad m) [i.dst, i.a, i.b] = false) (h4 : IntKind.u64.wrap i.imm < IntKind.u64.wrap frame) : insP9 m frame i = 0 := by
  unfold insP9; rw [if_neg (by omega), if_neg (by rw [hm]; omega), if_neg (by rw [h2]; simp), if_neg (by simp; intro _; omega)]
theorem insP9_t (hm : m.args.length = nm) (h : IntKind.u64.wrap i.callee ≤ 99) (h1 : IntKind.u64.wrap i.many ≤ IntKind.u64.wrap nm) (h2 : anyF (regBad m) [i.dst, i.a, i.b] = false) (h4 : bt (hasP i.op) 16 = false) : insP9 m frame i = 0 := by
  unfold insP9; rw [if_neg (by omega), if_neg (by rw [hm]; omega), if_neg (by rw [h2]; simp), if_neg (by rw [h4]; simp)]
end
end Go.Proofs.YtcfimcghckjmeaaGreatDoor
set_option linter.unusedSimpArgs false
set_option linter.unusedVariables false
namespace Go.Proofs.YtcfimcghckjmeaaGreatDoor
open Go.RowKit
theorem sl_cells {w : World} {g off n c : Nat} (xs : List Int) (hn : xs.length = n) (hc : n ≤ c) (hm : c ≤ 9223372036854775807) (hg : g < w.heap.size) (h : ∀ i x, xs[i]? = some x → InI x ∧ w.cell? ⟨g, off + i, none⟩ = some (.int .i64 x)) :
    Sl w (fun _ => True) (some ⟨g, off, none⟩) n c xs := by
  refine ⟨hn, hc, by unfold maxLen; omega, fun h => by simp at h, fun _ => ⟨g, off, rfl, hg, trivial, fun i x hx => ⟨[.int .i64 x], ⟨rfl, (h i x hx).1⟩, fun j u hj => ?_⟩⟩⟩
  cases j with
  | zero =>
    simp at hj; subst hj
    have := (h i x hx).2
    simpa [Rep.size] using this
  | succ j => simp at hj
end Go.Proofs.YtcfimcghckjmeaaGreatDoor
set_option linter.unusedSimpArgs false
set_option linter.unusedVariables false
namespace Go.Proofs.YtcfimcghckjmeaaGreatDoor
open Go.RowKit
theorem rightm_eq {b : Bool} (w : World) (S1 S2 : Nat → Prop) (m : Machine) (A1 A2 : Option Addr) (n1 c1 n2 c2 : Nat) (h1 : Sl w S1 A1 n1 c1 m.args) (h2 : Sl w S2 A2 n2 c2 m.saved) (hi : InI m.ret) (hb : rightM m = b) :
    Calls Tryz.prog 14 #[.agg #[.int .i64 m.regs, .slice A1 n1 c1, .int .i64 m.ret, .slice A2 n2 c2]] w (RetX (.bool b) w) := hb ▸ rightm_any w S1 S2 m A1 A2 n1 c1 n2 c2 h1 h2 hi
end Go.Proofs.YtcfimcghckjmeaaGreatDoor
set_option linter.unusedSimpArgs false
set_option linter.unusedVariables false
namespace Go.Proofs.YtcfimcghckjmeaaGreatDoor
open Go.RowKit
theorem lostM_no {m : Machine} (h : rightM m = false) : lostM m = [] := by unfold lostM; rw [h]; rfl
theorem rightM_parts {m : Machine} (h : rightM m = true) : 1 ≤ m.regs ∧ m.regs ≤ 64 ∧ argsOk m.regs [] m.saved = true := by
  rw [← rightP_eq] at h
  simp only [rightP, Bool.and_eq_true, decide_eq_true_eq] at h
  obtain ⟨⟨⟨⟨⟨a1, a2⟩, a3⟩, a4⟩, a5⟩, a6, a7⟩ := h
  refine ⟨a1, a2, ?_⟩
  rw [argsOk_iff] at a7 ⊢
  obtain ⟨b1, b2⟩ := a7
  exact ⟨by first | exact fun x hx => ⟨(b1 x (.inr hx)).1, (b1 x (.inr hx)).2.1, by simp⟩ | exact fun x hx => ⟨(b1 x (List.mem_cons_of_mem _ hx)).1, (b1 x (List.mem_cons_of_mem _ hx)).2.1, by simp⟩, (List.nodup_cons.1 b2).2⟩
set_option maxHeartbeats 4000000 in
set_option maxRecDepth 8000 in
theorem lost_any (w : World) (S1 S2 : Nat → Prop) (m : Machine) (A1 A2 : Option Addr) (n1 c1 n2 c2 : Nat) (h1 : Sl w S1 A1 n1 c1 m.args) (h2 : Sl w S2 A2 n2 c2 m.saved) (hi : InI m.ret) (hR : rightM m = false) :
    Calls Tryz.prog 13 #[.agg #[.int .i64 m.regs, .slice A1 n1 c1, .int .i64 m.ret, .slice A2 n2 c2]] w (RetO 3 (lostM m) w) := by
  have H1 := hide h1; have H2 := hide h2; have HI := hide hi; have HR := hide hR
  clear h1 h2 hi hR
  go_enter Tryz.func13, Tryz.ntmps13
  go_wp2_with (go_at_call 14; refine (rightm_eq _ S1 S2 m A1 A2 n1 c1 n2 c2 (by repeat (first | assumption | exact Hd.out (by assumption) | apply Sl.alloc | apply Sl.ext | apply Sl.drew | apply Sl.drewN)) (by repeat (first | assumption | exact Hd.out (by assumption) | apply Sl.alloc | apply Sl.ext | apply Sl.drew | apply Sl.drewN)) HI.out HR.out).mono ?_; rintro e _ ⟨rfl, ux, rfl⟩)
  go_ret
  rw [lostM_no HR.out]
  exact RetO.mk_ (OwnL.nil_ _ _ _ (fun _ => False)) (fun _ h => h.elim) (by repeat (first | exact Below.refl _ _ | assumption | refine Below.alloc ?_ (by simp [size_ext]; try omega) _ | refine Below.ext ?_ (by simp [size_ext]; try omega) _ | refine Below.drew ?_ | refine Below.setCell ?_ (by simp [size_ext]; try omega) _))
end Go.Proofs.YtcfimcghckjmeaaGreatDoor
