/- What mir.Right answers, as plain functions: as the program tells it. -/
import Derived.Test.YtoghikagooegbaaS06
set_option linter.unusedSimpArgs false
set_option linter.unusedVariables false
namespace Go.Proofs.Ytoghikagooegbaa
open Go.RowKit

/-- is one of some parts there? -/
def bt (p x : Int) : Bool := bits .and .u8 p x != 0
/-- is something that is not there not 0? -/
def oddB (b : Bool) (n : Int) : Bool := !b && n != 0
def regBad (m : Machine) (r : Int) : Bool := decide (r < 0) || decide (r ≥ m.regs)
def toBad (blocks : Int) (r : Int) : Bool := decide (r < 0) || decide (r ≥ blocks)
/-- the first error of an instruction, from the last case on -/
def insP9 (m : Machine) (frame : Int) (i : Ins) : Int :=
  if IntKind.u64.wrap i.callee > 99 then 2 else if IntKind.u64.wrap i.many > IntKind.u64.wrap m.args.length then 2
  else if anyF (regBad m) [i.dst, i.a, i.b] = true then 10
  else if (bt (hasP i.op) 16 && decide (IntKind.u64.wrap i.imm ≥ IntKind.u64.wrap frame)) = true then 11 else 0
def insP8 (m : Machine) (frame : Int) (i : Ins) : Int :=
  if (bt (hasP i.op) 8 && (decide (i.imm < -1099511627776) || decide (i.imm > 1099511627776))) = true then 2 else insP9 m frame i
def insP7 (m : Machine) (frame : Int) (i : Ins) : Int := if oddB (bt (hasP i.op) 32) i.many = true then 2 else insP8 m frame i
def insP6 (m : Machine) (frame : Int) (i : Ins) : Int := if oddB (bt (hasP i.op) 32) i.callee = true then 2 else insP7 m frame i
def insP5 (m : Machine) (frame : Int) (i : Ins) : Int := if oddB (bt (hasP i.op) 24) i.imm = true then 2 else insP6 m frame i
def insP4 (m : Machine) (frame : Int) (i : Ins) : Int := if oddB (bt (hasP i.op) 4) i.b = true then 2 else insP5 m frame i
def insP3 (m : Machine) (frame : Int) (i : Ins) : Int := if oddB (bt (hasP i.op) 2) i.a = true then 2 else insP4 m frame i
def insP2 (m : Machine) (frame : Int) (i : Ins) : Int := if oddB (bt (hasP i.op) 1) i.dst = true then 2 else insP3 m frame i
def insP (m : Machine) (frame : Int) (i : Ins) : Int := if (hasP i.op == 0) = true then 2 else if (0 : Int) < i.args.length then 2 else insP2 m frame i
/-- the first error of an end -/
def termP (m : Machine) (blocks : Int) (t : Term) : Int :=
  if t.kind = 1 then (if t.a ≠ 0 ∨ t.to1 ≠ 0 then 2 else if toBad blocks t.to0 then 9 else 0)
  else if t.kind = 2 then (if regBad m t.a then 10 else if toBad blocks t.to0 || toBad blocks t.to1 then 9 else 0)
  else if t.kind = 3 then (if t.to0 ≠ 0 ∨ t.to1 ≠ 0 then 2 else if t.a ≠ -1 ∧ t.a ≠ m.ret then 10 else 0)
  else if t.kind = 4 then (if t.a ≠ 0 ∨ t.to0 ≠ 0 ∨ t.to1 ≠ 0 then 2 else 0)
  else 2
/-- the first error of some -/
def inssP (m : Machine) (frame : Int) : List Ins → Int
  | [] => 0
  | i :: l => if insP m frame i = 0 then inssP m frame l else insP m frame i
def blocksP (m : Machine) (frame n : Int) : List Block → Int
  | [] => 0
  | b :: l => if inssP m frame b.ins = 0 then (if termP m n b.term = 0 then blocksP m frame n l else termP m n b.term) else inssP m frame b.ins
def rightT (m : Machine) (t : Target) : Int :=
  if rightM m = false then 2
  else if t.blocks.length = 0 then 3 else if 200 < t.blocks.length then 3 else if IntKind.u64.wrap t.frame > 400 then 3 else if anyF (fun b : Block => decide ((b.ins.length : Int) > 4000)) t.blocks = true then 3
  else blocksP m t.frame t.blocks.length t.blocks
end Go.Proofs.Ytoghikagooegbaa
