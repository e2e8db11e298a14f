/- Walk: intarsiaref06.ins. -/
import Derived.Test.YtahblhiolkdnnaaW2
import Derived.Test.YtahblhiolkdnnaaW4
import Derived.Test.YtahblhiolkdnnaaW1
import Derived.Test.YtahblhiolkdnnaaS06b
import Derived.Deep.DeepCutAuto
set_option linter.unusedSimpArgs false
set_option linter.unusedVariables false
namespace Go.Proofs.Ytahblhiolkdnnaa
open Go.RowKit
/-- has an Op this letter? -/
def lt (o c : Int) : Bool := hasB c (hasL o).data.toList
theorem hasL_size (o : Int) : (hasL o).size ≤ 9223372036854775807 := by unfold hasL; (repeat' split) <;> decide
theorem lt_any (o c : Int) (w : World) : Calls Try.prog 51 #[.string (hasL o), .int .u8 c] w (Ret (.bool (lt o c)) w) := in_any (hasL o) c w (hasL_size o)
def inB (n lo hi : Int) : Bool := decide (lo ≤ n) && decide (n ≤ hi)
theorem inb_any (n lo hi : Int) (w : World) : Calls Try.prog 42 #[.int .i64 n, .int .i64 lo, .int .i64 hi] w (Ret (.bool (inB n lo hi)) w) := within_any n lo hi w
def immR (i : Ins) : Bool := i.imm == 0 || (lt i.op 115 || (lt i.op 105 && inB i.imm (-1099511627776) 1099511627776))
def callR (m : Machine) (i : Ins) : Bool := (i.callee == 0 && i.many == 0) || (decide ((hasL i.op).toList = [99]) && inB i.callee 0 99 && inB i.many 0 m.args.length)
def badR (m : Machine) (i : Ins) : Bool :=
  decide ((hasL i.op).toList = []) || !immR i || !callR m i || decide ((i.args.length : Int) > 0) || (!lt i.op 100 && i.dst != 0) || (!lt i.op 97 && i.a != 0) || (!lt i.op 98 && i.b != 0)
def regR (m : Machine) (i : Ins) : Bool := !inB i.dst 0 (m.regs - 1) || !inB i.a 0 (m.regs - 1) || !inB i.b 0 (m.regs - 1)
def slotR (frame : Int) (i : Ins) : Bool := lt i.op 115 && !inB i.imm 0 (frame - 1)
/-- the first error of an instruction, the document's way -/
def insR (m : Machine) (frame : Int) (i : Ins) : Int := if badR m i = true then 2 else if regR m i = true then 10 else if slotR frame i = true then 11 else 0
set_option maxHeartbeats 2000000 in
set_option maxRecDepth 8000 in
theorem ins6_any (w : World) (S : Nat → Prop) (m : Machine) (frame : Int) (Am : Option Addr) (nm cm : Nat) (vs : Value) (i : Ins) (A : Option Addr) (n c : Nat) (hn : i.args.length = n) (hm : m.args.length = nm) (hregs : 1 ≤ m.regs ∧ m.regs ≤ 64) (hfr : 0 ≤ frame ∧ frame ≤ 400) :
    Calls Try.prog 43 #[.agg #[.int .i64 m.regs, .slice Am nm cm, .int .i64 m.ret, vs], .int .i64 frame,
      .agg #[.int .i64 i.op, .int .i64 i.dst, .int .i64 i.a, .int .i64 i.b, .int .i64 i.imm, .int .i64 i.callee, .slice A n c, .int .i64 i.many]] w (RetX (.int .i64 (insR m frame i)) w) := by
  have HL := hide hn
  have HM := hide hm
  clear hn hm
  go_enter Try.func43, Try.ntmps43
  go_upto_region 2 with (go_at_call 50; refine (has6_any _ _).mono ?_; rintro e w' ⟨rfl, rfl⟩)
  obtain ⟨W, hW⟩ : ∃ W, W = ((w.alloc (.cells #[.int .i64 m.regs, .slice Am nm cm, .int .i64 m.ret, vs] 24)).alloc (.cells #[.int .i64 i.op, .int .i64 i.dst, .int .i64 i.a, .int .i64 i.b, .int .i64 i.imm, .int .i64 i.callee, .slice A n c, .int .i64 i.many] 30)) := ⟨_, rfl⟩
  have FB := hide (show Below w.heap.size w W by subst hW; exact (by repeat (first | exact Below.refl _ _ | assumption | refine Below.alloc ?_ (by simp [size_ext]; try omega) _ | refine Below.ext ?_ (by simp [size_ext]; try omega) _ | refine Below.drew ?_ | refine Below.setCell ?_ (by simp [size_ext]; try omega) _)))
  have p0 : W.cell? ⟨w.heap.size, 0, none⟩ = some (.int .i64 m.regs) := by subst hW; go_simp
  have p1 : W.cell? ⟨w.heap.size, 1, none⟩ = some (.slice Am nm cm) := by subst hW; go_simp
  have q0 : W.cell? ⟨w.heap.size + 1, 0, none⟩ = some (.int .i64 i.op) := by subst hW; go_simp
  have q1 : W.cell? ⟨w.heap.size + 1, 1, none⟩ = some (.int .i64 i.dst) := by subst hW; go_simp
  have q2 : W.cell? ⟨w.heap.size + 1, 2, none⟩ = some (.int .i64 i.a) := by subst hW; go_simp
  have q3 : W.cell? ⟨w.heap.size + 1, 3, none⟩ = some (.int .i64 i.b) := by subst hW; go_simp
  have q4 : W.cell? ⟨w.heap.size + 1, 4, none⟩ = some (.int .i64 i.imm) := by subst hW; go_simp
  have q5 : W.cell? ⟨w.heap.size + 1, 5, none⟩ = some (.int .i64 i.callee) := by subst hW; go_simp
  have q6 : W.cell? ⟨w.heap.size + 1, 6, none⟩ = some (.slice A n c) := by subst hW; go_simp
  have q7 : W.cell? ⟨w.heap.size + 1, 7, none⟩ = some (.int .i64 i.many) := by subst hW; go_simp
  rw [← hW]
  clear hW
  obtain ⟨zi, hzi⟩ : ∃ z : Bool, (i.imm == 0) = z := ⟨_, rfl⟩
  obtain ⟨zc, hzc⟩ : ∃ z : Bool, (i.callee == 0) = z := ⟨_, rfl⟩
  obtain ⟨zm, hzm⟩ : ∃ z : Bool, (i.many == 0) = z := ⟨_, rfl⟩
  obtain ⟨zl, hzl⟩ : ∃ z : Bool, decide ((hasL i.op).toList = [99]) = z := ⟨_, rfl⟩
  have hzl3 : (hasL i.op).toList = [99] ↔ zl = true := by subst hzl; simp
  obtain ⟨ze, hze⟩ : ∃ z : Bool, decide ((hasL i.op).toList = []) = z := ⟨_, rfl⟩
  have hze3 : (hasL i.op).toList = [] ↔ ze = true := by subst hze; simp
  obtain ⟨zd, hzd⟩ : ∃ z : Bool, (i.dst != 0) = z := ⟨_, rfl⟩
  obtain ⟨za, hza⟩ : ∃ z : Bool, (i.a != 0) = z := ⟨_, rfl⟩
  obtain ⟨zb, hzb⟩ : ∃ z : Bool, (i.b != 0) = z := ⟨_, rfl⟩
  obtain ⟨zn, hzn⟩ : ∃ z : Bool, decide (0 < n) = z := ⟨_, rfl⟩
  have hzn1 : 0 < n ↔ zn = true := by subst hzn; simp
  have hzn2 : decide ((n : Int) > 0) = zn := by subst hzn; simp
  have hzn3 : decide ((0 : Int) < n) = zn := by subst hzn; simp
  have hzn4 : ((0 : Int) < n) ↔ zn = true := by subst hzn; simp
  have hw1 : IntKind.i64.wrap (m.regs - 1) = m.regs - 1 := IntWalk.i64_in _ (by omega)
  have hw2 : IntKind.i64.wrap (frame - 1) = frame - 1 := IntWalk.i64_in _ (by omega)
  go_cut [8] from 13 to 28 (fun s8 wc => s8 = .bool (immR i) ∧ wc = W)
  case first =>
    go_wp2_with (first | (go_at_call 51; refine (lt_any _ _ _).mono ?_; rintro e w' ⟨rfl, rfl⟩) | (go_at_call 42; refine (inb_any _ _ _ _).mono ?_; rintro e w' ⟨rfl, rfl⟩))
    all_goals (go_meet; exact ⟨congrArg Value.bool (by unfold immR; simp [*]), rfl⟩)
  case rest =>
  obtain ⟨rfl, rfl⟩ := hcut
  go_upto_region 3 with fail
  go_cut [9] from 29 to 53 (fun s9 wx => s9 = .bool (callR m i) ∧ wx = wc)
  case first =>
    go_wp2_with (first | (go_at_call 51; refine (lt_any _ _ _).mono ?_; rintro e w' ⟨rfl, rfl⟩) | (go_at_call 42; refine (inb_any _ _ _ _).mono ?_; rintro e w' ⟨rfl, rfl⟩))
    all_goals (go_meet; exact ⟨congrArg Value.bool (by unfold callR; rw [HM.out]; simp [*]), rfl⟩)
  case rest =>
  obtain ⟨rfl, rfl⟩ := hcut
  go_upto_region 4 with fail
  go_cut [99] from 8 to 99 (fun s9 wx => s9 = .bool (badR m i) ∧ wx = wc)
  case first =>
    go_wp2_with (first | (go_at_call 51; refine (lt_any _ _ _).mono ?_; rintro e w' ⟨rfl, rfl⟩) | (go_at_call 42; refine (inb_any _ _ _ _).mono ?_; rintro e w' ⟨rfl, rfl⟩))
    all_goals (go_meet; exact ⟨congrArg Value.bool (by unfold badR; rw [HL.out]; simp [*]), rfl⟩)
  case rest =>
  obtain ⟨rfl, rfl⟩ := hcut
  by_cases hb : badR m i = true
  · rw [hb]
    go_wp2_with fail
    go_ret
    exact RetX.i (by unfold insR; rw [if_pos hb]) (by repeat (first | exact Below.refl _ _ | assumption | exact Hd.out (by assumption) | refine Below.alloc ?_ (by first | omega | (simp [size_ext]; try omega)) _ | refine Below.ext ?_ (by first | omega | (simp [size_ext]; try omega)) _ | refine Below.drew ?_ | refine Below.setCell ?_ (by first | omega | (simp [size_ext]; try omega)) _))
  rw [show badR m i = false by simpa using hb]
  have X := hide (show insR m frame i = if regR m i = true then 10 else if slotR frame i = true then 11 else 0 by unfold insR; rw [if_neg hb])
  clear hb
  go_upto_region 6 with fail
  go_cut [124] from 100 to 124 (fun s9 wx => s9 = .bool (regR m i) ∧ wx = wc)
  case first =>
    go_wp2_with (first | (go_at_call 51; refine (lt_any _ _ _).mono ?_; rintro e w' ⟨rfl, rfl⟩) | (go_at_call 42; refine (inb_any _ _ _ _).mono ?_; rintro e w' ⟨rfl, rfl⟩))
    all_goals (go_meet; exact ⟨congrArg Value.bool (by unfold regR; simp [*]), rfl⟩)
  case rest =>
  obtain ⟨rfl, rfl⟩ := hcut
  by_cases hb : regR m i = true
  · rw [hb]
    go_wp2_with fail
    go_ret
    exact RetX.i (by rw [X.out, if_pos hb]) (by repeat (first | exact Below.refl _ _ | assumption | exact Hd.out (by assumption) | refine Below.alloc ?_ (by first | omega | (simp [size_ext]; try omega)) _ | refine Below.ext ?_ (by first | omega | (simp [size_ext]; try omega)) _ | refine Below.drew ?_ | refine Below.setCell ?_ (by first | omega | (simp [size_ext]; try omega)) _))
  rw [show regR m i = false by simpa using hb]
  have X := hide (show insR m frame i = if slotR frame i = true then 11 else 0 by rw [X.out]; rw [if_neg hb])
  clear hb
  go_wp2_with (first | (go_at_call 51; refine (lt_any _ _ _).mono ?_; rintro e w' ⟨rfl, rfl⟩) | (go_at_call 42; refine (inb_any _ _ _ _).mono ?_; rintro e w' ⟨rfl, rfl⟩))
  · rename_i e' e; go_ret; exact RetX.i (by rw [X.out, if_pos (by unfold slotR; rw [e', e]; rfl)]) (by repeat (first | exact Below.refl _ _ | assumption | exact Hd.out (by assumption) | refine Below.alloc ?_ (by first | omega | (simp [size_ext]; try omega)) _ | refine Below.ext ?_ (by first | omega | (simp [size_ext]; try omega)) _ | refine Below.drew ?_ | refine Below.setCell ?_ (by first | omega | (simp [size_ext]; try omega)) _))
  · rename_i e' e; go_ret; exact RetX.i (by rw [X.out, if_neg (by unfold slotR; rw [e', e]; simp)]) (by repeat (first | exact Below.refl _ _ | assumption | exact Hd.out (by assumption) | refine Below.alloc ?_ (by first | omega | (simp [size_ext]; try omega)) _ | refine Below.ext ?_ (by first | omega | (simp [size_ext]; try omega)) _ | refine Below.drew ?_ | refine Below.setCell ?_ (by first | omega | (simp [size_ext]; try omega)) _))
  · rename_i e; go_ret; exact RetX.i (by rw [X.out, if_neg (by unfold slotR; simp [e])]) (by repeat (first | exact Below.refl _ _ | assumption | exact Hd.out (by assumption) | refine Below.alloc ?_ (by first | omega | (simp [size_ext]; try omega)) _ | refine Below.ext ?_ (by first | omega | (simp [size_ext]; try omega)) _ | refine Below.drew ?_ | refine Below.setCell ?_ (by first | omega | (simp [size_ext]; try omega)) _))
end Go.Proofs.Ytahblhiolkdnnaa
