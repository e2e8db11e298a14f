/- Walk: intarsiaref06.ins. append of one element, to a slice of the call's own, in a world that is one with blocks more. Walks: what an instruction, an end reads and writes, the document's way. Walk: what an instruction reads, the document's way. The program's reads and writes are the document's. Walk: intarsiaref06.term. Walk: intarsiaref06.Right. -/
import Derived.Test.YtkjipgelbjaggaaM27
import Derived.Test.YtkjipgelbjaggaaM11
import Derived.Test.YtkjipgelbjaggaaM09
import Derived.Deep.DeepCutAuto
import Derived.Test.YtkjipgelbjaggaaM06
import Derived.Test.YtkjipgelbjaggaaM12
import Derived.Test.YtkjipgelbjaggaaM15
import Derived.Test.YtkjipgelbjaggaaM16
set_option linter.unusedSimpArgs false
set_option linter.unusedVariables false
namespace Go.Proofs.Ytkjipgelbjaggaa
open Go.RowKit
/-- has an Op this letter? -/
def lt (o c : Int) : Bool := hasB c (hasL o).data.toList
theorem hasL_size (o : Int) : (hasL o).size ≤ 9223372036854775807 := by unfold hasL; (repeat' split) <;> decide
def inB (n lo hi : Int) : Bool := decide (lo ≤ n) && decide (n ≤ hi)
def immR (i : Ins) : Bool := i.imm == 0 || (lt i.op 115 || (lt i.op 105 && inB i.imm (-1099511627776) 1099511627776))
def callR (m : Machine) (i : Ins) : Bool := (i.callee == 0 && i.many == 0) || (decide ((hasL i.op).toList = [99]) && inB i.callee 0 99 && inB i.many 0 m.args.length)
def badR (m : Machine) (i : Ins) : Bool :=
  decide ((hasL i.op).toList = []) || !immR i || !callR m i || decide ((i.args.length : Int) > 0) || (!lt i.op 100 && i.dst != 0) || (!lt i.op 97 && i.a != 0) || (!lt i.op 98 && i.b != 0)
def regR (m : Machine) (i : Ins) : Bool := !inB i.dst 0 (m.regs - 1) || !inB i.a 0 (m.regs - 1) || !inB i.b 0 (m.regs - 1)
def slotR (frame : Int) (i : Ins) : Bool := lt i.op 115 && !inB i.imm 0 (frame - 1)
/-- the first error of an instruction, the document's way -/
def insR (m : Machine) (frame : Int) (i : Ins) : Int := if badR m i = true then 2 else if regR m i = true then 10 else if slotR frame i = true then 11 else 0
end Go.Proofs.Ytkjipgelbjaggaa
set_option linter.unusedSimpArgs false
set_option linter.unusedVariables false
namespace Go.Proofs.Ytkjipgelbjaggaa
open Go.RowKit
theorem OwnL.more_ext {α : Type} [Rep α] {W : World} {base : Nat} {T : TypeId} {S : Nat → Prop} {v : Value} {xs : List α} (h : OwnL W base T S v xs) (u : Ext) : OwnL (W.ext u) base T S v xs := by
  obtain ⟨vals, ⟨hl, h⟩, hr, ha⟩ := h
  refine ⟨vals, ⟨hl, ?_⟩, RepL.keep hr (by rw [size_ext]; omega) fun b _ hb => ext_block W u b hb, ha⟩
  rcases h with h | ⟨g, cap, cur, e, hg, hh, hrest⟩
  · exact .inl h
  · exact .inr ⟨g, cap, cur, e, hg, by rw [ext_block W u g (Array.getElem?_eq_some_iff.1 hh).1]; exact hh, hrest⟩
section
variable {P : Program} {α : Type} [Rep α] {ops : Array Oper} {rest : List Oper} {o : Oper} {a : Act} {Q : Exit → Act → World → Prop}
theorem wpList_push_ext (W : World) (u : Ext) (us : List Value) (T' : TypeId) (hgd : o.guard = none) (s x : Operand) (t : TypeId)
    (ho : o.op = .call { callee := .builtin .append, args := #[s, x], argTypes := #[t, t] })
    (T : TypeId) (i : TypeInfo) (z : Value) (bytes : Nat) (ht : P.underlying t = some (.slice T)) (hi : P.info? T = some i) (hz : i.zero = some z)
    (hsize : i.size = Rep.size α) (hby : i.bytes = bytes) (hzs : z.cells.size = Rep.size α) (hsz : 0 < Rep.size α)
    (v : Value) (xs : List α) (y : α) (hs : a.eval s = v) (hown : OwnL (W.ext u) W.heap.size T (fun _ => False) v xs)
    (g : Nat) (hx : a.eval x = .slice (some ⟨g, 0, none⟩) 1 1) (hgW : g = W.heap.size + u.blocks.size) (hr : Rep.is (W.ext u) (fun _ => False) y us)
    (hlen : (xs.length + 1) * bytes ≤ 140737488355328) (hlen' : xs.length + 1 ≤ 9223372036854775807)
    (h : ∀ v' x, OwnL (W.ext x) W.heap.size T (fun _ => False) v' (xs ++ [y]) → wpList P ops Q rest (a.put o.dst v') (W.ext x)) :
    wpList P ops Q (o :: rest) a ((W.ext u).alloc (.cells us.toArray T')) := by
  refine wpList_push (α := α) (W.ext u) us T' hgd s x t ho W.heap.size T i z bytes ht hi hz hsize hby hzs hsz (fun _ => False) (fun _ => False) v xs y hs hown g hx (by rw [size_ext]; exact hgW) hr (fun _ h => h) (fun _ _ h => h) (fun _ h => h.elim)
    hlen hlen' (by rw [size_ext]; omega) fun v' w' h1 h2 _ => ?_
  obtain ⟨x, rfl⟩ := (below_push (Below.of_ext W u (Nat.le_refl _)) hown (by rw [size_ext]; omega) h2).to_ext
  exact h v' x h1
theorem wpList_push_new (W : World) (us : List Value) (T' : TypeId) (hgd : o.guard = none) (s x : Operand) (t : TypeId)
    (ho : o.op = .call { callee := .builtin .append, args := #[s, x], argTypes := #[t, t] })
    (T : TypeId) (i : TypeInfo) (z : Value) (bytes : Nat) (ht : P.underlying t = some (.slice T)) (hi : P.info? T = some i) (hz : i.zero = some z)
    (hsize : i.size = Rep.size α) (hby : i.bytes = bytes) (hzs : z.cells.size = Rep.size α) (hsz : 0 < Rep.size α)
    (v : Value) (xs : List α) (y : α) (hs : a.eval s = v) (hown : OwnL W W.heap.size T (fun _ => False) v xs)
    (g : Nat) (hx : a.eval x = .slice (some ⟨g, 0, none⟩) 1 1) (hgW : g = W.heap.size) (hr : Rep.is W (fun _ => False) y us)
    (hlen : (xs.length + 1) * bytes ≤ 140737488355328) (hlen' : xs.length + 1 ≤ 9223372036854775807)
    (h : ∀ v' x, OwnL (W.ext x) W.heap.size T (fun _ => False) v' (xs ++ [y]) → wpList P ops Q rest (a.put o.dst v') (W.ext x)) :
    wpList P ops Q (o :: rest) a (W.alloc (.cells us.toArray T')) := by
  refine wpList_push (α := α) W us T' hgd s x t ho W.heap.size T i z bytes ht hi hz hsize hby hzs hsz (fun _ => False) (fun _ => False) v xs y hs hown g hx hgW hr (fun _ h => h) (fun _ _ h => h) (fun _ h => h.elim)
    hlen hlen' (Nat.le_refl _) fun v' w' h1 h2 _ => ?_
  obtain ⟨x, rfl⟩ := (below_push (Below.refl _ _) hown (Nat.le_refl _) h2).to_ext
  exact h v' x h1
end
end Go.Proofs.Ytkjipgelbjaggaa
set_option linter.unusedSimpArgs false
set_option linter.unusedVariables false
namespace Go.Proofs.Ytkjipgelbjaggaa
open Go.RowKit
def isC (o : Int) : Bool := decide ((hasL o).toList = [99])
def readsR (m : Machine) (i : Ins) : List Loc :=
  ((if lt i.op 97 = true then [⟨false, i.a⟩] else []) ++ (if lt i.op 98 = true then [⟨false, i.b⟩] else []) ++ (if i.op = 17 then [⟨true, i.imm⟩] else [])) ++ (if isC i.op = true then regsL (m.args.take (manyN m i)) else [])
def writesR (m : Machine) (i : Ins) : List Loc :=
  if lt i.op 100 = true then [⟨false, i.dst⟩] else if i.op = 16 then [⟨true, i.imm⟩] else if isC i.op = true then [⟨false, m.ret⟩] else []
end Go.Proofs.Ytkjipgelbjaggaa
set_option linter.unusedSimpArgs false
set_option linter.unusedVariables false
namespace Go.Proofs.Ytkjipgelbjaggaa
open Go.RowKit
theorem readsR_eq {m : Machine} {i : Ins} {a b g c : Bool} (h97 : lt i.op 97 = a) (h98 : lt i.op 98 = b) (hg : (i.op == 17) = g) (hl : ((hasL i.op).toList == [99]) = c) :
    readsR m i = ((if a = true then [⟨false, i.a⟩] else []) ++ (if b = true then [⟨false, i.b⟩] else []) ++ (if g = true then [⟨true, i.imm⟩] else [])) ++ (if c = true then regsL (m.args.take (manyN m i)) else []) := by
  have e : isC i.op = c := by
    rw [← hl]; unfold isC
    by_cases h : (hasL i.op).toList = [99]
    · rw [decide_eq_true h, eq_comm, beq_iff_eq]; exact h
    · rw [decide_eq_false h, eq_comm, beq_eq_false_iff_ne]; exact h
  have e2 : (i.op = 17) ↔ g = true := by rw [← hg]; simp
  unfold readsR
  rw [h97, h98, e]
  by_cases h : i.op = 17
  · rw [if_pos h, if_pos (e2.1 h)]
  · rw [if_neg h, if_neg (fun x => h (e2.2 x))]
theorem retSl_own {w W : World} {u : Ext} {T : TypeId} {v : Value} {xs ys : List Loc} (he : ys = xs) (ho : OwnL (W.ext u) W.heap.size T (fun _ => False) v xs) (hw : w.heap.size ≤ W.heap.size) (hb : Below w.heap.size w W) : RetSl ys w (.returned v) (W.ext u) := by
  obtain ⟨A, c, rfl⟩ := ho.form
  exact retSl_of he ho (fun _ h => h.elim) hw (hb.ext hw u)
theorem manyN_le (m : Machine) (i : Ins) : manyN m i ≤ m.args.length := by unfold manyN; omega
theorem manyN_lt {m : Machine} {i : Ins} {j : Nat} (h : j < manyN m i) : (j : Int) < i.many := by unfold manyN at h; omega
theorem manyN_ge {m : Machine} {i : Ins} {j : Nat} (h0 : j ≤ manyN m i) (h : ¬ j < manyN m i) : ¬ (j : Int) < i.many ∨ ¬ j < m.args.length := by unfold manyN at h h0; omega
end Go.Proofs.Ytkjipgelbjaggaa
set_option linter.unusedSimpArgs false
set_option linter.unusedVariables false
namespace Go.Proofs.Ytkjipgelbjaggaa
open Go.RowKit
def opTab : List (Int × List UInt8 × Bool × Bool) :=
  [(9, [100, 105], false, false), (7, [100, 97, 98], false, false), (11, [100, 97, 105], false, false), (14, [97, 98, 105], false, false), (32, [99], false, false), (3, [100, 97], false, false), (18, [97, 115], true, false), (17, [100, 115], false, true), (0, [], false, false)]
theorem op_tab (o : Int) : ∃ p l a b, (p, l, a, b) ∈ opTab ∧ hasP o = p ∧ (hasL o).data.toList = l ∧ (o == 16) = a ∧ (o == 17) = b := by
  have nb : ∀ k : Int, o ≠ k → (o == k) = false := fun k h => beq_eq_false_iff_ne.2 h
  by_cases h1 : o = 1
  · subst h1; exact ⟨9, [100, 105], false, false, by decide, by decide, by decide, by decide, by decide⟩
  by_cases h2 : 2 ≤ o ∧ o ≤ 10
  · exact ⟨7, [100, 97, 98], false, false, by decide, by unfold hasP; rw [if_neg h1, if_pos h2], by unfold hasL; rw [if_neg h1, if_pos h2], nb _ (by omega), nb _ (by omega)⟩
  by_cases h3 : o = 11
  · subst h3; exact ⟨11, [100, 97, 105], false, false, by decide, by decide, by decide, by decide, by decide⟩
  by_cases h4 : o = 12
  · subst h4; exact ⟨14, [97, 98, 105], false, false, by decide, by decide, by decide, by decide, by decide⟩
  by_cases h5 : o = 13
  · subst h5; exact ⟨32, [99], false, false, by decide, by decide, by decide, by decide, by decide⟩
  by_cases h6 : o = 15
  · subst h6; exact ⟨3, [100, 97], false, false, by decide, by decide, by decide, by decide, by decide⟩
  by_cases h7 : o = 16
  · subst h7; exact ⟨18, [97, 115], true, false, by decide, by decide, by decide, by decide, by decide⟩
  by_cases h8 : o = 17
  · subst h8; exact ⟨17, [100, 115], false, true, by decide, by decide, by decide, by decide, by decide⟩
  · exact ⟨0, [], false, false, by decide, by unfold hasP; simp [*], by unfold hasL; simp [*], nb _ h7, nb _ h8⟩
theorem lt_tab {o c : Int} {l : List UInt8} (h : (hasL o).data.toList = l) : lt o c = hasB c l := by unfold lt; rw [h]
theorem isC_tab {o : Int} {l : List UInt8} (h : (hasL o).data.toList = l) : ((hasL o).toList == [99]) = (l == [99]) := by rw [ByteArray.toList_eq, h]
theorem btab (p : Int) (hp : p ∈ [9, 7, 11, 14, 32, 3, 18, 17, (0 : Int)]) : (bt p 32 = (p == 32)) ∧ (bt p 4 = (p == 7 || p == 14)) ∧ (bt p 2 = (p == 7 || p == 11 || p == 14 || p == 3 || p == 18)) ∧ (bt p 16 = (p == 18 || p == 17)) ∧ bt p 1 = (p == 9 || p == 7 || p == 11 || p == 3 || p == 17) := by
  simp only [List.mem_cons, List.not_mem_nil, or_false] at hp
  rcases hp with rfl | rfl | rfl | rfl | rfl | rfl | rfl | rfl | rfl <;> decide
theorem reads_cases (o : Int) : ∃ a b g c, lt o 97 = a ∧ lt o 98 = b ∧ (o == 17) = g ∧ ((hasL o).toList == [99]) = c ∧ (a, b, g, c) ∈ [(false, false, false, false), (true, false, false, false), (true, true, false, false), (false, false, true, false), (false, false, false, true)] := by
  obtain ⟨p, l, a, b, hm, hp, hl, h16, h17⟩ := op_tab o
  refine ⟨_, _, _, _, lt_tab hl, lt_tab hl, h17, isC_tab hl, ?_⟩
  simp only [opTab, List.mem_cons, Prod.mk.injEq, List.not_mem_nil, or_false] at hm
  rcases hm with ⟨rfl, rfl, rfl, rfl⟩ | ⟨rfl, rfl, rfl, rfl⟩ | ⟨rfl, rfl, rfl, rfl⟩ | ⟨rfl, rfl, rfl, rfl⟩ | ⟨rfl, rfl, rfl, rfl⟩ | ⟨rfl, rfl, rfl, rfl⟩ | ⟨rfl, rfl, rfl, rfl⟩ | ⟨rfl, rfl, rfl, rfl⟩ | ⟨rfl, rfl, rfl, rfl⟩ <;> decide
theorem reads_eq (m : Machine) (i : Ins) : readsP m i = readsR m i := by
  obtain ⟨p, l, a, b, hm, hp, hl, h16, h17⟩ := op_tab i.op
  rw [readsR_eq (lt_tab hl) (lt_tab hl) h17 (isC_tab hl)]
  unfold readsP
  rw [hp]
  simp only [opTab, List.mem_cons, Prod.mk.injEq, List.not_mem_nil, or_false] at hm
  obtain ⟨e1, e2, e3, e4, e5⟩ := btab p (by rcases hm with ⟨rfl, _⟩ | ⟨rfl, _⟩ | ⟨rfl, _⟩ | ⟨rfl, _⟩ | ⟨rfl, _⟩ | ⟨rfl, _⟩ | ⟨rfl, _⟩ | ⟨rfl, _⟩ | ⟨rfl, _⟩ <;> decide)
  rcases hm with ⟨rfl, rfl, rfl, rfl⟩ | ⟨rfl, rfl, rfl, rfl⟩ | ⟨rfl, rfl, rfl, rfl⟩ | ⟨rfl, rfl, rfl, rfl⟩ | ⟨rfl, rfl, rfl, rfl⟩ | ⟨rfl, rfl, rfl, rfl⟩ | ⟨rfl, rfl, rfl, rfl⟩ | ⟨rfl, rfl, rfl, rfl⟩ | ⟨rfl, rfl, rfl, rfl⟩ <;>
    (rw [e1, e2, e3, e4]; first | rfl | simp [hasB])
theorem writes_eq (m : Machine) (i : Ins) : writesP m i = writesR m i := by
  obtain ⟨p, l, a, b, hm, hp, hl, h16, h17⟩ := op_tab i.op
  have hc : isC i.op = (l == [99]) := by
    unfold isC; rw [ByteArray.toList_eq, hl]
    by_cases h : l = [99]
    · rw [decide_eq_true h, eq_comm, beq_iff_eq]; exact h
    · rw [decide_eq_false h, eq_comm, beq_eq_false_iff_ne]; exact h
  have e16 : (i.op = 16) ↔ a = true := by rw [← h16]; simp
  unfold writesP writesR
  rw [hp, lt_tab hl, hc]
  simp only [e16]
  simp only [opTab, List.mem_cons, Prod.mk.injEq, List.not_mem_nil, or_false] at hm
  obtain ⟨e1, e2, e3, e4, e5⟩ := btab p (by rcases hm with ⟨rfl, _⟩ | ⟨rfl, _⟩ | ⟨rfl, _⟩ | ⟨rfl, _⟩ | ⟨rfl, _⟩ | ⟨rfl, _⟩ | ⟨rfl, _⟩ | ⟨rfl, _⟩ | ⟨rfl, _⟩ <;> decide)
  rcases hm with ⟨rfl, rfl, rfl, rfl⟩ | ⟨rfl, rfl, rfl, rfl⟩ | ⟨rfl, rfl, rfl, rfl⟩ | ⟨rfl, rfl, rfl, rfl⟩ | ⟨rfl, rfl, rfl, rfl⟩ | ⟨rfl, rfl, rfl, rfl⟩ | ⟨rfl, rfl, rfl, rfl⟩ | ⟨rfl, rfl, rfl, rfl⟩ | ⟨rfl, rfl, rfl, rfl⟩ <;>
    (rw [e1, e4, e5]; first | rfl | simp [hasB])
theorem sameL_refl : ∀ l : List Loc, sameL l l = true
  | [] => rfl
  | x :: l => by simp [sameL, sameL_refl l]
end Go.Proofs.Ytkjipgelbjaggaa
set_option linter.unusedSimpArgs false
set_option linter.unusedVariables false
namespace Go.Proofs.Ytkjipgelbjaggaa
open Go.RowKit
theorem inB_to {b n : Int} : inB n 0 (b - 1) = !toBad b n := by
  unfold inB toBad
  by_cases h : n < 0
  · have : ¬ 0 ≤ n := by omega
    simp [h, this]
  · have h' : 0 ≤ n := by omega
    by_cases h2 : n ≤ b - 1
    · have : ¬ b ≤ n := by omega
      simp [h', h2, h, this]
    · have : b ≤ n := by omega
      simp [h2, this]
theorem inB_reg {m : Machine} {n : Int} : inB n 0 (m.regs - 1) = !regBad m n := inB_to
section
variable {m : Machine} {blocks a to0 to1 : Int}
theorem L1a (h : (to1 != 0) = true) : 2 = termP m blocks ⟨1, a, to0, to1⟩ := by simp at h; simp [termP, h]
theorem L1b (ha : a = 0) (h : (to1 != 0) = false) (e : (!inB to0 0 (blocks - 1)) = true) : 9 = termP m blocks ⟨1, a, to0, to1⟩ := by simp [inB_to] at h e; simp [termP, h, ha, e]
theorem L1c (ha : a = 0) (h : (to1 != 0) = false) (e : (!inB to0 0 (blocks - 1)) = false) : 0 = termP m blocks ⟨1, a, to0, to1⟩ := by simp [inB_to] at h e; simp [termP, h, ha, e]
theorem L1d (h : ¬a = 0) : 2 = termP m blocks ⟨1, a, to0, to1⟩ := by simp [termP, h]
theorem L2a (e : (!inB a 0 (m.regs - 1)) = true) : 10 = termP m blocks ⟨2, a, to0, to1⟩ := by simp [inB_reg] at e; simp [termP, e]
theorem L2b (e : (!inB a 0 (m.regs - 1)) = false) (h : (!inB to1 0 (blocks - 1)) = true) : 9 = termP m blocks ⟨2, a, to0, to1⟩ := by simp [inB_reg] at e; simp [inB_to] at h; simp [termP, e, h]
theorem L2c (e : (!inB a 0 (m.regs - 1)) = false) (h : (!inB to0 0 (blocks - 1)) = true) : 9 = termP m blocks ⟨2, a, to0, to1⟩ := by simp [inB_reg] at e; simp [inB_to] at h; simp [termP, e, h]
theorem L2d (e : (!inB a 0 (m.regs - 1)) = false) (h : (!inB to1 0 (blocks - 1)) = false) (h' : (!inB to0 0 (blocks - 1)) = false) : 0 = termP m blocks ⟨2, a, to0, to1⟩ := by simp [inB_reg] at e; simp [inB_to] at h h'; simp [termP, e, h, h']
theorem L3a (h : (!to0 == 0) = true ∨ (!to1 == 0) = true) : 2 = termP m blocks ⟨3, a, to0, to1⟩ := by simp at h; rcases h with h | h <;> simp [termP, h]
theorem LX {P : Prop} (hb : 1 ≤ blocks ∧ blocks ≤ 200) (h : (!to0 == 0) = false ∧ (!to1 == 0) = false) (e : (!inB to0 0 (blocks - 1)) = true) : P := by
  simp at h
  obtain ⟨rfl, _⟩ := h
  simp [inB] at e; omega
theorem L3c (h : (!to0 == 0) = false ∧ (!to1 == 0) = false) (ha : a = -1) : 0 = termP m blocks ⟨3, a, to0, to1⟩ := by simp at h; simp [termP, h, ha]
theorem L3d (h : (!to0 == 0) = false ∧ (!to1 == 0) = false) (ha : ¬a = -1) (e : (a != -1) = true ∧ (a != m.ret) = true) : 10 = termP m blocks ⟨3, a, to0, to1⟩ := by simp at h e; simp [termP, h, ha, e]
theorem L3e (h : (!to0 == 0) = false ∧ (!to1 == 0) = false) (ha : ¬a = -1) (e : (a != -1) = false ∨ (a != m.ret) = false) : 0 = termP m blocks ⟨3, a, to0, to1⟩ := by
  simp [ha] at h e; simp [termP, h, e]
theorem L4a (h : (!to0 == 0) = true ∨ (!to1 == 0) = true) : 2 = termP m blocks ⟨4, a, to0, to1⟩ := by simp at h; rcases h with h | h <;> simp [termP, h]
theorem L4c (ha : a = 0) (h : (!to0 == 0) = false ∧ (!to1 == 0) = false) : 0 = termP m blocks ⟨4, a, to0, to1⟩ := by simp at h; simp [termP, h, ha]
theorem L4d (ha : ¬a = 0) : 2 = termP m blocks ⟨4, a, to0, to1⟩ := by simp [termP, ha]
end
end Go.Proofs.Ytkjipgelbjaggaa
set_option linter.unusedSimpArgs false
set_option linter.unusedVariables false
namespace Go.Proofs.Ytkjipgelbjaggaa
open Go.RowKit
def inssR (m : Machine) (frame : Int) : List Ins → Int
  | [] => 0
  | i :: l => if insR m frame i = 0 then inssR m frame l else insR m frame i
def blocksR (m : Machine) (frame n : Int) : List Block → Int
  | [] => 0
  | b :: l => if inssR m frame b.ins = 0 then (if termP m n b.term = 0 then blocksR m frame n l else termP m n b.term) else inssR m frame b.ins
def longB (b : Block) : Bool := decide ((b.ins.length : Int) > 4000)
def longR (n : Nat) (frame : Int) : Bool := decide (n < 1) || decide ((n : Int) > 200) || !inB frame 0 400
def rightR (m : Machine) (t : Target) : Int :=
  if rightM m = false then 2 else if (longR t.blocks.length t.frame || anyF longB t.blocks) = true then 3 else blocksR m t.frame t.blocks.length t.blocks
end Go.Proofs.Ytkjipgelbjaggaa
