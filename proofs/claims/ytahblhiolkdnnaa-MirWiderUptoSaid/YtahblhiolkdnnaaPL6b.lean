/- The program's reads and writes are the document's. -/
import Derived.Test.YtahblhiolkdnnaaW21
set_option linter.unusedSimpArgs false
set_option linter.unusedVariables false
namespace Go.Proofs.Ytahblhiolkdnnaa
open Go.RowKit
def opTab : List (Int × List UInt8 × Bool × Bool) :=
  [(9, [100, 105], false, false), (7, [100, 97, 98], false, false), (11, [100, 97, 105], false, false), (14, [97, 98, 105], false, false), (32, [99], false, false), (3, [100, 97], false, false), (18, [97, 115], true, false), (17, [100, 115], false, true), (0, [], false, false)]
theorem op_tab (o : Int) : ∃ p l a b, (p, l, a, b) ∈ opTab ∧ hasP o = p ∧ (hasL o).data.toList = l ∧ (o == 16) = a ∧ (o == 17) = b := by
  have nb : ∀ k : Int, o ≠ k → (o == k) = false := fun k h => beq_eq_false_iff_ne.2 h
  by_cases h1 : o = 1
  · subst h1; exact ⟨9, [100, 105], false, false, by decide, by decide, by decide, by decide, by decide⟩
  by_cases h2 : 2 ≤ o ∧ o ≤ 10
  · exact ⟨7, [100, 97, 98], false, false, by decide, by unfold hasP; rw [if_neg h1, if_pos h2], by unfold hasL; rw [if_neg h1, if_pos h2], nb _ (by omega), nb _ (by omega)⟩
  by_cases h3 : o = 11
  · subst h3; exact ⟨11, [100, 97, 105], false, false, by decide, by decide, by decide, by decide, by decide⟩
  by_cases h4 : o = 12
  · subst h4; exact ⟨14, [97, 98, 105], false, false, by decide, by decide, by decide, by decide, by decide⟩
  by_cases h5 : o = 13
  · subst h5; exact ⟨32, [99], false, false, by decide, by decide, by decide, by decide, by decide⟩
  by_cases h6 : o = 15
  · subst h6; exact ⟨3, [100, 97], false, false, by decide, by decide, by decide, by decide, by decide⟩
  by_cases h7 : o = 16
  · subst h7; exact ⟨18, [97, 115], true, false, by decide, by decide, by decide, by decide, by decide⟩
  by_cases h8 : o = 17
  · subst h8; exact ⟨17, [100, 115], false, true, by decide, by decide, by decide, by decide, by decide⟩
  · exact ⟨0, [], false, false, by decide, by unfold hasP; simp [*], by unfold hasL; simp [*], nb _ h7, nb _ h8⟩
theorem lt_tab {o c : Int} {l : List UInt8} (h : (hasL o).data.toList = l) : lt o c = hasB c l := by unfold lt; rw [h]
theorem isC_tab {o : Int} {l : List UInt8} (h : (hasL o).data.toList = l) : ((hasL o).toList == [99]) = (l == [99]) := by rw [ByteArray.toList_eq, h]
theorem btab (p : Int) (hp : p ∈ [9, 7, 11, 14, 32, 3, 18, 17, (0 : Int)]) : (bt p 32 = (p == 32)) ∧ (bt p 4 = (p == 7 || p == 14)) ∧ (bt p 2 = (p == 7 || p == 11 || p == 14 || p == 3 || p == 18)) ∧ (bt p 16 = (p == 18 || p == 17)) ∧ bt p 1 = (p == 9 || p == 7 || p == 11 || p == 3 || p == 17) := by
  simp only [List.mem_cons, List.not_mem_nil, or_false] at hp
  rcases hp with rfl | rfl | rfl | rfl | rfl | rfl | rfl | rfl | rfl <;> decide
theorem reads_cases (o : Int) : ∃ a b g c, lt o 97 = a ∧ lt o 98 = b ∧ (o == 17) = g ∧ ((hasL o).toList == [99]) = c ∧ (a, b, g, c) ∈ [(false, false, false, false), (true, false, false, false), (true, true, false, false), (false, false, true, false), (false, false, false, true)] := by
  obtain ⟨p, l, a, b, hm, hp, hl, h16, h17⟩ := op_tab o
  refine ⟨_, _, _, _, lt_tab hl, lt_tab hl, h17, isC_tab hl, ?_⟩
  simp only [opTab, List.mem_cons, Prod.mk.injEq, List.not_mem_nil, or_false] at hm
  rcases hm with ⟨rfl, rfl, rfl, rfl⟩ | ⟨rfl, rfl, rfl, rfl⟩ | ⟨rfl, rfl, rfl, rfl⟩ | ⟨rfl, rfl, rfl, rfl⟩ | ⟨rfl, rfl, rfl, rfl⟩ | ⟨rfl, rfl, rfl, rfl⟩ | ⟨rfl, rfl, rfl, rfl⟩ | ⟨rfl, rfl, rfl, rfl⟩ | ⟨rfl, rfl, rfl, rfl⟩ <;> decide
theorem reads6_any (w : World) (S1 : Nat → Prop) (m : Machine) (A1 A2 : Option Addr) (n1 c1 n2 c2 : Nat) (s1 : Sl w S1 A1 n1 c1 m.args) (hn : n1 ≤ 1048576) (i : Ins) (A : Option Addr) (n c : Nat) (ia : InI i.a) (ib : InI i.b) (ii : InI i.imm) :
    Calls Try.prog 23 #[.agg #[.int .i64 m.regs, .slice A1 n1 c1, .int .i64 m.ret, .slice A2 n2 c2], .agg #[.int .i64 i.op, .int .i64 i.dst, .int .i64 i.a, .int .i64 i.b, .int .i64 i.imm, .int .i64 i.callee, .slice A n c, .int .i64 i.many]] w (RetSl (readsR m i) w) := by
  obtain ⟨a, b, g, d, h97, h98, h17, hl, hm⟩ := reads_cases i.op
  simp only [List.mem_cons, Prod.mk.injEq, List.not_mem_nil, or_false] at hm
  rcases hm with ⟨rfl, rfl, rfl, rfl⟩ | ⟨rfl, rfl, rfl, rfl⟩ | ⟨rfl, rfl, rfl, rfl⟩ | ⟨rfl, rfl, rfl, rfl⟩ | ⟨rfl, rfl, rfl, rfl⟩
  · exact readsR_none w S1 m A1 A2 n1 c1 n2 c2 s1 hn i A n c ia ib ii h97 h98 h17 hl
  · exact readsR_one w S1 m A1 A2 n1 c1 n2 c2 s1 hn i A n c ia ib ii h97 h98 h17 hl
  · exact readsR_two w S1 m A1 A2 n1 c1 n2 c2 s1 hn i A n c ia ib ii h97 h98 h17 hl
  · exact readsR_get w S1 m A1 A2 n1 c1 n2 c2 s1 hn i A n c ia ib ii h97 h98 h17 hl
  · exact readsR_call w S1 m A1 A2 n1 c1 n2 c2 s1 hn i A n c ia ib ii h97 h98 h17 hl
theorem reads_eq (m : Machine) (i : Ins) : readsP m i = readsR m i := by
  obtain ⟨p, l, a, b, hm, hp, hl, h16, h17⟩ := op_tab i.op
  rw [readsR_eq (lt_tab hl) (lt_tab hl) h17 (isC_tab hl)]
  unfold readsP
  rw [hp]
  simp only [opTab, List.mem_cons, Prod.mk.injEq, List.not_mem_nil, or_false] at hm
  obtain ⟨e1, e2, e3, e4, e5⟩ := btab p (by rcases hm with ⟨rfl, _⟩ | ⟨rfl, _⟩ | ⟨rfl, _⟩ | ⟨rfl, _⟩ | ⟨rfl, _⟩ | ⟨rfl, _⟩ | ⟨rfl, _⟩ | ⟨rfl, _⟩ | ⟨rfl, _⟩ <;> decide)
  rcases hm with ⟨rfl, rfl, rfl, rfl⟩ | ⟨rfl, rfl, rfl, rfl⟩ | ⟨rfl, rfl, rfl, rfl⟩ | ⟨rfl, rfl, rfl, rfl⟩ | ⟨rfl, rfl, rfl, rfl⟩ | ⟨rfl, rfl, rfl, rfl⟩ | ⟨rfl, rfl, rfl, rfl⟩ | ⟨rfl, rfl, rfl, rfl⟩ | ⟨rfl, rfl, rfl, rfl⟩ <;>
    (rw [e1, e2, e3, e4]; first | rfl | simp [hasB])
theorem writes_eq (m : Machine) (i : Ins) : writesP m i = writesR m i := by
  obtain ⟨p, l, a, b, hm, hp, hl, h16, h17⟩ := op_tab i.op
  have hc : isC i.op = (l == [99]) := by
    unfold isC; rw [ByteArray.toList_eq, hl]
    by_cases h : l = [99]
    · rw [decide_eq_true h, eq_comm, beq_iff_eq]; exact h
    · rw [decide_eq_false h, eq_comm, beq_eq_false_iff_ne]; exact h
  have e16 : (i.op = 16) ↔ a = true := by rw [← h16]; simp
  unfold writesP writesR
  rw [hp, lt_tab hl, hc]
  simp only [e16]
  simp only [opTab, List.mem_cons, Prod.mk.injEq, List.not_mem_nil, or_false] at hm
  obtain ⟨e1, e2, e3, e4, e5⟩ := btab p (by rcases hm with ⟨rfl, _⟩ | ⟨rfl, _⟩ | ⟨rfl, _⟩ | ⟨rfl, _⟩ | ⟨rfl, _⟩ | ⟨rfl, _⟩ | ⟨rfl, _⟩ | ⟨rfl, _⟩ | ⟨rfl, _⟩ <;> decide)
  rcases hm with ⟨rfl, rfl, rfl, rfl⟩ | ⟨rfl, rfl, rfl, rfl⟩ | ⟨rfl, rfl, rfl, rfl⟩ | ⟨rfl, rfl, rfl, rfl⟩ | ⟨rfl, rfl, rfl, rfl⟩ | ⟨rfl, rfl, rfl, rfl⟩ | ⟨rfl, rfl, rfl, rfl⟩ | ⟨rfl, rfl, rfl, rfl⟩ | ⟨rfl, rfl, rfl, rfl⟩ <;>
    (rw [e1, e4, e5]; first | rfl | simp [hasB])
theorem sameL_refl : ∀ l : List Loc, sameL l l = true
  | [] => rfl
  | x :: l => by simp [sameL, sameL_refl l]
end Go.Proofs.Ytahblhiolkdnnaa
