/- law02: what a word has, as an interface value; items, cursors in memory. -/
import Derived.Test.YtppkanniefignaaGreatDoorG9
import Derived.Laws.StructEq
import Derived.Stop.Asserts
import Derived.Stop.IfaceNil
import Derived.BigGuardPart
set_option linter.unusedSimpArgs false
set_option linter.unusedVariables false
namespace Go.Proofs.YtppkanniefignaaGreatDoor
open Go.RowKit

inductive Has where
  | nm (s : ByteArray)
  | num (n : Int)
  | mk (s : ByteArray)
  | stop
def Has.v : Has → Value
  | .nm s => .iface 120 (.string s)
  | .num n => .iface 3 (.int .i64 n)
  | .mk s => .iface 174 (.string s)
  | .stop => .iface 176 (.agg #[])
def Has.eq : Has → Has → Bool
  | .nm a, .nm b => a.toList == b.toList
  | .num a, .num b => a == b
  | .mk a, .mk b => a.toList == b.toList
  | .stop, .stop => true
  | _, _ => false
def hasW (x : Word) : Has := if x.kind = 1 then .nm x.text else if x.kind = 2 then .num x.n else if x.kind = 3 then .mk x.text else .stop
theorem any_iface : Tryz.prog.underlying 20 = some (.interface #[]) := Tryz.underlying20
theorem cmp_name : (Tryz.prog.info? 120).map (·.comparable) = some true := by kernel_rfl
theorem cmp_mark : (Tryz.prog.info? 174).map (·.comparable) = some true := by kernel_rfl
theorem cmp_int : (Tryz.prog.info? 3).map (·.comparable) = some true := by kernel_rfl
theorem cmp_stop : (Tryz.prog.info? 176).map (·.comparable) = some true := by kernel_rfl
theorem beq_list (a b : ByteArray) : (a == b) = (a.toList == b.toList) := beq_toListBytes a b
theorem eqIn_types (w : World) (d : Nat) (tx ty : TypeId) (vx vy : Value) (hne : tx ≠ ty) : (Op.equalIn (d + 3) 20 (.iface tx vx) (.iface ty vy)).run Tryz.prog w = .ok false w := by
  simp [Op.equalIn, run_underlying any_iface, hne]
theorem eqIn_name (w : World) (d : Nat) (a b : ByteArray) : (Op.equalIn (d + 3) 20 (.iface 120 (.string a)) (.iface 120 (.string b))).run Tryz.prog w = .ok (a.toList == b.toList) w := by
  obtain ⟨i1, e1, c1⟩ := Option.map_eq_some_iff.1 cmp_name
  simp [Op.equalIn, run_underlying any_iface, run_underlying Tryz.underlying120, typeInfo, e1, c1, beq_list]
theorem eqIn_mark (w : World) (d : Nat) (a b : ByteArray) : (Op.equalIn (d + 3) 20 (.iface 174 (.string a)) (.iface 174 (.string b))).run Tryz.prog w = .ok (a.toList == b.toList) w := by
  obtain ⟨i1, e1, c1⟩ := Option.map_eq_some_iff.1 cmp_mark
  simp [Op.equalIn, run_underlying any_iface, run_underlying Tryz.underlying174, typeInfo, e1, c1, beq_list]
theorem eqIn_int (w : World) (d : Nat) (a b : Int) : (Op.equalIn (d + 3) 20 (.iface 3 (.int .i64 a)) (.iface 3 (.int .i64 b))).run Tryz.prog w = .ok (a == b) w := by
  obtain ⟨i1, e1, c1⟩ := Option.map_eq_some_iff.1 cmp_int
  simp [Op.equalIn, run_underlying any_iface, run_underlying Tryz.underlying3, typeInfo, e1, c1]
theorem eqIn_stop (w : World) (d : Nat) : (Op.equalIn (d + 3) 20 (.iface 176 (.agg #[])) (.iface 176 (.agg #[]))).run Tryz.prog w = .ok true w := by
  obtain ⟨i1, e1, c1⟩ := Option.map_eq_some_iff.1 cmp_stop
  simp [Op.equalIn, run_underlying any_iface, run_underlying Tryz.underlying176, typeInfo, e1, c1]
theorem eqIn_has (a b : Has) (w : World) (d : Nat) : (Op.equalIn (d + 3) 20 a.v b.v).run Tryz.prog w = .ok (a.eq b) w := by
  cases a <;> cases b
  case nm.nm => exact eqIn_name w d _ _
  case num.num => exact eqIn_int w d _ _
  case mk.mk => exact eqIn_mark w d _ _
  case stop.stop => exact eqIn_stop w d
  all_goals exact eqIn_types w d _ _ _ _ (by decide)
theorem Has.form (a : Has) : ∃ t x, a.v = .iface t x := by cases a <;> exact ⟨_, _, rfl⟩
theorem run_eql_iface {t u tx : TypeId} {x y : Value} {b : Bool} {w : World} (h : (Op.equalIn 10000 t (.iface u x) (.iface tx y)).run Tryz.prog w = .ok b w) : (binOp .eql t (.iface u x) (.iface tx y)).run Tryz.prog w = .ok (.bool b) w := by
  simp only [binOp]
  simp [Op.equal, Op.maxDepth, h]
theorem run_neq_iface {t u tx : TypeId} {x y : Value} {b : Bool} {w : World} (h : (Op.equalIn 10000 t (.iface u x) (.iface tx y)).run Tryz.prog w = .ok b w) : (binOp .neq t (.iface u x) (.iface tx y)).run Tryz.prog w = .ok (.bool (!b)) w := by
  simp only [binOp]
  simp [Op.equal, Op.maxDepth, h]
theorem run_eql_has (a b : Has) (w : World) : (binOp .eql 20 a.v b.v).run Tryz.prog w = .ok (.bool (a.eq b)) w := by
  have h := eqIn_has a b w 9997
  obtain ⟨t, x, e⟩ := a.form
  obtain ⟨u, y, f⟩ := b.form
  rw [e, f] at h ⊢
  exact run_eql_iface h
theorem run_neq_has (a b : Has) (w : World) : (binOp .neq 20 a.v b.v).run Tryz.prog w = .ok (.bool (!a.eq b)) w := by
  have h := eqIn_has a b w 9997
  obtain ⟨t, x, e⟩ := a.form
  obtain ⟨u, y, f⟩ := b.form
  rw [e, f] at h ⊢
  exact run_neq_iface h

/-- A word, as an item that reads. -/
structure Itm where
  w : Word
instance : Rep Itm where
  size := 3
  is _ _ x vs := vs = [.int .i64 x.w.line, .int .i64 x.w.col, (hasW x.w).v] ∧ InI x.w.line ∧ InI x.w.col ∧ InI x.w.n ∧ x.w.text.size ≤ maxLen
  len h := by rw [h.1]; rfl
  keep h _ _ := h
  more h _ := h
  one h := by
    rw [h.1]
    intro u hu
    simp only [List.mem_cons, List.not_mem_nil, or_false] at hu
    rcases hu with rfl | rfl | rfl
    · rfl
    · rfl
    · unfold hasW; repeat' split
      all_goals rfl
theorem at_Itm {w : World} {S : Nat → Prop} {A : Option Addr} {n c : Nat} {xs : List Word} (h : Sl w S A n c (xs.map Itm.mk)) {k : Nat} (hk : k < n) :
    ∃ b off, ∃ x : Word, A = some ⟨b, off, none⟩ ∧ b < w.heap.size ∧ S b ∧ xs[k]? = some x ∧ InI x.line ∧ InI x.col ∧ InI x.n ∧ x.text.size ≤ maxLen ∧ w.cell? ⟨b, off + k * 3, none⟩ = some (.int .i64 x.line) ∧ w.cell? ⟨b, off + k * 3 + 1, none⟩ = some (.int .i64 x.col) ∧ w.cell? ⟨b, off + k * 3 + 2, none⟩ = some (hasW x).v := by
  obtain ⟨b, off, x, us, e, hb, hS, hx, hus, hc⟩ := h.at_ hk
  obtain ⟨rfl, g1, g2, g3, g4⟩ := hus
  refine ⟨b, off, x.w, e, hb, hS, ?_, g1, g2, g3, g4, ?_, ?_, ?_⟩
  · rw [List.getElem?_map] at hx
    obtain ⟨y, hy, e⟩ := Option.map_eq_some_iff.1 hx
    rw [hy, ← e]
  · have := hc 0 _ rfl; simpa [Rep.size, Nat.add_assoc] using this
  · have := hc 1 _ rfl; simpa [Rep.size, Nat.add_assoc] using this
  · have := hc 2 _ rfl; simpa [Rep.size, Nat.add_assoc] using this
set_option maxRecDepth 100000 in
set_option maxHeartbeats 4000000 in
theorem held_any (x : Word) (w : World) : Calls Tryz.prog 63 #[.agg #[.int .i64 x.kind, .string x.text, .int .i64 x.n, .int .i64 x.line, .int .i64 x.col]] w (RetX (hasW x).v w) := by
  obtain ⟨k, t, n, ln, cl⟩ := x
  unfold hasW
  simp only
  by_cases h1 : k = 1
  · subst h1
    go_enter Tryz.func63, Tryz.ntmps63
    go_wp2_with fail
    go_ret
    exact ⟨rfl, ext_alloc _ _⟩
  by_cases h2 : k = 2
  · subst h2
    go_enter Tryz.func63, Tryz.ntmps63
    go_wp2_with fail
    go_ret
    exact ⟨rfl, ext_alloc _ _⟩
  by_cases h3 : k = 3
  · subst h3
    go_enter Tryz.func63, Tryz.ntmps63
    go_wp2_with fail
    go_ret
    exact ⟨rfl, ext_alloc _ _⟩
  · rw [if_neg h1, if_neg h2, if_neg h3]
    go_enter Tryz.func63, Tryz.ntmps63
    go_wp2_with fail
    go_ret
    exact ⟨rfl, ext_alloc _ _⟩
end Go.Proofs.YtppkanniefignaaGreatDoor
