/- law02: what a word has, as an interface value; items, cursors in memory. law02: the cursor as plain data: what each call tells, and leaves. law02: the program's cursor: able, next, over, here, More, Ends, Peek, is, Key, Is. -/
import Derived.Test.YtljglhaeonbfoaaGreatDoorG9
import Derived.Laws.StructEq
import Derived.Stop.Asserts
import Derived.Stop.IfaceNil
import Derived.BigGuardPart
set_option linter.unusedSimpArgs false
set_option linter.unusedVariables false
namespace Go.Proofs.YtljglhaeonbfoaaGreatDoor
open Go.RowKit
inductive Has where
 | nm (s : ByteArray)
 | num (n : Int)
 | mk (s : ByteArray)
 | stop
def Has.v : Has → Value
 | .nm s => .iface 123 (.string s)
 | .num n => .iface 3 (.int .i64 n)
 | .mk s => .iface 179 (.string s)
 | .stop => .iface 128 (.agg #[])
def Has.eq : Has → Has → Bool
 | .nm a, .nm b => a.toList == b.toList
 | .num a, .num b => a == b
 | .mk a, .mk b => a.toList == b.toList
 | .stop, .stop => true
 | _, _ => false
def hasW (x : Word) : Has := if x.kind = 1 then .nm x.text else if x.kind = 2 then .num x.n else if x.kind = 3 then .mk x.text else .stop
theorem any_iface : Tryz.prog.underlying 20 = some (.interface #[]) := Tryz.underlying20
theorem cmp_name : (Tryz.prog.info? 123).map (·.comparable) = some true := by kernel_rfl
theorem cmp_mark : (Tryz.prog.info? 179).map (·.comparable) = some true := by kernel_rfl
theorem cmp_int : (Tryz.prog.info? 3).map (·.comparable) = some true := by kernel_rfl
theorem cmp_stop : (Tryz.prog.info? 128).map (·.comparable) = some true := by kernel_rfl
theorem beq_list (a b : ByteArray) : (a == b) = (a.toList == b.toList) := beq_toListBytes a b
theorem eqIn_types (w : World) (d : Nat) (tx ty : TypeId) (vx vy : Value) (hne : tx ≠ ty) : (Op.equalIn (d + 3) 20 (.iface tx vx) (.iface ty vy)).run Tryz.prog w = .ok false w := by
 simp [Op.equalIn, run_underlying any_iface, hne]
theorem eqIn_name (w : World) (d : Nat) (a b : ByteArray) : (Op.equalIn (d + 3) 20 (.iface 123 (.string a)) (.iface 123 (.string b))).run Tryz.prog w = .ok (a.toList == b.toList) w := by
 obtain ⟨i1, e1, c1⟩ := Option.map_eq_some_iff.1 cmp_name
 simp [Op.equalIn, run_underlying any_iface, run_underlying Tryz.underlying123, typeInfo, e1, c1, beq_list]
theorem eqIn_mark (w : World) (d : Nat) (a b : ByteArray) : (Op.equalIn (d + 3) 20 (.iface 179 (.string a)) (.iface 179 (.string b))).run Tryz.prog w = .ok (a.toList == b.toList) w := by
 obtain ⟨i1, e1, c1⟩ := Option.map_eq_some_iff.1 cmp_mark
 simp [Op.equalIn, run_underlying any_iface, run_underlying Tryz.underlying179, typeInfo, e1, c1, beq_list]
theorem eqIn_int (w : World) (d : Nat) (a b : Int) : (Op.equalIn (d + 3) 20 (.iface 3 (.int .i64 a)) (.iface 3 (.int .i64 b))).run Tryz.prog w = .ok (a == b) w := by
 obtain ⟨i1, e1, c1⟩ := Option.map_eq_some_iff.1 cmp_int
 simp [Op.equalIn, run_underlying any_iface, run_underlying Tryz.underlying3, typeInfo, e1, c1]
theorem eqIn_stop (w : World) (d : Nat) : (Op.equalIn (d + 3) 20 (.iface 128 (.agg #[])) (.iface 128 (.agg #[]))).run Tryz.prog w = .ok true w := by
 obtain ⟨i1, e1, c1⟩ := Option.map_eq_some_iff.1 cmp_stop
 simp [Op.equalIn, run_underlying any_iface, run_underlying Tryz.underlying128, typeInfo, e1, c1]
theorem eqIn_has (a b : Has) (w : World) (d : Nat) : (Op.equalIn (d + 3) 20 a.v b.v).run Tryz.prog w = .ok (a.eq b) w := by
 cases a <;> cases b
 case nm.nm => exact eqIn_name w d _ _
 case num.num => exact eqIn_int w d _ _
 case mk.mk => exact eqIn_mark w d _ _
 case stop.stop => exact eqIn_stop w d
 all_goals exact eqIn_types w d _ _ _ _ (by decide)
theorem Has.form (a : Has) : ∃ t x, a.v = .iface t x := by cases a <;> exact ⟨_, _, rfl⟩
theorem run_eql_iface {t u tx : TypeId} {x y : Value} {b : Bool} {w : World} (h : (Op.equalIn 10000 t (.iface u x) (.iface tx y)).run Tryz.prog w = .ok b w) : (binOp .eql t (.iface u x) (.iface tx y)).run Tryz.prog w = .ok (.bool b) w := by
 simp only [binOp]
 simp [Op.equal, Op.maxDepth, h]
theorem run_neq_iface {t u tx : TypeId} {x y : Value} {b : Bool} {w : World} (h : (Op.equalIn 10000 t (.iface u x) (.iface tx y)).run Tryz.prog w = .ok b w) : (binOp .neq t (.iface u x) (.iface tx y)).run Tryz.prog w = .ok (.bool (!b)) w := by
 simp only [binOp]
 simp [Op.equal, Op.maxDepth, h]
theorem run_eql_has (a b : Has) (w : World) : (binOp .eql 20 a.v b.v).run Tryz.prog w = .ok (.bool (a.eq b)) w := by
 have h := eqIn_has a b w 9997
 obtain ⟨t, x, e⟩ := a.form
 obtain ⟨u, y, f⟩ := b.form
 rw [e, f] at h ⊢
 exact run_eql_iface h
theorem run_neq_has (a b : Has) (w : World) : (binOp .neq 20 a.v b.v).run Tryz.prog w = .ok (.bool (!a.eq b)) w := by
 have h := eqIn_has a b w 9997
 obtain ⟨t, x, e⟩ := a.form
 obtain ⟨u, y, f⟩ := b.form
 rw [e, f] at h ⊢
 exact run_neq_iface h
structure Itm where
 w : Word
instance : Rep Itm where
 size := 3
 is _ _ x vs := vs = [.int .i64 x.w.line, .int .i64 x.w.col, (hasW x.w).v] ∧ InI x.w.line ∧ InI x.w.col ∧ InI x.w.n ∧ x.w.text.size ≤ maxLen
 len h := by rw [h.1]; rfl
 keep h _ _ := h
 more h _ := h
 one h := by
  rw [h.1]
  intro u hu
  simp only [List.mem_cons, List.not_mem_nil, or_false] at hu
  rcases hu with rfl | rfl | rfl
  ·rfl
  ·rfl
  ·unfold hasW; repeat' split
   all_goals rfl
theorem at_Itm {w : World} {S : Nat → Prop} {A : Option Addr} {n c : Nat} {xs : List Word} (h : Sl w S A n c (xs.map Itm.mk)) {k : Nat} (hk : k < n) :
  ∃ b off, ∃ x : Word, A = some ⟨b, off, none⟩ ∧ b < w.heap.size ∧ S b ∧ xs[k]? = some x ∧ InI x.line ∧ InI x.col ∧ InI x.n ∧ x.text.size ≤ maxLen ∧ w.cell? ⟨b, off + k * 3, none⟩ = some (.int .i64 x.line) ∧ w.cell? ⟨b, off + k * 3 + 1, none⟩ = some (.int .i64 x.col) ∧ w.cell? ⟨b, off + k * 3 + 2, none⟩ = some (hasW x).v := by
 obtain ⟨b, off, x, us, e, hb, hS, hx, hus, hc⟩ := h.at_ hk
 obtain ⟨rfl, g1, g2, g3, g4⟩ := hus
 refine ⟨b, off, x.w, e, hb, hS, ?_, g1, g2, g3, g4, ?_, ?_, ?_⟩
 ·rw [List.getElem?_map] at hx
  obtain ⟨y, hy, e⟩ := Option.map_eq_some_iff.1 hx
  rw [hy, ← e]
 ·have := hc 0 _ rfl; simpa [Rep.size, Nat.add_assoc] using this
 ·have := hc 1 _ rfl; simpa [Rep.size, Nat.add_assoc] using this
 ·have := hc 2 _ rfl; simpa [Rep.size, Nat.add_assoc] using this
set_option maxRecDepth 100000 in
set_option maxHeartbeats 4000000 in
theorem held_any (x : Word) (w : World) : Calls Tryz.prog 84 #[.agg #[.int .i64 x.kind, .string x.text, .int .i64 x.n, .int .i64 x.line, .int .i64 x.col]] w (RetX (hasW x).v w) := by
 obtain ⟨k, t, n, ln, cl⟩ := x
 unfold hasW
 simp only
 by_cases h1 : k = 1
 ·subst h1
  go_enter Tryz.func84, Tryz.ntmps84
  go_wp2_with fail
  go_ret
  exact ⟨rfl, ext_alloc _ _⟩
 by_cases h2 : k = 2
 ·subst h2
  go_enter Tryz.func84, Tryz.ntmps84
  go_wp2_with fail
  go_ret
  exact ⟨rfl, ext_alloc _ _⟩
 by_cases h3 : k = 3
 ·subst h3
  go_enter Tryz.func84, Tryz.ntmps84
  go_wp2_with fail
  go_ret
  exact ⟨rfl, ext_alloc _ _⟩
 ·rw [if_neg h1, if_neg h2, if_neg h3]
  go_enter Tryz.func84, Tryz.ntmps84
  go_wp2_with fail
  go_ret
  exact ⟨rfl, ext_alloc _ _⟩
end Go.Proofs.YtljglhaeonbfoaaGreatDoor
namespace Go.Proofs.YtljglhaeonbfoaaGreatDoor
open Go.RowKit
structure Cur where
 ws : List Word
 e : Int
 line : Int
 col : Int
def moreC (s : Cur) : Bool := s.e == 0 && !s.ws.isEmpty
def headC (s : Cur) : Option Word := if s.e = 0 then s.ws.head? else none
def popC (s : Cur) : Cur := { s with ws := s.ws.tail }
def failC (x : Int) (s : Cur) : Cur :=
 if s.e ≠ 0 ∨ x = 0 then s else match s.ws with
  | [] => { s with e := x }
  | w :: _ => { s with e := x, line := w.line, col := w.col }
def isC (v : Has) (s : Cur) : Bool := match headC s with
 | some w => (hasW w).eq v
 | none => false
def overC (b : Bool) (s : Cur) : Cur := if b = true then popC s else s
def endsC (s : Cur) : Bool := match headC s with
 | some w => w.kind == 4
 | none => true
def peekC (s : Cur) : ByteArray := match headC s with
 | some w => if w.kind = 1 then w.text else ByteArray.empty
 | none => ByteArray.empty
def nameC (s : Cur) : ByteArray × Cur := match headC s with
 | some w => if w.kind = 1 then (w.text, popC s) else (ByteArray.empty, failC 7 s)
 | none => (ByteArray.empty, failC 7 s)
def numC (lo hi : Int) (s : Cur) : Int × Cur := match headC s with
 | some w => if w.kind = 2 then (if w.n < lo ∨ hi < w.n then (0, failC 3 s) else (w.n, popC s)) else (0, failC 7 s)
 | none => (0, failC 7 s)
def markC : List ByteArray → Cur → Cur
 | [], s => s
 | t :: l, s => markC l (if isC (.mk t) s = true then popC s else failC 7 s)
def endC (s : Cur) : Cur := match headC s with
 | some w => if w.kind = 4 then popC s else failC 7 s
 | none => s
def errC (s : Cur) : Int × Int × Int :=
 if s.e ≠ 0 then (s.line, s.col, s.e) else match s.ws with
  | [] => (0, 0, 0)
  | w :: _ => (w.line, w.col, 7)
structure CurOk (s : Cur) : Prop where
 k : ∀ w ∈ s.ws, w.kind = 1 ∨ w.kind = 2 ∨ w.kind = 3 ∨ w.kind = 4
 z : s.e = 0 → s.line = 0 ∧ s.col = 0
theorem popC_ok {s : Cur} (h : CurOk s) : CurOk (popC s) := ⟨fun w hw => h.k w (List.mem_of_mem_tail hw), h.z⟩
theorem failC_ok {s : Cur} (h : CurOk s) {x : Int} : CurOk (failC x s) := by
 unfold failC
 by_cases h1 : s.e ≠ 0 ∨ x = 0
 ·rw [if_pos h1]; exact h
 ·rw [if_neg h1]
  have hx0 : x ≠ 0 := fun e => h1 (.inr e)
  split
  ·exact ⟨h.k, fun e => absurd e hx0⟩
  ·exact ⟨h.k, fun e => absurd e hx0⟩
structure Only (c : Nat) (w w' : World) : Prop where
 os : w'.os = w.os
 tape : w'.tape = w.tape
 output : w'.output = w.output
 size : w.heap.size ≤ w'.heap.size
 block : ∀ b, b < w.heap.size → b ≠ c → w'.heap[b]? = w.heap[b]?
theorem Only.refl (c : Nat) (w : World) : Only c w w := ⟨rfl, rfl, rfl, Nat.le_refl _, fun _ _ _ => rfl⟩
theorem Only.trans {c : Nat} {a b d : World} (h : Only c a b) (h' : Only c b d) : Only c a d :=
 ⟨h'.os.trans h.os, h'.tape.trans h.tape, h'.output.trans h.output, Nat.le_trans h.size h'.size, fun k hk hc => (h'.block k (by have := h.size; omega) hc).trans (h.block k hk hc)⟩
theorem Only.of_below {c : Nat} {w w' : World} (h : Below w.heap.size w w') : Only c w w' := ⟨h.os, h.tape, h.output, h.size, fun k hk _ => h.block k hk⟩
theorem Only.ext {c : Nat} {w w' : World} (h : Only c w w') (u : Ext) : Only c w (w'.ext u) := h.trans (.of_below (Below.of_ext w' u (Nat.le_refl _)))
theorem Only.alloc {c : Nat} {w w' : World} (h : Only c w w') (o : Obj) : Only c w (w'.alloc o) := h.trans (.of_below ((Below.refl _ _).alloc (Nat.le_refl _) o))
theorem Only.set {c : Nat} {w w' : World} (h : Only c w w') {a : Addr} (ha : a.block = c) (v : Value) : Only c w (w'.setCell a v) :=
 h.trans ⟨rfl, rfl, rfl, by simp, fun k _ hc => Below.heap_setCell w' a v k (by rw [ha]; exact hc)⟩
theorem Only.below {c B : Nat} {w w' : World} (h : Only c w w') (hB : B ≤ c) (hs : B ≤ w.heap.size) : Below B w w' := ⟨h.os, h.tape, h.output, h.size, fun k hk => h.block k (by omega) (by omega)⟩
theorem Only.sl {c : Nat} {w w' : World} (h : Only c w w') {α : Type} [Rep α] {S : Nat → Prop} {A : Option Addr} {n k : Nat} {xs : List α} (hs : Sl w S A n k xs) (hc : ¬ S c) : Sl w' S A n k xs :=
 hs.keep h.size fun b hb hlt => h.block b hlt (fun e => hc (e ▸ hb))
theorem row_setB {w : World} {b : Nat} {cs : Array Value} {t : TypeId} (h : w.heap[b]? = some (.cells cs t (0, 0))) (j : Nat) (u : Value) : (w.setCell ⟨b, j, none⟩ u).heap[b]? = some (.cells (cs.setIfInBounds j u) t (0, 0)) := by
 show (w.heap.modify b _)[b]? = _
 rw [Array.getElem?_modify, if_pos rfl, h]; rfl
def curCells (v : Value) (s : Cur) : Array Value := #[v, .int .i64 s.e, .int .i64 s.line, .int .i64 s.col, .bool true]
structure CurAt (w : World) (S : Nat → Prop) (c : Nat) (s : Cur) : Prop where
 cells : ∃ A n k, w.heap[c]? = some (.cells (curCells (.slice A n k) s) 109 (0, 0)) ∧ Sl w S A n k (s.ws.map Itm.mk)
 ok : CurOk s
 nS : ¬ S c
section
variable {w w' : World} {S : Nat → Prop} {c d : Nat} {s s' : Cur}
theorem CurAt.lt (h : CurAt w S c s) : c < w.heap.size := by
 obtain ⟨A, n, k, hb, _⟩ := h.cells
 exact (Array.getElem?_eq_some_iff.1 hb).1
theorem CurAt.keep (h : CurAt w S c s) (hs : w.heap.size ≤ w'.heap.size) (hc : w'.heap[c]? = w.heap[c]?) (hk : ∀ b, S b → b < w.heap.size → w'.heap[b]? = w.heap[b]?) : CurAt w' S c s := by
 obtain ⟨A, n, k, hb, hsl⟩ := h.cells
 exact ⟨⟨A, n, k, hc.trans hb, hsl.keep hs hk⟩, h.ok, h.nS⟩
theorem CurAt.below (h : CurAt w S c s) (hb : Below w.heap.size w w') : CurAt w' S c s := h.keep hb.size (hb.block c h.lt) fun b _ hb' => hb.block b hb'
theorem CurAt.ext (h : CurAt w S c s) (u : Ext) : CurAt (w.ext u) S c s := h.below (Below.of_ext w u (Nat.le_refl _))
theorem CurAt.alloc (h : CurAt w S c s) (o : Obj) : CurAt (w.alloc o) S c s := h.below ((Below.refl _ _).alloc (Nat.le_refl _) o)
theorem CurAt.drew (h : CurAt w S c s) : CurAt w.drew S c s := h.below ((Below.refl _ _).drew)
theorem CurAt.at_ (h : CurAt w S c s) : ∃ A n k, w.cell? ⟨c, 0, none⟩ = some (.slice A n k) ∧ w.cell? ⟨c, 1, none⟩ = some (.int .i64 s.e) ∧ w.cell? ⟨c, 2, none⟩ = some (.int .i64 s.line) ∧ w.cell? ⟨c, 3, none⟩ = some (.int .i64 s.col) ∧ w.cell? ⟨c, 4, none⟩ = some (.bool true) ∧ Sl w S A n k (s.ws.map Itm.mk) := by
 obtain ⟨A, n, k, hb, hsl⟩ := h.cells
 exact ⟨A, n, k, cell_of_row w c _ _ _ (0, 0) hb, cell_of_row w c _ _ _ (0, 0) hb, cell_of_row w c _ _ _ (0, 0) hb, cell_of_row w c _ _ _ (0, 0) hb, cell_of_row w c _ _ _ (0, 0) hb, hsl⟩
theorem CurAt.moreS {S' : Nat → Prop} (h : CurAt w S c s) (hS : ∀ b, b < w.heap.size → S b → S' b) (hn : ¬ S' c) : CurAt w S' c s := by
 obtain ⟨A, n, k, hb, hsl⟩ := h.cells
 exact ⟨⟨A, n, k, hb, hsl.more hS⟩, h.ok, hn⟩
theorem CurAt.fz (h : CurAt w S c s) (j : Nat) : w.frozen? ⟨c, j, none⟩ = false := by
 obtain ⟨A, n, k, hb, hsl⟩ := h.cells
 simp [World.frozen?, hb]
theorem CurAt.putWs (h : CurAt w S c s) {A : Option Addr} {n k : Nat} (hs : Sl w S A n k (s'.ws.map Itm.mk)) (he : s'.e = s.e) (hl : s'.line = s.line) (hc : s'.col = s.col) (hok : CurOk s') : CurAt (w.setCell ⟨c, 0, none⟩ (.slice A n k)) S c s' := by
 obtain ⟨A0, n0, k0, hb, hsl⟩ := h.cells
 exact ⟨⟨A, n, k, by rw [row_setB hb]; unfold curCells; rw [he, hl, hc]; rfl, hs.setCell h.nS _⟩, hok, h.nS⟩
end
def CurP (S : Nat → Prop) (c : Nat) (w : World) (s' : Cur) (v : Value) (e : Ending) (w' : World) : Prop := e = .returned v ∧ CurAt w' S c s' ∧ Only c w w'
end Go.Proofs.YtljglhaeonbfoaaGreatDoor
namespace Go.Proofs.YtljglhaeonbfoaaGreatDoor
open Go.RowKit
theorem Sl.tail_ {α : Type} [Rep α] {w : World} {S : Nat → Prop} {b off n k : Nat} {xs : List α} (h : Sl w S (some ⟨b, off, none⟩) n k xs) (hn : 0 < n) : Sl w S (some ⟨b, off + Rep.size α, none⟩) (n - 1) (k - 1) xs.tail := by
 obtain ⟨h1, h2, h3, h4, h5⟩ := h
 refine ⟨by rw [List.length_tail]; omega, by omega, by omega, (fun e => nomatch e), fun h0 => ?_⟩
 obtain ⟨b', off', e, hb, hS, hx⟩ := h5 hn
 injection e with e; injection e with e1 e2
 subst e1 e2
 refine ⟨b, off + Rep.size α, rfl, hb, hS, fun i x hi => ?_⟩
 rw [List.getElem?_tail] at hi
 obtain ⟨us, hus, hc⟩ := hx (i + 1) x hi
 refine ⟨us, hus, fun j u hj => ?_⟩
 rw [← hc j u hj]
 congr 2
 rw [Nat.add_mul]; omega
theorem Sl.zero_ {α : Type} [Rep α] {w : World} {S : Nat → Prop} {A : Option Addr} : Sl w S A 0 0 ([] : List α) := ⟨rfl, Nat.le_refl _, by simp [maxLen], fun _ => rfl, fun h => absurd h (by omega)⟩
section
variable {w : World} {S : Nat → Prop} {c : Nat} {s : Cur}
def nextV (s : Cur) : Value := match s.ws with
 | [] => .nilIface
 | x :: _ => (hasW x).v
def hereV (s : Cur) : Value := match s.ws with
 | [] => .agg #[.int .i64 0, .int .i64 0]
 | x :: _ => .agg #[.int .i64 x.line, .int .i64 x.col]
theorem headC_ok {s : Cur} (h : s.e = 0) : headC s = s.ws.head? := by unfold headC; rw [if_pos h]
theorem headC_bad {s : Cur} (h : s.e ≠ 0) : headC s = none := by unfold headC; rw [if_neg h]
set_option maxHeartbeats 4000000 in
theorem cAble (h : CurAt w S c s) : Calls Tryz.prog 90 #[.pointer (some ⟨c, 0, none⟩)] w (Ret (.bool (s.e == 0)) w) := by
 obtain ⟨A, n, k, k0, k1, k2, k3, k4, hs⟩ := h.at_
 have hlt := h.lt
 obtain ⟨b, hb⟩ : ∃ b, (s.e == 0) = b := ⟨_, rfl⟩
 rw [hb]
 clear h hs
 go_enter Tryz.func90, Tryz.ntmps90
 go_wp2_with fail
 go_ret
 exact ⟨rfl, rfl⟩
set_option maxHeartbeats 4000000 in
theorem cNext (h : CurAt w S c s) : Calls Tryz.prog 96 #[.pointer (some ⟨c, 0, none⟩)] w (Ret (nextV s) w) := by
 obtain ⟨A, n, k, k0, k1, k2, k3, k4, hs⟩ := h.at_
 have hlt := h.lt
 have hn := hs.nle
 have HS := hide hs
 clear h hs k1 k2 k3 k4
 by_cases h0 : 0 < n
 ·obtain ⟨b, off, x, rfl, hb, _, hx, _, _, _, _, c0, c1, c2⟩ := at_Itm HS.out h0
  have e : nextV s = (hasW x).v := by
   unfold nextV
   cases hw : s.ws with
   | nil => rw [hw] at hx; cases hx
   | cons y l => rw [hw] at hx; simp at hx; rw [hx]
  rw [e]
  obtain ⟨t, v, ev⟩ := (hasW x).form
  rw [ev] at c2 ⊢
  clear hx e ev
  go_enter Tryz.func96, Tryz.ntmps96
  go_wp2_with fail
  go_ret
  exact ⟨rfl, rfl⟩
 ·have e : nextV s = .nilIface := by
   unfold nextV
   have := HS.out.len
   rw [List.length_map] at this
   cases hw : s.ws with
   | nil => rfl
   | cons y l => rw [hw] at this; simp at this; omega
  obtain rfl : n = 0 := by omega
  rw [e]
  go_enter Tryz.func96, Tryz.ntmps96
  go_wp2_with fail
  go_ret
  exact ⟨rfl, rfl⟩
set_option maxHeartbeats 4000000 in
theorem cOver (h : CurAt w S c s) (hne : s.ws ≠ []) : Calls Tryz.prog 88 #[.pointer (some ⟨c, 0, none⟩)] w (CurP S c w (popC s) (.tuple #[])) := by
 obtain ⟨A, n, k, k0, k1, k2, k3, k4, hs⟩ := h.at_
 have hlt := h.lt
 have hn := hs.nle
 have hf := h.fz 0
 have h0 : 0 < n := by
  have := hs.len; rw [List.length_map] at this
  cases hw : s.ws with
  | nil => exact absurd hw hne
  | cons y l => rw [hw] at this; simp at this; omega
 have HS := hide hs; have H := hide h
 have hnk := hs.2.1
 clear h hs k1 k2 k3 k4 hne
 obtain ⟨b, off, _, rfl, hb, _⟩ := at_Itm HS.out h0
 go_enter Tryz.func88, Tryz.ntmps88
 go_wp2_with fail
 all_goals go_end0
 ·subst_vars
  have hn1 : n = 1 := by omega
  subst hn1
  have hl : s.ws.tail = [] := by have := HS.out.len; rw [List.length_map] at this; cases hw : s.ws with | nil => rfl | cons y l => rw [hw] at this; simp at this; simp [this]
  refine ⟨rfl, H.out.putWs (s' := popC s) ?_ rfl rfl rfl (popC_ok H.out.ok), (Only.refl c w).set rfl _⟩
  show Sl w S _ (1 - 1) 0 (s.ws.tail.map Itm.mk)
  rw [hl]
  exact Sl.zero_
 ·refine ⟨rfl, H.out.putWs (s' := popC s) ?_ rfl rfl rfl (popC_ok H.out.ok), (Only.refl c w).set rfl _⟩
  have := HS.out.tail_ h0
  rw [← List.map_tail] at this
  exact this
set_option maxHeartbeats 4000000 in
theorem cHere (h : CurAt w S c s) : Calls Tryz.prog 91 #[.pointer (some ⟨c, 0, none⟩)] w (RetX (hereV s) w) := by
 unfold hereV
 obtain ⟨A, n, k, k0, k1, k2, k3, k4, hs⟩ := h.at_
 have hlt := h.lt
 have hn := hs.nle
 have HS := hide hs
 clear h hs k1 k2 k3 k4
 by_cases h0 : 0 < n
 ·obtain ⟨b, off, x, rfl, hb, _, hx, _, _, _, _, c0, c1, c2⟩ := at_Itm HS.out h0
  obtain ⟨l, hw⟩ : ∃ l, s.ws = x :: l := by
   cases hw : s.ws with
   | nil => rw [hw] at hx; cases hx
   | cons y l => rw [hw] at hx; simp at hx; rw [hx]; exact ⟨_, rfl⟩
  rw [hw]
  simp only
  clear hx hw HS c2
  simp only [Nat.zero_mul, Nat.add_zero] at c0 c1
  go_enter Tryz.func91, Tryz.ntmps91
  go_wp2_with fail
  refine bodyPost_ret (results_cell_row Tryz.results91 _ _ w.heap.size _ _ (0, 0) _ rfl (heap_alloc_new w _) Tryz.underlying107 rfl (by kernel_rfl)) rfl ?_
  exact ⟨rfl, ext_alloc _ _⟩
 ·have hw : s.ws = [] := by
   have := HS.out.len
   rw [List.length_map] at this
   cases hw : s.ws with
   | nil => rfl
   | cons y l => rw [hw] at this; simp at this; omega
  obtain rfl : n = 0 := by omega
  rw [hw]
  simp only
  clear HS hw
  go_enter Tryz.func91, Tryz.ntmps91
  go_wp2_with fail
  refine bodyPost_ret (results_cell_row Tryz.results91 _ _ w.heap.size _ _ (0, 0) _ rfl (heap_alloc_new w _) Tryz.underlying107 rfl (by kernel_rfl)) rfl ?_
  exact ⟨rfl, ext_alloc _ _⟩
set_option maxHeartbeats 4000000 in
theorem cMore (h : CurAt w S c s) : Calls Tryz.prog 43 #[.pointer (some ⟨c, 0, none⟩)] w (Ret (.bool (moreC s)) w) := by
 have HA := hide (cAble h); have HN := hide (cNext h)
 have hm : moreC s = (s.e == 0 && !s.ws.isEmpty) := rfl
 rw [hm]
 unfold nextV at HN
 clear hm h
 obtain ⟨ws, e, l, cl⟩ := s
 simp only at HA HN ⊢
 obtain ⟨b, hb⟩ : ∃ b, (e == 0) = b := ⟨_, rfl⟩
 rw [hb] at HA ⊢
 clear hb
 cases ws with
 | nil =>
  simp only at HN
  have e : (b && !([] : List Word).isEmpty) = false := by simp
  rw [e]
  clear e
  cases b
  all_goals
   go_enter Tryz.func43, Tryz.ntmps43
   go_wp2_with (first | (go_at_call 90; refine HA.out.mono ?_; rintro e w' ⟨rfl, rfl⟩) | (go_at_call 96; refine HN.out.mono ?_; rintro e w' ⟨rfl, rfl⟩))
   go_ret
   exact ⟨rfl, rfl⟩
 | cons x ws =>
  simp only at HN
  obtain ⟨t, v, ev⟩ := (hasW x).form
  rw [ev] at HN
  clear ev
  have e : (b && !(x :: ws : List Word).isEmpty) = b := by simp
  rw [e]
  clear e
  cases b
  all_goals
   go_enter Tryz.func43, Tryz.ntmps43
   go_wp2_with (first | (go_at_call 90; refine HA.out.mono ?_; rintro e w' ⟨rfl, rfl⟩) | (go_at_call 96; refine HN.out.mono ?_; rintro e w' ⟨rfl, rfl⟩))
   go_ret
   exact ⟨rfl, rfl⟩
theorem cEnds (h : CurAt w S c s) : Calls Tryz.prog 92 #[.pointer (some ⟨c, 0, none⟩)] w (Ret (.bool (endsC s)) w) := by
 have HM := hide (cMore h); have HN := hide (cNext h)
 have hk := h.ok.k
 unfold nextV at HN
 unfold moreC at HM
 unfold endsC
 clear h
 by_cases he : s.e = 0
 ·rw [headC_ok he]
  rw [he] at HM
  cases hw : s.ws with
  | nil =>
   rw [hw] at HM HN
   have hm : ((0 : Int) == 0 && !([] : List Word).isEmpty) = false := rfl
   rw [hm] at HM
   clear hm hk hw he
   simp only [List.head?_nil]
   go_enter Tryz.func92, Tryz.ntmps92
   go_wp2_with (first | (go_at_call 43; refine HM.out.mono ?_; rintro e w' ⟨rfl, rfl⟩) | (go_at_call 96; refine HN.out.mono ?_; rintro e w' ⟨rfl, rfl⟩))
   go_ret
   exact ⟨rfl, rfl⟩
  | cons x l =>
   rw [hw] at HM HN
   have hm : ((0 : Int) == 0 && !(x :: l).isEmpty) = true := rfl
   rw [hm] at HM
   have hx := hk x (by rw [hw]; simp)
   have heq := run_eql_has (hasW x) .stop w
   have hv : (hasW x).eq .stop = (x.kind == 4) := by unfold hasW; rcases hx with h | h | h | h <;> rw [h] <;> rfl
   rw [hv] at heq
   simp only [List.head?_cons]
   obtain ⟨t, v, ev⟩ := (hasW x).form
   simp only at HN
   rw [ev] at HN heq
   have hst : Has.stop.v = .iface 128 (.agg #[]) := rfl
   rw [hst] at heq
   obtain ⟨b, hb⟩ : ∃ b, (x.kind == 4) = b := ⟨_, rfl⟩
   rw [hb] at heq ⊢
   clear hm hk hw he hx hv ev hst hb
   go_enter Tryz.func92, Tryz.ntmps92
   go_wp2_with (first | (simp only [heq]) | (go_at_call 43; refine HM.out.mono ?_; rintro e w' ⟨rfl, rfl⟩) | (go_at_call 96; refine HN.out.mono ?_; rintro e w' ⟨rfl, rfl⟩))
   go_ret
   exact ⟨rfl, rfl⟩
 ·rw [headC_bad he]
  have hm : (s.e == 0 && !s.ws.isEmpty) = false := by simp [he]
  rw [hm] at HM
  clear hm hk he HN
  simp only
  go_enter Tryz.func92, Tryz.ntmps92
  go_wp2_with (first | (go_at_call 43; refine HM.out.mono ?_; rintro e w' ⟨rfl, rfl⟩))
  go_ret
  exact ⟨rfl, rfl⟩
end
end Go.Proofs.YtljglhaeonbfoaaGreatDoor
