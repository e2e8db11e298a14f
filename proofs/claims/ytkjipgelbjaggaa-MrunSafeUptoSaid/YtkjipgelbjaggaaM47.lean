/- Lists that are lent: with marks behind their ends, in their spare room, and so the lists within them. Walks: lists of numbers that are lent, and kept. Walks: numbers that were lent are found kept. Walks: structs that are lent, lists of them, and that they are kept. Written by gen_lend.py. -/
import Derived.Test.YtkjipgelbjaggaaM02
import Derived.Test.YtkjipgelbjaggaaM06
import Derived.Test.YtkjipgelbjaggaaM15
import Derived.Test.YtkjipgelbjaggaaM27
import Derived.Test.YtkjipgelbjaggaaM46
set_option linter.unusedSimpArgs false
set_option linter.unusedVariables false
namespace Go.Proofs.Ytkjipgelbjaggaa
open Go.RowKit

/-- A thing whose lists are lent. -/
structure L (α : Type) where
  val : α
class Lend (α : Type) [Rep α] where
  rep : Rep (L α)
  size_eq : rep.size = Rep.size α
  marks : List α
  twelve : marks.length = 12
  forget : ∀ {w S x vs}, rep.is w S (L.mk x) vs → Rep.is w S x vs
instance {α : Type} [Rep α] [Lend α] : Rep (L α) := Lend.rep
/-- An element of a row that is lent, and a mark behind it. -/
inductive E (α : Type) where
  | lent (x : α)
  | plain (x : α)
section
variable {α : Type} [Rep α] [Lend α]
instance : Rep (E α) where
  size := Rep.size α
  is w S e vs := match e with
    | .lent x => Rep.is w S (L.mk x) vs
    | .plain x => Rep.is w S x vs
  len {w S x vs} h := by
    cases x with
    | lent x => exact (Rep.len (α := L α) h).trans Lend.size_eq
    | plain x => exact Rep.len (α := α) h
  keep {w w' S x vs} h hs hk := by
    cases x with
    | lent x => exact Rep.keep (α := L α) h hs hk
    | plain x => exact Rep.keep (α := α) h hs hk
  more {w S S' x vs} h hb := by
    cases x with
    | lent x => exact Rep.more (α := L α) h hb
    | plain x => exact Rep.more (α := α) h hb
  one {w S x vs} h := by
    cases x with
    | lent x => exact Rep.one (α := L α) h
    | plain x => exact Rep.one (α := α) h
def row (xs : List α) : List (E α) := xs.map .lent ++ (Lend.marks : List α).map .plain
/-- The first marks. -/
def mks (α : Type) [Rep α] [Lend α] (k : Nat) : List α := (Lend.marks : List α).take k
theorem mks_all : mks α 12 = Lend.marks := List.take_of_length_le (by rw [Lend.twelve]; omega)
theorem mks_succ {k : Nat} {x : α} (h : (Lend.marks : List α)[k]? = some x) : mks α (k + 1) = mks α k ++ [x] := by
  obtain ⟨hl, he⟩ := List.getElem?_eq_some_iff.1 h
  unfold mks; rw [List.take_succ_eq_append_getElem hl, he]
theorem mks_len {k : Nat} (h : k ≤ 12) : (mks α k).length = k := by unfold mks; rw [List.length_take, Lend.twelve]; omega
theorem row_lent {xs : List α} {k : Nat} {x : α} (h : xs[k]? = some x) : (row xs)[k]? = some (.lent x) := by
  have hl : k < xs.length := (List.getElem?_eq_some_iff.1 h).1
  unfold row
  rw [List.getElem?_append_left (by simpa using hl)]
  simp [h]
theorem row_plain {xs : List α} {j : Nat} {x : α} (h : (Lend.marks : List α)[j]? = some x) : (row xs)[xs.length + j]? = some (.plain x) := by
  unfold row
  rw [List.getElem?_append_right (by simp)]
  simp [h]
theorem row_len {xs : List α} : (row xs).length = xs.length + 12 := by simp [row, Lend.twelve]
/-- What is lent reads as it did. -/
theorem Sl.forget {w : World} {S : Nat → Prop} {A : Option Addr} {n c : Nat} {xs : List α} (h : Sl w S A (n + 12) c (row xs)) (hn : xs.length = n) : Sl w S A n c xs := by
  obtain ⟨h1, h2, h3, h4, h5⟩ := h
  refine ⟨hn, by omega, h3, h4, fun h0 => ?_⟩
  obtain ⟨b, off, e, hb, hS, hx⟩ := h5 (by omega)
  refine ⟨b, off, e, hb, hS, fun i x hi => ?_⟩
  obtain ⟨us, hus, hc⟩ := hx i _ (row_lent hi)
  exact ⟨us, Lend.forget hus, hc⟩
theorem Sl.at_lent {w : World} {S : Nat → Prop} {A : Option Addr} {n c : Nat} {xs : List α} (h : Sl w S A (n + 12) c (row xs)) (hn : xs.length = n) {k : Nat} (hk : k < n) :
    ∃ b off x us, A = some ⟨b, off, none⟩ ∧ b < w.heap.size ∧ S b ∧ xs[k]? = some x ∧ Rep.is w S (L.mk x) us ∧ ∀ j u, us[j]? = some u → w.cell? ⟨b, off + (k * Rep.size α + j), none⟩ = some u := by
  obtain ⟨b, off, y, us, e, hb, hS, hx, hus, hc⟩ := h.at_ (show k < n + 12 by omega)
  have hl : k < xs.length := by omega
  have hx' := row_lent (List.getElem?_eq_getElem hl)
  rw [hx'] at hx
  injection hx with hx
  subst hx
  exact ⟨b, off, xs[k], us, e, hb, hS, List.getElem?_eq_getElem hl, hus, hc⟩
theorem Sl.at_mark {w : World} {S : Nat → Prop} {A : Option Addr} {n c : Nat} {xs : List α} (h : Sl w S A (n + 12) c (row xs)) (hn : xs.length = n) {j : Nat} (hj : j < 12) {x : α} (hx : (Lend.marks : List α)[j]? = some x) :
    ∃ b off us, A = some ⟨b, off, none⟩ ∧ b < w.heap.size ∧ S b ∧ Rep.is w S x us ∧ ∀ i u, us[i]? = some u → w.cell? ⟨b, off + ((n + j) * Rep.size α + i), none⟩ = some u := by
  obtain ⟨b, off, y, us, e, hb, hS, hy, hus, hc⟩ := h.at_ (show n + j < n + 12 by omega)
  have hx' := row_plain (xs := xs) hx
  rw [hn, hy] at hx'
  injection hx' with hx'
  subst hx'
  exact ⟨b, off, us, e, hb, hS, hus, hc⟩
end
instance {α : Type} [Rep α] [Lend α] : Rep (L (List α)) where
  size := 1
  is w S xs vs := ∃ A n c, vs = [.slice A n c] ∧ xs.val.length = n ∧ Sl w S A (n + 12) c (row xs.val)
  len h := by obtain ⟨A, n, c, rfl, _, _⟩ := h; rfl
  keep h hs hk := by obtain ⟨A, n, c, rfl, hn, h⟩ := h; exact ⟨A, n, c, rfl, hn, h.keep hs hk⟩
  more h hb := by obtain ⟨A, n, c, rfl, hn, h⟩ := h; exact ⟨A, n, c, rfl, hn, h.more hb⟩
  one h := by obtain ⟨A, n, c, rfl, _, _⟩ := h; simp [Value.oneCell']
theorem L.forget {α : Type} [Rep α] [Lend α] {w : World} {S : Nat → Prop} {xs : List α} {vs : List Value} (h : Rep.is w S (L.mk xs) vs) : Rep.is w S xs vs := by
  obtain ⟨A, n, c, rfl, hn, h⟩ := h
  exact ⟨A, n, c, rfl, h.forget hn⟩
instance : Lend Int where
  rep := Rep.via L.val
  size_eq := rfl
  marks := (List.range 12).map fun i => markI 1 (i : Nat)
  twelve := rfl
  forget h := h

/-- It returns a list that is lent, in new memory. -/
def RetLent {α : Type} [Rep α] [Lend α] (xs : List α) (w : World) (e : Ending) (w' : World) : Prop :=
  ∃ A n c, e = .returned (.slice A n c) ∧ xs.length = n ∧ Sl w' (fun b => w.heap.size ≤ b) A (n + 12) c (row xs) ∧ ∃ u : Ext, w' = w.ext u
theorem OwnL.form_pos {α : Type} [Rep α] {w : World} {base : Nat} {T : TypeId} {S : Nat → Prop} {v : Value} {xs : List α} {n : Nat} (h : OwnL w base T S v xs) (hn : xs.length = n) (h0 : 0 < n) : ∃ g c, v = .slice (some ⟨g, 0, none⟩) n c ∧ n ≤ c ∧ c ≤ 9223372036854775807 := by
  obtain ⟨vals, ⟨_, h⟩, _⟩ := h
  rcases h with ⟨rfl, h1⟩ | ⟨g, cap, cur, rfl, _, _, hc, hm, _⟩
  · omega
  · subst hn; exact ⟨g, cap, rfl, hc, by unfold maxLen at hm; omega⟩
end Go.Proofs.Ytkjipgelbjaggaa
set_option linter.unusedSimpArgs false
set_option linter.unusedVariables false
namespace Go.Proofs.Ytkjipgelbjaggaa
open Go.RowKit

theorem markI_in (i : Nat) (h : i < 12) : InI (markI 1 i) := by unfold InI markI; omega
theorem InI_zero : InI 0 := by unfold InI; decide
theorem marks_int {j : Nat} (h : j < 12) : (Lend.marks : List Int)[j]? = some (markI 1 j) := by
  show ((List.range 12).map fun i => markI 1 (i : Nat))[j]? = _
  simp [h]
theorem lentInts_close {w w1 : World} {v : Value} {n : Nat} {xs : List Int} (HL : Hd (xs.length = n)) (ho : OwnL w1 w.heap.size 3 (fun _ => False) v (xs ++ mks Int 12)) (hb : Below w.heap.size w w1) :
    ∃ g cap, v = .slice (some ⟨g, 0, none⟩) (n + 12) cap ∧ n + 12 ≤ cap ∧ cap ≤ 9223372036854775807 ∧ RetLent xs w (.returned (.slice (some ⟨g, 0, none⟩) n cap)) w1 := by
  rw [mks_all] at ho
  obtain ⟨g, cap, rfl, hc, hm⟩ := ho.form_pos (n := n + 12) (by rw [List.length_append, HL.out]; rfl) (by omega)
  refine ⟨g, cap, rfl, hc, hm, some ⟨g, 0, none⟩, n, cap, rfl, HL.out, ?_, Below.to_ext hb⟩
  have hs := ho.sl (S' := fun b => w.heap.size ≤ b) (fun b _ h => by rcases h with h | h; exact h.elim; exact h)
  obtain ⟨q1, q2, q3, q4, q5⟩ := hs
  refine ⟨by rw [row_len, HL.out], q2, q3, q4, fun h0 => ?_⟩
  obtain ⟨b, off, e, hb, hS, hx⟩ := q5 h0
  refine ⟨b, off, e, hb, hS, fun i x hi => ?_⟩
  have hi' : (xs ++ (Lend.marks : List Int))[i]? = some (match x with | .lent y => y | .plain y => y) := by
    unfold row at hi
    rw [List.getElem?_append] at hi ⊢
    rw [List.length_map] at hi
    split
    · rename_i hlt
      rw [if_pos hlt, List.getElem?_map] at hi
      cases hq : xs[i]? with
      | none => rw [hq] at hi; simp at hi
      | some q => rw [hq] at hi; simp at hi; subst hi; rfl
    · rename_i hlt
      rw [if_neg hlt, List.getElem?_map] at hi
      cases hq : (Lend.marks : List Int)[i - xs.length]? with
      | none => rw [hq] at hi; simp at hi
      | some q => rw [hq] at hi; simp at hi; subst hi; rfl
  obtain ⟨us, hus, hc⟩ := hx i _ hi'
  refine ⟨us, ?_, hc⟩
  cases x with
  | lent y => exact hus
  | plain y => exact hus
end Go.Proofs.Ytkjipgelbjaggaa
set_option linter.unusedSimpArgs false
set_option linter.unusedVariables false
namespace Go.Proofs.Ytkjipgelbjaggaa
open Go.RowKit

theorem at_lent_int {w : World} {S : Nat → Prop} {A : Option Addr} {n c : Nat} {xs : List Int} (h : Sl w S A (n + 12) c (row xs)) (hn : xs.length = n) {k : Nat} (hk : k < n) :
    ∃ b off x, A = some ⟨b, off, none⟩ ∧ b < w.heap.size ∧ xs[k]? = some x ∧ w.cell? ⟨b, off + k, none⟩ = some (.int .i64 x) := by
  obtain ⟨b, off, x, us, e, hb, _, hx, hus, hc⟩ := h.at_lent hn hk
  obtain ⟨rfl, hi⟩ := hus
  refine ⟨b, off, x, e, hb, hx, ?_⟩
  have := hc 0 _ rfl
  simpa [Rep.size] using this
theorem at_mark_int {w : World} {S : Nat → Prop} {A : Option Addr} {n c : Nat} {xs : List Int} (h : Sl w S A (n + 12) c (row xs)) (hn : xs.length = n) {j : Nat} (hj : j < 12) :
    ∃ b off, A = some ⟨b, off, none⟩ ∧ b < w.heap.size ∧ w.cell? ⟨b, off + (n + j), none⟩ = some (.int .i64 (markI 1 j)) := by
  obtain ⟨b, off, us, e, hb, _, hus, hc⟩ := h.at_mark hn hj (marks_int hj)
  obtain ⟨rfl, hi⟩ := hus
  refine ⟨b, off, e, hb, ?_⟩
  have := hc 0 _ rfl
  simpa [Rep.size] using this
end Go.Proofs.Ytkjipgelbjaggaa
set_option linter.unusedSimpArgs false
set_option linter.unusedVariables false
namespace Go.Proofs.Ytkjipgelbjaggaa
open Go.RowKit

abbrev repLIns : Rep (L Ins) := Rep.via fun y => (y.val.op, y.val.dst, y.val.a, y.val.b, y.val.imm, y.val.callee, (L.mk y.val.args : L (List Int)), y.val.many)
theorem LIns.open_ {w : World} {S : Nat → Prop} {x : Ins} {vs : List Value} (h : repLIns.is w S (L.mk x) vs) : ∃ A0 : Option Addr, ∃ n0 : Nat, ∃ c0 : Nat, vs = [.int .i64 x.op, .int .i64 x.dst, .int .i64 x.a, .int .i64 x.b, .int .i64 x.imm, .int .i64 x.callee, .slice A0 n0 c0, .int .i64 x.many] ∧ InI x.op ∧ InI x.dst ∧ InI x.a ∧ InI x.b ∧ InI x.imm ∧ InI x.callee ∧ (x.args.length = n0 ∧ Sl w S A0 (n0 + 12) c0 (row x.args)) ∧ InI x.many := by
  obtain ⟨us0, ts0, e0, h0, r0⟩ := h
  obtain ⟨us1, ts1, e1, h1, r1⟩ := r0
  obtain ⟨us2, ts2, e2, h2, r2⟩ := r1
  obtain ⟨us3, ts3, e3, h3, r3⟩ := r2
  obtain ⟨us4, ts4, e4, h4, r4⟩ := r3
  obtain ⟨us5, ts5, e5, h5, r5⟩ := r4
  obtain ⟨us6, ts6, e6, h6, r6⟩ := r5
  obtain ⟨v7, f7⟩ := h0
  obtain ⟨v8, f8⟩ := h1
  obtain ⟨v9, f9⟩ := h2
  obtain ⟨v10, f10⟩ := h3
  obtain ⟨v11, f11⟩ := h4
  obtain ⟨v12, f12⟩ := h5
  obtain ⟨A13, n13, c13, v13, l13, f13⟩ := h6
  obtain ⟨v14, f14⟩ := r6
  refine ⟨A13, n13, c13, ?_, f7, f8, f9, f10, f11, f12, ⟨l13, f13⟩, f14⟩
  subst_vars; simp
theorem LIns.mk_ {w : World} {S : Nat → Prop} {x : Ins} {A0 : Option Addr} {n0 : Nat} {c0 : Nat} (f0 : InI x.op) (f1 : InI x.dst) (f2 : InI x.a) (f3 : InI x.b) (f4 : InI x.imm) (f5 : InI x.callee) (f6 : (x.args.length = n0 ∧ Sl w S A0 (n0 + 12) c0 (row x.args))) (f7 : InI x.many) : repLIns.is w S (L.mk x) [.int .i64 x.op, .int .i64 x.dst, .int .i64 x.a, .int .i64 x.b, .int .i64 x.imm, .int .i64 x.callee, .slice A0 n0 c0, .int .i64 x.many] := by
  exact ⟨_, _, rfl, ⟨rfl, f0⟩, ⟨_, _, rfl, ⟨rfl, f1⟩, ⟨_, _, rfl, ⟨rfl, f2⟩, ⟨_, _, rfl, ⟨rfl, f3⟩, ⟨_, _, rfl, ⟨rfl, f4⟩, ⟨_, _, rfl, ⟨rfl, f5⟩, ⟨_, _, rfl, ⟨_, _, _, rfl, f6⟩, ⟨rfl, f7⟩⟩⟩⟩⟩⟩⟩⟩
theorem LIns.forget {w : World} {S : Nat → Prop} {x : Ins} {vs : List Value} (h : repLIns.is w S (L.mk x) vs) : Rep.is w S x vs := by
  obtain ⟨A0, n0, c0, rfl, q0, q1, q2, q3, q4, q5, ⟨l0, g0⟩, q6⟩ := LIns.open_ h
  exact Ins.mk_ q0 q1 q2 q3 q4 q5 (g0.forget l0) q6
instance : Lend Ins where
  rep := repLIns
  size_eq := rfl
  marks := (List.range 12).map fun i => (⟨0, 0, 0, 0, markI 1 (i : Nat), 0, [], 0⟩ : Ins)
  twelve := rfl
  forget h := LIns.forget h
def markIns (i : Nat) : Ins := ⟨0, 0, 0, 0, markI 1 (i : Nat), 0, [], 0⟩
theorem marks_Ins {j : Nat} (h : j < 12) : (Lend.marks : List Ins)[j]? = some (markIns j) := by
  show ((List.range 12).map fun i => (⟨0, 0, 0, 0, markI 1 (i : Nat), 0, [], 0⟩ : Ins))[j]? = _
  simp [h, markIns]
theorem at_lent_Ins {w : World} {S : Nat → Prop} {A : Option Addr} {n c : Nat} {xs : List Ins} (h : Sl w S A (n + 12) c (row xs)) (hn : xs.length = n) {k : Nat} (hk : k < n) :
    ∃ b off, ∃ x : Ins, ∃ A0 : Option Addr, ∃ n0 : Nat, ∃ c0 : Nat, A = some ⟨b, off, none⟩ ∧ b < w.heap.size ∧ xs[k]? = some x ∧ InI x.op ∧ InI x.dst ∧ InI x.a ∧ InI x.b ∧ InI x.imm ∧ InI x.callee ∧ (x.args.length = n0 ∧ Sl w S A0 (n0 + 12) c0 (row x.args)) ∧ InI x.many ∧ w.cell? ⟨b, off + k * 8, none⟩ = some (.int .i64 x.op) ∧ w.cell? ⟨b, off + k * 8 + 1, none⟩ = some (.int .i64 x.dst) ∧ w.cell? ⟨b, off + k * 8 + 2, none⟩ = some (.int .i64 x.a) ∧ w.cell? ⟨b, off + k * 8 + 3, none⟩ = some (.int .i64 x.b) ∧ w.cell? ⟨b, off + k * 8 + 4, none⟩ = some (.int .i64 x.imm) ∧ w.cell? ⟨b, off + k * 8 + 5, none⟩ = some (.int .i64 x.callee) ∧ w.cell? ⟨b, off + k * 8 + 6, none⟩ = some (.slice A0 n0 c0) ∧ w.cell? ⟨b, off + k * 8 + 7, none⟩ = some (.int .i64 x.many) := by
  obtain ⟨b, off, x, us, e, hb, _, hx, hus, hc⟩ := h.at_lent hn hk
  obtain ⟨A0, n0, c0, rfl, g0, g1, g2, g3, g4, g5, g6, g7⟩ := LIns.open_ hus
  refine ⟨b, off, x, A0, n0, c0, e, hb, hx, g0, g1, g2, g3, g4, g5, g6, g7, ?_, ?_, ?_, ?_, ?_, ?_, ?_, ?_⟩
  · have := hc 0 _ rfl; simpa [Rep.size, Nat.add_assoc] using this
  · have := hc 1 _ rfl; simpa [Rep.size, Nat.add_assoc] using this
  · have := hc 2 _ rfl; simpa [Rep.size, Nat.add_assoc] using this
  · have := hc 3 _ rfl; simpa [Rep.size, Nat.add_assoc] using this
  · have := hc 4 _ rfl; simpa [Rep.size, Nat.add_assoc] using this
  · have := hc 5 _ rfl; simpa [Rep.size, Nat.add_assoc] using this
  · have := hc 6 _ rfl; simpa [Rep.size, Nat.add_assoc] using this
  · have := hc 7 _ rfl; simpa [Rep.size, Nat.add_assoc] using this
theorem at_mark_Ins {w : World} {S : Nat → Prop} {A : Option Addr} {n c : Nat} {xs : List Ins} (h : Sl w S A (n + 12) c (row xs)) (hn : xs.length = n) {j : Nat} (hj : j < 12) :
    ∃ b off, ∃ A0 : Option Addr, ∃ c0 : Nat, A = some ⟨b, off, none⟩ ∧ b < w.heap.size ∧ Sl w S A0 0 c0 ([] : List Int) ∧ w.cell? ⟨b, off + (n + j) * 8, none⟩ = some (.int .i64 0) ∧ w.cell? ⟨b, off + (n + j) * 8 + 1, none⟩ = some (.int .i64 0) ∧ w.cell? ⟨b, off + (n + j) * 8 + 2, none⟩ = some (.int .i64 0) ∧ w.cell? ⟨b, off + (n + j) * 8 + 3, none⟩ = some (.int .i64 0) ∧ w.cell? ⟨b, off + (n + j) * 8 + 4, none⟩ = some (.int .i64 (markI 1 j)) ∧ w.cell? ⟨b, off + (n + j) * 8 + 5, none⟩ = some (.int .i64 0) ∧ w.cell? ⟨b, off + (n + j) * 8 + 6, none⟩ = some (.slice A0 0 c0) ∧ w.cell? ⟨b, off + (n + j) * 8 + 7, none⟩ = some (.int .i64 0) := by
  obtain ⟨b, off, us, e, hb, _, hus, hc⟩ := h.at_mark hn hj (marks_Ins hj)
  obtain ⟨A0, n0, c0, rfl, -, -, -, -, -, -, g0, -⟩ := Ins.open_ hus
  obtain rfl : n0 = 0 := g0.len.symm
  refine ⟨b, off, A0, c0, e, hb, g0, ?_, ?_, ?_, ?_, ?_, ?_, ?_, ?_⟩
  · have := hc 0 _ rfl; simpa [Rep.size, Nat.add_assoc, markIns] using this
  · have := hc 1 _ rfl; simpa [Rep.size, Nat.add_assoc, markIns] using this
  · have := hc 2 _ rfl; simpa [Rep.size, Nat.add_assoc, markIns] using this
  · have := hc 3 _ rfl; simpa [Rep.size, Nat.add_assoc, markIns] using this
  · have := hc 4 _ rfl; simpa [Rep.size, Nat.add_assoc, markIns] using this
  · have := hc 5 _ rfl; simpa [Rep.size, Nat.add_assoc, markIns] using this
  · have := hc 6 _ rfl; simpa [Rep.size, Nat.add_assoc, markIns] using this
  · have := hc 7 _ rfl; simpa [Rep.size, Nat.add_assoc, markIns] using this
theorem markIns_rep (i : Nat) (h : i < 12) (w : World) (S : Nat → Prop) : Rep.is w S (markIns i) [.int .i64 0, .int .i64 0, .int .i64 0, .int .i64 0, .int .i64 (markI 1 i), .int .i64 0, .slice none 0 0, .int .i64 0] := Ins.mk_ InI_zero InI_zero InI_zero InI_zero (markI_in i h) InI_zero Sl.nil InI_zero
theorem lentRow_close {w w1 : World} {S : Nat → Prop} {v : Value} {n : Nat} {xs : List Ins} (HL : Hd (xs.length = n)) (ho : OwnL w1 w.heap.size 66 S v (xs.map E.lent ++ (mks Ins 12).map E.plain)) (hS : ∀ b, S b → w.heap.size ≤ b) (hb : Below w.heap.size w w1) :
    ∃ g cap, v = .slice (some ⟨g, 0, none⟩) (n + 12) cap ∧ n + 12 ≤ cap ∧ cap ≤ 9223372036854775807 ∧ RetLent xs w (.returned (.slice (some ⟨g, 0, none⟩) n cap)) w1 := by
  rw [mks_all] at ho
  obtain ⟨g, cap, rfl, hc, hm⟩ := ho.form_pos (n := n + 12) (by have := row_len (xs := xs); unfold row at this; rw [this, HL.out]) (by omega)
  refine ⟨g, cap, rfl, hc, hm, some ⟨g, 0, none⟩, n, cap, rfl, HL.out, ?_, Below.to_ext hb⟩
  exact ho.sl (fun b _ h => by rcases h with h | h; exact hS b h; exact h)
abbrev repLBlock : Rep (L Block) := Rep.via fun y => ((L.mk y.val.ins : L (List Ins)), y.val.term)
theorem LBlock.open_ {w : World} {S : Nat → Prop} {x : Block} {vs : List Value} (h : repLBlock.is w S (L.mk x) vs) : ∃ A0 : Option Addr, ∃ n0 : Nat, ∃ c0 : Nat, vs = [.slice A0 n0 c0, .int .i64 x.term.kind, .int .i64 x.term.a, .int .i64 x.term.to0, .int .i64 x.term.to1] ∧ (x.ins.length = n0 ∧ Sl w S A0 (n0 + 12) c0 (row x.ins)) ∧ InI x.term.kind ∧ InI x.term.a ∧ InI x.term.to0 ∧ InI x.term.to1 := by
  obtain ⟨us0, ts0, e0, h0, r0⟩ := h
  obtain ⟨A1, n1, c1, v1, l1, f1⟩ := h0
  obtain ⟨us2, ts2, e2, h2, r2⟩ := r0
  obtain ⟨us3, ts3, e3, h3, r3⟩ := r2
  obtain ⟨us4, ts4, e4, h4, r4⟩ := r3
  obtain ⟨v5, f5⟩ := h2
  obtain ⟨v6, f6⟩ := h3
  obtain ⟨v7, f7⟩ := h4
  obtain ⟨v8, f8⟩ := r4
  refine ⟨A1, n1, c1, ?_, ⟨l1, f1⟩, f5, f6, f7, f8⟩
  subst_vars; simp
theorem LBlock.mk_ {w : World} {S : Nat → Prop} {x : Block} {A0 : Option Addr} {n0 : Nat} {c0 : Nat} (f0 : (x.ins.length = n0 ∧ Sl w S A0 (n0 + 12) c0 (row x.ins))) (f1 : InI x.term.kind) (f2 : InI x.term.a) (f3 : InI x.term.to0) (f4 : InI x.term.to1) : repLBlock.is w S (L.mk x) [.slice A0 n0 c0, .int .i64 x.term.kind, .int .i64 x.term.a, .int .i64 x.term.to0, .int .i64 x.term.to1] := by
  exact ⟨_, _, rfl, ⟨_, _, _, rfl, f0⟩, ⟨_, _, rfl, ⟨rfl, f1⟩, ⟨_, _, rfl, ⟨rfl, f2⟩, ⟨_, _, rfl, ⟨rfl, f3⟩, ⟨rfl, f4⟩⟩⟩⟩⟩
theorem LBlock.forget {w : World} {S : Nat → Prop} {x : Block} {vs : List Value} (h : repLBlock.is w S (L.mk x) vs) : Rep.is w S x vs := by
  obtain ⟨A0, n0, c0, rfl, ⟨l0, g0⟩, q0, q1, q2, q3⟩ := LBlock.open_ h
  exact Block.mk_ (g0.forget l0) q0 q1 q2 q3
instance : Lend Block where
  rep := repLBlock
  size_eq := rfl
  marks := (List.range 12).map fun i => (⟨[], ⟨0, markI 1 (i : Nat), 0, 0⟩⟩ : Block)
  twelve := rfl
  forget h := LBlock.forget h
def markBlock (i : Nat) : Block := ⟨[], ⟨0, markI 1 (i : Nat), 0, 0⟩⟩
theorem marks_Block {j : Nat} (h : j < 12) : (Lend.marks : List Block)[j]? = some (markBlock j) := by
  show ((List.range 12).map fun i => (⟨[], ⟨0, markI 1 (i : Nat), 0, 0⟩⟩ : Block))[j]? = _
  simp [h, markBlock]
theorem at_lent_Block {w : World} {S : Nat → Prop} {A : Option Addr} {n c : Nat} {xs : List Block} (h : Sl w S A (n + 12) c (row xs)) (hn : xs.length = n) {k : Nat} (hk : k < n) :
    ∃ b off, ∃ x : Block, ∃ A0 : Option Addr, ∃ n0 : Nat, ∃ c0 : Nat, A = some ⟨b, off, none⟩ ∧ b < w.heap.size ∧ xs[k]? = some x ∧ (x.ins.length = n0 ∧ Sl w S A0 (n0 + 12) c0 (row x.ins)) ∧ InI x.term.kind ∧ InI x.term.a ∧ InI x.term.to0 ∧ InI x.term.to1 ∧ w.cell? ⟨b, off + k * 5, none⟩ = some (.slice A0 n0 c0) ∧ w.cell? ⟨b, off + k * 5 + 1, none⟩ = some (.int .i64 x.term.kind) ∧ w.cell? ⟨b, off + k * 5 + 2, none⟩ = some (.int .i64 x.term.a) ∧ w.cell? ⟨b, off + k * 5 + 3, none⟩ = some (.int .i64 x.term.to0) ∧ w.cell? ⟨b, off + k * 5 + 4, none⟩ = some (.int .i64 x.term.to1) := by
  obtain ⟨b, off, x, us, e, hb, _, hx, hus, hc⟩ := h.at_lent hn hk
  obtain ⟨A0, n0, c0, rfl, g0, g1, g2, g3, g4⟩ := LBlock.open_ hus
  refine ⟨b, off, x, A0, n0, c0, e, hb, hx, g0, g1, g2, g3, g4, ?_, ?_, ?_, ?_, ?_⟩
  · have := hc 0 _ rfl; simpa [Rep.size, Nat.add_assoc] using this
  · have := hc 1 _ rfl; simpa [Rep.size, Nat.add_assoc] using this
  · have := hc 2 _ rfl; simpa [Rep.size, Nat.add_assoc] using this
  · have := hc 3 _ rfl; simpa [Rep.size, Nat.add_assoc] using this
  · have := hc 4 _ rfl; simpa [Rep.size, Nat.add_assoc] using this
theorem at_mark_Block {w : World} {S : Nat → Prop} {A : Option Addr} {n c : Nat} {xs : List Block} (h : Sl w S A (n + 12) c (row xs)) (hn : xs.length = n) {j : Nat} (hj : j < 12) :
    ∃ b off, ∃ A0 : Option Addr, ∃ c0 : Nat, A = some ⟨b, off, none⟩ ∧ b < w.heap.size ∧ Sl w S A0 0 c0 ([] : List Ins) ∧ w.cell? ⟨b, off + (n + j) * 5, none⟩ = some (.slice A0 0 c0) ∧ w.cell? ⟨b, off + (n + j) * 5 + 1, none⟩ = some (.int .i64 0) ∧ w.cell? ⟨b, off + (n + j) * 5 + 2, none⟩ = some (.int .i64 (markI 1 j)) ∧ w.cell? ⟨b, off + (n + j) * 5 + 3, none⟩ = some (.int .i64 0) ∧ w.cell? ⟨b, off + (n + j) * 5 + 4, none⟩ = some (.int .i64 0) := by
  obtain ⟨b, off, us, e, hb, _, hus, hc⟩ := h.at_mark hn hj (marks_Block hj)
  obtain ⟨A0, n0, c0, rfl, g0, -, -, -, -⟩ := Block.open_ hus
  obtain rfl : n0 = 0 := g0.len.symm
  refine ⟨b, off, A0, c0, e, hb, g0, ?_, ?_, ?_, ?_, ?_⟩
  · have := hc 0 _ rfl; simpa [Rep.size, Nat.add_assoc, markBlock] using this
  · have := hc 1 _ rfl; simpa [Rep.size, Nat.add_assoc, markBlock] using this
  · have := hc 2 _ rfl; simpa [Rep.size, Nat.add_assoc, markBlock] using this
  · have := hc 3 _ rfl; simpa [Rep.size, Nat.add_assoc, markBlock] using this
  · have := hc 4 _ rfl; simpa [Rep.size, Nat.add_assoc, markBlock] using this
theorem markBlock_rep (i : Nat) (h : i < 12) (w : World) (S : Nat → Prop) : Rep.is w S (markBlock i) [.slice none 0 0, .int .i64 0, .int .i64 (markI 1 i), .int .i64 0, .int .i64 0] := Block.mk_ Sl.nil InI_zero (markI_in i h) InI_zero InI_zero
theorem lentBlocks_close {w w1 : World} {S : Nat → Prop} {v : Value} {n : Nat} {xs : List Block} (HL : Hd (xs.length = n)) (ho : OwnL w1 w.heap.size 60 S v (xs.map E.lent ++ (mks Block 12).map E.plain)) (hS : ∀ b, S b → w.heap.size ≤ b) (hb : Below w.heap.size w w1) :
    ∃ g cap, v = .slice (some ⟨g, 0, none⟩) (n + 12) cap ∧ n + 12 ≤ cap ∧ cap ≤ 9223372036854775807 ∧ RetLent xs w (.returned (.slice (some ⟨g, 0, none⟩) n cap)) w1 := by
  rw [mks_all] at ho
  obtain ⟨g, cap, rfl, hc, hm⟩ := ho.form_pos (n := n + 12) (by have := row_len (xs := xs); unfold row at this; rw [this, HL.out]) (by omega)
  refine ⟨g, cap, rfl, hc, hm, some ⟨g, 0, none⟩, n, cap, rfl, HL.out, ?_, Below.to_ext hb⟩
  exact ho.sl (fun b _ h => by rcases h with h | h; exact hS b h; exact h)
abbrev repLTarget : Rep (L Target) := Rep.via fun y => (y.val.frame, (L.mk y.val.blocks : L (List Block)))
theorem LTarget.open_ {w : World} {S : Nat → Prop} {x : Target} {vs : List Value} (h : repLTarget.is w S (L.mk x) vs) : ∃ A0 : Option Addr, ∃ n0 : Nat, ∃ c0 : Nat, vs = [.int .i64 x.frame, .slice A0 n0 c0] ∧ InI x.frame ∧ (x.blocks.length = n0 ∧ Sl w S A0 (n0 + 12) c0 (row x.blocks)) := by
  obtain ⟨us0, ts0, e0, h0, r0⟩ := h
  obtain ⟨v1, f1⟩ := h0
  obtain ⟨A2, n2, c2, v2, l2, f2⟩ := r0
  refine ⟨A2, n2, c2, ?_, f1, ⟨l2, f2⟩⟩
  subst_vars; simp
theorem LTarget.mk_ {w : World} {S : Nat → Prop} {x : Target} {A0 : Option Addr} {n0 : Nat} {c0 : Nat} (f0 : InI x.frame) (f1 : (x.blocks.length = n0 ∧ Sl w S A0 (n0 + 12) c0 (row x.blocks))) : repLTarget.is w S (L.mk x) [.int .i64 x.frame, .slice A0 n0 c0] := by
  exact ⟨_, _, rfl, ⟨rfl, f0⟩, ⟨_, _, _, rfl, f1⟩⟩
theorem LTarget.forget {w : World} {S : Nat → Prop} {x : Target} {vs : List Value} (h : repLTarget.is w S (L.mk x) vs) : Rep.is w S x vs := by
  obtain ⟨A0, n0, c0, rfl, q0, ⟨l0, g0⟩⟩ := LTarget.open_ h
  exact Target.mk_ q0 (g0.forget l0)
instance : Rep (L Target) := repLTarget
end Go.Proofs.Ytkjipgelbjaggaa
