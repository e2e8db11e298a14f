/- The program's structs, and what they read as. Written by gen_types.py. -/
import Derived.Test.YtmlopggainkoiaaDoorTypes
set_option linter.unusedSimpArgs false
set_option linter.unusedVariables false
namespace Go.Proofs.YtmlopggainkoiaaDoor
open Go.RowKit

structure Word where
  kind : Int
  text : ByteArray
  n : Int
  line : Int
  col : Int
  deriving DecidableEq, Inhabited
instance : Rep Word := Rep.via fun x => (x.kind, x.text, x.n, x.line, x.col)
theorem Word.open_ {w : World} {S : Nat → Prop} {x : Word} {vs : List Value} (h : Rep.is w S x vs) : vs = [.int .i64 x.kind, .string x.text, .int .i64 x.n, .int .i64 x.line, .int .i64 x.col] ∧ InI x.kind ∧ x.text.size ≤ maxLen ∧ InI x.n ∧ InI x.line ∧ InI x.col := by
  obtain ⟨us0, ts0, e0, h0, r0⟩ := h
  obtain ⟨us1, ts1, e1, h1, r1⟩ := r0
  obtain ⟨us2, ts2, e2, h2, r2⟩ := r1
  obtain ⟨us3, ts3, e3, h3, r3⟩ := r2
  obtain ⟨v4, f4⟩ := h0
  obtain ⟨v5, f5⟩ := h1
  obtain ⟨v6, f6⟩ := h2
  obtain ⟨v7, f7⟩ := h3
  obtain ⟨v8, f8⟩ := r3
  refine ⟨?_, f4, f5, f6, f7, f8⟩
  subst_vars; simp
theorem Word.mk_ {w : World} {S : Nat → Prop} {x : Word} (f0 : InI x.kind) (f1 : x.text.size ≤ maxLen) (f2 : InI x.n) (f3 : InI x.line) (f4 : InI x.col) : Rep.is w S x [.int .i64 x.kind, .string x.text, .int .i64 x.n, .int .i64 x.line, .int .i64 x.col] := by
  exact ⟨_, _, rfl, ⟨rfl, f0⟩, ⟨_, _, rfl, ⟨rfl, f1⟩, ⟨_, _, rfl, ⟨rfl, f2⟩, ⟨_, _, rfl, ⟨rfl, f3⟩, ⟨rfl, f4⟩⟩⟩⟩⟩
theorem at_Word {w : World} {S : Nat → Prop} {A : Option Addr} {n c : Nat} {xs : List Word} (h : Sl w S A n c xs) {k : Nat} (hk : k < n) :
    ∃ b off, ∃ x : Word, A = some ⟨b, off, none⟩ ∧ b < w.heap.size ∧ xs[k]? = some x ∧ InI x.kind ∧ x.text.size ≤ maxLen ∧ InI x.n ∧ InI x.line ∧ InI x.col ∧ w.cell? ⟨b, off + k * 5, none⟩ = some (.int .i64 x.kind) ∧ w.cell? ⟨b, off + k * 5 + 1, none⟩ = some (.string x.text) ∧ w.cell? ⟨b, off + k * 5 + 2, none⟩ = some (.int .i64 x.n) ∧ w.cell? ⟨b, off + k * 5 + 3, none⟩ = some (.int .i64 x.line) ∧ w.cell? ⟨b, off + k * 5 + 4, none⟩ = some (.int .i64 x.col) := by
  obtain ⟨b, off, x, us, e, hb, _, hx, hus, hc⟩ := h.at_ hk
  obtain ⟨rfl, g0, g1, g2, g3, g4⟩ := Word.open_ hus
  refine ⟨b, off, x, e, hb, hx, g0, g1, g2, g3, g4, ?_, ?_, ?_, ?_, ?_⟩
  · have := hc 0 _ rfl; simpa [Rep.size, Nat.add_assoc] using this
  · have := hc 1 _ rfl; simpa [Rep.size, Nat.add_assoc] using this
  · have := hc 2 _ rfl; simpa [Rep.size, Nat.add_assoc] using this
  · have := hc 3 _ rfl; simpa [Rep.size, Nat.add_assoc] using this
  · have := hc 4 _ rfl; simpa [Rep.size, Nat.add_assoc] using this

end Go.Proofs.YtmlopggainkoiaaDoor
