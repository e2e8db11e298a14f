/- The program's structs, and what they read as. Written by gen_types.py. -/
import Derived.Test.YtmlopggainkoiaaDoorTypes
set_option linter.unusedSimpArgs false
set_option linter.unusedVariables false
namespace Go.Proofs.YtmlopggainkoiaaDoor
open Go.RowKit

structure Get where
  what : Int
  least : Int
  most : Int
  s : ByteArray
  t : ByteArray
  deriving DecidableEq, Inhabited
instance : Rep Get := Rep.via fun x => (x.what, x.least, x.most, x.s, x.t)
theorem Get.open_ {w : World} {S : Nat → Prop} {x : Get} {vs : List Value} (h : Rep.is w S x vs) : vs = [.int .i64 x.what, .int .i64 x.least, .int .i64 x.most, .string x.s, .string x.t] ∧ InI x.what ∧ InI x.least ∧ InI x.most ∧ x.s.size ≤ maxLen ∧ x.t.size ≤ maxLen := by
  obtain ⟨us0, ts0, e0, h0, r0⟩ := h
  obtain ⟨us1, ts1, e1, h1, r1⟩ := r0
  obtain ⟨us2, ts2, e2, h2, r2⟩ := r1
  obtain ⟨us3, ts3, e3, h3, r3⟩ := r2
  obtain ⟨v4, f4⟩ := h0
  obtain ⟨v5, f5⟩ := h1
  obtain ⟨v6, f6⟩ := h2
  obtain ⟨v7, f7⟩ := h3
  obtain ⟨v8, f8⟩ := r3
  refine ⟨?_, f4, f5, f6, f7, f8⟩
  subst_vars; simp
theorem Get.mk_ {w : World} {S : Nat → Prop} {x : Get} (f0 : InI x.what) (f1 : InI x.least) (f2 : InI x.most) (f3 : x.s.size ≤ maxLen) (f4 : x.t.size ≤ maxLen) : Rep.is w S x [.int .i64 x.what, .int .i64 x.least, .int .i64 x.most, .string x.s, .string x.t] := by
  exact ⟨_, _, rfl, ⟨rfl, f0⟩, ⟨_, _, rfl, ⟨rfl, f1⟩, ⟨_, _, rfl, ⟨rfl, f2⟩, ⟨_, _, rfl, ⟨rfl, f3⟩, ⟨rfl, f4⟩⟩⟩⟩⟩
theorem at_Get {w : World} {S : Nat → Prop} {A : Option Addr} {n c : Nat} {xs : List Get} (h : Sl w S A n c xs) {k : Nat} (hk : k < n) :
    ∃ b off, ∃ x : Get, A = some ⟨b, off, none⟩ ∧ b < w.heap.size ∧ xs[k]? = some x ∧ InI x.what ∧ InI x.least ∧ InI x.most ∧ x.s.size ≤ maxLen ∧ x.t.size ≤ maxLen ∧ w.cell? ⟨b, off + k * 5, none⟩ = some (.int .i64 x.what) ∧ w.cell? ⟨b, off + k * 5 + 1, none⟩ = some (.int .i64 x.least) ∧ w.cell? ⟨b, off + k * 5 + 2, none⟩ = some (.int .i64 x.most) ∧ w.cell? ⟨b, off + k * 5 + 3, none⟩ = some (.string x.s) ∧ w.cell? ⟨b, off + k * 5 + 4, none⟩ = some (.string x.t) := by
  obtain ⟨b, off, x, us, e, hb, _, hx, hus, hc⟩ := h.at_ hk
  obtain ⟨rfl, g0, g1, g2, g3, g4⟩ := Get.open_ hus
  refine ⟨b, off, x, e, hb, hx, g0, g1, g2, g3, g4, ?_, ?_, ?_, ?_, ?_⟩
  · have := hc 0 _ rfl; simpa [Rep.size, Nat.add_assoc] using this
  · have := hc 1 _ rfl; simpa [Rep.size, Nat.add_assoc] using this
  · have := hc 2 _ rfl; simpa [Rep.size, Nat.add_assoc] using this
  · have := hc 3 _ rfl; simpa [Rep.size, Nat.add_assoc] using this
  · have := hc 4 _ rfl; simpa [Rep.size, Nat.add_assoc] using this

end Go.Proofs.YtmlopggainkoiaaDoor
