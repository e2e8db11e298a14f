/- The program's structs, and what they read as. Written by gen_types.py. -/
import Derived.Test.YtoghikagooegbaaTypes
set_option linter.unusedSimpArgs false
set_option linter.unusedVariables false
namespace Go.Proofs.Ytoghikagooegbaa
open Go.RowKit

structure Move where
  src : Loc
  dst : Loc
  deriving DecidableEq, Inhabited
instance : Rep Move := Rep.via fun x => (x.src, x.dst)
theorem Move.open_ {w : World} {S : Nat → Prop} {x : Move} {vs : List Value} (h : Rep.is w S x vs) : vs = [.bool x.src.slot, .int .i64 x.src.n, .bool x.dst.slot, .int .i64 x.dst.n] ∧ InI x.src.n ∧ InI x.dst.n := by
  obtain ⟨us0, ts0, e0, h0, r0⟩ := h
  obtain ⟨us1, ts1, e1, h1, r1⟩ := h0
  have v2 := h1
  obtain ⟨v3, f3⟩ := r1
  obtain ⟨us4, ts4, e4, h4, r4⟩ := r0
  have v5 := h4
  obtain ⟨v6, f6⟩ := r4
  refine ⟨?_, f3, f6⟩
  subst_vars; simp
theorem Move.mk_ {w : World} {S : Nat → Prop} {x : Move} (f0 : InI x.src.n) (f1 : InI x.dst.n) : Rep.is w S x [.bool x.src.slot, .int .i64 x.src.n, .bool x.dst.slot, .int .i64 x.dst.n] := by
  exact ⟨_, _, rfl, ⟨_, _, rfl, rfl, ⟨rfl, f0⟩⟩, ⟨_, _, rfl, rfl, ⟨rfl, f1⟩⟩⟩
theorem at_Move {w : World} {S : Nat → Prop} {A : Option Addr} {n c : Nat} {xs : List Move} (h : Sl w S A n c xs) {k : Nat} (hk : k < n) :
    ∃ b off, ∃ x : Move, A = some ⟨b, off, none⟩ ∧ b < w.heap.size ∧ xs[k]? = some x ∧ InI x.src.n ∧ InI x.dst.n ∧ w.cell? ⟨b, off + k * 4, none⟩ = some (.bool x.src.slot) ∧ w.cell? ⟨b, off + k * 4 + 1, none⟩ = some (.int .i64 x.src.n) ∧ w.cell? ⟨b, off + k * 4 + 2, none⟩ = some (.bool x.dst.slot) ∧ w.cell? ⟨b, off + k * 4 + 3, none⟩ = some (.int .i64 x.dst.n) := by
  obtain ⟨b, off, x, us, e, hb, _, hx, hus, hc⟩ := h.at_ hk
  obtain ⟨rfl, g0, g1⟩ := Move.open_ hus
  refine ⟨b, off, x, e, hb, hx, g0, g1, ?_, ?_, ?_, ?_⟩
  · have := hc 0 _ rfl; simpa [Rep.size, Nat.add_assoc] using this
  · have := hc 1 _ rfl; simpa [Rep.size, Nat.add_assoc] using this
  · have := hc 2 _ rfl; simpa [Rep.size, Nat.add_assoc] using this
  · have := hc 3 _ rfl; simpa [Rep.size, Nat.add_assoc] using this

end Go.Proofs.Ytoghikagooegbaa
