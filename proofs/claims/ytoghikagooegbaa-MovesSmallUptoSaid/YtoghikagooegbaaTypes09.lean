/- The program's structs, and what they read as. Written by gen_types.py. -/
import Derived.Test.YtoghikagooegbaaTypes
set_option linter.unusedSimpArgs false
set_option linter.unusedVariables false
namespace Go.Proofs.Ytoghikagooegbaa
open Go.RowKit

structure Call where
  callee : Int
  args : List Int
  deriving DecidableEq, Inhabited
instance : Rep Call := Rep.via fun x => (x.callee, x.args)
theorem Call.open_ {w : World} {S : Nat → Prop} {x : Call} {vs : List Value} (h : Rep.is w S x vs) : ∃ Aargs : Option Addr, ∃ nargs : Nat, ∃ cargs : Nat, vs = [.int .i64 x.callee, .slice Aargs nargs cargs] ∧ InI x.callee ∧ Sl w S Aargs nargs cargs x.args := by
  obtain ⟨us0, ts0, e0, h0, r0⟩ := h
  obtain ⟨v1, f1⟩ := h0
  obtain ⟨A2, n2, c2, v2, f2⟩ := r0
  refine ⟨A2, n2, c2, ?_, f1, f2⟩
  subst_vars; simp
theorem Call.mk_ {w : World} {S : Nat → Prop} {x : Call} {Aargs : Option Addr} {nargs : Nat} {cargs : Nat} (f0 : InI x.callee) (f1 : Sl w S Aargs nargs cargs x.args) : Rep.is w S x [.int .i64 x.callee, .slice Aargs nargs cargs] := by
  exact ⟨_, _, rfl, ⟨rfl, f0⟩, ⟨_, _, _, rfl, f1⟩⟩
theorem at_Call {w : World} {S : Nat → Prop} {A : Option Addr} {n c : Nat} {xs : List Call} (h : Sl w S A n c xs) {k : Nat} (hk : k < n) :
    ∃ b off, ∃ x : Call, ∃ Aargs : Option Addr, ∃ nargs : Nat, ∃ cargs : Nat, A = some ⟨b, off, none⟩ ∧ b < w.heap.size ∧ xs[k]? = some x ∧ InI x.callee ∧ Sl w S Aargs nargs cargs x.args ∧ w.cell? ⟨b, off + k * 2, none⟩ = some (.int .i64 x.callee) ∧ w.cell? ⟨b, off + k * 2 + 1, none⟩ = some (.slice Aargs nargs cargs) := by
  obtain ⟨b, off, x, us, e, hb, _, hx, hus, hc⟩ := h.at_ hk
  obtain ⟨Aargs, nargs, cargs, rfl, g0, g1⟩ := Call.open_ hus
  refine ⟨b, off, x, Aargs, nargs, cargs, e, hb, hx, g0, g1, ?_, ?_⟩
  · have := hc 0 _ rfl; simpa [Rep.size, Nat.add_assoc] using this
  · have := hc 1 _ rfl; simpa [Rep.size, Nat.add_assoc] using this

end Go.Proofs.Ytoghikagooegbaa
