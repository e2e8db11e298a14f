/- The program's structs, and what they read as. Written by gen_types.py. A run's start, as an argument. -/
import Derived.Test.YtkjipgelbjaggaaM01
import Derived.Test.YtkjipgelbjaggaaM02
set_option linter.unusedSimpArgs false
set_option linter.unusedVariables false
namespace Go.Proofs.Ytkjipgelbjaggaa
open Go.RowKit

structure Start where
  args : List Int
  mem : List Int
  answers : List Int
  first : List Int
  deriving DecidableEq, Inhabited
instance : Rep Start := Rep.via fun x => (x.args, x.mem, x.answers, x.first)
theorem Start.open_ {w : World} {S : Nat → Prop} {x : Start} {vs : List Value} (h : Rep.is w S x vs) : ∃ Aargs : Option Addr, ∃ nargs : Nat, ∃ cargs : Nat, ∃ Amem : Option Addr, ∃ nmem : Nat, ∃ cmem : Nat, ∃ Aanswers : Option Addr, ∃ nanswers : Nat, ∃ canswers : Nat, ∃ Afirst : Option Addr, ∃ nfirst : Nat, ∃ cfirst : Nat, vs = [.slice Aargs nargs cargs, .slice Amem nmem cmem, .slice Aanswers nanswers canswers, .slice Afirst nfirst cfirst] ∧ Sl w S Aargs nargs cargs x.args ∧ Sl w S Amem nmem cmem x.mem ∧ Sl w S Aanswers nanswers canswers x.answers ∧ Sl w S Afirst nfirst cfirst x.first := by
  obtain ⟨us0, ts0, e0, h0, r0⟩ := h
  obtain ⟨us1, ts1, e1, h1, r1⟩ := r0
  obtain ⟨us2, ts2, e2, h2, r2⟩ := r1
  obtain ⟨A3, n3, c3, v3, f3⟩ := h0
  obtain ⟨A4, n4, c4, v4, f4⟩ := h1
  obtain ⟨A5, n5, c5, v5, f5⟩ := h2
  obtain ⟨A6, n6, c6, v6, f6⟩ := r2
  refine ⟨A3, n3, c3, A4, n4, c4, A5, n5, c5, A6, n6, c6, ?_, f3, f4, f5, f6⟩
  subst_vars; simp
theorem Start.mk_ {w : World} {S : Nat → Prop} {x : Start} {Aargs : Option Addr} {nargs : Nat} {cargs : Nat} {Amem : Option Addr} {nmem : Nat} {cmem : Nat} {Aanswers : Option Addr} {nanswers : Nat} {canswers : Nat} {Afirst : Option Addr} {nfirst : Nat} {cfirst : Nat} (f0 : Sl w S Aargs nargs cargs x.args) (f1 : Sl w S Amem nmem cmem x.mem) (f2 : Sl w S Aanswers nanswers canswers x.answers) (f3 : Sl w S Afirst nfirst cfirst x.first) : Rep.is w S x [.slice Aargs nargs cargs, .slice Amem nmem cmem, .slice Aanswers nanswers canswers, .slice Afirst nfirst cfirst] := by
  exact ⟨_, _, rfl, ⟨_, _, _, rfl, f0⟩, ⟨_, _, rfl, ⟨_, _, _, rfl, f1⟩, ⟨_, _, rfl, ⟨_, _, _, rfl, f2⟩, ⟨_, _, _, rfl, f3⟩⟩⟩⟩
theorem at_Start {w : World} {S : Nat → Prop} {A : Option Addr} {n c : Nat} {xs : List Start} (h : Sl w S A n c xs) {k : Nat} (hk : k < n) :
    ∃ b off, ∃ x : Start, ∃ Aargs : Option Addr, ∃ nargs : Nat, ∃ cargs : Nat, ∃ Amem : Option Addr, ∃ nmem : Nat, ∃ cmem : Nat, ∃ Aanswers : Option Addr, ∃ nanswers : Nat, ∃ canswers : Nat, ∃ Afirst : Option Addr, ∃ nfirst : Nat, ∃ cfirst : Nat, A = some ⟨b, off, none⟩ ∧ b < w.heap.size ∧ xs[k]? = some x ∧ Sl w S Aargs nargs cargs x.args ∧ Sl w S Amem nmem cmem x.mem ∧ Sl w S Aanswers nanswers canswers x.answers ∧ Sl w S Afirst nfirst cfirst x.first ∧ w.cell? ⟨b, off + k * 4, none⟩ = some (.slice Aargs nargs cargs) ∧ w.cell? ⟨b, off + k * 4 + 1, none⟩ = some (.slice Amem nmem cmem) ∧ w.cell? ⟨b, off + k * 4 + 2, none⟩ = some (.slice Aanswers nanswers canswers) ∧ w.cell? ⟨b, off + k * 4 + 3, none⟩ = some (.slice Afirst nfirst cfirst) := by
  obtain ⟨b, off, x, us, e, hb, _, hx, hus, hc⟩ := h.at_ hk
  obtain ⟨Aargs, nargs, cargs, Amem, nmem, cmem, Aanswers, nanswers, canswers, Afirst, nfirst, cfirst, rfl, g0, g1, g2, g3⟩ := Start.open_ hus
  refine ⟨b, off, x, Aargs, nargs, cargs, Amem, nmem, cmem, Aanswers, nanswers, canswers, Afirst, nfirst, cfirst, e, hb, hx, g0, g1, g2, g3, ?_, ?_, ?_, ?_⟩
  · have := hc 0 _ rfl; simpa [Rep.size, Nat.add_assoc] using this
  · have := hc 1 _ rfl; simpa [Rep.size, Nat.add_assoc] using this
  · have := hc 2 _ rfl; simpa [Rep.size, Nat.add_assoc] using this
  · have := hc 3 _ rfl; simpa [Rep.size, Nat.add_assoc] using this

end Go.Proofs.Ytkjipgelbjaggaa
set_option linter.unusedSimpArgs false
set_option linter.unusedVariables false
namespace Go.Proofs.Ytkjipgelbjaggaa
open Go.RowKit Go.ChangeShapes Go.WideShapes Go.ChangeAt
instance : Wt Start := Wt.via fun x => (x.args, x.mem, x.answers, x.first)
theorem o_Start : Opens Try.prog Start 29 := fun H enc w fuel cs x h => by
  obtain ⟨⟨a0, a1, a2, a3⟩, hy, hw⟩ := opens_struct (P := Try.prog) (α := List Int × List Int × List Int × List Int) (t := 29) Try.underlying29
    (fs_cons o_ints rfl (by kernel_rfl) (fs_cons o_ints rfl (by kernel_rfl) (fs_cons o_ints rfl (by kernel_rfl) (fs_one o_ints rfl (by kernel_rfl))))) (by kernel_rfl) H enc w fuel cs x h
  exact ⟨⟨a0, a1, a2, a3⟩, hy, hw⟩
theorem Start.wt_all (x : Start) : x.args.length + x.mem.length + x.answers.length + x.first.length ≤ Wt.wt x := by
  have := wt_ints x.args; have := wt_ints x.mem; have := wt_ints x.answers; have := wt_ints x.first
  show _ ≤ Wt.wt x.args + (Wt.wt x.mem + (Wt.wt x.answers + Wt.wt x.first))
  omega
end Go.Proofs.Ytkjipgelbjaggaa
