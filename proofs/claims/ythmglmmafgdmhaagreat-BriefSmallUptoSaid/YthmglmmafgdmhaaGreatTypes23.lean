/- The program's structs, and what they read as. Written by gen_types.py. -/
import Derived.Test.YthmglmmafgdmhaaGreatTypes
set_option linter.unusedSimpArgs false
set_option linter.unusedVariables false
namespace Go.Proofs.YthmglmmafgdmhaaGreat
open Go.RowKit

structure Brief where
  vars : List Int
  colors : List Int
  edge : List Int
  deriving DecidableEq, Inhabited
instance : Rep Brief := Rep.via fun x => (x.vars, x.colors, x.edge)
theorem Brief.open_ {w : World} {S : Nat → Prop} {x : Brief} {vs : List Value} (h : Rep.is w S x vs) : ∃ Avars : Option Addr, ∃ nvars : Nat, ∃ cvars : Nat, ∃ Acolors : Option Addr, ∃ ncolors : Nat, ∃ ccolors : Nat, ∃ Aedge : Option Addr, ∃ nedge : Nat, ∃ cedge : Nat, vs = [.slice Avars nvars cvars, .slice Acolors ncolors ccolors, .slice Aedge nedge cedge] ∧ Sl w S Avars nvars cvars x.vars ∧ Sl w S Acolors ncolors ccolors x.colors ∧ Sl w S Aedge nedge cedge x.edge := by
  obtain ⟨us0, ts0, e0, h0, r0⟩ := h
  obtain ⟨us1, ts1, e1, h1, r1⟩ := r0
  obtain ⟨A2, n2, c2, v2, f2⟩ := h0
  obtain ⟨A3, n3, c3, v3, f3⟩ := h1
  obtain ⟨A4, n4, c4, v4, f4⟩ := r1
  refine ⟨A2, n2, c2, A3, n3, c3, A4, n4, c4, ?_, f2, f3, f4⟩
  subst_vars; simp
theorem Brief.mk_ {w : World} {S : Nat → Prop} {x : Brief} {Avars : Option Addr} {nvars : Nat} {cvars : Nat} {Acolors : Option Addr} {ncolors : Nat} {ccolors : Nat} {Aedge : Option Addr} {nedge : Nat} {cedge : Nat} (f0 : Sl w S Avars nvars cvars x.vars) (f1 : Sl w S Acolors ncolors ccolors x.colors) (f2 : Sl w S Aedge nedge cedge x.edge) : Rep.is w S x [.slice Avars nvars cvars, .slice Acolors ncolors ccolors, .slice Aedge nedge cedge] := by
  exact ⟨_, _, rfl, ⟨_, _, _, rfl, f0⟩, ⟨_, _, rfl, ⟨_, _, _, rfl, f1⟩, ⟨_, _, _, rfl, f2⟩⟩⟩
theorem at_Brief {w : World} {S : Nat → Prop} {A : Option Addr} {n c : Nat} {xs : List Brief} (h : Sl w S A n c xs) {k : Nat} (hk : k < n) :
    ∃ b off, ∃ x : Brief, ∃ Avars : Option Addr, ∃ nvars : Nat, ∃ cvars : Nat, ∃ Acolors : Option Addr, ∃ ncolors : Nat, ∃ ccolors : Nat, ∃ Aedge : Option Addr, ∃ nedge : Nat, ∃ cedge : Nat, A = some ⟨b, off, none⟩ ∧ b < w.heap.size ∧ xs[k]? = some x ∧ Sl w S Avars nvars cvars x.vars ∧ Sl w S Acolors ncolors ccolors x.colors ∧ Sl w S Aedge nedge cedge x.edge ∧ w.cell? ⟨b, off + k * 3, none⟩ = some (.slice Avars nvars cvars) ∧ w.cell? ⟨b, off + k * 3 + 1, none⟩ = some (.slice Acolors ncolors ccolors) ∧ w.cell? ⟨b, off + k * 3 + 2, none⟩ = some (.slice Aedge nedge cedge) := by
  obtain ⟨b, off, x, us, e, hb, _, hx, hus, hc⟩ := h.at_ hk
  obtain ⟨Avars, nvars, cvars, Acolors, ncolors, ccolors, Aedge, nedge, cedge, rfl, g0, g1, g2⟩ := Brief.open_ hus
  refine ⟨b, off, x, Avars, nvars, cvars, Acolors, ncolors, ccolors, Aedge, nedge, cedge, e, hb, hx, g0, g1, g2, ?_, ?_, ?_⟩
  · have := hc 0 _ rfl; simpa [Rep.size, Nat.add_assoc] using this
  · have := hc 1 _ rfl; simpa [Rep.size, Nat.add_assoc] using this
  · have := hc 2 _ rfl; simpa [Rep.size, Nat.add_assoc] using this

end Go.Proofs.YthmglmmafgdmhaaGreat
