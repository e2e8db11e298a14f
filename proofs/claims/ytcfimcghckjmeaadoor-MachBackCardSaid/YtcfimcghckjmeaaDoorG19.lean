/- Plain: the two ways to say that a machine is right say the same. Walks: machines that are right. -/
import Derived.Test.YtcfimcghckjmeaaDoorG18
import Derived.Deep.RegionHeld3
import Derived.Deep.RegionWith
set_option linter.unusedSimpArgs false
set_option linter.unusedVariables false
namespace Go.Proofs.YtcfimcghckjmeaaDoor

theorem pair_le (xs : List Int) : (∀ i, i < xs.length - 1 → xs.getD i 0 ≤ xs.getD (i + 1) 0) ↔ xs.Pairwise (· ≤ ·) := by
  induction xs with
  | nil => simp
  | cons x l ih =>
    cases l with
    | nil => simp
    | cons y l =>
      rw [List.pairwise_cons, ← ih]
      constructor
      · intro h
        have h0 : x ≤ y := by have := h 0 (by simp); simpa using this
        have h1 : ∀ i, i < (y :: l).length - 1 → (y :: l).getD i 0 ≤ (y :: l).getD (i + 1) 0 := fun i hi => by
          have := h (i + 1) (by simp at hi ⊢; omega)
          simpa using this
        refine ⟨fun z hz => ?_, h1⟩
        rcases List.mem_cons.1 hz with rfl | hz
        · exact h0
        · exact Int.le_trans h0 ((List.pairwise_cons.1 (ih.1 h1)).1 z hz)
      · rintro ⟨h0, h1⟩ i hi
        cases i with
        | zero => simpa using h0 y (by simp)
        | succ i =>
          have := h1 i (by simp at hi ⊢; omega)
          simpa using this
theorem pair_lt (xs : List Int) : xs.Pairwise (· < ·) ↔ xs.Pairwise (· ≤ ·) ∧ xs.Nodup := by
  unfold List.Nodup
  constructor
  · intro h
    exact ⟨h.imp fun h => by omega, h.imp fun h => by omega⟩
  · rintro ⟨h1, h2⟩
    exact (h1.and h2).imp fun ⟨a, b⟩ => by omega
/-- The program's way. -/
def rightP (m : Machine) : Bool :=
  decide (1 ≤ m.regs) && decide (m.regs ≤ 64) && decide (m.args.length ≤ 8) && decide ((m.saved.length : Int) ≤ m.regs) && sortedTo m.saved (m.saved.length - 1) && (argsOk m.regs [] m.args && argsOk m.regs [] (m.ret :: m.saved))
theorem rightP_eq (m : Machine) : rightP m = rightM m := by
  rw [Bool.eq_iff_iff]
  have hm : (hasI m.ret m.saved = false) ↔ m.ret ∉ m.saved := by rw [← hasI_iff]; simp
  simp only [rightP, rightM, Bool.and_eq_true, decide_eq_true_eq, argsOk_iff, sortedTo_iff, savedOk_iff, Bool.not_eq_true', hm, pair_le, pair_lt, List.mem_cons, List.nodup_cons]
  constructor
  · rintro ⟨⟨⟨⟨⟨h1, h2⟩, h3⟩, h4⟩, h5⟩, h6, h7, h8, h9⟩
    exact ⟨⟨⟨⟨⟨⟨⟨⟨h1, h2⟩, h3⟩, h4⟩, (h7 m.ret (.inl rfl)).1⟩, (h7 m.ret (.inl rfl)).2.1⟩, h8⟩, h6⟩, fun x hx => ⟨(h7 x (.inr hx)).1, (h7 x (.inr hx)).2.1⟩, by simp, h5, h9⟩
  · rintro ⟨⟨⟨⟨⟨⟨⟨⟨h1, h2⟩, h3⟩, h4⟩, h5⟩, h6⟩, h7⟩, h8⟩, h9, h10, h11, h12⟩
    refine ⟨⟨⟨⟨⟨h1, h2⟩, h3⟩, h4⟩, h11⟩, h8, fun x hx => ?_, h7, h12⟩
    rcases hx with rfl | hx
    · exact ⟨h5, h6, by simp⟩
    · exact ⟨(h9 x hx).1, (h9 x hx).2, by simp⟩
end Go.Proofs.YtcfimcghckjmeaaDoor
set_option linter.unusedSimpArgs false
set_option linter.unusedVariables false
namespace Go.Proofs.YtcfimcghckjmeaaDoor
open Go.RowKit

end Go.Proofs.YtcfimcghckjmeaaDoor
