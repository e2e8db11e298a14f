/- law28: facts stand in a strict order. -/
import Derived.Test.YtppkanniefignaaDoorB28
set_option linter.unusedSimpArgs false
set_option linter.unusedVariables false
namespace Go.Proofs.YtppkanniefignaaDoor

/-! ### plain: a strict order -/
theorem ahead_irr (a : Fact) : aheadF a a = false := by
  rw [ahead_eq]; unfold aheadD; simp
theorem ahead_asym (a b : Fact) : (aheadF a b && aheadF b a) = false := by
  rw [ahead_eq, ahead_eq]
  obtain ⟨v, ⟨s, n⟩⟩ := a
  obtain ⟨v', ⟨s', n'⟩⟩ := b
  unfold aheadD
  by_cases h : v = v'
  · subst h
    cases s <;> cases s' <;> simp
    all_goals omega
  · have h' : v' ≠ v := fun e => h e.symm
    simp [h, h']
    omega
theorem ahead_tot (a b : Fact) : decide (a = b) = !(aheadF a b || aheadF b a) := by
  rw [ahead_eq, ahead_eq]
  obtain ⟨v, ⟨s, n⟩⟩ := a
  obtain ⟨v', ⟨s', n'⟩⟩ := b
  unfold aheadD
  by_cases h : v = v'
  · subst h
    cases s <;> cases s' <;> simp
    all_goals (by_cases hn : n = n' <;> simp [hn] <;> omega)
  · have h' : v' ≠ v := fun e => h e.symm
    simp [h, h']
    omega
theorem ahead_trans (a b c : Fact) : (!aheadF a b || !aheadF b c || aheadF a c) = true := by
  rw [ahead_eq, ahead_eq, ahead_eq]
  obtain ⟨v, ⟨s, n⟩⟩ := a
  obtain ⟨v', ⟨s', n'⟩⟩ := b
  obtain ⟨v'', ⟨s'', n''⟩⟩ := c
  unfold aheadD
  simp only
  by_cases h1 : v = v' <;> by_cases h2 : v' = v'' <;> by_cases h3 : v = v'' <;> cases s <;> cases s' <;> cases s'' <;> simp_all <;> omega
end Go.Proofs.YtppkanniefignaaDoor
