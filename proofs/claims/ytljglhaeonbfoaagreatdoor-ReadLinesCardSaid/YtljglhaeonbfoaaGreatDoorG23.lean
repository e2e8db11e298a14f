/- Walks: small functions, second part. Walks: small functions. -/
import Derived.Test.YtljglhaeonbfoaaGreatDoorG20
import Derived.Test.YtljglhaeonbfoaaGreatDoorG0
set_option linter.unusedSimpArgs false
set_option linter.unusedVariables false
namespace Go.Proofs.YtljglhaeonbfoaaGreatDoor
open Go.RowKit
end Go.Proofs.YtljglhaeonbfoaaGreatDoor
namespace Go.Proofs.YtljglhaeonbfoaaGreatDoor
open Go.RowKit
theorem idxF_ge {α : Type} (f : α → Bool) (xs : List α) : ∀ k : Nat, decide (idxF f k xs ≥ 0) = anyF f xs := by
 induction xs with
 | nil => intro k; rfl
 | cons x l ih =>
  intro k
  simp only [idxF, anyF]
  by_cases hx : f x = true
  ·simp [hx]
  ·have := ih (k + 1)
   simpa [hx] using this
end Go.Proofs.YtljglhaeonbfoaaGreatDoor
