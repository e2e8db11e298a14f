/- Walks: small functions. -/
import Derived.Test.YtoghikagooegbaaBase
set_option linter.unusedSimpArgs false
set_option linter.unusedVariables false
namespace Go.Proofs.Ytoghikagooegbaa
open Go.RowKit

theorem idxF_ge {α : Type} (f : α → Bool) (xs : List α) : ∀ k : Nat, decide (idxF f k xs ≥ 0) = anyF f xs := by
  induction xs with
  | nil => intro k; rfl
  | cons x l ih =>
    intro k
    simp only [idxF, anyF]
    by_cases hx : f x = true
    · simp [hx]
    · have := ih (k + 1)
      simpa [hx] using this
def sortedI : List Int → Bool
  | [] => true
  | [_] => true
  | x :: y :: l => !decide (y < x) && sortedI (y :: l)
/-- from the place k downwards -/
def sortedTo (xs : List Int) : Nat → Bool
  | 0 => true
  | k + 1 => !decide (xs.getD (k + 1) 0 < xs.getD k 0) && sortedTo xs k
end Go.Proofs.Ytoghikagooegbaa
