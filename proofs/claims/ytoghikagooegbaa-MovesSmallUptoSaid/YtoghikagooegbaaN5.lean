/- Walks: the table of parts. Walks: a machine of two registers; tables; letters; sizes. -/
import Derived.Test.YtoghikagooegbaaW3
set_option linter.unusedSimpArgs false
set_option linter.unusedVariables false
namespace Go.Proofs.Ytoghikagooegbaa
open Go.RowKit

def tabAt (k i : Nat) : Int := if 2 ≤ i ∧ i < k then 7 else if i = 1 then 9 else if i = 11 then 11 else if i = 12 then 14 else if i = 13 then 32 else if i = 15 then 3 else if i = 16 then 18 else if i = 17 then 17 else 0
theorem tab_hasP (i : Nat) (h : i < 18) : tabAt 11 i = hasP i := by
  have : i = 0 ∨ i = 1 ∨ i = 2 ∨ i = 3 ∨ i = 4 ∨ i = 5 ∨ i = 6 ∨ i = 7 ∨ i = 8 ∨ i = 9 ∨ i = 10 ∨ i = 11 ∨ i = 12 ∨ i = 13 ∨ i = 14 ∨ i = 15 ∨ i = 16 ∨ i = 17 := by omega
  rcases this with h | h | h | h | h | h | h | h | h | h | h | h | h | h | h | h | h | h <;> subst h <;> decide
theorem hasP_out (o : Int) (h : o < 0 ∨ 18 ≤ o) : hasP o = 0 := by
  unfold hasP
  rw [if_neg (by omega), if_neg (by omega), if_neg (by omega), if_neg (by omega), if_neg (by omega), if_neg (by omega), if_neg (by omega), if_neg (by omega)]
end Go.Proofs.Ytoghikagooegbaa
set_option linter.unusedSimpArgs false
set_option linter.unusedVariables false
namespace Go.Proofs.Ytoghikagooegbaa
open Go.RowKit

end Go.Proofs.Ytoghikagooegbaa
