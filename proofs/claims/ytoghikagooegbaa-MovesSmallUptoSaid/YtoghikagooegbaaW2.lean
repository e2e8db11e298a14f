/- Walks: small functions, second part. -/
import Derived.Test.YtoghikagooegbaaS06
set_option linter.unusedSimpArgs false
set_option linter.unusedVariables false
namespace Go.Proofs.Ytoghikagooegbaa
open Go.RowKit

theorem mark_any (k i : Int) (w : World) (hk : 0 ≤ k ∧ k ≤ 100000000) (hi : 0 ≤ i ∧ i ≤ 100000000) : Calls Try.prog 66 #[.int .i64 k, .int .i64 i] w (Ret (.int .i64 (markI k i)) w) := by
  obtain ⟨k1, k2⟩ := hk
  obtain ⟨i1, i2⟩ := hi
  go_enter Try.func66, Try.ntmps66
  go_wp2; go_ret; exact Ret.i rfl
end Go.Proofs.Ytoghikagooegbaa
