/- Walks: small functions, second part. -/
import Derived.Test.YtppkanniefignaaGreatDoorS06
set_option linter.unusedSimpArgs false
set_option linter.unusedVariables false
namespace Go.Proofs.YtppkanniefignaaGreatDoor
open Go.RowKit

theorem mark_any (k i : Int) (w : World) (hk : 0 ≤ k ∧ k ≤ 100000000) (hi : 0 ≤ i ∧ i ≤ 100000000) : Calls Tryz.prog 43 #[.int .i64 k, .int .i64 i] w (Ret (.int .i64 (markI k i)) w) := by
  obtain ⟨k1, k2⟩ := hk
  obtain ⟨i1, i2⟩ := hi
  go_enter Tryz.func43, Tryz.ntmps43
  go_wp2; go_ret; exact Ret.i rfl
end Go.Proofs.YtppkanniefignaaGreatDoor
