/- Walks: slices made, targets counted. -/
import Derived.Test.YtppkanniefignaaGreatDoorS06
import Derived.Test.YtppkanniefignaaGreatDoorG2
set_option linter.unusedSimpArgs false
set_option linter.unusedVariables false
namespace Go.Proofs.YtppkanniefignaaGreatDoor
open Go.RowKit

theorem info_int : (Tryz.prog.info? 3).map (fun i => (i.zero, i.size, i.bytes)) = some (some (.int .i64 0), 1, 8) := by kernel_rfl
theorem info_Loc : (Tryz.prog.info? 40).map (fun i => (i.zero, i.size, i.bytes)) = some (some (.agg #[.bool false, .int .i64 0]), 2, 16) := by kernel_rfl

end Go.Proofs.YtppkanniefignaaGreatDoor
