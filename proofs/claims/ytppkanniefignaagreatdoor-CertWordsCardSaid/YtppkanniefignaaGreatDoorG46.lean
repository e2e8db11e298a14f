/- What the functions of chapters 5 and 6 answer, as plain functions. Walks: slices made, targets counted. -/
import Derived.Test.YtppkanniefignaaGreatDoorG0
import Derived.Test.YtppkanniefignaaGreatDoorG2
set_option linter.unusedSimpArgs false
set_option linter.unusedVariables false
namespace Go.Proofs.YtppkanniefignaaGreatDoor
def markI (k i : Int) : Int := 1000003 * (k + 7) + i
end Go.Proofs.YtppkanniefignaaGreatDoor
namespace Go.Proofs.YtppkanniefignaaGreatDoor
open Go.RowKit
theorem info_int : (Tryz.prog.info? 3).map (fun i => (i.zero, i.size, i.bytes)) = some (some (.int .i64 0), 1, 8) := by kernel_rfl
end Go.Proofs.YtppkanniefignaaGreatDoor
