/- Walks: slices made, targets counted. Walks: the table of parts. -/
import Derived.Test.YtljglhaeonbfoaaGreatDoorG20
import Derived.Test.YtljglhaeonbfoaaGreatDoorG2
set_option linter.unusedSimpArgs false
set_option linter.unusedVariables false
namespace Go.Proofs.YtljglhaeonbfoaaGreatDoor
open Go.RowKit
theorem info_int : (Tryz.prog.info? 3).map (fun i => (i.zero, i.size, i.bytes)) = some (some (.int .i64 0), 1, 8) := by kernel_rfl
end Go.Proofs.YtljglhaeonbfoaaGreatDoor
namespace Go.Proofs.YtljglhaeonbfoaaGreatDoor
open Go.RowKit
end Go.Proofs.YtljglhaeonbfoaaGreatDoor
