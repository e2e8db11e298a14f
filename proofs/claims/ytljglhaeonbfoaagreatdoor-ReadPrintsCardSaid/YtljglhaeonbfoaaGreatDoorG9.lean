/- The document's Read: the walk. law01: same, awake, IsName; the program's and the document's. law01: the document's IsName; same, awake. law01: awake, WordReads: the walks. -/
import Derived.Test.YtljglhaeonbfoaaGreatDoorG7
import Derived.Test.YtljglhaeonbfoaaGreatDoorG8
set_option linter.unusedSimpArgs false
set_option linter.unusedVariables false
namespace Go.Proofs.YtljglhaeonbfoaaGreatDoor
open Go.RowKit
end Go.Proofs.YtljglhaeonbfoaaGreatDoor
namespace Go.Proofs.YtljglhaeonbfoaaGreatDoor
open Go.RowKit
end Go.Proofs.YtljglhaeonbfoaaGreatDoor
namespace Go.Proofs.YtljglhaeonbfoaaGreatDoor
open Go.RowKit
end Go.Proofs.YtljglhaeonbfoaaGreatDoor
namespace Go.Proofs.YtljglhaeonbfoaaGreatDoor
open Go.RowKit
end Go.Proofs.YtljglhaeonbfoaaGreatDoor
