/- The document's Read: the walk. law01: same, awake, IsName; the program's and the document's. law01: the document's IsName; same, awake. law01: awake, WordReads: the walks. -/
import Derived.Test.YtljglhaeonbfoaaGreatDoorG7
import Derived.Test.YtljglhaeonbfoaaGreatDoorG8
set_option linter.unusedSimpArgs false
set_option linter.unusedVariables false
namespace Go.Proofs.YtljglhaeonbfoaaGreatDoor
open Go.RowKit
end Go.Proofs.YtljglhaeonbfoaaGreatDoor
namespace Go.Proofs.YtljglhaeonbfoaaGreatDoor
open Go.RowKit
def isNameR : Nat → List Int → Bool
 | n, [] => decide (1 ≤ n) && decide (n ≤ 16)
 | n, c :: l => if isL c = false ∧ (n = 0 ∨ isD c = false) then false else isNameR (n + 1) l
theorem isNameR_cons (n : Nat) (c : Int) (l : List Int) : isNameR n (c :: l) = if isL c = false ∧ (n = 0 ∨ isD c = false) then false else isNameR (n + 1) l := rfl
end Go.Proofs.YtljglhaeonbfoaaGreatDoor
namespace Go.Proofs.YtljglhaeonbfoaaGreatDoor
open Go.RowKit
end Go.Proofs.YtljglhaeonbfoaaGreatDoor
namespace Go.Proofs.YtljglhaeonbfoaaGreatDoor
open Go.RowKit
end Go.Proofs.YtljglhaeonbfoaaGreatDoor
