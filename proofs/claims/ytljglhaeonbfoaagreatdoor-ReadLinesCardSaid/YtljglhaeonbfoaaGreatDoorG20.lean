/- What the functions of chapters 5 and 6 answer, as plain functions. The program's structs, and what they read as. Written by gen_types.py. The program's structs, and what they read as. Written by gen_types.py. -/
import Derived.Test.YtljglhaeonbfoaaGreatDoorG0
set_option linter.unusedSimpArgs false
set_option linter.unusedVariables false
namespace Go.Proofs.YtljglhaeonbfoaaGreatDoor
def markI (k i : Int) : Int := 1000003 * (k + 7) + i
end Go.Proofs.YtljglhaeonbfoaaGreatDoor
namespace Go.Proofs.YtljglhaeonbfoaaGreatDoor
open Go.RowKit
structure Fact where
 var : Int
 loc : Loc
 deriving DecidableEq, Inhabited
instance : Rep Fact := Rep.via fun x => (x.var, x.loc)
structure Tile where
 kind : Int
 parent : Int
 blocks : List Int
 deriving DecidableEq, Inhabited
instance : Rep Tile := Rep.via fun x => (x.kind, x.parent, x.blocks)
structure Cert where
 tiles : List Tile
 facts : List (List Fact)
 deriving DecidableEq, Inhabited
instance : Rep Cert := Rep.via fun x => (x.tiles, x.facts)
end Go.Proofs.YtljglhaeonbfoaaGreatDoor
namespace Go.Proofs.YtljglhaeonbfoaaGreatDoor
open Go.RowKit
structure Fnc where
 params : List Int
 blocks : List Block
 deriving DecidableEq, Inhabited
instance : Rep Fnc := Rep.via fun x => (x.params, x.blocks)
end Go.Proofs.YtljglhaeonbfoaaGreatDoor
