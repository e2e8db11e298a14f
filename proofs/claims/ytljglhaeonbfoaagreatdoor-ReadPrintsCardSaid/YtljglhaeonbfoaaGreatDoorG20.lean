/- What the functions of chapters 5 and 6 answer, as plain functions. The program's structs, and what they read as. Written by gen_types.py. The program's structs, and what they read as. Written by gen_types.py. -/
import Derived.Test.YtljglhaeonbfoaaGreatDoorG0
set_option linter.unusedSimpArgs false
set_option linter.unusedVariables false
namespace Go.Proofs.YtljglhaeonbfoaaGreatDoor
def markI (k i : Int) : Int := 1000003 * (k + 7) + i
def argsOf (most : Int) : Int → List Ins → Int
 | n, [] => n
 | n, i :: l => if n ≤ most then argsOf most (n + i.args.length) l else n
def blocksOf (most : Int) : Int → List Block → Int
 | n, [] => n
 | n, b :: l => if n ≤ most then blocksOf most (argsOf most (n + 1 + b.ins.length) b.ins) l else n
def SmallI (M : Nat) (i : Ins) : Prop := i.args.length ≤ M
def SmallB (M : Nat) (b : Block) : Prop := b.ins.length ≤ M ∧ ∀ i ∈ b.ins, SmallI M i
def SmallT (M : Nat) (l : List Block) : Prop := l.length ≤ M ∧ ∀ b ∈ l, SmallB M b
end Go.Proofs.YtljglhaeonbfoaaGreatDoor
namespace Go.Proofs.YtljglhaeonbfoaaGreatDoor
open Go.RowKit
structure Fnc where
 params : List Int
 blocks : List Block
 deriving DecidableEq, Inhabited
instance : Rep Fnc := Rep.via fun x => (x.params, x.blocks)
theorem Fnc.open_ {w : World} {S : Nat → Prop} {x : Fnc} {vs : List Value} (h : Rep.is w S x vs) : ∃ Aparams : Option Addr, ∃ nparams : Nat, ∃ cparams : Nat, ∃ Ablocks : Option Addr, ∃ nblocks : Nat, ∃ cblocks : Nat, vs = [.slice Aparams nparams cparams, .slice Ablocks nblocks cblocks] ∧ Sl w S Aparams nparams cparams x.params ∧ Sl w S Ablocks nblocks cblocks x.blocks := by
 obtain ⟨us0, ts0, e0, h0, r0⟩ := h
 obtain ⟨A1, n1, c1, v1, f1⟩ := h0
 obtain ⟨A2, n2, c2, v2, f2⟩ := r0
 refine ⟨A1, n1, c1, A2, n2, c2, ?_, f1, f2⟩
 subst_vars; simp
end Go.Proofs.YtljglhaeonbfoaaGreatDoor
namespace Go.Proofs.YtljglhaeonbfoaaGreatDoor
open Go.RowKit
structure Fact where
 var : Int
 loc : Loc
 deriving DecidableEq, Inhabited
instance : Rep Fact := Rep.via fun x => (x.var, x.loc)
structure Tile where
 kind : Int
 parent : Int
 blocks : List Int
 deriving DecidableEq, Inhabited
instance : Rep Tile := Rep.via fun x => (x.kind, x.parent, x.blocks)
structure Cert where
 tiles : List Tile
 facts : List (List Fact)
 deriving DecidableEq, Inhabited
instance : Rep Cert := Rep.via fun x => (x.tiles, x.facts)
end Go.Proofs.YtljglhaeonbfoaaGreatDoor
