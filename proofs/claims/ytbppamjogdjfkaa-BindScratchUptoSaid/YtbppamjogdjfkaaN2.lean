/- What the functions of chapters 5 and 6 answer, as plain functions. Walks: slices made, targets counted. Walks: small functions, second part. -/
import Derived.Test.YtbppamjogdjfkaaTypes
import Derived.Test.YtbppamjogdjfkaaOwn
set_option linter.unusedSimpArgs false
set_option linter.unusedVariables false
namespace Go.Proofs.Ytbppamjogdjfkaa

/-- the parts that an Op has, as bits -/
def hasP (o : Int) : Int :=
  if o = 1 then 9 else if 2 ≤ o ∧ o ≤ 10 then 7 else if o = 11 then 11 else if o = 12 then 14 else if o = 13 then 32 else if o = 15 then 3 else if o = 16 then 18 else if o = 17 then 17 else 0
/-- the same, as letters -/
def hasL (o : Int) : ByteArray :=
  if o = 1 then ⟨#[100, 105]⟩ else if 2 ≤ o ∧ o ≤ 10 then ⟨#[100, 97, 98]⟩ else if o = 11 then ⟨#[100, 97, 105]⟩ else if o = 12 then ⟨#[97, 98, 105]⟩ else if o = 13 then ⟨#[99]⟩ else if o = 15 then ⟨#[100, 97]⟩ else if o = 16 then ⟨#[97, 115]⟩ else if o = 17 then ⟨#[100, 115]⟩ else ⟨#[]⟩
/-- is a letter one of some? -/
def hasB (c : Int) : List UInt8 → Bool
  | [] => false
  | x :: l => ((x.toNat : Int) == c) || hasB c l
def insertedB (o : Int) : Bool := o == 15 || o == 16 || o == 17
def pickI (x n : Int) : Int := if n < 1 then 0 else if x.tmod n < 0 then x.tmod n + n else x.tmod n
def markI (k i : Int) : Int := 1000003 * (k + 7) + i
def argsOf (most : Int) : Int → List Ins → Int
  | n, [] => n
  | n, i :: l => if n ≤ most then argsOf most (n + i.args.length) l else n
def blocksOf (most : Int) : Int → List Block → Int
  | n, [] => n
  | n, b :: l => if n ≤ most then blocksOf most (argsOf most (n + 1 + b.ins.length) b.ins) l else n
def sizeT (n : Int) : List Block → Int
  | [] => n
  | b :: l => sizeT (n + b.ins.length) l
def placeB (m : Machine) (frame : Int) (l : Loc) : Bool := decide (0 ≤ l.n) && (l.slot && decide (l.n < frame) || !l.slot && decide (l.n < m.regs))
/-- numbers below a bound, each once; those ahead of them -/
def argsOk (regs : Int) : List Int → List Int → Bool
  | _, [] => true
  | pre, x :: l => decide (0 ≤ x) && decide (x < regs) && !hasI x pre && argsOk regs (x :: pre) l
/-- numbers below a bound, rising; the one ahead of them -/
def savedOk (regs : Int) : Option Int → List Int → Bool
  | _, [] => true
  | p, x :: l => decide (0 ≤ x) && decide (x < regs) && (match p with | none => true | some q => decide (q < x)) && savedOk regs (some x) l
def rightM (m : Machine) : Bool :=
  decide (1 ≤ m.regs) && decide (m.regs ≤ 64) && decide (m.args.length ≤ 8) && decide ((m.saved.length : Int) ≤ m.regs) && decide (0 ≤ m.ret) && decide (m.ret < m.regs) && !hasI m.ret m.saved && argsOk m.regs [] m.args && savedOk m.regs none m.saved
def sameL : List Loc → List Loc → Bool
  | [], [] => true
  | a :: l, b :: m => (a == b) && sameL l m
  | _, _ => false
def allB (m : Machine) (frame : Int) : List Loc → Bool
  | [] => true
  | l :: r => placeB m frame l && allB m frame r
/-- The sizes of a target's lists are modest. -/
def SmallI (M : Nat) (i : Ins) : Prop := i.args.length ≤ M
def SmallB (M : Nat) (b : Block) : Prop := b.ins.length ≤ M ∧ ∀ i ∈ b.ins, SmallI M i
def SmallT (M : Nat) (l : List Block) : Prop := l.length ≤ M ∧ ∀ b ∈ l, SmallB M b
end Go.Proofs.Ytbppamjogdjfkaa
set_option linter.unusedSimpArgs false
set_option linter.unusedVariables false
namespace Go.Proofs.Ytbppamjogdjfkaa
open Go.RowKit

theorem info_int : (Try.prog.info? 3).map (fun i => (i.zero, i.size, i.bytes)) = some (some (.int .i64 0), 1, 8) := by kernel_rfl
end Go.Proofs.Ytbppamjogdjfkaa
set_option linter.unusedSimpArgs false
set_option linter.unusedVariables false
namespace Go.Proofs.Ytbppamjogdjfkaa
open Go.RowKit

theorem machineOf_any (w : World) (S : Nat → Prop) (m : Machine) (A1 A2 : Option Addr) (n1 c1 n2 c2 : Nat) (h1 : Sl w S A1 n1 c1 m.args) (h2 : Sl w S A2 n2 c2 m.saved)
    (hb : n1 ≤ 1048576 ∧ n2 ≤ 1048576) :
    Calls Try.prog 6 #[.agg #[.int .i64 m.regs, .slice A1 n1 c1, .int .i64 m.ret, .slice A2 n2 c2]] w (RetX (.int .i64 ((n1 : Int) + n2)) w) := by
  obtain ⟨b1, b2⟩ := hb
  go_enter Try.func6, Try.ntmps6
  go_wp2; go_ret; exact RetX.i rfl (by repeat (first | exact Below.refl _ _ | assumption | refine Below.alloc ?_ (by simp [size_ext]; try omega) _ | refine Below.ext ?_ (by simp [size_ext]; try omega) _ | refine Below.drew ?_ | refine Below.setCell ?_ (by simp [size_ext]; try omega) _))
end Go.Proofs.Ytbppamjogdjfkaa
