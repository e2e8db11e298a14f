/- LineAll: the plain law: words that are got one by one. LineBlank: the plain law: a text with more ends between its lines lexes alike. LineBlank: the plain law, on bytes. Texts of lines of words (laws 04, 07): what is shown of them lexes to them. -/
import Derived.Test.YtljglhaeonbfoaaGreatDoorL2i
set_option linter.unusedSimpArgs false
set_option linter.unusedVariables false
namespace Go.Proofs.YtljglhaeonbfoaaGreatDoor
section
variable {ws : List Word} {k : Nat} {b : Bool} {l : List Word} {x : Word}
end
end Go.Proofs.YtljglhaeonbfoaaGreatDoor
namespace Go.Proofs.YtljglhaeonbfoaaGreatDoor
end Go.Proofs.YtljglhaeonbfoaaGreatDoor
namespace Go.Proofs.YtljglhaeonbfoaaGreatDoor
section
variable {a b : Cur}
theorem failC_e (x : Int) (s : Cur) : (failC x s).e = if s.e ≠ 0 ∨ x = 0 then s.e else x := by
 unfold failC
 split
 ·rfl
 ·split <;> rfl
end
end Go.Proofs.YtljglhaeonbfoaaGreatDoor
namespace Go.Proofs.YtljglhaeonbfoaaGreatDoor
abbrev nmW (t : ByteArray) : Word := ⟨1, t, 0, 0, 0⟩
abbrev nuW (n : Int) : Word := ⟨2, itoaB n, n, 0, 0⟩
abbrev mkW (t : ByteArray) : Word := ⟨3, t, 0, 0, 0⟩
def tailX : List ByteArray → ByteArray
 | [] => ByteArray.empty
 | y :: l => (⟨#[32]⟩ ++ y) ++ tailX l
def joinX : List ByteArray → ByteArray
 | [] => ByteArray.empty
 | x :: l => x ++ tailX l
def lineX (ps : List Word) : ByteArray := joinX (ps.map (·.text)) ++ ⟨#[10]⟩
def linesX : ByteArray → List (List Word) → ByteArray
 | acc, [] => acc
 | acc, p :: l => linesX (acc ++ lineX p) l
theorem linesX_app : ∀ (a b : List (List Word)) (acc : ByteArray), linesX acc (a ++ b) = linesX (linesX acc a) b
 | [], _, _ => rfl
 | p :: a, b, acc => linesX_app a b (acc ++ lineX p)
end Go.Proofs.YtljglhaeonbfoaaGreatDoor
