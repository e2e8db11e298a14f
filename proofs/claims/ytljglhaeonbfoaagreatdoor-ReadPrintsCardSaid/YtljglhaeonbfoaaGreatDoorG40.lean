/- law02: the document's cursor. Printed by gen_l2j.py. law02: the document's Over. law04: walks: the document's variables. law04: walks: the document goes over a variable. law04: walks: the document goes over variables up to a line's end. law04: walks: the document goes over variables up to a line's end. Printed by gen_d4d.py. law04: walks: the document's names of Ops, and what stands while it reads an instruction. law04: walks: what stands right of an arrow: the document's. Printed by gen_d4f.py. law04: what stands while the document reads a line. law04: walks: the document reads a line. Printed by gen_d4h.py. law04: what stands while the document reads a block. law04: walks: the document reads a block. Printed by gen_d4j.py. law04: what stands while the document reads a function. law04: walks: the document's Parse. Printed by gen_d4l.py. law04: walks: ReadParses. law04: walks: ReadLines, but for 'many'. Printed by gen_d4n.py. -/
import Derived.Test.YtljglhaeonbfoaaGreatDoorG16
import Derived.BigQuiet
import Derived.Test.YtljglhaeonbfoaaGreatDoorL2i
import Derived.Test.YtljglhaeonbfoaaGreatDoorG9
import Derived.Test.YtljglhaeonbfoaaGreatDoorG56
import Derived.Test.YtljglhaeonbfoaaGreatDoorG26
import Derived.BigGuardPart
import Derived.Test.YtljglhaeonbfoaaGreatDoorG33
import Derived.Test.YtljglhaeonbfoaaGreatDoorG28
import Derived.BigRegion
import Derived.Test.YtljglhaeonbfoaaGreatDoorG36
import Derived.Deep.DeepCutAuto
import Derived.Test.YtljglhaeonbfoaaGreatDoorG19
import Derived.Test.YtljglhaeonbfoaaGreatDoorG37
set_option linter.unusedSimpArgs false
set_option linter.unusedVariables false
namespace Go.Proofs.YtljglhaeonbfoaaGreatDoor
open Go.RowKit
section
variable {w w' : World} {S : Nat → Prop} {c d : Nat} {s s' : Cur}
end
section
variable {w : World} {S : Nat → Prop} {c : Nat} {s : Cur}
end
end Go.Proofs.YtljglhaeonbfoaaGreatDoor
namespace Go.Proofs.YtljglhaeonbfoaaGreatDoor
open Go.RowKit
end Go.Proofs.YtljglhaeonbfoaaGreatDoor
namespace Go.Proofs.YtljglhaeonbfoaaGreatDoor
open Go.RowKit
set_option maxRecDepth 100000 in
set_option maxHeartbeats 8000000 in
theorem dVar_any (w : World) (n : Int) (hn : InI n) (hv : VarsP w) : Calls Tryz.prog 77 #[.int .i64 n] w (RetX (.string (docVar n)) w) := by
 have HIT := hide (itoaP_any n hn w hv)
 have hts := itoa4_sz n hn
 have HD := hide (show docVar n = ⟨#[118]⟩ ++ itoaB n from rfl)
 generalize itoaB n = t at HIT hts HD
 have h1 : (⟨#[118]⟩ : ByteArray).size = 1 := rfl
 have g1 : (⟨#[118]⟩ : ByteArray).size + t.size ≤ 9223372036854775807 := by omega
 clear hv hts h1
 go_enter Tryz.func77, Tryz.ntmps77
 go_wp2_with (first | (go_at_call 33; (with_reducible refine HIT.out.mono ?_); rintro e _ ⟨rfl, u, rfl⟩) | (simp only [run_string_add_sum _ _ _ g1]))
 go_ret
 exact ⟨by rw [HD.out]; rfl, u, rfl⟩
section
variable {w : World} {S : Nat → Prop} {c : Nat} {s : Cur}
end
end Go.Proofs.YtljglhaeonbfoaaGreatDoor
namespace Go.Proofs.YtljglhaeonbfoaaGreatDoor
open Go.RowKit
section
variable {w0 w W W' : World} {R M c : Nat} {S : Nat → Prop} {s s' : Cur}
end
end Go.Proofs.YtljglhaeonbfoaaGreatDoor
namespace Go.Proofs.YtljglhaeonbfoaaGreatDoor
open Go.RowKit
section
variable {w0 W W' : World} {R M c : Nat} {S : Nat → Prop} {s s' : Cur} {T : TypeId} {cs cs' : Array Value}
end
end Go.Proofs.YtljglhaeonbfoaaGreatDoor
namespace Go.Proofs.YtljglhaeonbfoaaGreatDoor
open Go.RowKit
end Go.Proofs.YtljglhaeonbfoaaGreatDoor
namespace Go.Proofs.YtljglhaeonbfoaaGreatDoor
open Go.RowKit
section
variable {w0 w W W' : World} {R Z M c : Nat} {S : Nat → Prop} {s s' : Cur} {T TZ : TypeId} {cs cs' zs zs' : Array Value}
end
set_option maxRecDepth 100000 in
set_option maxHeartbeats 4000000 in
theorem name4_any (k : Nat) (h1 : 2 ≤ k) (h2 : k ≤ 10) (w : World) : Calls Tryz.prog 79 #[.int .i64 (k : Int)] w (RetX (.string (opT (k : Int))) w) := by
 rcases (by omega : k = 2 ∨ k = 3 ∨ k = 4 ∨ k = 5 ∨ k = 6 ∨ k = 7 ∨ k = 8 ∨ k = 9 ∨ k = 10) with rfl | rfl | rfl | rfl | rfl | rfl | rfl | rfl | rfl
 all_goals
  go_enter Tryz.func79, Tryz.ntmps79
  go_wp2_with fail
  go_ret
  exact ⟨rfl, ext_refl _⟩
end Go.Proofs.YtljglhaeonbfoaaGreatDoor
namespace Go.Proofs.YtljglhaeonbfoaaGreatDoor
open Go.RowKit
end Go.Proofs.YtljglhaeonbfoaaGreatDoor
namespace Go.Proofs.YtljglhaeonbfoaaGreatDoor
open Go.RowKit
section
variable {w0 w W W' : World} {R I Z M c : Nat} {S : Nat → Prop} {s s' : Cur} {T TZ TI : TypeId} {cs cs' zs zs' is is' : Array Value}
end
end Go.Proofs.YtljglhaeonbfoaaGreatDoor
namespace Go.Proofs.YtljglhaeonbfoaaGreatDoor
open Go.RowKit
end Go.Proofs.YtljglhaeonbfoaaGreatDoor
namespace Go.Proofs.YtljglhaeonbfoaaGreatDoor
open Go.RowKit
section
variable {w0 w W W' : World} {R Z M c : Nat} {S St St' : Nat → Prop} {T TZ : TypeId} {cs cs' zs zs' : Array Value} {v v' : Value} {t t' : Term} {l l' : List Ins} {s s' : Cur}
end
end Go.Proofs.YtljglhaeonbfoaaGreatDoor
namespace Go.Proofs.YtljglhaeonbfoaaGreatDoor
open Go.RowKit
end Go.Proofs.YtljglhaeonbfoaaGreatDoor
namespace Go.Proofs.YtljglhaeonbfoaaGreatDoor
open Go.RowKit
section
variable {w0 w W W' : World} {C F c D : Nat} {S Sp Sb Sb' : Nat → Prop} {vp vp' vb vb' : Value} {Ap : Option Addr} {np kp : Nat} {ps : List Int} {l l' : List Block} {s s' : Cur}
end
end Go.Proofs.YtljglhaeonbfoaaGreatDoor
namespace Go.Proofs.YtljglhaeonbfoaaGreatDoor
open Go.RowKit
end Go.Proofs.YtljglhaeonbfoaaGreatDoor
namespace Go.Proofs.YtljglhaeonbfoaaGreatDoor
open Go.RowKit
end Go.Proofs.YtljglhaeonbfoaaGreatDoor
namespace Go.Proofs.YtljglhaeonbfoaaGreatDoor
open Go.RowKit
end Go.Proofs.YtljglhaeonbfoaaGreatDoor
