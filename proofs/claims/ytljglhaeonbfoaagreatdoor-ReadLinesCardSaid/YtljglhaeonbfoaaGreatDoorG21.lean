/- law04: plain: the document's lines are the lines of words. -/
import Derived.Test.YtljglhaeonbfoaaGreatDoorG19
set_option linter.unusedSimpArgs false
set_option linter.unusedVariables false
namespace Go.Proofs.YtljglhaeonbfoaaGreatDoor
def docVar (v : Int) : ByteArray := ⟨#[118]⟩ ++ itoaB v
theorem docVar_vr {v : Int} (h : vOk v = true) : docVar v = (vrW v).text := by
 obtain ⟨h1, h2⟩ := vOk_in h
 apply bytes_ext
 rw [← ByteArray.toList_eq, show (vrW v).text = keyB 118 v.toNat from rfl, ← ByteArray.toList_eq, key_list]
 unfold docVar itoaB Lib.itoa
 rw [if_neg (by omega), ByteArray.toList_eq, ByteArray.data_append, Array.toList_append]
 simp
end Go.Proofs.YtljglhaeonbfoaaGreatDoor
