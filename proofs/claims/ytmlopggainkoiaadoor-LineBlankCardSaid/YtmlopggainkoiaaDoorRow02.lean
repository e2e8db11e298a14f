/- law02's arguments as data. -/
import Derived.Test.YtmlopggainkoiaaDoorRow01s
import Derived.Test.YtmlopggainkoiaaDoorTypes02
set_option linter.unusedSimpArgs false
set_option linter.unusedVariables false
namespace Go.Proofs.YtmlopggainkoiaaDoor
open Go.ChangeShapes Go.WideShapes Go.ChangeAt Go.RowKit

instance : Sm Get := Sm.via fun x => (x.what, x.least, x.most, x.s, x.t)
theorem om_Get : OpensM Tryd.prog Get 56 := fun M H enc w fuel cs x h hl => by
  obtain ⟨⟨a0, a1, a2, a3, a4⟩, hy, hw⟩ := opensM_struct (P := Tryd.prog) (α := Int × Int × Int × ByteArray × ByteArray) (t := 56) Tryd.underlying56
    (fsM_cons om_int rfl (by kernel_rfl) (fsM_cons om_int rfl (by kernel_rfl) (fsM_cons om_int rfl (by kernel_rfl) (fsM_cons (opensM_string (by kernel_rfl)) rfl (by kernel_rfl) (fsM_one (opensM_string (by kernel_rfl)) rfl (by kernel_rfl)))))) (by kernel_rfl) M H enc w fuel cs x h hl
  exact ⟨⟨a0, a1, a2, a3, a4⟩, hy, hw⟩
theorem om_Gets : OpensM Tryd.prog (List Get) 52 := opensM_slice (e := 56) (by kernel_rfl) om_Get (by kernel_rfl) (by decide) (of_decide_eq_true (by kernel_rfl))
theorem Get.sm_texts {M : Nat} {x : Get} (h : Sm.sm M x) : x.s.size ≤ M ∧ x.t.size ≤ M := ⟨h.2.2.2.1, h.2.2.2.2⟩
end Go.Proofs.YtmlopggainkoiaaDoor
