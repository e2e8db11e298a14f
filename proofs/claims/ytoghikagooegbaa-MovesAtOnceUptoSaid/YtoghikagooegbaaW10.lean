/- Walks: the small functions of mir.Right. -/
import Derived.Test.YtoghikagooegbaaW1
import Derived.Test.YtoghikagooegbaaOwn
import Derived.Test.YtoghikagooegbaaS06b
set_option linter.unusedSimpArgs false
set_option linter.unusedVariables false
namespace Go.Proofs.Ytoghikagooegbaa
open Go.RowKit

/-- A frame, in memory. -/
def FrameAt (w : World) (g : Nat) (m : Machine) (frame blocks : Int) : Prop :=
  g < w.heap.size ∧ w.cell? ⟨g, 0, none⟩ = some (.int .i64 m.regs) ∧ w.cell? ⟨g, 4, none⟩ = some (.int .i64 frame) ∧ w.cell? ⟨g, 5, none⟩ = some (.int .i64 blocks)
end Go.Proofs.Ytoghikagooegbaa
