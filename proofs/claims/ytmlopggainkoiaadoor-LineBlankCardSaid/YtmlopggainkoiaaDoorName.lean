/- The walk's world under a name. -/
import Derived.Test.YtmlopggainkoiaaDoorBase
set_option linter.unusedSimpArgs false
set_option linter.unusedVariables false
namespace Go.Proofs.YtmlopggainkoiaaDoor
theorem name_world {P : Program} {c : Code} {Q : Exit → Act → World → Prop} {a : Act} {w : World} (h : ∀ W' : World, W' = w → c.wp P Q a W') : c.wp P Q a w := h w rfl
end Go.Proofs.YtmlopggainkoiaaDoor
