/- The walk's world under a name, at a call. -/
import Derived.Test.YtahblhiolkdnnaaBase
set_option linter.unusedSimpArgs false
set_option linter.unusedVariables false
namespace Go.Proofs.Ytahblhiolkdnnaa
theorem name_calls {P : Program} {f : FuncId} {args : Array Value} {w : World} {Q : Ending → World → Prop} (h : ∀ W' : World, W' = w → Calls P f args W' Q) : Calls P f args w Q := h w rfl
theorem name_k {K : Act → World → Prop} {a : Act} {w : World} (h : ∀ W' : World, W' = w → K a W') : K a w := h w rfl
end Go.Proofs.Ytahblhiolkdnnaa
