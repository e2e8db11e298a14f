/- Walks: a machine of two registers; tables; letters; sizes. -/
import Derived.Test.YtoghikagooegbaaW3
set_option linter.unusedSimpArgs false
set_option linter.unusedVariables false
namespace Go.Proofs.Ytoghikagooegbaa
open Go.RowKit

end Go.Proofs.Ytoghikagooegbaa
