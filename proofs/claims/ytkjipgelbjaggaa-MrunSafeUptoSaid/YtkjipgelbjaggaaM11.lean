/- Walks: a machine of two registers; tables; letters; sizes. -/
import Derived.Test.YtkjipgelbjaggaaM07
set_option linter.unusedSimpArgs false
set_option linter.unusedVariables false
namespace Go.Proofs.Ytkjipgelbjaggaa
open Go.RowKit

end Go.Proofs.Ytkjipgelbjaggaa
