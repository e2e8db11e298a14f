/- Walks: small functions, second part. -/
import Derived.Test.YtppkanniefignaaDoorS06
set_option linter.unusedSimpArgs false
set_option linter.unusedVariables false
namespace Go.Proofs.YtppkanniefignaaDoor
open Go.RowKit

end Go.Proofs.YtppkanniefignaaDoor
