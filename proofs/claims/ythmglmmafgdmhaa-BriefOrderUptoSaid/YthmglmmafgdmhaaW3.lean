/- Walks: slices made, targets counted. -/
import Derived.Test.YthmglmmafgdmhaaS06
import Derived.Test.YthmglmmafgdmhaaOwn
set_option linter.unusedSimpArgs false
set_option linter.unusedVariables false
namespace Go.Proofs.Ythmglmmafgdmhaa
open Go.RowKit

theorem info_int : (Try.prog.info? 3).map (fun i => (i.zero, i.size, i.bytes)) = some (some (.int .i64 0), 1, 8) := by kernel_rfl
end Go.Proofs.Ythmglmmafgdmhaa
