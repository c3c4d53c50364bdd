/- Printed by a tool of this session. -/
import Derived.Test.YtepimglipelpmaaC4
import Derived.Test.YtepimglipelpmaaProg
import Derived.KernelRfl
namespace Go.Proofs.Ytepimglipelpmaa.X
open Go Go.Proofs
set_option linter.unusedVariables false
set_option maxRecDepth 100000
theorem mix : Try.prog.follows .mixedOrders = true := by kernel_rfl

end Go.Proofs.Ytepimglipelpmaa.X
