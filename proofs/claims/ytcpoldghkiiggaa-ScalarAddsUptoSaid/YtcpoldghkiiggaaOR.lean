/- A power's words. -/
import Derived.Test.YtcpoldghkiiggaaOQ
namespace Go.Proofs.Ytcpoldghkiiggaa.X
open Go Go.Proofs
theorem wds_pow (S E : List Int) : Wds (powA S E) := by unfold powA; exact wds_W4 _
end Go.Proofs.Ytcpoldghkiiggaa.X
