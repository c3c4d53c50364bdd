/- Small bytes. -/
import Derived.Test.YtcpoldghkiiggaaOT
namespace Go.Proofs.Ytcpoldghkiiggaa.X
open Go Go.Proofs
theorem byt_small {s : List Int} (h : (s.all fun x => decide (0 ≤ x ∧ x < 256)) = true) : Byt s := by
  intro x hx
  simpa using List.all_eq_true.1 h x hx
end Go.Proofs.Ytcpoldghkiiggaa.X
