/- The words of Montgomery's product are not negative. -/
import Derived.Test.YtcpoldghkiiggaaNQ
namespace Go.Proofs.Ytcpoldghkiiggaa.X
open Go Go.Proofs

theorem ad64c_nn {x y c : Int} (h : 0 ≤ x) (h1 : 0 ≤ y) (h2 : 0 ≤ c) : 0 ≤ ad64c x y c := by unfold ad64c; omega

theorem mTi_nn (S T : List Int) : ∀ k i, 0 ≤ mTi S T k i
  | 0, i => by
    show 0 ≤ List.getD [0, 0, 0, 0, 0, 0] i 0
    match i with
    | 0 | 1 | 2 | 3 | 4 | 5 => decide
    | n + 6 => simp
  | k + 1, i => by
    match i with
    | 0 => exact muladd1_nn _ _ _ _
    | 1 => exact muladd1_nn _ _ _ _
    | 2 => exact muladd1_nn _ _ _ _
    | 3 => exact (ad64_rng _ _ _).1
    | 4 => exact wrap_nn (k := .u64) rfl
    | 5 => exact ad64c_nn (mTi_nn S T k 4) (muladd_nn _ _ _ _) (Int.le_refl 0)
    | n + 6 => show 0 ≤ List.getD (mstep _ _ _ _ _ _ _ _ _ _) (n + 6) 0; simp [mstep]
end Go.Proofs.Ytcpoldghkiiggaa.X
