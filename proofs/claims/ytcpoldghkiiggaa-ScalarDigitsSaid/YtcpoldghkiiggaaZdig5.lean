/- Texts of this session, put together (part 5), less what nothing uses. -/
import Derived.Test.YtcpoldghkiiggaaZdig4
import Derived.KernelRfl
import Derived.WalkKit
import Derived.ProofKit
import Derived.OpenShut
import Derived.JoinedCond
import Derived.Carry
import Derived.Test.YtcpoldghkiiggaaRows
/- Printed by a tool of this session. -/
namespace Go.Proofs.Ytcpoldghkiiggaa.X
open Go Go.Proofs
set_option linter.unusedVariables false
set_option linter.unusedSimpArgs false
set_option maxRecDepth 100000
theorem teRK_3 : TEOk Try.prog 3 ⟨.int .i64, 1, 8, [.i .i64 (0 : Int)], false⟩ :=
  TEOk.of Try.underlying3 (i := Try.t3) (by kernel_rfl) rfl rfl rfl (by kernel_rfl) (fun h => by cases h) (by kernel_rfl)
theorem teRK_24 : TEOk Try.prog 24 ⟨.array 32 5, 32, 32, [.ints .u8 (32 : Nat) ([0, 0, 0, 0, 0, 0, 0, 0, 0, 0, 0, 0, 0, 0, 0, 0, 0, 0, 0, 0, 0, 0, 0, 0, 0, 0, 0, 0, 0, 0, 0, 0] : List Int)], true⟩ :=
  TEOk.of Try.underlying24 (i := Try.t24) (by kernel_rfl) rfl rfl rfl (by kernel_rfl) (fun _ => Try.eqGuardType24) (by kernel_rfl)
theorem teRK_25 : TEOk Try.prog 25 ⟨.int .u64, 1, 8, [.i .u64 (0 : Int)], false⟩ :=
  TEOk.of Try.underlying25 (i := Try.t25) (by kernel_rfl) rfl rfl rfl (by kernel_rfl) (fun h => by cases h) (by kernel_rfl)
theorem teRK_81 : TEOk Try.prog 81 ⟨.slice 3, 1, 24, [.raw (.slice none 0 0)], false⟩ :=
  TEOk.of Try.underlying81 (i := Try.t81) (by kernel_rfl) rfl rfl rfl (by kernel_rfl) (fun h => by cases h) (by kernel_rfl)
theorem teRK_104 : TEOk Try.prog 104 ⟨.array 4 25, 4, 32, [.ints .u64 (4 : Nat) ([0, 0, 0, 0] : List Int)], true⟩ :=
  TEOk.of Try.underlying104 (i := Try.t104) (by kernel_rfl) rfl rfl rfl (by kernel_rfl) (fun _ => Try.eqGuardType104) (by kernel_rfl)
noncomputable def tabRK : List (Nat × TE) := [(3, ⟨.int .i64, 1, 8, [.i .i64 (0 : Int)], false⟩), (24, ⟨.array 32 5, 32, 32, [.ints .u8 (32 : Nat) ([0, 0, 0, 0, 0, 0, 0, 0, 0, 0, 0, 0, 0, 0, 0, 0, 0, 0, 0, 0, 0, 0, 0, 0, 0, 0, 0, 0, 0, 0, 0, 0] : List Int)], true⟩), (25, ⟨.int .u64, 1, 8, [.i .u64 (0 : Int)], false⟩), (81, ⟨.slice 3, 1, 24, [.raw (.slice none 0 0)], false⟩), (104, ⟨.array 4 25, 4, 32, [.ints .u64 (4 : Nat) ([0, 0, 0, 0] : List Int)], true⟩)]
theorem tabOkRK : TabOk Try.prog (tabOf tabRK) := (tabOf_cons teRK_3 (tabOf_cons teRK_24 (tabOf_cons teRK_25 (tabOf_cons teRK_81 (tabOf_cons teRK_104 tabOf_nil)))))

def nfL_mk (a : List Int) (v : Int) (k : Nat) (s : Unit) : St := ⟨sparse 106 [(0, .o (.g [.ints .u8 (32 : Nat) a])), (1, .o (.a (.i .i64 v))), (2, .o (.a (.p 0 0))), (4, .o (.a (.raw (.slice none 0 0)))), (5, .o (.a (.i .i64 (0 : Int)))), (6, .o (.a (.p 1 0))), (7, .o (.a (.sl 2 (0 : Nat) (256 : Nat) (256 : Nat)))), (13, .o (.a (.i .i64 v))), (14, .o (.a (.b (decide (v < (2 : Int)))))), (15, .o (.a (.b (decide (v < (2 : Int)))))), (16, .o (.a (.i .i64 v))), (17, .o (.a (.b (decide (v > (8 : Int)))))), (18, .o (.a (.b (decide (v > (8 : Int)))))), (19, .o (.g [.ints .u8 (32 : Nat) a])), (20, .o (.g [.ints .u64 (4 : Nat) (W4 (modL (BV a)))])), (21, .o (.a (.sl 2 (0 : Nat) (256 : Nat) (256 : Nat)))), (22, .o (.a (.i .i64 ((k : Nat) : Int))))], [some ⟨true, [.ints .u8 (32 : Nat) a]⟩, some ⟨true, [.ints .u64 (4 : Nat) (W4 (nfV v a k))]⟩, some ⟨true, [.ints .i64 (256 : Nat) (nfO v a k)]⟩]⟩

def nfL_step (k : Nat) (s : Unit) : Unit :=
  ()

set_option maxHeartbeats 1000000 in
theorem nfL_round_0 (a : List Int) (v : Int) (h0 : (Byt a)) (h1 : ((2 : Int) ≤ v)) (h2 : (v ≤ (8 : Int))) (hv0 : List.length a = (32 : Nat)) (w : World) (rw : List Nat) (β : Env) (k : Nat) (hk : k < (256 : Nat)) (s : Unit) (ha : (nfV v a k) % 2 = 1) (hb : nafX v (nfV v a k) ≥ pw2 (v - 1)) : Run Try.prog ⟨w, rw, 0, β⟩ (loopB Try.f59 0) (nfL_mk a v k s) (To ⟨w, rw, 0, β⟩ .normal (nfL_mk a v (k + 1) (nfL_step k s))) := by
  have e0 : ([(bits2 .or .u64 (shr .u64 (wdx (nafW v (nfV v a k)) (0 : Nat)) (1 : Int)) (shl .u64 (wdx (nafW v (nfV v a k)) (1 : Nat)) (63 : Int))), (bits2 .or .u64 (shr .u64 (wdx (nafW v (nfV v a k)) (1 : Nat)) (1 : Int)) (shl .u64 (wdx (nafW v (nfV v a k)) (2 : Nat)) (63 : Int))), (bits2 .or .u64 (shr .u64 (wdx (nafW v (nfV v a k)) (2 : Nat)) (1 : Int)) (shl .u64 (wdx (nafW v (nfV v a k)) (3 : Nat)) (63 : Int))), (shr .u64 (wdx (nafW v (nfV v a k)) (3 : Nat)) (1 : Int))] : List Int) = (W4 (nfV v a (k + (1 : Nat)))) := (by first | exact wrap_succ (by omega) | omega | exact nfO_s hk | exact naf_half (nafW_rng h1 h2 (nfV_rng h1 h2 a k)))
  have e1 : (IntKind.i64.wrap (((k : Nat) : Int) + (1 : Int))) = (((k + (1 : Nat)) : Nat) : Int) := (by first | exact wrap_succ (by omega) | omega | exact nfO_s hk | exact naf_half (nafW_rng h1 h2 (nfV_rng h1 h2 a k)))
  have e2 : (List.set (nfO v a k) k (nafD v (nfV v a k))) = (nfO v a (k + (1 : Nat))) := (by first | exact wrap_succ (by omega) | omega | exact nfO_s hk | exact naf_half (nafW_rng h1 h2 (nfV_rng h1 h2 a k)))
  have h := Run.of_outT (B := ⟨w, rw, 0, β⟩) (Λ := noLam) (Ψ := psiOf [(9, [.eqS 9 (.o (.a (.i .i64 (nafX v (nfV v a k)))))]), (11, [.eqS 9 (.o (.a (.i .i64 (nafD v (nfV v a k)))))]), (15, [.eqB 1 (⟨true, [.ints .u64 (4 : Nat) ([(wdx (nfV v a k) (0 : Nat)), (wdx (nfV v a k) (1 : Nat)), (wdx (nfV v a k) (2 : Nat)), (wdx (nfV v a k) (3 : Nat))] : List Int)]⟩)]), (21, [.eqB 1 (⟨true, [.ints .u64 (4 : Nat) ([(wdx (nafW v (nfV v a k)) (0 : Nat)), (wdx (nafW v (nfV v a k)) (1 : Nat)), (wdx (nafW v (nfV v a k)) (2 : Nat)), (wdx (nafW v (nfV v a k)) (3 : Nat))] : List Int)]⟩)])]) (fuel := 6) (ora := [true, true, true, false, true, true, true, false, true, true, true, true, true, true, true, false, false]) (c := (loopB Try.f59 0)) (st := (nfL_mk a v k s)) (l := [.forget [0, 1, 2, 4, 5, 6, 7, 13, 14, 15, 16, 17, 18, 19, 20, 21, 22] 3]) (s' := ⟨sparse 106 [(0, .o (.g [.ints .u8 (32 : Nat) a])), (1, .o (.a (.i .i64 v))), (2, .o (.a (.p 0 0))), (4, .o (.a (.raw (.slice none 0 0)))), (5, .o (.a (.i .i64 (0 : Int)))), (6, .o (.a (.p 1 0))), (7, .o (.a (.sl 2 (0 : Nat) (256 : Nat) (256 : Nat)))), (13, .o (.a (.i .i64 v))), (14, .o (.a (.b (decide (v < (2 : Int)))))), (15, .o (.a (.b (decide (v < (2 : Int)))))), (16, .o (.a (.i .i64 v))), (17, .o (.a (.b (decide (v > (8 : Int)))))), (18, .o (.a (.b (decide (v > (8 : Int)))))), (19, .o (.g [.ints .u8 (32 : Nat) a])), (20, .o (.g [.ints .u64 (4 : Nat) (W4 (modL (BV a)))])), (21, .o (.a (.sl 2 (0 : Nat) (256 : Nat) (256 : Nat)))), (22, .o (.a (.i .i64 (IntKind.i64.wrap (((k : Nat) : Int) + (1 : Int))))))], [some ⟨true, [.ints .u8 (32 : Nat) a]⟩, some ⟨true, [.ints .u64 (4 : Nat) ([(bits2 .or .u64 (shr .u64 (wdx (nafW v (nfV v a k)) (0 : Nat)) (1 : Int)) (shl .u64 (wdx (nafW v (nfV v a k)) (1 : Nat)) (63 : Int))), (bits2 .or .u64 (shr .u64 (wdx (nafW v (nfV v a k)) (1 : Nat)) (1 : Int)) (shl .u64 (wdx (nafW v (nfV v a k)) (2 : Nat)) (63 : Int))), (bits2 .or .u64 (shr .u64 (wdx (nafW v (nfV v a k)) (2 : Nat)) (1 : Int)) (shl .u64 (wdx (nafW v (nfV v a k)) (3 : Nat)) (63 : Int))), (shr .u64 (wdx (nafW v (nfV v a k)) (3 : Nat)) (1 : Int))] : List Int)]⟩, some ⟨true, [.ints .i64 (256 : Nat) (List.set (nfO v a k) k (nafD v (nfV v a k)))]⟩]⟩) (ex := .normal) mix tabOkRK gam72_ok
    (vc := [(false = false), (false = false), ((3 : Nat) < (4 : Nat)), (((0 : Int) ≤ (3 : Int)) ∧ ((3 : Int) < (4 : Int))), ((0 : Int) ≤ (1 : Int)), ((3 : Nat) < (4 : Nat)), (((0 : Int) ≤ (3 : Int)) ∧ ((3 : Int) < (4 : Int))), (true = true), ((2 : Nat) < (4 : Nat)), (((0 : Int) ≤ (2 : Int)) ∧ ((2 : Int) < (4 : Int))), ((0 : Int) ≤ (63 : Int)), ((3 : Nat) < (4 : Nat)), (((0 : Int) ≤ (3 : Int)) ∧ ((3 : Int) < (4 : Int))), ((2 : Nat) < (4 : Nat)), (((0 : Int) ≤ (2 : Int)) ∧ ((2 : Int) < (4 : Int))), (true = true), ((2 : Nat) < (4 : Nat)), (((0 : Int) ≤ (2 : Int)) ∧ ((2 : Int) < (4 : Int))), ((0 : Int) ≤ (1 : Int)), ((2 : Nat) < (4 : Nat)), (((0 : Int) ≤ (2 : Int)) ∧ ((2 : Int) < (4 : Int))), (true = true), ((1 : Nat) < (4 : Nat)), (((0 : Int) ≤ (1 : Int)) ∧ ((1 : Int) < (4 : Int))), ((0 : Int) ≤ (63 : Int)), ((2 : Nat) < (4 : Nat)), (((0 : Int) ≤ (2 : Int)) ∧ ((2 : Int) < (4 : Int))), ((1 : Nat) < (4 : Nat)), (((0 : Int) ≤ (1 : Int)) ∧ ((1 : Int) < (4 : Int))), (true = true), ((1 : Nat) < (4 : Nat)), (((0 : Int) ≤ (1 : Int)) ∧ ((1 : Int) < (4 : Int))), ((0 : Int) ≤ (1 : Int)), ((1 : Nat) < (4 : Nat)), (((0 : Int) ≤ (1 : Int)) ∧ ((1 : Int) < (4 : Int))), (true = true), ((0 : Nat) < (4 : Nat)), (((0 : Int) ≤ (0 : Int)) ∧ ((0 : Int) < (4 : Int))), ((0 : Int) ≤ (63 : Int)), ((1 : Nat) < (4 : Nat)), (((0 : Int) ≤ (1 : Int)) ∧ ((1 : Int) < (4 : Int))), ((0 : Nat) < (4 : Nat)), (((0 : Int) ≤ (0 : Int)) ∧ ((0 : Int) < (4 : Int))), (true = true), ((0 : Nat) < (4 : Nat)), (((0 : Int) ≤ (0 : Int)) ∧ ((0 : Int) < (4 : Int))), ((0 : Int) ≤ (1 : Int)), ((0 : Nat) < (4 : Nat)), (((0 : Int) ≤ (0 : Int)) ∧ ((0 : Int) < (4 : Int))), (true = true), ((some ⟨true, [.ints .u64 (4 : Nat) ([(ad64s (wdx (nfV v a k) (0 : Nat)) (IntKind.u64.wrap (IntKind.i64.wrap ((0 : Int) - (nafD v (nfV v a k))))) (0 : Int)), (ad64s (wdx (nfV v a k) (1 : Nat)) (0 : Int) (ad64c (wdx (nfV v a k) (0 : Nat)) (IntKind.u64.wrap (IntKind.i64.wrap ((0 : Int) - (nafD v (nfV v a k))))) (0 : Int))), (ad64s (wdx (nfV v a k) (2 : Nat)) (0 : Int) (ad64c (wdx (nfV v a k) (1 : Nat)) (0 : Int) (ad64c (wdx (nfV v a k) (0 : Nat)) (IntKind.u64.wrap (IntKind.i64.wrap ((0 : Int) - (nafD v (nfV v a k))))) (0 : Int)))), (ad64s (wdx (nfV v a k) (3 : Nat)) (0 : Int) (ad64c (wdx (nfV v a k) (2 : Nat)) (0 : Int) (ad64c (wdx (nfV v a k) (1 : Nat)) (0 : Int) (ad64c (wdx (nfV v a k) (0 : Nat)) (IntKind.u64.wrap (IntKind.i64.wrap ((0 : Int) - (nafD v (nfV v a k))))) (0 : Int)))))] : List Int)]⟩ : Option Blk) = some ⟨true, [.ints .u64 (4 : Nat) ([(wdx (nafW v (nfV v a k)) (0 : Nat)), (wdx (nafW v (nfV v a k)) (1 : Nat)), (wdx (nafW v (nfV v a k)) (2 : Nat)), (wdx (nafW v (nfV v a k)) (3 : Nat))] : List Int)]⟩), (false = false), ((3 : Nat) < (4 : Nat)), (((0 : Int) ≤ (3 : Int)) ∧ ((3 : Int) < (4 : Int))), (((0 : Int) ≤ (wdx (nfV v a k) (3 : Nat))) ∧ ((0 : Int) ≤ (0 : Int)) ∧ ((0 : Int) ≤ (ad64c (wdx (nfV v a k) (2 : Nat)) (0 : Int) (ad64c (wdx (nfV v a k) (1 : Nat)) (0 : Int) (ad64c (wdx (nfV v a k) (0 : Nat)) (IntKind.u64.wrap (IntKind.i64.wrap ((0 : Int) - (nafD v (nfV v a k))))) (0 : Int))))) ∧ ((ad64c (wdx (nfV v a k) (2 : Nat)) (0 : Int) (ad64c (wdx (nfV v a k) (1 : Nat)) (0 : Int) (ad64c (wdx (nfV v a k) (0 : Nat)) (IntKind.u64.wrap (IntKind.i64.wrap ((0 : Int) - (nafD v (nfV v a k))))) (0 : Int)))) ≤ (1 : Int))), ((3 : Nat) < (4 : Nat)), (((0 : Int) ≤ (3 : Int)) ∧ ((3 : Int) < (4 : Int))), (true = true), ((2 : Nat) < (4 : Nat)), (((0 : Int) ≤ (2 : Int)) ∧ ((2 : Int) < (4 : Int))), (((0 : Int) ≤ (wdx (nfV v a k) (2 : Nat))) ∧ ((0 : Int) ≤ (0 : Int)) ∧ ((0 : Int) ≤ (ad64c (wdx (nfV v a k) (1 : Nat)) (0 : Int) (ad64c (wdx (nfV v a k) (0 : Nat)) (IntKind.u64.wrap (IntKind.i64.wrap ((0 : Int) - (nafD v (nfV v a k))))) (0 : Int)))) ∧ ((ad64c (wdx (nfV v a k) (1 : Nat)) (0 : Int) (ad64c (wdx (nfV v a k) (0 : Nat)) (IntKind.u64.wrap (IntKind.i64.wrap ((0 : Int) - (nafD v (nfV v a k))))) (0 : Int))) ≤ (1 : Int))), ((2 : Nat) < (4 : Nat)), (((0 : Int) ≤ (2 : Int)) ∧ ((2 : Int) < (4 : Int))), (true = true), ((1 : Nat) < (4 : Nat)), (((0 : Int) ≤ (1 : Int)) ∧ ((1 : Int) < (4 : Int))), (((0 : Int) ≤ (wdx (nfV v a k) (1 : Nat))) ∧ ((0 : Int) ≤ (0 : Int)) ∧ ((0 : Int) ≤ (ad64c (wdx (nfV v a k) (0 : Nat)) (IntKind.u64.wrap (IntKind.i64.wrap ((0 : Int) - (nafD v (nfV v a k))))) (0 : Int))) ∧ ((ad64c (wdx (nfV v a k) (0 : Nat)) (IntKind.u64.wrap (IntKind.i64.wrap ((0 : Int) - (nafD v (nfV v a k))))) (0 : Int)) ≤ (1 : Int))), ((1 : Nat) < (4 : Nat)), (((0 : Int) ≤ (1 : Int)) ∧ ((1 : Int) < (4 : Int))), (true = true), (((0 : Int) ≤ (wdx (nfV v a k) (0 : Nat))) ∧ ((0 : Int) ≤ (IntKind.u64.wrap (IntKind.i64.wrap ((0 : Int) - (nafD v (nfV v a k)))))) ∧ ((0 : Int) ≤ (0 : Int)) ∧ ((0 : Int) ≤ (1 : Int))), ((some ⟨true, [.ints .u64 (4 : Nat) (W4 (nfV v a k))]⟩ : Option Blk) = some ⟨true, [.ints .u64 (4 : Nat) ([(wdx (nfV v a k) (0 : Nat)), (wdx (nfV v a k) (1 : Nat)), (wdx (nfV v a k) (2 : Nat)), (wdx (nfV v a k) (3 : Nat))] : List Int)]⟩), ((decide ((nafD v (nfV v a k)) > (0 : Int))) = false), (k < (256 : Nat)), (((0 : Int) ≤ ((k : Nat) : Int)) ∧ (((k : Nat) : Int) < (256 : Int))), ((.o (.a (.i .i64 (IntKind.i64.wrap ((nafX v (nfV v a k)) - (shl .i64 (1 : Int) v))))) : AV) = .o (.a (.i .i64 (nafD v (nfV v a k))))), ((0 : Int) ≤ v), ((decide ((nafX v (nfV v a k)) ≥ (shl .i64 (1 : Int) (IntKind.i64.wrap (v - (1 : Int)))))) = true), ((0 : Int) ≤ (IntKind.i64.wrap (v - (1 : Int)))), ((.o (.a (.i .i64 (IntKind.i64.wrap (bits2 .and .u64 (List.getD (sub (W4 (nfV v a k)) (0 : Nat) (1 : Nat)) (0 : Nat) 0) (IntKind.u64.wrap ((shl .u64 (1 : Int) v) - (1 : Int))))))) : AV) = .o (.a (.i .i64 (nafX v (nfV v a k))))), ((0 : Int) ≤ v), (((bits2 .and .u64 (List.getD (sub (W4 (nfV v a k)) (0 : Nat) (1 : Nat)) (0 : Nat) 0) (1 : Int)) == (1 : Int)) = true), ((decide (((k : Nat) : Int) < (256 : Int))) = true)]) (by kernel_rfl)
    (AllP_cons rfl (AllP_cons rfl (AllP_cons (by decide) (AllP_cons ⟨(by decide), (by decide)⟩ (AllP_cons (by decide) (AllP_cons (by decide) (AllP_cons ⟨(by decide), (by decide)⟩ (AllP_cons rfl (AllP_cons (by decide) (AllP_cons ⟨(by decide), (by decide)⟩ (AllP_cons (by decide) (AllP_cons (by decide) (AllP_cons ⟨(by decide), (by decide)⟩ (AllP_cons (by decide) (AllP_cons ⟨(by decide), (by decide)⟩ (AllP_cons rfl (AllP_cons (by decide) (AllP_cons ⟨(by decide), (by decide)⟩ (AllP_cons (by decide) (AllP_cons (by decide) (AllP_cons ⟨(by decide), (by decide)⟩ (AllP_cons rfl (AllP_cons (by decide) (AllP_cons ⟨(by decide), (by decide)⟩ (AllP_cons (by decide) (AllP_cons (by decide) (AllP_cons ⟨(by decide), (by decide)⟩ (AllP_cons (by decide) (AllP_cons ⟨(by decide), (by decide)⟩ (AllP_cons rfl (AllP_cons (by decide) (AllP_cons ⟨(by decide), (by decide)⟩ (AllP_cons (by decide) (AllP_cons (by decide) (AllP_cons ⟨(by decide), (by decide)⟩ (AllP_cons rfl (AllP_cons (by decide) (AllP_cons ⟨(by decide), (by decide)⟩ (AllP_cons (by decide) (AllP_cons (by decide) (AllP_cons ⟨(by decide), (by decide)⟩ (AllP_cons (by decide) (AllP_cons ⟨(by decide), (by decide)⟩ (AllP_cons rfl (AllP_cons (by decide) (AllP_cons ⟨(by decide), (by decide)⟩ (AllP_cons (by decide) (AllP_cons (by decide) (AllP_cons ⟨(by decide), (by decide)⟩ (AllP_cons rfl (AllP_cons ((by first | exact congrArg (fun z => some (Blk.mk true [.ints .u64 4 z])) (naf_w0 ha) | exact congrArg (fun z => some (Blk.mk true [.ints .u64 4 z])) (naf_w1 h1 h2 (nfV_rng h1 h2 a k) ha hb) | exact congrArg (fun z => some (Blk.mk true [.ints .u64 4 z])) (naf_w2 h1 h2 (nfV_rng h1 h2 a k) ha hb))) (AllP_cons rfl (AllP_cons (by decide) (AllP_cons ⟨(by decide), (by decide)⟩ (AllP_cons ⟨(wdx_rng _ _).1, (by decide), (adc_nn _ _ _ (wdx_rng _ _).1 (by decide) (adc_nn _ _ _ (wdx_rng _ _).1 (by decide) (adc_nn _ _ _ (wdx_rng _ _).1 (wrap_nn rfl) (by decide)))), (adc_le (wdx_rng _ _).2 (by decide) (adc_le (wdx_rng _ _).2 (by decide) (adc_le (wdx_rng _ _).2 (by rw [wrap64]; omega) (by decide))))⟩ (AllP_cons (by decide) (AllP_cons ⟨(by decide), (by decide)⟩ (AllP_cons rfl (AllP_cons (by decide) (AllP_cons ⟨(by decide), (by decide)⟩ (AllP_cons ⟨(wdx_rng _ _).1, (by decide), (adc_nn _ _ _ (wdx_rng _ _).1 (by decide) (adc_nn _ _ _ (wdx_rng _ _).1 (wrap_nn rfl) (by decide))), (adc_le (wdx_rng _ _).2 (by decide) (adc_le (wdx_rng _ _).2 (by rw [wrap64]; omega) (by decide)))⟩ (AllP_cons (by decide) (AllP_cons ⟨(by decide), (by decide)⟩ (AllP_cons rfl (AllP_cons (by decide) (AllP_cons ⟨(by decide), (by decide)⟩ (AllP_cons ⟨(wdx_rng _ _).1, (by decide), (adc_nn _ _ _ (wdx_rng _ _).1 (wrap_nn rfl) (by decide)), (adc_le (wdx_rng _ _).2 (by rw [wrap64]; omega) (by decide))⟩ (AllP_cons (by decide) (AllP_cons ⟨(by decide), (by decide)⟩ (AllP_cons rfl (AllP_cons ⟨(wdx_rng _ _).1, (wrap_nn rfl), (by decide), (by decide)⟩ (AllP_cons ((congrArg (fun z => some (Blk.mk true [.ints .u64 4 z])) (W4_wdx _))) (AllP_cons (decide_eq_false (by have q1 := odd_X h1 h2 ha; have q2 := nafX_rng h1 h2 (nfV v a k); first | omega | (rw [nafD_b ha hb]; omega))) (AllP_cons (by have q := pw2_rng h1 h2; first | omega | exact wrap_nn rfl | exact (ad64_rng _ _ _).1 | (simp (disch := omega) only [wrapI]; omega)) (AllP_cons ⟨(by have q := pw2_rng h1 h2; first | omega | exact wrap_nn rfl | exact (ad64_rng _ _ _).1 | (simp (disch := omega) only [wrapI]; omega)), (by have q := pw2_rng h1 h2; first | omega | exact wrap_nn rfl | exact (ad64_rng _ _ _).1 | (simp (disch := omega) only [wrapI]; omega))⟩ (AllP_cons ((congrArg (fun z => AV.o (.a (.i .i64 z))) (naf_d h1 h2 ha hb))) (AllP_cons (by have q := pw2_rng h1 h2; first | omega | exact wrap_nn rfl | exact (ad64_rng _ _ _).1 | (simp (disch := omega) only [wrapI]; omega)) (AllP_cons (by rw [shl_w1 h1 h2]; exact decide_eq_true hb) (AllP_cons (by have q := pw2_rng h1 h2; first | omega | exact wrap_nn rfl | exact (ad64_rng _ _ _).1 | (simp (disch := omega) only [wrapI]; omega)) (AllP_cons ((congrArg (fun z => AV.o (.a (.i .i64 z))) (naf_x h1 h2 _))) (AllP_cons (by have q := pw2_rng h1 h2; first | omega | exact wrap_nn rfl | exact (ad64_rng _ _ _).1 | (simp (disch := omega) only [wrapI]; omega)) (AllP_cons (by show (bits2 .and .u64 (List.getD (W4 (nfV v a k)) 0 0) 1 == 1) = true; rw [W4_odd]; exact beq_iff_eq.2 ha) (AllP_cons (decide_eq_true (by have q := pw2_rng h1 h2; first | omega | exact wrap_nn rfl | exact (ad64_rng _ _ _).1 | (simp (disch := omega) only [wrapI]; omega))) (AllP_nil))))))))))))))))))))))))))))))))))))))))))))))))))))))))))))))))))))))))))))))))))))
  rw [e0, e1, e2] at h
  exact h

set_option maxHeartbeats 1000000 in
theorem nfL_round_1 (a : List Int) (v : Int) (h0 : (Byt a)) (h1 : ((2 : Int) ≤ v)) (h2 : (v ≤ (8 : Int))) (hv0 : List.length a = (32 : Nat)) (w : World) (rw : List Nat) (β : Env) (k : Nat) (hk : k < (256 : Nat)) (s : Unit) (ha : (nfV v a k) % 2 = 1) (hb : ¬ nafX v (nfV v a k) ≥ pw2 (v - 1)) : Run Try.prog ⟨w, rw, 0, β⟩ (loopB Try.f59 0) (nfL_mk a v k s) (To ⟨w, rw, 0, β⟩ .normal (nfL_mk a v (k + 1) (nfL_step k s))) := by
  have e0 : ([(bits2 .or .u64 (shr .u64 (wdx (nafW v (nfV v a k)) (0 : Nat)) (1 : Int)) (shl .u64 (wdx (nafW v (nfV v a k)) (1 : Nat)) (63 : Int))), (bits2 .or .u64 (shr .u64 (wdx (nafW v (nfV v a k)) (1 : Nat)) (1 : Int)) (shl .u64 (wdx (nafW v (nfV v a k)) (2 : Nat)) (63 : Int))), (bits2 .or .u64 (shr .u64 (wdx (nafW v (nfV v a k)) (2 : Nat)) (1 : Int)) (shl .u64 (wdx (nafW v (nfV v a k)) (3 : Nat)) (63 : Int))), (shr .u64 (wdx (nafW v (nfV v a k)) (3 : Nat)) (1 : Int))] : List Int) = (W4 (nfV v a (k + (1 : Nat)))) := (by first | exact wrap_succ (by omega) | omega | (rw [← nafD_s ha hb]; exact nfO_s hk) | exact naf_half (nafW_rng h1 h2 (nfV_rng h1 h2 a k)))
  have e1 : (IntKind.i64.wrap (((k : Nat) : Int) + (1 : Int))) = (((k + (1 : Nat)) : Nat) : Int) := (by first | exact wrap_succ (by omega) | omega | (rw [← nafD_s ha hb]; exact nfO_s hk) | exact naf_half (nafW_rng h1 h2 (nfV_rng h1 h2 a k)))
  have e2 : (List.set (nfO v a k) k (nafX v (nfV v a k))) = (nfO v a (k + (1 : Nat))) := (by first | exact wrap_succ (by omega) | omega | (rw [← nafD_s ha hb]; exact nfO_s hk) | exact naf_half (nafW_rng h1 h2 (nfV_rng h1 h2 a k)))
  have h := Run.of_outT (B := ⟨w, rw, 0, β⟩) (Λ := noLam) (Ψ := psiOf [(9, [.eqS 9 (.o (.a (.i .i64 (nafX v (nfV v a k)))))]), (21, [.eqB 1 (⟨true, [.ints .u64 (4 : Nat) ([(wdx (nafW v (nfV v a k)) (0 : Nat)), (wdx (nafW v (nfV v a k)) (1 : Nat)), (wdx (nafW v (nfV v a k)) (2 : Nat)), (wdx (nafW v (nfV v a k)) (3 : Nat))] : List Int)]⟩)])]) (fuel := 6) (ora := [true, true, false, true, true, true, true, true, true, true, true, false, false]) (c := (loopB Try.f59 0)) (st := (nfL_mk a v k s)) (l := [.forget [0, 1, 2, 4, 5, 6, 7, 13, 14, 15, 16, 17, 18, 19, 20, 21, 22] 3]) (s' := ⟨sparse 106 [(0, .o (.g [.ints .u8 (32 : Nat) a])), (1, .o (.a (.i .i64 v))), (2, .o (.a (.p 0 0))), (4, .o (.a (.raw (.slice none 0 0)))), (5, .o (.a (.i .i64 (0 : Int)))), (6, .o (.a (.p 1 0))), (7, .o (.a (.sl 2 (0 : Nat) (256 : Nat) (256 : Nat)))), (13, .o (.a (.i .i64 v))), (14, .o (.a (.b (decide (v < (2 : Int)))))), (15, .o (.a (.b (decide (v < (2 : Int)))))), (16, .o (.a (.i .i64 v))), (17, .o (.a (.b (decide (v > (8 : Int)))))), (18, .o (.a (.b (decide (v > (8 : Int)))))), (19, .o (.g [.ints .u8 (32 : Nat) a])), (20, .o (.g [.ints .u64 (4 : Nat) (W4 (modL (BV a)))])), (21, .o (.a (.sl 2 (0 : Nat) (256 : Nat) (256 : Nat)))), (22, .o (.a (.i .i64 (IntKind.i64.wrap (((k : Nat) : Int) + (1 : Int))))))], [some ⟨true, [.ints .u8 (32 : Nat) a]⟩, some ⟨true, [.ints .u64 (4 : Nat) ([(bits2 .or .u64 (shr .u64 (wdx (nafW v (nfV v a k)) (0 : Nat)) (1 : Int)) (shl .u64 (wdx (nafW v (nfV v a k)) (1 : Nat)) (63 : Int))), (bits2 .or .u64 (shr .u64 (wdx (nafW v (nfV v a k)) (1 : Nat)) (1 : Int)) (shl .u64 (wdx (nafW v (nfV v a k)) (2 : Nat)) (63 : Int))), (bits2 .or .u64 (shr .u64 (wdx (nafW v (nfV v a k)) (2 : Nat)) (1 : Int)) (shl .u64 (wdx (nafW v (nfV v a k)) (3 : Nat)) (63 : Int))), (shr .u64 (wdx (nafW v (nfV v a k)) (3 : Nat)) (1 : Int))] : List Int)]⟩, some ⟨true, [.ints .i64 (256 : Nat) (List.set (nfO v a k) k (nafX v (nfV v a k)))]⟩]⟩) (ex := .normal) mix tabOkRK gam72_ok
    (vc := [(false = false), (false = false), ((3 : Nat) < (4 : Nat)), (((0 : Int) ≤ (3 : Int)) ∧ ((3 : Int) < (4 : Int))), ((0 : Int) ≤ (1 : Int)), ((3 : Nat) < (4 : Nat)), (((0 : Int) ≤ (3 : Int)) ∧ ((3 : Int) < (4 : Int))), (true = true), ((2 : Nat) < (4 : Nat)), (((0 : Int) ≤ (2 : Int)) ∧ ((2 : Int) < (4 : Int))), ((0 : Int) ≤ (63 : Int)), ((3 : Nat) < (4 : Nat)), (((0 : Int) ≤ (3 : Int)) ∧ ((3 : Int) < (4 : Int))), ((2 : Nat) < (4 : Nat)), (((0 : Int) ≤ (2 : Int)) ∧ ((2 : Int) < (4 : Int))), (true = true), ((2 : Nat) < (4 : Nat)), (((0 : Int) ≤ (2 : Int)) ∧ ((2 : Int) < (4 : Int))), ((0 : Int) ≤ (1 : Int)), ((2 : Nat) < (4 : Nat)), (((0 : Int) ≤ (2 : Int)) ∧ ((2 : Int) < (4 : Int))), (true = true), ((1 : Nat) < (4 : Nat)), (((0 : Int) ≤ (1 : Int)) ∧ ((1 : Int) < (4 : Int))), ((0 : Int) ≤ (63 : Int)), ((2 : Nat) < (4 : Nat)), (((0 : Int) ≤ (2 : Int)) ∧ ((2 : Int) < (4 : Int))), ((1 : Nat) < (4 : Nat)), (((0 : Int) ≤ (1 : Int)) ∧ ((1 : Int) < (4 : Int))), (true = true), ((1 : Nat) < (4 : Nat)), (((0 : Int) ≤ (1 : Int)) ∧ ((1 : Int) < (4 : Int))), ((0 : Int) ≤ (1 : Int)), ((1 : Nat) < (4 : Nat)), (((0 : Int) ≤ (1 : Int)) ∧ ((1 : Int) < (4 : Int))), (true = true), ((0 : Nat) < (4 : Nat)), (((0 : Int) ≤ (0 : Int)) ∧ ((0 : Int) < (4 : Int))), ((0 : Int) ≤ (63 : Int)), ((1 : Nat) < (4 : Nat)), (((0 : Int) ≤ (1 : Int)) ∧ ((1 : Int) < (4 : Int))), ((0 : Nat) < (4 : Nat)), (((0 : Int) ≤ (0 : Int)) ∧ ((0 : Int) < (4 : Int))), (true = true), ((0 : Nat) < (4 : Nat)), (((0 : Int) ≤ (0 : Int)) ∧ ((0 : Int) < (4 : Int))), ((0 : Int) ≤ (1 : Int)), ((0 : Nat) < (4 : Nat)), (((0 : Int) ≤ (0 : Int)) ∧ ((0 : Int) < (4 : Int))), (true = true), ((some ⟨true, [.ints .u64 (4 : Nat) (W4 (difR (V4 (W4 (nfV v a k))) (V4 ([(IntKind.u64.wrap (nafX v (nfV v a k))), 0, 0, 0] : List Int))))]⟩ : Option Blk) = some ⟨true, [.ints .u64 (4 : Nat) ([(wdx (nafW v (nfV v a k)) (0 : Nat)), (wdx (nafW v (nfV v a k)) (1 : Nat)), (wdx (nafW v (nfV v a k)) (2 : Nat)), (wdx (nafW v (nfV v a k)) (3 : Nat))] : List Int)]⟩), ((Wds (W4 (nfV v a k))) ∧ (Wds ([(IntKind.u64.wrap (nafX v (nfV v a k))), 0, 0, 0] : List Int))), ((decide ((nafX v (nfV v a k)) > (0 : Int))) = true), (k < (256 : Nat)), (((0 : Int) ≤ ((k : Nat) : Int)) ∧ (((k : Nat) : Int) < (256 : Int))), ((decide ((nafX v (nfV v a k)) ≥ (shl .i64 (1 : Int) (IntKind.i64.wrap (v - (1 : Int)))))) = false), ((0 : Int) ≤ (IntKind.i64.wrap (v - (1 : Int)))), ((.o (.a (.i .i64 (IntKind.i64.wrap (bits2 .and .u64 (List.getD (sub (W4 (nfV v a k)) (0 : Nat) (1 : Nat)) (0 : Nat) 0) (IntKind.u64.wrap ((shl .u64 (1 : Int) v) - (1 : Int))))))) : AV) = .o (.a (.i .i64 (nafX v (nfV v a k))))), ((0 : Int) ≤ v), (((bits2 .and .u64 (List.getD (sub (W4 (nfV v a k)) (0 : Nat) (1 : Nat)) (0 : Nat) 0) (1 : Int)) == (1 : Int)) = true), ((decide (((k : Nat) : Int) < (256 : Int))) = true)]) (by kernel_rfl)
    (AllP_cons rfl (AllP_cons rfl (AllP_cons (by decide) (AllP_cons ⟨(by decide), (by decide)⟩ (AllP_cons (by decide) (AllP_cons (by decide) (AllP_cons ⟨(by decide), (by decide)⟩ (AllP_cons rfl (AllP_cons (by decide) (AllP_cons ⟨(by decide), (by decide)⟩ (AllP_cons (by decide) (AllP_cons (by decide) (AllP_cons ⟨(by decide), (by decide)⟩ (AllP_cons (by decide) (AllP_cons ⟨(by decide), (by decide)⟩ (AllP_cons rfl (AllP_cons (by decide) (AllP_cons ⟨(by decide), (by decide)⟩ (AllP_cons (by decide) (AllP_cons (by decide) (AllP_cons ⟨(by decide), (by decide)⟩ (AllP_cons rfl (AllP_cons (by decide) (AllP_cons ⟨(by decide), (by decide)⟩ (AllP_cons (by decide) (AllP_cons (by decide) (AllP_cons ⟨(by decide), (by decide)⟩ (AllP_cons (by decide) (AllP_cons ⟨(by decide), (by decide)⟩ (AllP_cons rfl (AllP_cons (by decide) (AllP_cons ⟨(by decide), (by decide)⟩ (AllP_cons (by decide) (AllP_cons (by decide) (AllP_cons ⟨(by decide), (by decide)⟩ (AllP_cons rfl (AllP_cons (by decide) (AllP_cons ⟨(by decide), (by decide)⟩ (AllP_cons (by decide) (AllP_cons (by decide) (AllP_cons ⟨(by decide), (by decide)⟩ (AllP_cons (by decide) (AllP_cons ⟨(by decide), (by decide)⟩ (AllP_cons rfl (AllP_cons (by decide) (AllP_cons ⟨(by decide), (by decide)⟩ (AllP_cons (by decide) (AllP_cons (by decide) (AllP_cons ⟨(by decide), (by decide)⟩ (AllP_cons rfl (AllP_cons ((by first | exact congrArg (fun z => some (Blk.mk true [.ints .u64 4 z])) (naf_w0 ha) | exact congrArg (fun z => some (Blk.mk true [.ints .u64 4 z])) (naf_w1 h1 h2 (nfV_rng h1 h2 a k) ha hb) | exact congrArg (fun z => some (Blk.mk true [.ints .u64 4 z])) (naf_w2 h1 h2 (nfV_rng h1 h2 a k) ha hb))) (AllP_cons ⟨(wds_W4 _), (wds_four ⟨wrap_nn rfl, by rw [wrap64]; omega⟩ (by omega) (by omega) (by omega))⟩ (AllP_cons (decide_eq_true (by have q1 := odd_X h1 h2 ha; have q2 := nafX_rng h1 h2 (nfV v a k); first | omega | (rw [nafD_b ha hb]; omega))) (AllP_cons (by have q := pw2_rng h1 h2; first | omega | exact wrap_nn rfl | exact (ad64_rng _ _ _).1 | (simp (disch := omega) only [wrapI]; omega)) (AllP_cons ⟨(by have q := pw2_rng h1 h2; first | omega | exact wrap_nn rfl | exact (ad64_rng _ _ _).1 | (simp (disch := omega) only [wrapI]; omega)), (by have q := pw2_rng h1 h2; first | omega | exact wrap_nn rfl | exact (ad64_rng _ _ _).1 | (simp (disch := omega) only [wrapI]; omega))⟩ (AllP_cons (by rw [shl_w1 h1 h2]; exact decide_eq_false hb) (AllP_cons (by have q := pw2_rng h1 h2; first | omega | exact wrap_nn rfl | exact (ad64_rng _ _ _).1 | (simp (disch := omega) only [wrapI]; omega)) (AllP_cons ((congrArg (fun z => AV.o (.a (.i .i64 z))) (naf_x h1 h2 _))) (AllP_cons (by have q := pw2_rng h1 h2; first | omega | exact wrap_nn rfl | exact (ad64_rng _ _ _).1 | (simp (disch := omega) only [wrapI]; omega)) (AllP_cons (by show (bits2 .and .u64 (List.getD (W4 (nfV v a k)) 0 0) 1 == 1) = true; rw [W4_odd]; exact beq_iff_eq.2 ha) (AllP_cons (decide_eq_true (by have q := pw2_rng h1 h2; first | omega | exact wrap_nn rfl | exact (ad64_rng _ _ _).1 | (simp (disch := omega) only [wrapI]; omega))) (AllP_nil))))))))))))))))))))))))))))))))))))))))))))))))))))))))))))))
  rw [e0, e1, e2] at h
  exact h

set_option maxHeartbeats 1000000 in
theorem nfL_round_2 (a : List Int) (v : Int) (h0 : (Byt a)) (h1 : ((2 : Int) ≤ v)) (h2 : (v ≤ (8 : Int))) (hv0 : List.length a = (32 : Nat)) (w : World) (rw : List Nat) (β : Env) (k : Nat) (hk : k < (256 : Nat)) (s : Unit) (ha : ¬ (nfV v a k) % 2 = 1) : Run Try.prog ⟨w, rw, 0, β⟩ (loopB Try.f59 0) (nfL_mk a v k s) (To ⟨w, rw, 0, β⟩ .normal (nfL_mk a v (k + 1) (nfL_step k s))) := by
  have e0 : ([(bits2 .or .u64 (shr .u64 (wdx (nafW v (nfV v a k)) (0 : Nat)) (1 : Int)) (shl .u64 (wdx (nafW v (nfV v a k)) (1 : Nat)) (63 : Int))), (bits2 .or .u64 (shr .u64 (wdx (nafW v (nfV v a k)) (1 : Nat)) (1 : Int)) (shl .u64 (wdx (nafW v (nfV v a k)) (2 : Nat)) (63 : Int))), (bits2 .or .u64 (shr .u64 (wdx (nafW v (nfV v a k)) (2 : Nat)) (1 : Int)) (shl .u64 (wdx (nafW v (nfV v a k)) (3 : Nat)) (63 : Int))), (shr .u64 (wdx (nafW v (nfV v a k)) (3 : Nat)) (1 : Int))] : List Int) = (W4 (nfV v a (k + (1 : Nat)))) := (by first | exact wrap_succ (by omega) | omega | exact nfO_z hk ha | exact naf_half (nafW_rng h1 h2 (nfV_rng h1 h2 a k)))
  have e1 : (IntKind.i64.wrap (((k : Nat) : Int) + (1 : Int))) = (((k + (1 : Nat)) : Nat) : Int) := (by first | exact wrap_succ (by omega) | omega | exact nfO_z hk ha | exact naf_half (nafW_rng h1 h2 (nfV_rng h1 h2 a k)))
  have e2 : (nfO v a k) = (nfO v a (k + (1 : Nat))) := (by first | exact wrap_succ (by omega) | omega | exact nfO_z hk ha | exact naf_half (nafW_rng h1 h2 (nfV_rng h1 h2 a k)))
  have h := Run.of_outT (B := ⟨w, rw, 0, β⟩) (Λ := noLam) (Ψ := psiOf [(21, [.eqB 1 (⟨true, [.ints .u64 (4 : Nat) ([(wdx (nafW v (nfV v a k)) (0 : Nat)), (wdx (nafW v (nfV v a k)) (1 : Nat)), (wdx (nafW v (nfV v a k)) (2 : Nat)), (wdx (nafW v (nfV v a k)) (3 : Nat))] : List Int)]⟩)])]) (fuel := 6) (ora := [true, false, true, true, true, true, true, true, true, false, false]) (c := (loopB Try.f59 0)) (st := (nfL_mk a v k s)) (l := [.forget [0, 1, 2, 4, 5, 6, 7, 13, 14, 15, 16, 17, 18, 19, 20, 21, 22] 3]) (s' := ⟨sparse 106 [(0, .o (.g [.ints .u8 (32 : Nat) a])), (1, .o (.a (.i .i64 v))), (2, .o (.a (.p 0 0))), (4, .o (.a (.raw (.slice none 0 0)))), (5, .o (.a (.i .i64 (0 : Int)))), (6, .o (.a (.p 1 0))), (7, .o (.a (.sl 2 (0 : Nat) (256 : Nat) (256 : Nat)))), (13, .o (.a (.i .i64 v))), (14, .o (.a (.b (decide (v < (2 : Int)))))), (15, .o (.a (.b (decide (v < (2 : Int)))))), (16, .o (.a (.i .i64 v))), (17, .o (.a (.b (decide (v > (8 : Int)))))), (18, .o (.a (.b (decide (v > (8 : Int)))))), (19, .o (.g [.ints .u8 (32 : Nat) a])), (20, .o (.g [.ints .u64 (4 : Nat) (W4 (modL (BV a)))])), (21, .o (.a (.sl 2 (0 : Nat) (256 : Nat) (256 : Nat)))), (22, .o (.a (.i .i64 (IntKind.i64.wrap (((k : Nat) : Int) + (1 : Int))))))], [some ⟨true, [.ints .u8 (32 : Nat) a]⟩, some ⟨true, [.ints .u64 (4 : Nat) ([(bits2 .or .u64 (shr .u64 (wdx (nafW v (nfV v a k)) (0 : Nat)) (1 : Int)) (shl .u64 (wdx (nafW v (nfV v a k)) (1 : Nat)) (63 : Int))), (bits2 .or .u64 (shr .u64 (wdx (nafW v (nfV v a k)) (1 : Nat)) (1 : Int)) (shl .u64 (wdx (nafW v (nfV v a k)) (2 : Nat)) (63 : Int))), (bits2 .or .u64 (shr .u64 (wdx (nafW v (nfV v a k)) (2 : Nat)) (1 : Int)) (shl .u64 (wdx (nafW v (nfV v a k)) (3 : Nat)) (63 : Int))), (shr .u64 (wdx (nafW v (nfV v a k)) (3 : Nat)) (1 : Int))] : List Int)]⟩, some ⟨true, [.ints .i64 (256 : Nat) (nfO v a k)]⟩]⟩) (ex := .normal) mix tabOkRK gam72_ok
    (vc := [(false = false), (false = false), ((3 : Nat) < (4 : Nat)), (((0 : Int) ≤ (3 : Int)) ∧ ((3 : Int) < (4 : Int))), ((0 : Int) ≤ (1 : Int)), ((3 : Nat) < (4 : Nat)), (((0 : Int) ≤ (3 : Int)) ∧ ((3 : Int) < (4 : Int))), (true = true), ((2 : Nat) < (4 : Nat)), (((0 : Int) ≤ (2 : Int)) ∧ ((2 : Int) < (4 : Int))), ((0 : Int) ≤ (63 : Int)), ((3 : Nat) < (4 : Nat)), (((0 : Int) ≤ (3 : Int)) ∧ ((3 : Int) < (4 : Int))), ((2 : Nat) < (4 : Nat)), (((0 : Int) ≤ (2 : Int)) ∧ ((2 : Int) < (4 : Int))), (true = true), ((2 : Nat) < (4 : Nat)), (((0 : Int) ≤ (2 : Int)) ∧ ((2 : Int) < (4 : Int))), ((0 : Int) ≤ (1 : Int)), ((2 : Nat) < (4 : Nat)), (((0 : Int) ≤ (2 : Int)) ∧ ((2 : Int) < (4 : Int))), (true = true), ((1 : Nat) < (4 : Nat)), (((0 : Int) ≤ (1 : Int)) ∧ ((1 : Int) < (4 : Int))), ((0 : Int) ≤ (63 : Int)), ((2 : Nat) < (4 : Nat)), (((0 : Int) ≤ (2 : Int)) ∧ ((2 : Int) < (4 : Int))), ((1 : Nat) < (4 : Nat)), (((0 : Int) ≤ (1 : Int)) ∧ ((1 : Int) < (4 : Int))), (true = true), ((1 : Nat) < (4 : Nat)), (((0 : Int) ≤ (1 : Int)) ∧ ((1 : Int) < (4 : Int))), ((0 : Int) ≤ (1 : Int)), ((1 : Nat) < (4 : Nat)), (((0 : Int) ≤ (1 : Int)) ∧ ((1 : Int) < (4 : Int))), (true = true), ((0 : Nat) < (4 : Nat)), (((0 : Int) ≤ (0 : Int)) ∧ ((0 : Int) < (4 : Int))), ((0 : Int) ≤ (63 : Int)), ((1 : Nat) < (4 : Nat)), (((0 : Int) ≤ (1 : Int)) ∧ ((1 : Int) < (4 : Int))), ((0 : Nat) < (4 : Nat)), (((0 : Int) ≤ (0 : Int)) ∧ ((0 : Int) < (4 : Int))), (true = true), ((0 : Nat) < (4 : Nat)), (((0 : Int) ≤ (0 : Int)) ∧ ((0 : Int) < (4 : Int))), ((0 : Int) ≤ (1 : Int)), ((0 : Nat) < (4 : Nat)), (((0 : Int) ≤ (0 : Int)) ∧ ((0 : Int) < (4 : Int))), (true = true), ((some ⟨true, [.ints .u64 (4 : Nat) (W4 (nfV v a k))]⟩ : Option Blk) = some ⟨true, [.ints .u64 (4 : Nat) ([(wdx (nafW v (nfV v a k)) (0 : Nat)), (wdx (nafW v (nfV v a k)) (1 : Nat)), (wdx (nafW v (nfV v a k)) (2 : Nat)), (wdx (nafW v (nfV v a k)) (3 : Nat))] : List Int)]⟩), (((bits2 .and .u64 (List.getD (sub (W4 (nfV v a k)) (0 : Nat) (1 : Nat)) (0 : Nat) 0) (1 : Int)) == (1 : Int)) = false), ((decide (((k : Nat) : Int) < (256 : Int))) = true)]) (by kernel_rfl)
    (AllP_cons rfl (AllP_cons rfl (AllP_cons (by decide) (AllP_cons ⟨(by decide), (by decide)⟩ (AllP_cons (by decide) (AllP_cons (by decide) (AllP_cons ⟨(by decide), (by decide)⟩ (AllP_cons rfl (AllP_cons (by decide) (AllP_cons ⟨(by decide), (by decide)⟩ (AllP_cons (by decide) (AllP_cons (by decide) (AllP_cons ⟨(by decide), (by decide)⟩ (AllP_cons (by decide) (AllP_cons ⟨(by decide), (by decide)⟩ (AllP_cons rfl (AllP_cons (by decide) (AllP_cons ⟨(by decide), (by decide)⟩ (AllP_cons (by decide) (AllP_cons (by decide) (AllP_cons ⟨(by decide), (by decide)⟩ (AllP_cons rfl (AllP_cons (by decide) (AllP_cons ⟨(by decide), (by decide)⟩ (AllP_cons (by decide) (AllP_cons (by decide) (AllP_cons ⟨(by decide), (by decide)⟩ (AllP_cons (by decide) (AllP_cons ⟨(by decide), (by decide)⟩ (AllP_cons rfl (AllP_cons (by decide) (AllP_cons ⟨(by decide), (by decide)⟩ (AllP_cons (by decide) (AllP_cons (by decide) (AllP_cons ⟨(by decide), (by decide)⟩ (AllP_cons rfl (AllP_cons (by decide) (AllP_cons ⟨(by decide), (by decide)⟩ (AllP_cons (by decide) (AllP_cons (by decide) (AllP_cons ⟨(by decide), (by decide)⟩ (AllP_cons (by decide) (AllP_cons ⟨(by decide), (by decide)⟩ (AllP_cons rfl (AllP_cons (by decide) (AllP_cons ⟨(by decide), (by decide)⟩ (AllP_cons (by decide) (AllP_cons (by decide) (AllP_cons ⟨(by decide), (by decide)⟩ (AllP_cons rfl (AllP_cons ((by first | exact congrArg (fun z => some (Blk.mk true [.ints .u64 4 z])) (naf_w0 ha) | exact congrArg (fun z => some (Blk.mk true [.ints .u64 4 z])) (naf_w1 h1 h2 (nfV_rng h1 h2 a k) ha hb) | exact congrArg (fun z => some (Blk.mk true [.ints .u64 4 z])) (naf_w2 h1 h2 (nfV_rng h1 h2 a k) ha hb))) (AllP_cons (by show (bits2 .and .u64 (List.getD (W4 (nfV v a k)) 0 0) 1 == 1) = false; rw [W4_odd]; exact beq_eq_false_iff_ne.2 ha) (AllP_cons (decide_eq_true (by have q := pw2_rng h1 h2; first | omega | exact wrap_nn rfl | exact (ad64_rng _ _ _).1 | (simp (disch := omega) only [wrapI]; omega))) (AllP_nil))))))))))))))))))))))))))))))))))))))))))))))))))))))
  rw [e0, e1, e2] at h
  exact h

theorem nfL_round (a : List Int) (v : Int) (h0 : (Byt a)) (h1 : ((2 : Int) ≤ v)) (h2 : (v ≤ (8 : Int))) (hv0 : List.length a = (32 : Nat)) (w : World) (rw : List Nat) (β : Env) (k : Nat) (hk : k < (256 : Nat)) (s : Unit) : Run Try.prog ⟨w, rw, 0, β⟩ (loopB Try.f59 0) (nfL_mk a v k s) (To ⟨w, rw, 0, β⟩ .normal (nfL_mk a v (k + 1) (nfL_step k s))) := by
  by_cases ha : (nfV v a k) % 2 = 1
  · by_cases hb : nafX v (nfV v a k) ≥ pw2 (v - 1)
    · exact nfL_round_0 a v h0 h1 h2 hv0 w rw β k hk s ha hb
    · exact nfL_round_1 a v h0 h1 h2 hv0 w rw β k hk s ha hb
  · exact nfL_round_2 a v h0 h1 h2 hv0 w rw β k hk s ha

set_option maxHeartbeats 1000000 in
theorem nfL_last (a : List Int) (v : Int) (h0 : (Byt a)) (h1 : ((2 : Int) ≤ v)) (h2 : (v ≤ (8 : Int))) (hv0 : List.length a = (32 : Nat)) (w : World) (rw : List Nat) (β : Env) (s : Unit) : Run Try.prog ⟨w, rw, 0, β⟩ (loopB Try.f59 0) (nfL_mk a v (256 : Nat) s) (To ⟨w, rw, 0, β⟩ (.exit 0) (nfL_mk a v (256 : Nat) s)) :=
  Run.of_outT (B := ⟨w, rw, 0, β⟩) (Λ := noLam) (Ψ := noPsi) (fuel := 6) (ora := [false]) (l := [.forget [0, 1, 2, 4, 5, 6, 7, 13, 14, 15, 16, 17, 18, 19, 20, 21, 22] 3]) mix tabOkRK gam72_ok
    (vc := [(false = false)]) (by kernel_rfl)
    (AllP_cons rfl (AllP_nil))

theorem nfL_loop (a : List Int) (v : Int) (h0 : (Byt a)) (h1 : ((2 : Int) ≤ v)) (h2 : (v ≤ (8 : Int))) (hv0 : List.length a = (32 : Nat)) (w : World) (rw : List Nat) (β : Env) (s : Unit) : Run Try.prog ⟨w, rw, 0, β⟩ (.block 0 (.loop (loopB Try.f59 0))) (nfL_mk a v 0 s) (To ⟨w, rw, 0, β⟩ .normal (nfL_mk a v (256 : Nat) (iter (nfL_step) (256 : Nat) s))) :=
  Run.count (fun k => nfL_mk a v k (iter (nfL_step) k s)) (256 : Nat) (fun k hk => nfL_round a v h0 h1 h2 hv0 w rw β k hk _) (ex := (.exit 0)) (by simp) (nfL_last a v h0 h1 h2 hv0 w rw β _)

def nafP (a : List Int) (v : Int) : List Int :=
  (W4 (nfV v a (256 : Nat)))

def nafP_1 (a : List Int) (v : Int) : List Int :=
  (nfO v a (256 : Nat))

set_option maxHeartbeats 1000000 in
theorem nafP_body0 (a : List Int) (v : Int) (h0 : (Byt a)) (h1 : ((2 : Int) ≤ v)) (h2 : (v ≤ (8 : Int))) (hv0 : List.length a = (32 : Nat)) (w : World) (rw : List Nat) (β : Env) : Body Try.prog (tabOf tabRK) Try.f59 ⟨w, rw, 0, β⟩ [.o (.g [.ints .u8 (32 : Nat) a]), .o (.a (.i .i64 v))] [] (fun ys K' => ys = [.a (.sl 2 (0 : Nat) (256 : Nat) (256 : Nat)), .a (.i .i64 (0 : Int))] ∧ K' = [some ⟨true, [.ints .u8 (32 : Nat) a]⟩, some ⟨true, [.ints .u64 (4 : Nat) (nafP a v)]⟩, some ⟨true, [.ints .i64 (256 : Nat) (nafP_1 a v)]⟩]) :=
  Body.of_finK (Γ := gam72) (Λ := lamOf [(0, ⟨[.eqB 2 (⟨true, [.ints .i64 (256 : Nat) (nfO v a (0 : Nat))]⟩), .eqB 1 (⟨true, [.ints .u64 (4 : Nat) (W4 (nfV v a (0 : Nat)))]⟩), .forget [0, 1, 2, 4, 5, 6, 7, 13, 14, 15, 16, 17, 18, 19, 20, 21, 22] 3], .normal, (nfL_mk a v (256 : Nat) (iter (nfL_step) (256 : Nat) ()))⟩)]) (Ψ := noPsi) (fuel := 0) (m := 106) (c := (Try.f59.body.getD .skip)) mix tabOkRK gam72_ok rfl (rs := [.tmp 4, .tmp 5]) rfl rfl [true, true, false, false] [] 3
    (vc := [(Run Try.prog ⟨w, rw, 0, β⟩ (.block 0 (.loop (loopB Try.f59 0))) (nfL_mk a v 0 ()) (To ⟨w, rw, 0, β⟩ .normal (nfL_mk a v (256 : Nat) (iter (nfL_step) (256 : Nat) ())))), ((some ⟨true, [.ints .u64 (4 : Nat) (W4 (modL (BV a)))]⟩ : Option Blk) = some ⟨true, [.ints .u64 (4 : Nat) (W4 (nfV v a (0 : Nat)))]⟩), ((some ⟨true, [.ints .i64 (256 : Nat) (List.replicate (256 : Nat) (0 : Int))]⟩ : Option Blk) = some ⟨true, [.ints .i64 (256 : Nat) (nfO v a (0 : Nat))]⟩), (((0 : Int) ≤ (256 : Int)) ∧ ((256 : Int) ≤ (256 : Int)) ∧ ((2048 : Int) ≤ (281474976710656 : Int))), (Byt a), ((decide (v > (8 : Int))) = false), ((decide (v < (2 : Int))) = false), ((decide (v < (2 : Int))) = false), ((decide (v < (2 : Int))) = false)]) (by kernel_rfl)
    (AllP_cons (nfL_loop a v h0 h1 h2 hv0 w rw β ()) (AllP_cons ((by rfl)) (AllP_cons ((by rw [nfO_0])) (AllP_cons ⟨(by decide), (by decide), (by decide)⟩ (AllP_cons (by assumption) (AllP_cons (decide_eq_false (by omega)) (AllP_cons (decide_eq_false (by omega)) (AllP_cons (decide_eq_false (by omega)) (AllP_cons (decide_eq_false (by omega)) (AllP_nil))))))))))

theorem nafP_body (a : List Int) (v : Int) (h0 : (Byt a)) (h1 : ((2 : Int) ≤ v)) (h2 : (v ≤ (8 : Int))) (w : World) (rw : List Nat) (β : Env) : Body Try.prog (tabOf tabRK) Try.f59 ⟨w, rw, 0, β⟩ [.o (.g [.ints .u8 (32 : Nat) a]), .o (.a (.i .i64 v))] [] (fun ys K' => ys = [.a (.sl 2 (0 : Nat) (256 : Nat) (256 : Nat)), .a (.i .i64 (0 : Int))] ∧ K' = [some ⟨true, [.ints .u8 (32 : Nat) a]⟩, some ⟨true, [.ints .u64 (4 : Nat) (nafP a v)]⟩, some ⟨true, [.ints .i64 (256 : Nat) (nafP_1 a v)]⟩]) :=
  Body.lens (c := (Try.f59.body.getD .skip)) rfl fun h => nafP_body0 a v h0 h1 h2 (h.vals 0 _ _ _ rfl) w rw β

end Go.Proofs.Ytcpoldghkiiggaa.X

/- Printed by a tool of this session. -/
namespace Go.Proofs.Ytcpoldghkiiggaa.X
open Go Go.Proofs
set_option linter.unusedVariables false
set_option linter.unusedSimpArgs false
set_option maxRecDepth 100000
theorem teRL_2 : TEOk Try.prog 2 ⟨.int .i64, 1, 8, [.i .i64 (0 : Int)], false⟩ :=
  TEOk.of Try.underlying2 (i := Try.t2) (by kernel_rfl) rfl rfl rfl (by kernel_rfl) (fun h => by cases h) (by kernel_rfl)
theorem teRL_109 : TEOk Try.prog 109 ⟨.int .u32, 1, 4, [.i .u32 (0 : Int)], false⟩ :=
  TEOk.of Try.underlying109 (i := Try.t109) (by kernel_rfl) rfl rfl rfl (by kernel_rfl) (fun h => by cases h) (by kernel_rfl)
theorem teRL_113 : TEOk Try.prog 113 ⟨.slice 109, 1, 24, [.raw (.slice none 0 0)], false⟩ :=
  TEOk.of Try.underlying113 (i := Try.t113) (by kernel_rfl) rfl rfl rfl (by kernel_rfl) (fun h => by cases h) (by kernel_rfl)
noncomputable def tabRL : List (Nat × TE) := [(2, ⟨.int .i64, 1, 8, [.i .i64 (0 : Int)], false⟩), (109, ⟨.int .u32, 1, 4, [.i .u32 (0 : Int)], false⟩), (113, ⟨.slice 109, 1, 24, [.raw (.slice none 0 0)], false⟩)]
theorem tabOkRL : TabOk Try.prog (tabOf tabRL) := (tabOf_cons teRL_2 (tabOf_cons teRL_109 (tabOf_cons teRL_113 tabOf_nil)))

def lsR (N : List Int) (d : Int) : List Int :=
  let z0 : Int := (IntKind.i64.wrap ((IntKind.i64.wrap ((0 : Int) - d)) + (IntKind.i64.wrap (List.getD N (0 : Nat) 0))))
  let z1 : List Int := (List.set N (0 : Nat) (IntKind.u32.wrap z0))
  let z2 : Int := (IntKind.i64.wrap ((shr .i64 z0 (32 : Int)) + (IntKind.i64.wrap (List.getD z1 (1 : Nat) 0))))
  let z3 : List Int := (List.set z1 (1 : Nat) (IntKind.u32.wrap z2))
  let z4 : Int := (IntKind.i64.wrap ((shr .i64 z2 (32 : Int)) + (IntKind.i64.wrap (List.getD z3 (2 : Nat) 0))))
  let z5 : List Int := (List.set z3 (2 : Nat) (IntKind.u32.wrap z4))
  let z6 : Int := (IntKind.i64.wrap ((shr .i64 z4 (32 : Int)) + (IntKind.i64.wrap (List.getD z5 (3 : Nat) 0))))
  let z7 : List Int := (List.set z5 (3 : Nat) (IntKind.u32.wrap z6))
  let z8 : Int := (IntKind.i64.wrap ((shr .i64 z6 (32 : Int)) + (IntKind.i64.wrap (List.getD z7 (4 : Nat) 0))))
  let z9 : List Int := (List.set z7 (4 : Nat) (IntKind.u32.wrap z8))
  let z10 : Int := (IntKind.i64.wrap ((shr .i64 z8 (32 : Int)) + (IntKind.i64.wrap (List.getD z9 (5 : Nat) 0))))
  let z11 : List Int := (List.set z9 (5 : Nat) (IntKind.u32.wrap z10))
  let z12 : Int := (IntKind.i64.wrap ((shr .i64 z10 (32 : Int)) + (IntKind.i64.wrap (List.getD z11 (6 : Nat) 0))))
  let z13 : List Int := (List.set z11 (6 : Nat) (IntKind.u32.wrap z12))
  let z14 : Int := (IntKind.i64.wrap ((shr .i64 z12 (32 : Int)) + (IntKind.i64.wrap (List.getD z13 (7 : Nat) 0))))
  let z15 : List Int := (List.set z13 (7 : Nat) (IntKind.u32.wrap z14))
  (List.set z15 (8 : Nat) (IntKind.u32.wrap (IntKind.i64.wrap ((shr .i64 z14 (32 : Int)) + (IntKind.i64.wrap (List.getD z15 (8 : Nat) 0))))))

set_option maxHeartbeats 1000000 in
theorem lsR_body0 (N : List Int) (cp : Nat) (d : Int) (hl0_0 : List.length N = (9 : Nat)) (w : World) (rw : List Nat) (β : Env) : Body Try.prog (tabOf tabRL) Try.f106 ⟨w, rw, 1, β⟩ [.o (.a (.sl 0 (0 : Nat) (9 : Nat) cp)), .o (.a (.i .i64 d))] [some ⟨true, [.ints .u32 (9 : Nat) N]⟩] (fun ys K' => ys = [] ∧ K' = [some ⟨true, [.ints .u32 (9 : Nat) (lsR N d)]⟩]) :=
  Body.of_finK (Γ := gam72) (Λ := noLam) (Ψ := noPsi) (fuel := 10) (m := 28) (c := (Try.f106.body.getD .skip)) mix tabOkRL gam72_ok rfl (rs := []) rfl rfl [true, true, true, true, true, true, true, true, true, false] [] 1
    (vc := [(false = false), ((0 : Int) ≤ (32 : Int)), ((8 : Nat) < (9 : Nat)), (((0 : Int) ≤ (8 : Int)) ∧ ((8 : Int) < (9 : Int))), ((8 : Nat) < (9 : Nat)), (((0 : Int) ≤ (8 : Int)) ∧ ((8 : Int) < (9 : Int))), (true = true), ((0 : Int) ≤ (32 : Int)), ((7 : Nat) < (9 : Nat)), (((0 : Int) ≤ (7 : Int)) ∧ ((7 : Int) < (9 : Int))), ((7 : Nat) < (9 : Nat)), (((0 : Int) ≤ (7 : Int)) ∧ ((7 : Int) < (9 : Int))), (true = true), ((0 : Int) ≤ (32 : Int)), ((6 : Nat) < (9 : Nat)), (((0 : Int) ≤ (6 : Int)) ∧ ((6 : Int) < (9 : Int))), ((6 : Nat) < (9 : Nat)), (((0 : Int) ≤ (6 : Int)) ∧ ((6 : Int) < (9 : Int))), (true = true), ((0 : Int) ≤ (32 : Int)), ((5 : Nat) < (9 : Nat)), (((0 : Int) ≤ (5 : Int)) ∧ ((5 : Int) < (9 : Int))), ((5 : Nat) < (9 : Nat)), (((0 : Int) ≤ (5 : Int)) ∧ ((5 : Int) < (9 : Int))), (true = true), ((0 : Int) ≤ (32 : Int)), ((4 : Nat) < (9 : Nat)), (((0 : Int) ≤ (4 : Int)) ∧ ((4 : Int) < (9 : Int))), ((4 : Nat) < (9 : Nat)), (((0 : Int) ≤ (4 : Int)) ∧ ((4 : Int) < (9 : Int))), (true = true), ((0 : Int) ≤ (32 : Int)), ((3 : Nat) < (9 : Nat)), (((0 : Int) ≤ (3 : Int)) ∧ ((3 : Int) < (9 : Int))), ((3 : Nat) < (9 : Nat)), (((0 : Int) ≤ (3 : Int)) ∧ ((3 : Int) < (9 : Int))), (true = true), ((0 : Int) ≤ (32 : Int)), ((2 : Nat) < (9 : Nat)), (((0 : Int) ≤ (2 : Int)) ∧ ((2 : Int) < (9 : Int))), ((2 : Nat) < (9 : Nat)), (((0 : Int) ≤ (2 : Int)) ∧ ((2 : Int) < (9 : Int))), (true = true), ((0 : Int) ≤ (32 : Int)), ((1 : Nat) < (9 : Nat)), (((0 : Int) ≤ (1 : Int)) ∧ ((1 : Int) < (9 : Int))), ((1 : Nat) < (9 : Nat)), (((0 : Int) ≤ (1 : Int)) ∧ ((1 : Int) < (9 : Int))), (true = true), ((0 : Int) ≤ (32 : Int)), ((0 : Nat) < (9 : Nat)), (((0 : Int) ≤ (0 : Int)) ∧ ((0 : Int) < (9 : Int))), ((0 : Nat) < (9 : Nat)), (((0 : Int) ≤ (0 : Int)) ∧ ((0 : Int) < (9 : Int))), (true = true)]) (by kernel_rfl)
    (AllP_cons rfl (AllP_cons (by decide) (AllP_cons (by decide) (AllP_cons ⟨(by decide), (by decide)⟩ (AllP_cons (by decide) (AllP_cons ⟨(by decide), (by decide)⟩ (AllP_cons rfl (AllP_cons (by decide) (AllP_cons (by decide) (AllP_cons ⟨(by decide), (by decide)⟩ (AllP_cons (by decide) (AllP_cons ⟨(by decide), (by decide)⟩ (AllP_cons rfl (AllP_cons (by decide) (AllP_cons (by decide) (AllP_cons ⟨(by decide), (by decide)⟩ (AllP_cons (by decide) (AllP_cons ⟨(by decide), (by decide)⟩ (AllP_cons rfl (AllP_cons (by decide) (AllP_cons (by decide) (AllP_cons ⟨(by decide), (by decide)⟩ (AllP_cons (by decide) (AllP_cons ⟨(by decide), (by decide)⟩ (AllP_cons rfl (AllP_cons (by decide) (AllP_cons (by decide) (AllP_cons ⟨(by decide), (by decide)⟩ (AllP_cons (by decide) (AllP_cons ⟨(by decide), (by decide)⟩ (AllP_cons rfl (AllP_cons (by decide) (AllP_cons (by decide) (AllP_cons ⟨(by decide), (by decide)⟩ (AllP_cons (by decide) (AllP_cons ⟨(by decide), (by decide)⟩ (AllP_cons rfl (AllP_cons (by decide) (AllP_cons (by decide) (AllP_cons ⟨(by decide), (by decide)⟩ (AllP_cons (by decide) (AllP_cons ⟨(by decide), (by decide)⟩ (AllP_cons rfl (AllP_cons (by decide) (AllP_cons (by decide) (AllP_cons ⟨(by decide), (by decide)⟩ (AllP_cons (by decide) (AllP_cons ⟨(by decide), (by decide)⟩ (AllP_cons rfl (AllP_cons (by decide) (AllP_cons (by decide) (AllP_cons ⟨(by decide), (by decide)⟩ (AllP_cons (by decide) (AllP_cons ⟨(by decide), (by decide)⟩ (AllP_cons rfl (AllP_nil))))))))))))))))))))))))))))))))))))))))))))))))))))))))

theorem lsR_body (N : List Int) (cp : Nat) (d : Int) (w : World) (rw : List Nat) (β : Env) : Body Try.prog (tabOf tabRL) Try.f106 ⟨w, rw, 1, β⟩ [.o (.a (.sl 0 (0 : Nat) (9 : Nat) cp)), .o (.a (.i .i64 d))] [some ⟨true, [.ints .u32 (9 : Nat) N]⟩] (fun ys K' => ys = [] ∧ K' = [some ⟨true, [.ints .u32 (9 : Nat) (lsR N d)]⟩]) :=
  Body.lens (c := (Try.f106.body.getD .skip)) rfl fun h => lsR_body0 N cp d (h.lens 0 _ .u32 (9 : Nat) N rfl (by simp)) w rw β

def hfR (N : List Int) : List Int :=
  let z0 : List Int := (List.set N (0 : Nat) (shr .u32 (List.getD N (0 : Nat) 0) (1 : Int)))
  let z1 : List Int := (List.set z0 (0 : Nat) (bits2 .or .u32 (List.getD z0 (0 : Nat) 0) (shl .u32 (List.getD z0 (1 : Nat) 0) (31 : Int))))
  let z2 : List Int := (List.set z1 (1 : Nat) (shr .u32 (List.getD z1 (1 : Nat) 0) (1 : Int)))
  let z3 : List Int := (List.set z2 (1 : Nat) (bits2 .or .u32 (List.getD z2 (1 : Nat) 0) (shl .u32 (List.getD z2 (2 : Nat) 0) (31 : Int))))
  let z4 : List Int := (List.set z3 (2 : Nat) (shr .u32 (List.getD z3 (2 : Nat) 0) (1 : Int)))
  let z5 : List Int := (List.set z4 (2 : Nat) (bits2 .or .u32 (List.getD z4 (2 : Nat) 0) (shl .u32 (List.getD z4 (3 : Nat) 0) (31 : Int))))
  let z6 : List Int := (List.set z5 (3 : Nat) (shr .u32 (List.getD z5 (3 : Nat) 0) (1 : Int)))
  let z7 : List Int := (List.set z6 (3 : Nat) (bits2 .or .u32 (List.getD z6 (3 : Nat) 0) (shl .u32 (List.getD z6 (4 : Nat) 0) (31 : Int))))
  let z8 : List Int := (List.set z7 (4 : Nat) (shr .u32 (List.getD z7 (4 : Nat) 0) (1 : Int)))
  let z9 : List Int := (List.set z8 (4 : Nat) (bits2 .or .u32 (List.getD z8 (4 : Nat) 0) (shl .u32 (List.getD z8 (5 : Nat) 0) (31 : Int))))
  let z10 : List Int := (List.set z9 (5 : Nat) (shr .u32 (List.getD z9 (5 : Nat) 0) (1 : Int)))
  let z11 : List Int := (List.set z10 (5 : Nat) (bits2 .or .u32 (List.getD z10 (5 : Nat) 0) (shl .u32 (List.getD z10 (6 : Nat) 0) (31 : Int))))
  let z12 : List Int := (List.set z11 (6 : Nat) (shr .u32 (List.getD z11 (6 : Nat) 0) (1 : Int)))
  let z13 : List Int := (List.set z12 (6 : Nat) (bits2 .or .u32 (List.getD z12 (6 : Nat) 0) (shl .u32 (List.getD z12 (7 : Nat) 0) (31 : Int))))
  let z14 : List Int := (List.set z13 (7 : Nat) (shr .u32 (List.getD z13 (7 : Nat) 0) (1 : Int)))
  let z15 : List Int := (List.set z14 (7 : Nat) (bits2 .or .u32 (List.getD z14 (7 : Nat) 0) (shl .u32 (List.getD z14 (8 : Nat) 0) (31 : Int))))
  (List.set z15 (8 : Nat) (shr .u32 (List.getD z15 (8 : Nat) 0) (1 : Int)))

set_option maxHeartbeats 1000000 in
theorem hfR_body0 (N : List Int) (cp : Nat) (hl0_0 : List.length N = (9 : Nat)) (w : World) (rw : List Nat) (β : Env) : Body Try.prog (tabOf tabRL) Try.f107 ⟨w, rw, 1, β⟩ [.o (.a (.sl 0 (0 : Nat) (9 : Nat) cp))] [some ⟨true, [.ints .u32 (9 : Nat) N]⟩] (fun ys K' => ys = [] ∧ K' = [some ⟨true, [.ints .u32 (9 : Nat) (hfR N)]⟩]) :=
  Body.of_finK (Γ := gam72) (Λ := noLam) (Ψ := noPsi) (fuel := 10) (m := 36) (c := (Try.f107.body.getD .skip)) mix tabOkRL gam72_ok rfl (rs := []) rfl rfl [true, true, true, true, true, true, true, true, true, true, true, true, true, true, true, true, true, false, false] [] 1
    (vc := [(false = false), (false = false), ((8 : Nat) < (9 : Nat)), (((0 : Int) ≤ (8 : Int)) ∧ ((8 : Int) < (9 : Int))), ((0 : Int) ≤ (1 : Int)), ((8 : Nat) < (9 : Nat)), (((0 : Int) ≤ (8 : Int)) ∧ ((8 : Int) < (9 : Int))), (true = true), ((7 : Nat) < (9 : Nat)), (((0 : Int) ≤ (7 : Int)) ∧ ((7 : Int) < (9 : Int))), ((0 : Int) ≤ (31 : Int)), ((8 : Nat) < (9 : Nat)), (((0 : Int) ≤ (8 : Int)) ∧ ((8 : Int) < (9 : Int))), ((7 : Nat) < (9 : Nat)), (((0 : Int) ≤ (7 : Int)) ∧ ((7 : Int) < (9 : Int))), (true = true), ((7 : Nat) < (9 : Nat)), (((0 : Int) ≤ (7 : Int)) ∧ ((7 : Int) < (9 : Int))), ((0 : Int) ≤ (1 : Int)), ((7 : Nat) < (9 : Nat)), (((0 : Int) ≤ (7 : Int)) ∧ ((7 : Int) < (9 : Int))), (true = true), ((6 : Nat) < (9 : Nat)), (((0 : Int) ≤ (6 : Int)) ∧ ((6 : Int) < (9 : Int))), ((0 : Int) ≤ (31 : Int)), ((7 : Nat) < (9 : Nat)), (((0 : Int) ≤ (7 : Int)) ∧ ((7 : Int) < (9 : Int))), ((6 : Nat) < (9 : Nat)), (((0 : Int) ≤ (6 : Int)) ∧ ((6 : Int) < (9 : Int))), (true = true), ((6 : Nat) < (9 : Nat)), (((0 : Int) ≤ (6 : Int)) ∧ ((6 : Int) < (9 : Int))), ((0 : Int) ≤ (1 : Int)), ((6 : Nat) < (9 : Nat)), (((0 : Int) ≤ (6 : Int)) ∧ ((6 : Int) < (9 : Int))), (true = true), ((5 : Nat) < (9 : Nat)), (((0 : Int) ≤ (5 : Int)) ∧ ((5 : Int) < (9 : Int))), ((0 : Int) ≤ (31 : Int)), ((6 : Nat) < (9 : Nat)), (((0 : Int) ≤ (6 : Int)) ∧ ((6 : Int) < (9 : Int))), ((5 : Nat) < (9 : Nat)), (((0 : Int) ≤ (5 : Int)) ∧ ((5 : Int) < (9 : Int))), (true = true), ((5 : Nat) < (9 : Nat)), (((0 : Int) ≤ (5 : Int)) ∧ ((5 : Int) < (9 : Int))), ((0 : Int) ≤ (1 : Int)), ((5 : Nat) < (9 : Nat)), (((0 : Int) ≤ (5 : Int)) ∧ ((5 : Int) < (9 : Int))), (true = true), ((4 : Nat) < (9 : Nat)), (((0 : Int) ≤ (4 : Int)) ∧ ((4 : Int) < (9 : Int))), ((0 : Int) ≤ (31 : Int)), ((5 : Nat) < (9 : Nat)), (((0 : Int) ≤ (5 : Int)) ∧ ((5 : Int) < (9 : Int))), ((4 : Nat) < (9 : Nat)), (((0 : Int) ≤ (4 : Int)) ∧ ((4 : Int) < (9 : Int))), (true = true), ((4 : Nat) < (9 : Nat)), (((0 : Int) ≤ (4 : Int)) ∧ ((4 : Int) < (9 : Int))), ((0 : Int) ≤ (1 : Int)), ((4 : Nat) < (9 : Nat)), (((0 : Int) ≤ (4 : Int)) ∧ ((4 : Int) < (9 : Int))), (true = true), ((3 : Nat) < (9 : Nat)), (((0 : Int) ≤ (3 : Int)) ∧ ((3 : Int) < (9 : Int))), ((0 : Int) ≤ (31 : Int)), ((4 : Nat) < (9 : Nat)), (((0 : Int) ≤ (4 : Int)) ∧ ((4 : Int) < (9 : Int))), ((3 : Nat) < (9 : Nat)), (((0 : Int) ≤ (3 : Int)) ∧ ((3 : Int) < (9 : Int))), (true = true), ((3 : Nat) < (9 : Nat)), (((0 : Int) ≤ (3 : Int)) ∧ ((3 : Int) < (9 : Int))), ((0 : Int) ≤ (1 : Int)), ((3 : Nat) < (9 : Nat)), (((0 : Int) ≤ (3 : Int)) ∧ ((3 : Int) < (9 : Int))), (true = true), ((2 : Nat) < (9 : Nat)), (((0 : Int) ≤ (2 : Int)) ∧ ((2 : Int) < (9 : Int))), ((0 : Int) ≤ (31 : Int)), ((3 : Nat) < (9 : Nat)), (((0 : Int) ≤ (3 : Int)) ∧ ((3 : Int) < (9 : Int))), ((2 : Nat) < (9 : Nat)), (((0 : Int) ≤ (2 : Int)) ∧ ((2 : Int) < (9 : Int))), (true = true), ((2 : Nat) < (9 : Nat)), (((0 : Int) ≤ (2 : Int)) ∧ ((2 : Int) < (9 : Int))), ((0 : Int) ≤ (1 : Int)), ((2 : Nat) < (9 : Nat)), (((0 : Int) ≤ (2 : Int)) ∧ ((2 : Int) < (9 : Int))), (true = true), ((1 : Nat) < (9 : Nat)), (((0 : Int) ≤ (1 : Int)) ∧ ((1 : Int) < (9 : Int))), ((0 : Int) ≤ (31 : Int)), ((2 : Nat) < (9 : Nat)), (((0 : Int) ≤ (2 : Int)) ∧ ((2 : Int) < (9 : Int))), ((1 : Nat) < (9 : Nat)), (((0 : Int) ≤ (1 : Int)) ∧ ((1 : Int) < (9 : Int))), (true = true), ((1 : Nat) < (9 : Nat)), (((0 : Int) ≤ (1 : Int)) ∧ ((1 : Int) < (9 : Int))), ((0 : Int) ≤ (1 : Int)), ((1 : Nat) < (9 : Nat)), (((0 : Int) ≤ (1 : Int)) ∧ ((1 : Int) < (9 : Int))), (true = true), ((0 : Nat) < (9 : Nat)), (((0 : Int) ≤ (0 : Int)) ∧ ((0 : Int) < (9 : Int))), ((0 : Int) ≤ (31 : Int)), ((1 : Nat) < (9 : Nat)), (((0 : Int) ≤ (1 : Int)) ∧ ((1 : Int) < (9 : Int))), ((0 : Nat) < (9 : Nat)), (((0 : Int) ≤ (0 : Int)) ∧ ((0 : Int) < (9 : Int))), (true = true), ((0 : Nat) < (9 : Nat)), (((0 : Int) ≤ (0 : Int)) ∧ ((0 : Int) < (9 : Int))), ((0 : Int) ≤ (1 : Int)), ((0 : Nat) < (9 : Nat)), (((0 : Int) ≤ (0 : Int)) ∧ ((0 : Int) < (9 : Int))), (true = true)]) (by kernel_rfl)
    (AllP_cons rfl (AllP_cons rfl (AllP_cons (by decide) (AllP_cons ⟨(by decide), (by decide)⟩ (AllP_cons (by decide) (AllP_cons (by decide) (AllP_cons ⟨(by decide), (by decide)⟩ (AllP_cons rfl (AllP_cons (by decide) (AllP_cons ⟨(by decide), (by decide)⟩ (AllP_cons (by decide) (AllP_cons (by decide) (AllP_cons ⟨(by decide), (by decide)⟩ (AllP_cons (by decide) (AllP_cons ⟨(by decide), (by decide)⟩ (AllP_cons rfl (AllP_cons (by decide) (AllP_cons ⟨(by decide), (by decide)⟩ (AllP_cons (by decide) (AllP_cons (by decide) (AllP_cons ⟨(by decide), (by decide)⟩ (AllP_cons rfl (AllP_cons (by decide) (AllP_cons ⟨(by decide), (by decide)⟩ (AllP_cons (by decide) (AllP_cons (by decide) (AllP_cons ⟨(by decide), (by decide)⟩ (AllP_cons (by decide) (AllP_cons ⟨(by decide), (by decide)⟩ (AllP_cons rfl (AllP_cons (by decide) (AllP_cons ⟨(by decide), (by decide)⟩ (AllP_cons (by decide) (AllP_cons (by decide) (AllP_cons ⟨(by decide), (by decide)⟩ (AllP_cons rfl (AllP_cons (by decide) (AllP_cons ⟨(by decide), (by decide)⟩ (AllP_cons (by decide) (AllP_cons (by decide) (AllP_cons ⟨(by decide), (by decide)⟩ (AllP_cons (by decide) (AllP_cons ⟨(by decide), (by decide)⟩ (AllP_cons rfl (AllP_cons (by decide) (AllP_cons ⟨(by decide), (by decide)⟩ (AllP_cons (by decide) (AllP_cons (by decide) (AllP_cons ⟨(by decide), (by decide)⟩ (AllP_cons rfl (AllP_cons (by decide) (AllP_cons ⟨(by decide), (by decide)⟩ (AllP_cons (by decide) (AllP_cons (by decide) (AllP_cons ⟨(by decide), (by decide)⟩ (AllP_cons (by decide) (AllP_cons ⟨(by decide), (by decide)⟩ (AllP_cons rfl (AllP_cons (by decide) (AllP_cons ⟨(by decide), (by decide)⟩ (AllP_cons (by decide) (AllP_cons (by decide) (AllP_cons ⟨(by decide), (by decide)⟩ (AllP_cons rfl (AllP_cons (by decide) (AllP_cons ⟨(by decide), (by decide)⟩ (AllP_cons (by decide) (AllP_cons (by decide) (AllP_cons ⟨(by decide), (by decide)⟩ (AllP_cons (by decide) (AllP_cons ⟨(by decide), (by decide)⟩ (AllP_cons rfl (AllP_cons (by decide) (AllP_cons ⟨(by decide), (by decide)⟩ (AllP_cons (by decide) (AllP_cons (by decide) (AllP_cons ⟨(by decide), (by decide)⟩ (AllP_cons rfl (AllP_cons (by decide) (AllP_cons ⟨(by decide), (by decide)⟩ (AllP_cons (by decide) (AllP_cons (by decide) (AllP_cons ⟨(by decide), (by decide)⟩ (AllP_cons (by decide) (AllP_cons ⟨(by decide), (by decide)⟩ (AllP_cons rfl (AllP_cons (by decide) (AllP_cons ⟨(by decide), (by decide)⟩ (AllP_cons (by decide) (AllP_cons (by decide) (AllP_cons ⟨(by decide), (by decide)⟩ (AllP_cons rfl (AllP_cons (by decide) (AllP_cons ⟨(by decide), (by decide)⟩ (AllP_cons (by decide) (AllP_cons (by decide) (AllP_cons ⟨(by decide), (by decide)⟩ (AllP_cons (by decide) (AllP_cons ⟨(by decide), (by decide)⟩ (AllP_cons rfl (AllP_cons (by decide) (AllP_cons ⟨(by decide), (by decide)⟩ (AllP_cons (by decide) (AllP_cons (by decide) (AllP_cons ⟨(by decide), (by decide)⟩ (AllP_cons rfl (AllP_cons (by decide) (AllP_cons ⟨(by decide), (by decide)⟩ (AllP_cons (by decide) (AllP_cons (by decide) (AllP_cons ⟨(by decide), (by decide)⟩ (AllP_cons (by decide) (AllP_cons ⟨(by decide), (by decide)⟩ (AllP_cons rfl (AllP_cons (by decide) (AllP_cons ⟨(by decide), (by decide)⟩ (AllP_cons (by decide) (AllP_cons (by decide) (AllP_cons ⟨(by decide), (by decide)⟩ (AllP_cons rfl (AllP_nil)))))))))))))))))))))))))))))))))))))))))))))))))))))))))))))))))))))))))))))))))))))))))))))))))))))))))))))))))))))))))

theorem hfR_body (N : List Int) (cp : Nat) (w : World) (rw : List Nat) (β : Env) : Body Try.prog (tabOf tabRL) Try.f107 ⟨w, rw, 1, β⟩ [.o (.a (.sl 0 (0 : Nat) (9 : Nat) cp))] [some ⟨true, [.ints .u32 (9 : Nat) N]⟩] (fun ys K' => ys = [] ∧ K' = [some ⟨true, [.ints .u32 (9 : Nat) (hfR N)]⟩]) :=
  Body.lens (c := (Try.f107.body.getD .skip)) rfl fun h => hfR_body0 N cp (h.lens 0 _ .u32 (9 : Nat) N rfl (by simp)) w rw β

end Go.Proofs.Ytcpoldghkiiggaa.X

/- The reference's nine digits. -/
namespace Go.Proofs.Ytcpoldghkiiggaa.X
open Go Go.Proofs
set_option linter.unusedVariables false
set_option linter.unusedSimpArgs false
set_option maxRecDepth 100000

def W9 (v : Int) : List Int := W8 v ++ [0]
theorem shr32i (x : Int) : shr .i64 x 32 = x / 4294967296 := by
  have e : shr .i64 x 32 = x.fdiv 4294967296 := rfl
  rw [e, Int.fdiv_eq_ediv_of_nonneg _ (by omega)]
theorem shr_u1 (x : Int) : shr .u32 x 1 = x / 2 := by
  have e : shr .u32 x 1 = x.fdiv 2 := rfl
  rw [e, Int.fdiv_eq_ediv_of_nonneg _ (by omega)]
theorem or_shl31 {x y : Int} (hx : 0 ≤ x ∧ x < 2147483648) (hy : 0 ≤ y ∧ y < 4294967296) : bits2 .or .u32 x (shl .u32 y 31) = x + 2147483648 * (y % 2) := by
  have e1 : shl .u32 y 31 = ((2 ^ 31 * (y % 2).toNat : Nat) : Int) := by
    have : shl .u32 y 31 = IntKind.u32.wrap (y * 2147483648) := rfl
    rw [this, wrap32]
    have : (2 : Nat) ^ 31 = 2147483648 := by decide
    omega
  obtain ⟨n, rfl⟩ := Int.eq_ofNat_of_zero_le hx.1
  have hn : n < 2 ^ 31 := by
    have : (2 : Nat) ^ 31 = 2147483648 := by decide
    omega
  rw [e1]
  generalize hb : (y % 2).toNat = b
  have hb1 : b ≤ 1 := by omega
  have h63 : (2 : Nat) ^ 31 = 2147483648 := by decide
  have e : bits2 .or .u32 ((n : Nat) : Int) ((2 ^ 31 * b : Nat) : Int) = IntKind.u32.wrap (((BitVec.ofInt 32 ((n : Nat) : Int) ||| BitVec.ofInt 32 ((2 ^ 31 * b : Nat) : Int)).toNat : Nat) : Int) := rfl
  have t : ∀ m : Nat, m < 4294967296 → (BitVec.ofInt 32 ((m : Nat) : Int)).toNat = m := by
    intro m hm
    rw [BitVec.toNat_ofInt]
    show (((m : Nat) : Int) % 4294967296).toNat = m
    omega
  rw [e, BitVec.toNat_or, t n (by omega), t (2 ^ 31 * b) (by omega), Nat.or_comm, ← Nat.two_pow_add_eq_or_of_lt hn, wrap32]
  omega
theorem W9_odd (v : Int) : bits2 .and .u32 (List.getD (W9 v) 0 0) 1 = v % 2 := by
  rw [bit_and]
  show v % 4294967296 % 2 = v % 2
  omega
theorem ls9 {n0 n1 n2 n3 n4 n5 n6 n7 d v : Int} (h0 : 0 ≤ n0 ∧ n0 < 4294967296) (h1 : 0 ≤ n1 ∧ n1 < 4294967296) (h2 : 0 ≤ n2 ∧ n2 < 4294967296) (h3 : 0 ≤ n3 ∧ n3 < 4294967296) (h4 : 0 ≤ n4 ∧ n4 < 4294967296) (h5 : 0 ≤ n5 ∧ n5 < 4294967296) (h6 : 0 ≤ n6 ∧ n6 < 4294967296) (h7 : 0 ≤ n7 ∧ n7 < 4294967296) (hs : n0 + 4294967296 * n1 + 18446744073709551616 * n2 + 79228162514264337593543950336 * n3 + 340282366920938463463374607431768211456 * n4 + 1461501637330902918203684832716283019655932542976 * n5 + 6277101735386680763835789423207666416102355444464034512896 * n6 + 26959946667150639794667015087019630673637144422540572481103610249216 * n7 = v) (hv : v < 14474011154664524427946373126085988481658748083205070504932198000989141204992) (hd : -128 ≤ d ∧ d ≤ 127 ∧ d ≤ v) : lsR [n0, n1, n2, n3, n4, n5, n6, n7, 0] d = W9 (v - d) := by
  unfold lsR
  simp only [List.getD_cons_zero, List.getD_cons_succ, List.set_cons_zero, List.set_cons_succ, shr32i, wrap32]
  have e0 : IntKind.i64.wrap (IntKind.i64.wrap (0 - d) + IntKind.i64.wrap n0) = n0 - d := by
    rw [wrapI (x := 0 - d) (by omega) (by omega), wrapI (x := n0) (by omega) (by omega), wrapI (by omega) (by omega)]; omega
  simp only [e0]
  generalize hq0 : n0 - d = q0
  have e1 : IntKind.i64.wrap (q0 / 4294967296 + IntKind.i64.wrap n1) = q0 / 4294967296 + n1 := by
    rw [wrapI (x := n1) (by omega) (by omega), wrapI (by omega) (by omega)]
  simp only [e1]
  generalize hq1 : q0 / 4294967296 + n1 = q1
  have e2 : IntKind.i64.wrap (q1 / 4294967296 + IntKind.i64.wrap n2) = q1 / 4294967296 + n2 := by
    rw [wrapI (x := n2) (by omega) (by omega), wrapI (by omega) (by omega)]
  simp only [e2]
  generalize hq2 : q1 / 4294967296 + n2 = q2
  have e3 : IntKind.i64.wrap (q2 / 4294967296 + IntKind.i64.wrap n3) = q2 / 4294967296 + n3 := by
    rw [wrapI (x := n3) (by omega) (by omega), wrapI (by omega) (by omega)]
  simp only [e3]
  generalize hq3 : q2 / 4294967296 + n3 = q3
  have e4 : IntKind.i64.wrap (q3 / 4294967296 + IntKind.i64.wrap n4) = q3 / 4294967296 + n4 := by
    rw [wrapI (x := n4) (by omega) (by omega), wrapI (by omega) (by omega)]
  simp only [e4]
  generalize hq4 : q3 / 4294967296 + n4 = q4
  have e5 : IntKind.i64.wrap (q4 / 4294967296 + IntKind.i64.wrap n5) = q4 / 4294967296 + n5 := by
    rw [wrapI (x := n5) (by omega) (by omega), wrapI (by omega) (by omega)]
  simp only [e5]
  generalize hq5 : q4 / 4294967296 + n5 = q5
  have e6 : IntKind.i64.wrap (q5 / 4294967296 + IntKind.i64.wrap n6) = q5 / 4294967296 + n6 := by
    rw [wrapI (x := n6) (by omega) (by omega), wrapI (by omega) (by omega)]
  simp only [e6]
  generalize hq6 : q5 / 4294967296 + n6 = q6
  have e7 : IntKind.i64.wrap (q6 / 4294967296 + IntKind.i64.wrap n7) = q6 / 4294967296 + n7 := by
    rw [wrapI (x := n7) (by omega) (by omega), wrapI (by omega) (by omega)]
  simp only [e7]
  generalize hq7 : q6 / 4294967296 + n7 = q7
  have e8 : IntKind.i64.wrap (q7 / 4294967296 + IntKind.i64.wrap (0 : Int)) = q7 / 4294967296 + (0 : Int) := by
    rw [wrapI (x := (0 : Int)) (by omega) (by omega), wrapI (by omega) (by omega)]
  simp only [e8]
  generalize hq8 : q7 / 4294967296 + (0 : Int) = q8
  have hq7b : q8 = 0 := by omega
  rw [hq7b]
  have e : [q0 % 4294967296, q1 % 4294967296, q2 % 4294967296, q3 % 4294967296, q4 % 4294967296, q5 % 4294967296, q6 % 4294967296, q7 % 4294967296] = W8 (v - d) := W8_eq (by omega) (by omega) (by omega) (by omega) (by omega) (by omega) (by omega) (by omega) (by omega)
  unfold W9
  rw [← e]; rfl
theorem lsR_W9 {v d : Int} (hv : 0 ≤ v ∧ v < 14474011154664524427946373126085988481658748083205070504932198000989141204992) (hd : -128 ≤ d ∧ d ≤ 127 ∧ d ≤ v) : lsR (W9 v) d = W9 (v - d) := by
  obtain ⟨n0, n1, n2, n3, n4, n5, n6, n7, hE⟩ := eight8 (show (W8 v).length = 8 from rfl)
  have hw := wd8_W8 v
  have hs := V8_W8 hv.1 (by omega)
  rw [hE] at hw hs
  have e9 : W9 v = [n0, n1, n2, n3, n4, n5, n6, n7, 0] := by unfold W9; rw [hE]; rfl
  rw [e9]
  exact ls9 (hw n0 (by simp)) (hw n1 (by simp)) (hw n2 (by simp)) (hw n3 (by simp)) (hw n4 (by simp)) (hw n5 (by simp)) (hw n6 (by simp)) (hw n7 (by simp)) hs hv.2 hd
theorem hf9 {n0 n1 n2 n3 n4 n5 n6 n7 v : Int} (h0 : 0 ≤ n0 ∧ n0 < 4294967296) (h1 : 0 ≤ n1 ∧ n1 < 4294967296) (h2 : 0 ≤ n2 ∧ n2 < 4294967296) (h3 : 0 ≤ n3 ∧ n3 < 4294967296) (h4 : 0 ≤ n4 ∧ n4 < 4294967296) (h5 : 0 ≤ n5 ∧ n5 < 4294967296) (h6 : 0 ≤ n6 ∧ n6 < 4294967296) (h7 : 0 ≤ n7 ∧ n7 < 4294967296) (hs : n0 + 4294967296 * n1 + 18446744073709551616 * n2 + 79228162514264337593543950336 * n3 + 340282366920938463463374607431768211456 * n4 + 1461501637330902918203684832716283019655932542976 * n5 + 6277101735386680763835789423207666416102355444464034512896 * n6 + 26959946667150639794667015087019630673637144422540572481103610249216 * n7 = v) : hfR [n0, n1, n2, n3, n4, n5, n6, n7, 0] = W9 (v / 2) := by
  unfold hfR
  simp only [List.getD_cons_zero, List.getD_cons_succ, List.set_cons_zero, List.set_cons_succ, shr_u1]
  rw [or_shl31 (x := n0 / 2) (y := n1) (by omega) (by omega)]
  rw [or_shl31 (x := n1 / 2) (y := n2) (by omega) (by omega)]
  rw [or_shl31 (x := n2 / 2) (y := n3) (by omega) (by omega)]
  rw [or_shl31 (x := n3 / 2) (y := n4) (by omega) (by omega)]
  rw [or_shl31 (x := n4 / 2) (y := n5) (by omega) (by omega)]
  rw [or_shl31 (x := n5 / 2) (y := n6) (by omega) (by omega)]
  rw [or_shl31 (x := n6 / 2) (y := n7) (by omega) (by omega)]
  rw [or_shl31 (x := n7 / 2) (y := 0) (by omega) (by omega)]
  have e : [n0 / 2 + 2147483648 * (n1 % 2), n1 / 2 + 2147483648 * (n2 % 2), n2 / 2 + 2147483648 * (n3 % 2), n3 / 2 + 2147483648 * (n4 % 2), n4 / 2 + 2147483648 * (n5 % 2), n5 / 2 + 2147483648 * (n6 % 2), n6 / 2 + 2147483648 * (n7 % 2), n7 / 2 + 2147483648 * (0 % 2)] = W8 (v / 2) := W8_eq (by omega) (by omega) (by omega) (by omega) (by omega) (by omega) (by omega) (by omega) (by omega)
  unfold W9
  rw [← e]; rfl
theorem hfR_W9 {v : Int} (hv : 0 ≤ v ∧ v < 115792089237316195423570985008687907853269984665640564039457584007913129639936) : hfR (W9 v) = W9 (v / 2) := by
  obtain ⟨n0, n1, n2, n3, n4, n5, n6, n7, hE⟩ := eight8 (show (W8 v).length = 8 from rfl)
  have hw := wd8_W8 v
  have hs := V8_W8 hv.1 hv.2
  rw [hE] at hw hs
  have e9 : W9 v = [n0, n1, n2, n3, n4, n5, n6, n7, 0] := by unfold W9; rw [hE]; rfl
  rw [e9]
  exact hf9 (hw n0 (by simp)) (hw n1 (by simp)) (hw n2 (by simp)) (hw n3 (by simp)) (hw n4 (by simp)) (hw n5 (by simp)) (hw n6 (by simp)) (hw n7 (by simp)) hs
end Go.Proofs.Ytcpoldghkiiggaa.X

/- The reference's rounds. -/
namespace Go.Proofs.Ytcpoldghkiiggaa.X
open Go Go.Proofs
set_option linter.unusedVariables false
set_option linter.unusedSimpArgs false
set_option maxRecDepth 100000

theorem mask_32 {x w : Int} (h0 : 2 ≤ w) (h1 : w ≤ 8) (hx : 0 ≤ x ∧ x < 4294967296) : bits2 .and .u32 x (IntKind.u32.wrap (shl .u32 1 (IntKind.u64.wrap w) - 1)) = x % pw2 w := by
  have key : ∀ n : Nat, n ≤ 8 → bits2 .and .u32 x (((2 ^ n - 1 : Nat)) : Int) = x % ((2 ^ n : Nat) : Int) := by
    intro n hn
    have hp : 2 ^ n ≤ 2 ^ 8 := Nat.pow_le_pow_right (by omega) hn
    have hp0 : 0 < 2 ^ n := Nat.pow_pos (by omega)
    have e : bits2 .and .u32 x (((2 ^ n - 1 : Nat)) : Int) = IntKind.u32.wrap (((BitVec.ofInt 32 x &&& BitVec.ofInt 32 (((2 ^ n - 1 : Nat)) : Int)).toNat : Nat) : Int) := rfl
    have t2 : (BitVec.ofInt 32 (((2 ^ n - 1 : Nat)) : Int)).toNat = 2 ^ n - 1 := by
      rw [BitVec.toNat_ofInt]
      show ((((2 ^ n - 1 : Nat)) : Int) % 4294967296).toNat = _
      omega
    rw [e, BitVec.toNat_and, t2, Nat.and_two_pow_sub_one_eq_mod, BitVec.toNat_ofInt, wrap32]
    show (((x % 4294967296).toNat % 2 ^ n : Nat) : Int) % 4294967296 = _
    have hlt : (x % 4294967296).toNat % 2 ^ n < 2 ^ n := Nat.mod_lt _ hp0
    rw [Int.emod_eq_of_lt (by omega) (by omega), Int.natCast_emod, Int.toNat_of_nonneg (by omega), Int.emod_eq_of_lt hx.1 hx.2]
  rcases w_cases h0 h1 with rfl | rfl | rfl | rfl | rfl | rfl | rfl
  · exact key 2 (by omega)
  · exact key 3 (by omega)
  · exact key 4 (by omega)
  · exact key 5 (by omega)
  · exact key 6 (by omega)
  · exact key 7 (by omega)
  · exact key 8 (by omega)
theorem mod_pw32 {v : Int} {w : Int} (h0 : 2 ≤ w) (h1 : w ≤ 8) : v % 4294967296 % pw2 w = v % pw2 w := by
  rcases w_cases h0 h1 with rfl | rfl | rfl | rfl | rfl | rfl | rfl
  · show v % 4294967296 % 4 = v % 4; omega
  · show v % 4294967296 % 8 = v % 8; omega
  · show v % 4294967296 % 16 = v % 16; omega
  · show v % 4294967296 % 32 = v % 32; omega
  · show v % 4294967296 % 64 = v % 64; omega
  · show v % 4294967296 % 128 = v % 128; omega
  · show v % 4294967296 % 256 = v % 256; omega
theorem nar_x {w : Int} (h0 : 2 ≤ w) (h1 : w ≤ 8) (v : Int) : IntKind.i64.wrap (bits2 .and .u32 (List.getD (W9 v) 0 0) (IntKind.u32.wrap (shl .u32 1 (IntKind.u64.wrap w) - 1))) = nafX w v := by
  have r := nafX_rng h0 h1 v
  have p := pw2_rng h0 h1
  have e : List.getD (W9 v) 0 0 = v % 4294967296 := rfl
  rw [e, mask_32 h0 h1 (by omega), mod_pw32 h0 h1]
  exact wrapI (by unfold nafX at r; omega) (by unfold nafX at r; omega)
theorem nar_d {w v : Int} (h1 : 2 ≤ w) (h2 : w ≤ 8) (ha : v % 2 = 1) (hb : nafX w v ≥ pw2 (w - 1)) : IntKind.i64.wrap (nafX w v - shl .i64 1 (IntKind.u64.wrap w)) = nafD w v := by
  have p := pw2_rng h1 h2
  have r := nafX_rng h1 h2 v
  rw [shl_u h1 h2, nafD_b ha hb]
  exact wrapI (by omega) (by omega)
theorem nar_w {w v : Int} (h1 : 2 ≤ w) (h2 : w ≤ 8) (hv : 0 ≤ v ∧ v < 14474011154664524427946373126085988481658748083205070504932198000989141204992) : lsR (W9 v) (nafD w v) = W9 (nafW w v) := by
  have d := nafD_rng h1 h2 hv.1
  exact lsR_W9 hv ⟨d.1, d.2.1, d.2.2⟩
theorem nar_e {w : Int} {a : List Int} {k : Nat} (ha : ¬ nfV w a k % 2 = 1) : W9 (nfV w a k / 2) = W9 (nfV w a (k + 1)) := by
  show _ = W9 ((nfV w a k - nafD w (nfV w a k)) / 2)
  rw [nafD_e ha, Int.sub_zero]
theorem nfR_z {w : Int} {a : List Int} {k : Nat} (ha : ¬ nfV w a k % 2 = 1) : nfR w a k ++ [0] = nfR w a (k + 1) := by
  unfold nfR
  rw [lnR_s]
  show _ = _ ++ [nafD w (nfV w a k)]
  rw [nafD_e ha]
theorem naf_all (w : Int) (a : List Int) : nfO w a 256 = nfR w a 256 := lnO_n _ _
theorem dc_all (s : List Int) : dcO s 64 = dcR s 64 := lnO_n _ _
end Go.Proofs.Ytcpoldghkiiggaa.X

/- Printed by a tool of this session. -/
namespace Go.Proofs.Ytcpoldghkiiggaa.X
open Go Go.Proofs
set_option linter.unusedVariables false
set_option linter.unusedSimpArgs false
set_option maxRecDepth 100000
theorem teRM_3 : TEOk Try.prog 3 ⟨.int .i64, 1, 8, [.i .i64 (0 : Int)], false⟩ :=
  TEOk.of Try.underlying3 (i := Try.t3) (by kernel_rfl) rfl rfl rfl (by kernel_rfl) (fun h => by cases h) (by kernel_rfl)
theorem teRM_24 : TEOk Try.prog 24 ⟨.array 32 5, 32, 32, [.ints .u8 (32 : Nat) ([0, 0, 0, 0, 0, 0, 0, 0, 0, 0, 0, 0, 0, 0, 0, 0, 0, 0, 0, 0, 0, 0, 0, 0, 0, 0, 0, 0, 0, 0, 0, 0] : List Int)], true⟩ :=
  TEOk.of Try.underlying24 (i := Try.t24) (by kernel_rfl) rfl rfl rfl (by kernel_rfl) (fun _ => Try.eqGuardType24) (by kernel_rfl)
theorem teRM_62 : TEOk Try.prog 62 ⟨.int .u64, 1, 8, [.i .u64 (0 : Int)], false⟩ :=
  TEOk.of Try.underlying62 (i := Try.t62) (by kernel_rfl) rfl rfl rfl (by kernel_rfl) (fun h => by cases h) (by kernel_rfl)
theorem teRM_81 : TEOk Try.prog 81 ⟨.slice 3, 1, 24, [.raw (.slice none 0 0)], false⟩ :=
  TEOk.of Try.underlying81 (i := Try.t81) (by kernel_rfl) rfl rfl rfl (by kernel_rfl) (fun h => by cases h) (by kernel_rfl)
theorem teRM_109 : TEOk Try.prog 109 ⟨.int .u32, 1, 4, [.i .u32 (0 : Int)], false⟩ :=
  TEOk.of Try.underlying109 (i := Try.t109) (by kernel_rfl) rfl rfl rfl (by kernel_rfl) (fun h => by cases h) (by kernel_rfl)
theorem teRM_111 : TEOk Try.prog 111 ⟨.array 8 109, 8, 32, [.ints .u32 (8 : Nat) ([0, 0, 0, 0, 0, 0, 0, 0] : List Int)], true⟩ :=
  TEOk.of Try.underlying111 (i := Try.t111) (by kernel_rfl) rfl rfl rfl (by kernel_rfl) (fun _ => Try.eqGuardType111) (by kernel_rfl)
theorem teRM_113 : TEOk Try.prog 113 ⟨.slice 109, 1, 24, [.raw (.slice none 0 0)], false⟩ :=
  TEOk.of Try.underlying113 (i := Try.t113) (by kernel_rfl) rfl rfl rfl (by kernel_rfl) (fun h => by cases h) (by kernel_rfl)
noncomputable def tabRM : List (Nat × TE) := [(3, ⟨.int .i64, 1, 8, [.i .i64 (0 : Int)], false⟩), (24, ⟨.array 32 5, 32, 32, [.ints .u8 (32 : Nat) ([0, 0, 0, 0, 0, 0, 0, 0, 0, 0, 0, 0, 0, 0, 0, 0, 0, 0, 0, 0, 0, 0, 0, 0, 0, 0, 0, 0, 0, 0, 0, 0] : List Int)], true⟩), (62, ⟨.int .u64, 1, 8, [.i .u64 (0 : Int)], false⟩), (81, ⟨.slice 3, 1, 24, [.raw (.slice none 0 0)], false⟩), (109, ⟨.int .u32, 1, 4, [.i .u32 (0 : Int)], false⟩), (111, ⟨.array 8 109, 8, 32, [.ints .u32 (8 : Nat) ([0, 0, 0, 0, 0, 0, 0, 0] : List Int)], true⟩), (113, ⟨.slice 109, 1, 24, [.raw (.slice none 0 0)], false⟩)]
theorem tabOkRM : TabOk Try.prog (tabOf tabRM) := (tabOf_cons teRM_3 (tabOf_cons teRM_24 (tabOf_cons teRM_62 (tabOf_cons teRM_81 (tabOf_cons teRM_109 (tabOf_cons teRM_111 (tabOf_cons teRM_113 tabOf_nil)))))))

def gam77 : Gam := gcall 106 [true] [.w, .w] (fun wk vs args => match wk, vs, args with | [⟨true, [.ints .u32 (9 : Nat) N]⟩], [], [.o (.a (.sl 0 (0 : Nat) (9 : Nat) cp)), .o (.a (.i .i64 d))] => some (True, [], [some ⟨true, [.ints .u32 (9 : Nat) (lsR N d)]⟩]) | _, _, _ => none) gam72
theorem gam77_ok : GamOk Try.prog gam77 := gcall_ok tabOkRL Try.func106 gam72_ok Try.call106 (by
  intro wk vs args p xs K1 h hv
  split at h
  · simp only [Option.some.injEq, Prod.mk.injEq] at h; obtain ⟨rfl, rfl, rfl⟩ := h; exact fun caps w rw β => lsR_body _ _ _ w rw β
  · simp at h)

def gam78 : Gam := gcall 107 [true] [.w] (fun wk vs args => match wk, vs, args with | [⟨true, [.ints .u32 (9 : Nat) N]⟩], [], [.o (.a (.sl 0 (0 : Nat) (9 : Nat) cp))] => some (True, [], [some ⟨true, [.ints .u32 (9 : Nat) (hfR N)]⟩]) | _, _, _ => none) gam77
theorem gam78_ok : GamOk Try.prog gam78 := gcall_ok tabOkRL Try.func107 gam77_ok Try.call107 (by
  intro wk vs args p xs K1 h hv
  split at h
  · simp only [Option.some.injEq, Prod.mk.injEq] at h; obtain ⟨rfl, rfl, rfl⟩ := h; exact fun caps w rw β => hfR_body _ _ w rw β
  · simp at h)

def nrL_mk (a : List Int) (v : Int) (k : Nat) (s : Unit) : St := ⟨sparse 62 [(0, .o (.g [.ints .u8 (32 : Nat) a])), (1, .o (.a (.i .i64 v))), (2, .o (.a (.p 0 0))), (4, .o (.a (.raw (.slice none 0 0)))), (5, .o (.a (.i .i64 (0 : Int)))), (6, .o (.a (.p 1 0))), (7, .o (.a (.sl 2 (0 : Nat) (9 : Nat) (9 : Nat)))), (8, .o (.a (.rs 3 (0 : Nat) k 1))), (9, .o (.a (.i .i64 ((k : Nat) : Int)))), (11, .o (.a (.i .i64 v))), (12, .o (.a (.b (decide (v < (2 : Int)))))), (13, .o (.a (.b (decide (v < (2 : Int)))))), (14, .o (.a (.i .i64 v))), (15, .o (.a (.b (decide (v > (8 : Int)))))), (16, .o (.a (.b (decide (v > (8 : Int)))))), (17, .o (.g [.ints .u8 (32 : Nat) a])), (18, .o (.g [.ints .u32 (8 : Nat) (W8 (modL (BV a)))])), (19, .o (.a (.sl 2 (0 : Nat) (9 : Nat) (9 : Nat)))), (20, .o (.a (.sl 2 (0 : Nat) (9 : Nat) (9 : Nat)))), (21, .o (.a (.sl 1 (0 : Nat) (8 : Nat) (8 : Nat))))], [some ⟨true, [.ints .u8 (32 : Nat) a]⟩, some ⟨true, [.ints .u32 (8 : Nat) (W8 (modL (BV a)))]⟩, some ⟨true, [.ints .u32 (9 : Nat) (W9 (nfV v a k))]⟩, some ⟨true, [.ints .i64 k (nfR v a k)]⟩]⟩

def nrL_step (k : Nat) (s : Unit) : Unit :=
  ()

set_option maxHeartbeats 1000000 in
theorem nrL_round_0 (a : List Int) (v : Int) (h0 : (Byt a)) (h1 : ((2 : Int) ≤ v)) (h2 : (v ≤ (8 : Int))) (hv0 : List.length a = (32 : Nat)) (w : World) (rw : List Nat) (β : Env) (k : Nat) (hk : k < (256 : Nat)) (s : Unit) (ha : (nfV v a k) % 2 = 1) (hb : nafX v (nfV v a k) ≥ pw2 (v - 1)) : Run Try.prog ⟨w, rw, 0, β⟩ (loopB Try.f60 0) (nrL_mk a v k s) (To ⟨w, rw, 0, β⟩ .normal (nrL_mk a v (k + 1) (nrL_step k s))) := by
  have e0 : ((sub (nfR v a k) (0 : Nat) k) ++ ([(nafD v (nfV v a k))] : List Int)) = (nfR v a (k + (1 : Nat))) := (by first | exact wrap_succ (by omega) | omega | (rw [sub_all _ _ (Nat.le_of_eq (by unfold nfR; exact lnR_len _ _))]; unfold nfR; rw [lnR_s]; rfl) | (rw [hfR_W9 (nafW_rng h1 h2 (nfV_rng h1 h2 a k))]; rfl) | (done))
  have e1 : (IntKind.i64.wrap (((k : Nat) : Int) + (1 : Int))) = (((k + (1 : Nat)) : Nat) : Int) := (by first | exact wrap_succ (by omega) | omega | (rw [sub_all _ _ (Nat.le_of_eq (by unfold nfR; exact lnR_len _ _))]; unfold nfR; rw [lnR_s]; rfl) | (rw [hfR_W9 (nafW_rng h1 h2 (nfV_rng h1 h2 a k))]; rfl) | (done))
  have e2 : (hfR (W9 (nafW v (nfV v a k)))) = (W9 (nfV v a (k + (1 : Nat)))) := (by first | exact wrap_succ (by omega) | omega | (rw [sub_all _ _ (Nat.le_of_eq (by unfold nfR; exact lnR_len _ _))]; unfold nfR; rw [lnR_s]; rfl) | (rw [hfR_W9 (nafW_rng h1 h2 (nfV_rng h1 h2 a k))]; rfl) | (done))
  have h := Run.of_outT (B := ⟨w, rw, 0, β⟩) (Λ := noLam) (Ψ := psiOf [(12, [.eqS 10 (.o (.a (.i .i64 (nafX v (nfV v a k)))))]), (14, [.eqS 10 (.o (.a (.i .i64 (nafD v (nfV v a k)))))]), (15, [.eqS 10 (.o (.a (.i .i64 (nafD v (nfV v a k))))), .eqB 2 (⟨true, [.ints .u32 (9 : Nat) (W9 (nafW v (nfV v a k)))]⟩)])]) (fuel := 0) (ora := [true, true, true, false]) (c := (loopB Try.f60 0)) (st := (nrL_mk a v k s)) (l := [.swap 3 5, .forget [0, 1, 2, 4, 5, 6, 7, 8, 9, 11, 12, 13, 14, 15, 16, 17, 18, 19, 20, 21] 4]) (s' := ⟨sparse 62 [(0, .o (.g [.ints .u8 (32 : Nat) a])), (1, .o (.a (.i .i64 v))), (2, .o (.a (.p 0 0))), (4, .o (.a (.raw (.slice none 0 0)))), (5, .o (.a (.i .i64 (0 : Int)))), (6, .o (.a (.p 1 0))), (7, .o (.a (.sl 2 (0 : Nat) (9 : Nat) (9 : Nat)))), (8, .o (.a (.rs 3 (0 : Nat) (k + (1 : Nat)) 1))), (9, .o (.a (.i .i64 (IntKind.i64.wrap (((k : Nat) : Int) + (1 : Int)))))), (11, .o (.a (.i .i64 v))), (12, .o (.a (.b (decide (v < (2 : Int)))))), (13, .o (.a (.b (decide (v < (2 : Int)))))), (14, .o (.a (.i .i64 v))), (15, .o (.a (.b (decide (v > (8 : Int)))))), (16, .o (.a (.b (decide (v > (8 : Int)))))), (17, .o (.g [.ints .u8 (32 : Nat) a])), (18, .o (.g [.ints .u32 (8 : Nat) (W8 (modL (BV a)))])), (19, .o (.a (.sl 2 (0 : Nat) (9 : Nat) (9 : Nat)))), (20, .o (.a (.sl 2 (0 : Nat) (9 : Nat) (9 : Nat)))), (21, .o (.a (.sl 1 (0 : Nat) (8 : Nat) (8 : Nat))))], [some ⟨true, [.ints .u8 (32 : Nat) a]⟩, some ⟨true, [.ints .u32 (8 : Nat) (W8 (modL (BV a)))]⟩, some ⟨true, [.ints .u32 (9 : Nat) (hfR (W9 (nafW v (nfV v a k))))]⟩, some ⟨true, [.ints .i64 (k + (1 : Nat)) ((sub (nfR v a k) (0 : Nat) k) ++ ([(nafD v (nfV v a k))] : List Int))]⟩]⟩) (ex := .normal) mix tabOkRM gam78_ok
    (vc := [((True ∧ True) ∧ True), ((((0 : Nat) + k) ≤ k) ∧ (((1 : Nat) ≤ (1 : Nat)) ∧ ((1 : Nat) ≤ (1 : Nat))) ∧ (((k + (1 : Nat)) * (8 : Nat)) ≤ (140737488355328 : Nat))), ((some ⟨true, [.ints .u32 (9 : Nat) (lsR (W9 (nfV v a k)) (nafD v (nfV v a k)))]⟩ : Option Blk) = some ⟨true, [.ints .u32 (9 : Nat) (W9 (nafW v (nfV v a k)))]⟩), ((.o (.a (.i .i64 (nafD v (nfV v a k)))) : AV) = .o (.a (.i .i64 (nafD v (nfV v a k))))), ((True ∧ (True ∧ True)) ∧ True), ((.o (.a (.i .i64 (IntKind.i64.wrap ((nafX v (nfV v a k)) - (shl .i64 (1 : Int) (IntKind.u64.wrap v)))))) : AV) = .o (.a (.i .i64 (nafD v (nfV v a k))))), ((0 : Int) ≤ (IntKind.u64.wrap v)), ((decide ((nafX v (nfV v a k)) ≥ (shl .i64 (1 : Int) (IntKind.u64.wrap (IntKind.i64.wrap (v - (1 : Int))))))) = true), ((0 : Int) ≤ (IntKind.u64.wrap (IntKind.i64.wrap (v - (1 : Int))))), ((.o (.a (.i .i64 (IntKind.i64.wrap (bits2 .and .u32 (List.getD (W9 (nfV v a k)) (0 : Nat) 0) (IntKind.u32.wrap ((shl .u32 (1 : Int) (IntKind.u64.wrap v)) - (1 : Int))))))) : AV) = .o (.a (.i .i64 (nafX v (nfV v a k))))), ((0 : Int) ≤ (IntKind.u64.wrap v)), ((0 : Nat) < (9 : Nat)), (((0 : Int) ≤ (0 : Int)) ∧ ((0 : Int) < (9 : Int))), (((bits2 .and .u32 (List.getD (W9 (nfV v a k)) (0 : Nat) 0) (1 : Int)) == (1 : Int)) = true), ((0 : Nat) < (9 : Nat)), (((0 : Int) ≤ (0 : Int)) ∧ ((0 : Int) < (9 : Int))), ((decide (((k : Nat) : Int) < (256 : Int))) = true)]) (by kernel_rfl)
    (AllP_cons ⟨⟨trivial, trivial⟩, trivial⟩ (AllP_cons ⟨(by have q := pw2_rng h1 h2; first | omega | exact wrap_nn rfl | (simp (disch := omega) only [wrapI]; omega)), ⟨(by decide), (by decide)⟩, (by have q := pw2_rng h1 h2; first | omega | exact wrap_nn rfl | (simp (disch := omega) only [wrapI]; omega))⟩ (AllP_cons ((by first | (rw [← nafD_s ha hb]; exact (congrArg (fun z => some (Blk.mk true [.ints .u32 9 z])) (nar_w h1 h2 (nfV_rng h1 h2 a k)))) | exact (congrArg (fun z => some (Blk.mk true [.ints .u32 9 z])) (nar_w h1 h2 (nfV_rng h1 h2 a k))))) (AllP_cons ((by first | exact congrArg (fun z => AV.o (.a (.i .i64 z))) (nafD_s ha hb).symm | rfl)) (AllP_cons ⟨⟨trivial, ⟨trivial, trivial⟩⟩, trivial⟩ (AllP_cons ((congrArg (fun z => AV.o (.a (.i .i64 z))) (nar_d h1 h2 ha hb))) (AllP_cons (wrap_nn rfl) (AllP_cons (by rw [shl_u1 h1 h2]; exact decide_eq_true hb) (AllP_cons (wrap_nn rfl) (AllP_cons ((congrArg (fun z => AV.o (.a (.i .i64 z))) (nar_x h1 h2 _))) (AllP_cons (wrap_nn rfl) (AllP_cons (by decide) (AllP_cons ⟨(by decide), (by decide)⟩ (AllP_cons (by show (bits2 .and .u32 (List.getD (W9 (nfV v a k)) 0 0) 1 == 1) = true; rw [W9_odd]; exact beq_iff_eq.2 ha) (AllP_cons (by decide) (AllP_cons ⟨(by decide), (by decide)⟩ (AllP_cons (decide_eq_true (by have q := pw2_rng h1 h2; first | omega | exact wrap_nn rfl | (simp (disch := omega) only [wrapI]; omega))) (AllP_nil))))))))))))))))))
  rw [e0, e1, e2] at h
  exact h

set_option maxHeartbeats 1000000 in
theorem nrL_round_1 (a : List Int) (v : Int) (h0 : (Byt a)) (h1 : ((2 : Int) ≤ v)) (h2 : (v ≤ (8 : Int))) (hv0 : List.length a = (32 : Nat)) (w : World) (rw : List Nat) (β : Env) (k : Nat) (hk : k < (256 : Nat)) (s : Unit) (ha : (nfV v a k) % 2 = 1) (hb : ¬ nafX v (nfV v a k) ≥ pw2 (v - 1)) : Run Try.prog ⟨w, rw, 0, β⟩ (loopB Try.f60 0) (nrL_mk a v k s) (To ⟨w, rw, 0, β⟩ .normal (nrL_mk a v (k + 1) (nrL_step k s))) := by
  have e0 : ((sub (nfR v a k) (0 : Nat) k) ++ ([(nafD v (nfV v a k))] : List Int)) = (nfR v a (k + (1 : Nat))) := (by first | exact wrap_succ (by omega) | omega | (rw [sub_all _ _ (Nat.le_of_eq (by unfold nfR; exact lnR_len _ _))]; unfold nfR; rw [lnR_s]; rfl) | (rw [hfR_W9 (nafW_rng h1 h2 (nfV_rng h1 h2 a k))]; rfl) | (done))
  have e1 : (IntKind.i64.wrap (((k : Nat) : Int) + (1 : Int))) = (((k + (1 : Nat)) : Nat) : Int) := (by first | exact wrap_succ (by omega) | omega | (rw [sub_all _ _ (Nat.le_of_eq (by unfold nfR; exact lnR_len _ _))]; unfold nfR; rw [lnR_s]; rfl) | (rw [hfR_W9 (nafW_rng h1 h2 (nfV_rng h1 h2 a k))]; rfl) | (done))
  have e2 : (hfR (W9 (nafW v (nfV v a k)))) = (W9 (nfV v a (k + (1 : Nat)))) := (by first | exact wrap_succ (by omega) | omega | (rw [sub_all _ _ (Nat.le_of_eq (by unfold nfR; exact lnR_len _ _))]; unfold nfR; rw [lnR_s]; rfl) | (rw [hfR_W9 (nafW_rng h1 h2 (nfV_rng h1 h2 a k))]; rfl) | (done))
  have h := Run.of_outT (B := ⟨w, rw, 0, β⟩) (Λ := noLam) (Ψ := psiOf [(12, [.eqS 10 (.o (.a (.i .i64 (nafX v (nfV v a k)))))]), (15, [.eqS 10 (.o (.a (.i .i64 (nafD v (nfV v a k))))), .eqB 2 (⟨true, [.ints .u32 (9 : Nat) (W9 (nafW v (nfV v a k)))]⟩)])]) (fuel := 0) (ora := [true, true, false, false]) (c := (loopB Try.f60 0)) (st := (nrL_mk a v k s)) (l := [.swap 3 5, .forget [0, 1, 2, 4, 5, 6, 7, 8, 9, 11, 12, 13, 14, 15, 16, 17, 18, 19, 20, 21] 4]) (s' := ⟨sparse 62 [(0, .o (.g [.ints .u8 (32 : Nat) a])), (1, .o (.a (.i .i64 v))), (2, .o (.a (.p 0 0))), (4, .o (.a (.raw (.slice none 0 0)))), (5, .o (.a (.i .i64 (0 : Int)))), (6, .o (.a (.p 1 0))), (7, .o (.a (.sl 2 (0 : Nat) (9 : Nat) (9 : Nat)))), (8, .o (.a (.rs 3 (0 : Nat) (k + (1 : Nat)) 1))), (9, .o (.a (.i .i64 (IntKind.i64.wrap (((k : Nat) : Int) + (1 : Int)))))), (11, .o (.a (.i .i64 v))), (12, .o (.a (.b (decide (v < (2 : Int)))))), (13, .o (.a (.b (decide (v < (2 : Int)))))), (14, .o (.a (.i .i64 v))), (15, .o (.a (.b (decide (v > (8 : Int)))))), (16, .o (.a (.b (decide (v > (8 : Int)))))), (17, .o (.g [.ints .u8 (32 : Nat) a])), (18, .o (.g [.ints .u32 (8 : Nat) (W8 (modL (BV a)))])), (19, .o (.a (.sl 2 (0 : Nat) (9 : Nat) (9 : Nat)))), (20, .o (.a (.sl 2 (0 : Nat) (9 : Nat) (9 : Nat)))), (21, .o (.a (.sl 1 (0 : Nat) (8 : Nat) (8 : Nat))))], [some ⟨true, [.ints .u8 (32 : Nat) a]⟩, some ⟨true, [.ints .u32 (8 : Nat) (W8 (modL (BV a)))]⟩, some ⟨true, [.ints .u32 (9 : Nat) (hfR (W9 (nafW v (nfV v a k))))]⟩, some ⟨true, [.ints .i64 (k + (1 : Nat)) ((sub (nfR v a k) (0 : Nat) k) ++ ([(nafD v (nfV v a k))] : List Int))]⟩]⟩) (ex := .normal) mix tabOkRM gam78_ok
    (vc := [((True ∧ True) ∧ True), ((((0 : Nat) + k) ≤ k) ∧ (((1 : Nat) ≤ (1 : Nat)) ∧ ((1 : Nat) ≤ (1 : Nat))) ∧ (((k + (1 : Nat)) * (8 : Nat)) ≤ (140737488355328 : Nat))), ((some ⟨true, [.ints .u32 (9 : Nat) (lsR (W9 (nfV v a k)) (nafX v (nfV v a k)))]⟩ : Option Blk) = some ⟨true, [.ints .u32 (9 : Nat) (W9 (nafW v (nfV v a k)))]⟩), ((.o (.a (.i .i64 (nafX v (nfV v a k)))) : AV) = .o (.a (.i .i64 (nafD v (nfV v a k))))), ((True ∧ (True ∧ True)) ∧ True), ((decide ((nafX v (nfV v a k)) ≥ (shl .i64 (1 : Int) (IntKind.u64.wrap (IntKind.i64.wrap (v - (1 : Int))))))) = false), ((0 : Int) ≤ (IntKind.u64.wrap (IntKind.i64.wrap (v - (1 : Int))))), ((.o (.a (.i .i64 (IntKind.i64.wrap (bits2 .and .u32 (List.getD (W9 (nfV v a k)) (0 : Nat) 0) (IntKind.u32.wrap ((shl .u32 (1 : Int) (IntKind.u64.wrap v)) - (1 : Int))))))) : AV) = .o (.a (.i .i64 (nafX v (nfV v a k))))), ((0 : Int) ≤ (IntKind.u64.wrap v)), ((0 : Nat) < (9 : Nat)), (((0 : Int) ≤ (0 : Int)) ∧ ((0 : Int) < (9 : Int))), (((bits2 .and .u32 (List.getD (W9 (nfV v a k)) (0 : Nat) 0) (1 : Int)) == (1 : Int)) = true), ((0 : Nat) < (9 : Nat)), (((0 : Int) ≤ (0 : Int)) ∧ ((0 : Int) < (9 : Int))), ((decide (((k : Nat) : Int) < (256 : Int))) = true)]) (by kernel_rfl)
    (AllP_cons ⟨⟨trivial, trivial⟩, trivial⟩ (AllP_cons ⟨(by have q := pw2_rng h1 h2; first | omega | exact wrap_nn rfl | (simp (disch := omega) only [wrapI]; omega)), ⟨(by decide), (by decide)⟩, (by have q := pw2_rng h1 h2; first | omega | exact wrap_nn rfl | (simp (disch := omega) only [wrapI]; omega))⟩ (AllP_cons ((by first | (rw [← nafD_s ha hb]; exact (congrArg (fun z => some (Blk.mk true [.ints .u32 9 z])) (nar_w h1 h2 (nfV_rng h1 h2 a k)))) | exact (congrArg (fun z => some (Blk.mk true [.ints .u32 9 z])) (nar_w h1 h2 (nfV_rng h1 h2 a k))))) (AllP_cons ((by first | exact congrArg (fun z => AV.o (.a (.i .i64 z))) (nafD_s ha hb).symm | rfl)) (AllP_cons ⟨⟨trivial, ⟨trivial, trivial⟩⟩, trivial⟩ (AllP_cons (by rw [shl_u1 h1 h2]; exact decide_eq_false hb) (AllP_cons (wrap_nn rfl) (AllP_cons ((congrArg (fun z => AV.o (.a (.i .i64 z))) (nar_x h1 h2 _))) (AllP_cons (wrap_nn rfl) (AllP_cons (by decide) (AllP_cons ⟨(by decide), (by decide)⟩ (AllP_cons (by show (bits2 .and .u32 (List.getD (W9 (nfV v a k)) 0 0) 1 == 1) = true; rw [W9_odd]; exact beq_iff_eq.2 ha) (AllP_cons (by decide) (AllP_cons ⟨(by decide), (by decide)⟩ (AllP_cons (decide_eq_true (by have q := pw2_rng h1 h2; first | omega | exact wrap_nn rfl | (simp (disch := omega) only [wrapI]; omega))) (AllP_nil))))))))))))))))
  rw [e0, e1, e2] at h
  exact h

set_option maxHeartbeats 1000000 in
theorem nrL_round_2 (a : List Int) (v : Int) (h0 : (Byt a)) (h1 : ((2 : Int) ≤ v)) (h2 : (v ≤ (8 : Int))) (hv0 : List.length a = (32 : Nat)) (w : World) (rw : List Nat) (β : Env) (k : Nat) (hk : k < (256 : Nat)) (s : Unit) (ha : ¬ (nfV v a k) % 2 = 1) : Run Try.prog ⟨w, rw, 0, β⟩ (loopB Try.f60 0) (nrL_mk a v k s) (To ⟨w, rw, 0, β⟩ .normal (nrL_mk a v (k + 1) (nrL_step k s))) := by
  have e0 : ((sub (nfR v a k) (0 : Nat) k) ++ ([0] : List Int)) = (nfR v a (k + (1 : Nat))) := (by first | exact wrap_succ (by omega) | omega | (rw [sub_all _ _ (Nat.le_of_eq (by unfold nfR; exact lnR_len _ _))]; exact nfR_z ha) | (rw [hfR_W9 (nafW_rng h1 h2 (nfV_rng h1 h2 a k))]; rfl) | (rw [hfR_W9 ⟨(nfV_rng h1 h2 a k).1, Int.lt_trans (nfV_rng h1 h2 a k).2 (by decide +kernel)⟩]; exact nar_e ha))
  have e1 : (IntKind.i64.wrap (((k : Nat) : Int) + (1 : Int))) = (((k + (1 : Nat)) : Nat) : Int) := (by first | exact wrap_succ (by omega) | omega | (rw [sub_all _ _ (Nat.le_of_eq (by unfold nfR; exact lnR_len _ _))]; exact nfR_z ha) | (rw [hfR_W9 (nafW_rng h1 h2 (nfV_rng h1 h2 a k))]; rfl) | (rw [hfR_W9 ⟨(nfV_rng h1 h2 a k).1, Int.lt_trans (nfV_rng h1 h2 a k).2 (by decide +kernel)⟩]; exact nar_e ha))
  have e2 : (hfR (W9 (nfV v a k))) = (W9 (nfV v a (k + (1 : Nat)))) := (by first | exact wrap_succ (by omega) | omega | (rw [sub_all _ _ (Nat.le_of_eq (by unfold nfR; exact lnR_len _ _))]; exact nfR_z ha) | (rw [hfR_W9 (nafW_rng h1 h2 (nfV_rng h1 h2 a k))]; rfl) | (rw [hfR_W9 ⟨(nfV_rng h1 h2 a k).1, Int.lt_trans (nfV_rng h1 h2 a k).2 (by decide +kernel)⟩]; exact nar_e ha))
  have h := Run.of_outT (B := ⟨w, rw, 0, β⟩) (Λ := noLam) (Ψ := noPsi) (fuel := 0) (ora := [true, false, false]) (c := (loopB Try.f60 0)) (st := (nrL_mk a v k s)) (l := [.swap 3 5, .forget [0, 1, 2, 4, 5, 6, 7, 8, 9, 11, 12, 13, 14, 15, 16, 17, 18, 19, 20, 21] 4]) (s' := ⟨sparse 62 [(0, .o (.g [.ints .u8 (32 : Nat) a])), (1, .o (.a (.i .i64 v))), (2, .o (.a (.p 0 0))), (4, .o (.a (.raw (.slice none 0 0)))), (5, .o (.a (.i .i64 (0 : Int)))), (6, .o (.a (.p 1 0))), (7, .o (.a (.sl 2 (0 : Nat) (9 : Nat) (9 : Nat)))), (8, .o (.a (.rs 3 (0 : Nat) (k + (1 : Nat)) 1))), (9, .o (.a (.i .i64 (IntKind.i64.wrap (((k : Nat) : Int) + (1 : Int)))))), (11, .o (.a (.i .i64 v))), (12, .o (.a (.b (decide (v < (2 : Int)))))), (13, .o (.a (.b (decide (v < (2 : Int)))))), (14, .o (.a (.i .i64 v))), (15, .o (.a (.b (decide (v > (8 : Int)))))), (16, .o (.a (.b (decide (v > (8 : Int)))))), (17, .o (.g [.ints .u8 (32 : Nat) a])), (18, .o (.g [.ints .u32 (8 : Nat) (W8 (modL (BV a)))])), (19, .o (.a (.sl 2 (0 : Nat) (9 : Nat) (9 : Nat)))), (20, .o (.a (.sl 2 (0 : Nat) (9 : Nat) (9 : Nat)))), (21, .o (.a (.sl 1 (0 : Nat) (8 : Nat) (8 : Nat))))], [some ⟨true, [.ints .u8 (32 : Nat) a]⟩, some ⟨true, [.ints .u32 (8 : Nat) (W8 (modL (BV a)))]⟩, some ⟨true, [.ints .u32 (9 : Nat) (hfR (W9 (nfV v a k)))]⟩, some ⟨true, [.ints .i64 (k + (1 : Nat)) ((sub (nfR v a k) (0 : Nat) k) ++ ([0] : List Int))]⟩]⟩) (ex := .normal) mix tabOkRM gam78_ok
    (vc := [((True ∧ True) ∧ True), ((((0 : Nat) + k) ≤ k) ∧ (((1 : Nat) ≤ (1 : Nat)) ∧ ((1 : Nat) ≤ (1 : Nat))) ∧ (((k + (1 : Nat)) * (8 : Nat)) ≤ (140737488355328 : Nat))), (((bits2 .and .u32 (List.getD (W9 (nfV v a k)) (0 : Nat) 0) (1 : Int)) == (1 : Int)) = false), ((0 : Nat) < (9 : Nat)), (((0 : Int) ≤ (0 : Int)) ∧ ((0 : Int) < (9 : Int))), ((decide (((k : Nat) : Int) < (256 : Int))) = true)]) (by kernel_rfl)
    (AllP_cons ⟨⟨trivial, trivial⟩, trivial⟩ (AllP_cons ⟨(by have q := pw2_rng h1 h2; first | omega | exact wrap_nn rfl | (simp (disch := omega) only [wrapI]; omega)), ⟨(by decide), (by decide)⟩, (by have q := pw2_rng h1 h2; first | omega | exact wrap_nn rfl | (simp (disch := omega) only [wrapI]; omega))⟩ (AllP_cons (by show (bits2 .and .u32 (List.getD (W9 (nfV v a k)) 0 0) 1 == 1) = false; rw [W9_odd]; exact beq_eq_false_iff_ne.2 ha) (AllP_cons (by decide) (AllP_cons ⟨(by decide), (by decide)⟩ (AllP_cons (decide_eq_true (by have q := pw2_rng h1 h2; first | omega | exact wrap_nn rfl | (simp (disch := omega) only [wrapI]; omega))) (AllP_nil)))))))
  rw [e0, e1, e2] at h
  exact h

theorem nrL_round (a : List Int) (v : Int) (h0 : (Byt a)) (h1 : ((2 : Int) ≤ v)) (h2 : (v ≤ (8 : Int))) (hv0 : List.length a = (32 : Nat)) (w : World) (rw : List Nat) (β : Env) (k : Nat) (hk : k < (256 : Nat)) (s : Unit) : Run Try.prog ⟨w, rw, 0, β⟩ (loopB Try.f60 0) (nrL_mk a v k s) (To ⟨w, rw, 0, β⟩ .normal (nrL_mk a v (k + 1) (nrL_step k s))) := by
  by_cases ha : (nfV v a k) % 2 = 1
  · by_cases hb : nafX v (nfV v a k) ≥ pw2 (v - 1)
    · exact nrL_round_0 a v h0 h1 h2 hv0 w rw β k hk s ha hb
    · exact nrL_round_1 a v h0 h1 h2 hv0 w rw β k hk s ha hb
  · exact nrL_round_2 a v h0 h1 h2 hv0 w rw β k hk s ha

set_option maxHeartbeats 1000000 in
theorem nrL_last (a : List Int) (v : Int) (h0 : (Byt a)) (h1 : ((2 : Int) ≤ v)) (h2 : (v ≤ (8 : Int))) (hv0 : List.length a = (32 : Nat)) (w : World) (rw : List Nat) (β : Env) (s : Unit) : Run Try.prog ⟨w, rw, 0, β⟩ (loopB Try.f60 0) (nrL_mk a v (256 : Nat) s) (To ⟨w, rw, 0, β⟩ (.exit 0) (nrL_mk a v (256 : Nat) s)) :=
  Run.of_outT (B := ⟨w, rw, 0, β⟩) (Λ := noLam) (Ψ := noPsi) (fuel := 0) (ora := [false]) (l := [.forget [0, 1, 2, 4, 5, 6, 7, 8, 9, 11, 12, 13, 14, 15, 16, 17, 18, 19, 20, 21] 4]) mix tabOkRM gam78_ok
    (vc := [(false = false)]) (by kernel_rfl)
    (AllP_cons rfl (AllP_nil))

theorem nrL_loop (a : List Int) (v : Int) (h0 : (Byt a)) (h1 : ((2 : Int) ≤ v)) (h2 : (v ≤ (8 : Int))) (hv0 : List.length a = (32 : Nat)) (w : World) (rw : List Nat) (β : Env) (s : Unit) : Run Try.prog ⟨w, rw, 0, β⟩ (.block 0 (.loop (loopB Try.f60 0))) (nrL_mk a v 0 s) (To ⟨w, rw, 0, β⟩ .normal (nrL_mk a v (256 : Nat) (iter (nrL_step) (256 : Nat) s))) :=
  Run.count (fun k => nrL_mk a v k (iter (nrL_step) k s)) (256 : Nat) (fun k hk => nrL_round a v h0 h1 h2 hv0 w rw β k hk _) (ex := (.exit 0)) (by simp) (nrL_last a v h0 h1 h2 hv0 w rw β _)

def nafR (a : List Int) : List Int :=
  (W8 (modL (BV a)))

def nafR_1 (a : List Int) (v : Int) : List Int :=
  (W9 (nfV v a (256 : Nat)))

def nafR_2 (a : List Int) (v : Int) : List Int :=
  (nfR v a (256 : Nat))

set_option maxHeartbeats 1000000 in
theorem nafR_body0 (a : List Int) (v : Int) (h0 : (Byt a)) (h1 : ((2 : Int) ≤ v)) (h2 : (v ≤ (8 : Int))) (hv0 : List.length a = (32 : Nat)) (w : World) (rw : List Nat) (β : Env) : Body Try.prog (tabOf tabRM) Try.f60 ⟨w, rw, 0, β⟩ [.o (.g [.ints .u8 (32 : Nat) a]), .o (.a (.i .i64 v))] [] (fun ys K' => ys = [.a (.rs 3 (0 : Nat) (256 : Nat) 1), .a (.i .i64 (0 : Int))] ∧ K' = [some ⟨true, [.ints .u8 (32 : Nat) a]⟩, some ⟨true, [.ints .u32 (8 : Nat) (nafR a)]⟩, some ⟨true, [.ints .u32 (9 : Nat) (nafR_1 a v)]⟩, some ⟨true, [.ints .i64 (256 : Nat) (nafR_2 a v)]⟩]) :=
  Body.of_finK (Γ := gam78) (Λ := lamOf [(0, ⟨[.rowS 8 .i64 1, .eqB 2 (⟨true, [.ints .u32 (9 : Nat) (W9 (nfV v a (0 : Nat)))]⟩), .forget [0, 1, 2, 4, 5, 6, 7, 8, 9, 11, 12, 13, 14, 15, 16, 17, 18, 19, 20, 21] 4], .normal, (nrL_mk a v (256 : Nat) (iter (nrL_step) (256 : Nat) ()))⟩)]) (Ψ := psiOf [(5, [.eqB 2 (⟨true, [.ints .u32 (9 : Nat) (W9 (nfV v a (0 : Nat)))]⟩)])]) (fuel := 0) (m := 62) (c := (Try.f60.body.getD .skip)) mix tabOkRM gam78_ok rfl (rs := [.tmp 4, .tmp 5]) rfl rfl [true, true, false, false] [] 4
    (vc := [(Run Try.prog ⟨w, rw, 0, β⟩ (.block 0 (.loop (loopB Try.f60 0))) (nrL_mk a v 0 ()) (To ⟨w, rw, 0, β⟩ .normal (nrL_mk a v (256 : Nat) (iter (nrL_step) (256 : Nat) ())))), ((some ⟨true, [.ints .u32 (9 : Nat) (W9 (nfV v a (0 : Nat)))]⟩ : Option Blk) = some ⟨true, [.ints .u32 (9 : Nat) (W9 (nfV v a (0 : Nat)))]⟩), ((some ⟨true, [.ints .u32 (9 : Nat) (splice (List.replicate (9 : Nat) (0 : Int)) (0 : Nat) (8 : Nat) (sub (W8 (modL (BV a))) (0 : Nat) (8 : Nat)))]⟩ : Option Blk) = some ⟨true, [.ints .u32 (9 : Nat) (W9 (nfV v a (0 : Nat)))]⟩), ((((8 : Nat) ≤ (8 : Nat)) ∧ ((8 : Nat) ≤ (8 : Nat))) ∧ (okP (some ((8 : Nat) ≤ (9 : Nat))))), (((0 : Int) ≤ (0 : Int)) ∧ ((0 : Int) ≤ (8 : Int))), (((0 : Int) ≤ (9 : Int)) ∧ ((9 : Int) ≤ (9 : Int)) ∧ ((36 : Int) ≤ (281474976710656 : Int))), (Byt a), ((decide (v > (8 : Int))) = false), ((decide (v < (2 : Int))) = false), ((decide (v < (2 : Int))) = false), ((decide (v < (2 : Int))) = false)]) (by kernel_rfl)
    (AllP_cons (nrL_loop a v h0 h1 h2 hv0 w rw β ()) (AllP_cons ((by rfl)) (AllP_cons ((by rfl)) (AllP_cons ⟨⟨(by decide), (by decide)⟩, (show ((8 : Nat) ≤ (9 : Nat)) from (by decide))⟩ (AllP_cons ⟨(by decide), (by decide)⟩ (AllP_cons ⟨(by decide), (by decide), (by decide)⟩ (AllP_cons (by assumption) (AllP_cons (decide_eq_false (by omega)) (AllP_cons (decide_eq_false (by omega)) (AllP_cons (decide_eq_false (by omega)) (AllP_cons (decide_eq_false (by omega)) (AllP_nil))))))))))))

theorem nafR_body (a : List Int) (v : Int) (h0 : (Byt a)) (h1 : ((2 : Int) ≤ v)) (h2 : (v ≤ (8 : Int))) (w : World) (rw : List Nat) (β : Env) : Body Try.prog (tabOf tabRM) Try.f60 ⟨w, rw, 0, β⟩ [.o (.g [.ints .u8 (32 : Nat) a]), .o (.a (.i .i64 v))] [] (fun ys K' => ys = [.a (.rs 3 (0 : Nat) (256 : Nat) 1), .a (.i .i64 (0 : Int))] ∧ K' = [some ⟨true, [.ints .u8 (32 : Nat) a]⟩, some ⟨true, [.ints .u32 (8 : Nat) (nafR a)]⟩, some ⟨true, [.ints .u32 (9 : Nat) (nafR_1 a v)]⟩, some ⟨true, [.ints .i64 (256 : Nat) (nafR_2 a v)]⟩]) :=
  Body.lens (c := (Try.f60.body.getD .skip)) rfl fun h => nafR_body0 a v h0 h1 h2 (h.vals 0 _ _ _ rfl) w rw β

set_option maxHeartbeats 1000000 in
theorem nafPB_body0 (a : List Int) (v : Int) (h0 : (Byt a)) (h1 : (v < (2 : Int))) (hv0 : List.length a = (32 : Nat)) (w : World) (rw : List Nat) (β : Env) : Body Try.prog (tabOf tabRM) Try.f59 ⟨w, rw, 0, β⟩ [.o (.g [.ints .u8 (32 : Nat) a]), .o (.a (.i .i64 v))] [] (fun ys K' => ys = [.a (.raw (.slice none 0 0)), .a (.i .i64 (1 : Int))] ∧ K' = []) :=
  Body.of_finK (Γ := gam78) (Λ := noLam) (Ψ := noPsi) (fuel := 0) (m := 106) (c := (Try.f59.body.getD .skip)) mix tabOkRM gam78_ok rfl (rs := [.tmp 4, .tmp 5]) rfl rfl [false, false, true, true] [] 0
    (vc := [(true = true), ((decide (v < (2 : Int))) = true), ((decide (v < (2 : Int))) = true), ((decide (v < (2 : Int))) = true)]) (by kernel_rfl)
    (AllP_cons rfl (AllP_cons (decide_eq_true (by omega)) (AllP_cons (decide_eq_true (by omega)) (AllP_cons (decide_eq_true (by omega)) (AllP_nil)))))

theorem nafPB_body (a : List Int) (v : Int) (h0 : (Byt a)) (h1 : (v < (2 : Int))) (w : World) (rw : List Nat) (β : Env) : Body Try.prog (tabOf tabRM) Try.f59 ⟨w, rw, 0, β⟩ [.o (.g [.ints .u8 (32 : Nat) a]), .o (.a (.i .i64 v))] [] (fun ys K' => ys = [.a (.raw (.slice none 0 0)), .a (.i .i64 (1 : Int))] ∧ K' = []) :=
  Body.lens (c := (Try.f59.body.getD .skip)) rfl fun h => nafPB_body0 a v h0 h1 (h.vals 0 _ _ _ rfl) w rw β

set_option maxHeartbeats 1000000 in
theorem nafPC_body0 (a : List Int) (v : Int) (h0 : (Byt a)) (h1 : ((8 : Int) < v)) (hv0 : List.length a = (32 : Nat)) (w : World) (rw : List Nat) (β : Env) : Body Try.prog (tabOf tabRM) Try.f59 ⟨w, rw, 0, β⟩ [.o (.g [.ints .u8 (32 : Nat) a]), .o (.a (.i .i64 v))] [] (fun ys K' => ys = [.a (.raw (.slice none 0 0)), .a (.i .i64 (1 : Int))] ∧ K' = []) :=
  Body.of_finK (Γ := gam78) (Λ := noLam) (Ψ := noPsi) (fuel := 0) (m := 106) (c := (Try.f59.body.getD .skip)) mix tabOkRM gam78_ok rfl (rs := [.tmp 4, .tmp 5]) rfl rfl [true, true, false, true] [] 0
    (vc := [((decide (v > (8 : Int))) = true), ((decide (v < (2 : Int))) = false), ((decide (v < (2 : Int))) = false), ((decide (v < (2 : Int))) = false)]) (by kernel_rfl)
    (AllP_cons (decide_eq_true (by omega)) (AllP_cons (decide_eq_false (by omega)) (AllP_cons (decide_eq_false (by omega)) (AllP_cons (decide_eq_false (by omega)) (AllP_nil)))))

theorem nafPC_body (a : List Int) (v : Int) (h0 : (Byt a)) (h1 : ((8 : Int) < v)) (w : World) (rw : List Nat) (β : Env) : Body Try.prog (tabOf tabRM) Try.f59 ⟨w, rw, 0, β⟩ [.o (.g [.ints .u8 (32 : Nat) a]), .o (.a (.i .i64 v))] [] (fun ys K' => ys = [.a (.raw (.slice none 0 0)), .a (.i .i64 (1 : Int))] ∧ K' = []) :=
  Body.lens (c := (Try.f59.body.getD .skip)) rfl fun h => nafPC_body0 a v h0 h1 (h.vals 0 _ _ _ rfl) w rw β

set_option maxHeartbeats 1000000 in
theorem nafRB_body0 (a : List Int) (v : Int) (h0 : (Byt a)) (h1 : (v < (2 : Int))) (hv0 : List.length a = (32 : Nat)) (w : World) (rw : List Nat) (β : Env) : Body Try.prog (tabOf tabRM) Try.f60 ⟨w, rw, 0, β⟩ [.o (.g [.ints .u8 (32 : Nat) a]), .o (.a (.i .i64 v))] [] (fun ys K' => ys = [.a (.raw (.slice none 0 0)), .a (.i .i64 (1 : Int))] ∧ K' = []) :=
  Body.of_finK (Γ := gam78) (Λ := noLam) (Ψ := noPsi) (fuel := 0) (m := 62) (c := (Try.f60.body.getD .skip)) mix tabOkRM gam78_ok rfl (rs := [.tmp 4, .tmp 5]) rfl rfl [false, false, true, true] [] 0
    (vc := [(true = true), ((decide (v < (2 : Int))) = true), ((decide (v < (2 : Int))) = true), ((decide (v < (2 : Int))) = true)]) (by kernel_rfl)
    (AllP_cons rfl (AllP_cons (decide_eq_true (by omega)) (AllP_cons (decide_eq_true (by omega)) (AllP_cons (decide_eq_true (by omega)) (AllP_nil)))))

theorem nafRB_body (a : List Int) (v : Int) (h0 : (Byt a)) (h1 : (v < (2 : Int))) (w : World) (rw : List Nat) (β : Env) : Body Try.prog (tabOf tabRM) Try.f60 ⟨w, rw, 0, β⟩ [.o (.g [.ints .u8 (32 : Nat) a]), .o (.a (.i .i64 v))] [] (fun ys K' => ys = [.a (.raw (.slice none 0 0)), .a (.i .i64 (1 : Int))] ∧ K' = []) :=
  Body.lens (c := (Try.f60.body.getD .skip)) rfl fun h => nafRB_body0 a v h0 h1 (h.vals 0 _ _ _ rfl) w rw β

set_option maxHeartbeats 1000000 in
theorem nafRC_body0 (a : List Int) (v : Int) (h0 : (Byt a)) (h1 : ((8 : Int) < v)) (hv0 : List.length a = (32 : Nat)) (w : World) (rw : List Nat) (β : Env) : Body Try.prog (tabOf tabRM) Try.f60 ⟨w, rw, 0, β⟩ [.o (.g [.ints .u8 (32 : Nat) a]), .o (.a (.i .i64 v))] [] (fun ys K' => ys = [.a (.raw (.slice none 0 0)), .a (.i .i64 (1 : Int))] ∧ K' = []) :=
  Body.of_finK (Γ := gam78) (Λ := noLam) (Ψ := noPsi) (fuel := 0) (m := 62) (c := (Try.f60.body.getD .skip)) mix tabOkRM gam78_ok rfl (rs := [.tmp 4, .tmp 5]) rfl rfl [true, true, false, true] [] 0
    (vc := [((decide (v > (8 : Int))) = true), ((decide (v < (2 : Int))) = false), ((decide (v < (2 : Int))) = false), ((decide (v < (2 : Int))) = false)]) (by kernel_rfl)
    (AllP_cons (decide_eq_true (by omega)) (AllP_cons (decide_eq_false (by omega)) (AllP_cons (decide_eq_false (by omega)) (AllP_cons (decide_eq_false (by omega)) (AllP_nil)))))

theorem nafRC_body (a : List Int) (v : Int) (h0 : (Byt a)) (h1 : ((8 : Int) < v)) (w : World) (rw : List Nat) (β : Env) : Body Try.prog (tabOf tabRM) Try.f60 ⟨w, rw, 0, β⟩ [.o (.g [.ints .u8 (32 : Nat) a]), .o (.a (.i .i64 v))] [] (fun ys K' => ys = [.a (.raw (.slice none 0 0)), .a (.i .i64 (1 : Int))] ∧ K' = []) :=
  Body.lens (c := (Try.f60.body.getD .skip)) rfl fun h => nafRC_body0 a v h0 h1 (h.vals 0 _ _ _ rfl) w rw β

end Go.Proofs.Ytcpoldghkiiggaa.X

/- Printed by a tool of this session. -/
namespace Go.Proofs.Ytcpoldghkiiggaa.X
open Go Go.Proofs
set_option linter.unusedVariables false
set_option linter.unusedSimpArgs false
set_option maxRecDepth 100000
theorem teRN_3 : TEOk Try.prog 3 ⟨.int .i64, 1, 8, [.i .i64 (0 : Int)], false⟩ :=
  TEOk.of Try.underlying3 (i := Try.t3) (by kernel_rfl) rfl rfl rfl (by kernel_rfl) (fun h => by cases h) (by kernel_rfl)
theorem teRN_81 : TEOk Try.prog 81 ⟨.slice 3, 1, 24, [.raw (.slice none 0 0)], false⟩ :=
  TEOk.of Try.underlying81 (i := Try.t81) (by kernel_rfl) rfl rfl rfl (by kernel_rfl) (fun h => by cases h) (by kernel_rfl)
noncomputable def tabRN : List (Nat × TE) := [(3, ⟨.int .i64, 1, 8, [.i .i64 (0 : Int)], false⟩), (81, ⟨.slice 3, 1, 24, [.raw (.slice none 0 0)], false⟩)]
theorem tabOkRN : TabOk Try.prog (tabOf tabRN) := (tabOf_cons teRN_3 (tabOf_cons teRN_81 tabOf_nil))

def gam79 : Gam := gcall 62 [] [.w] (fun wk vs args => match wk, vs, args with | [], [], [.o (.g [.ints .u8 (32 : Nat) a])] => some ((Byt a), [.a (.sl 2 (0 : Nat) (64 : Nat) (64 : Nat))], [some ⟨true, [.ints .u8 (32 : Nat) a]⟩, some ⟨true, [.ints .u8 (32 : Nat) (digP a)]⟩, some ⟨true, [.ints .i64 (64 : Nat) (digP_1 a)]⟩]) | _, _, _ => none) gam78
theorem gam79_ok : GamOk Try.prog gam79 := gcall_ok tabOkRJ Try.func62 gam78_ok Try.call62 (by
  intro wk vs args p xs K1 h hv
  split at h
  · simp only [Option.some.injEq, Prod.mk.injEq] at h; obtain ⟨rfl, rfl, rfl⟩ := h; have g0 := hv; exact fun caps w rw β => digP_body _ g0 w rw β
  · simp at h)

def gam80 : Gam := gcall 63 [] [.w] (fun wk vs args => match wk, vs, args with | [], [], [.o (.g [.ints .u8 (32 : Nat) a])] => some ((Byt a), [.a (.rs 2 (0 : Nat) (64 : Nat) 1)], [some ⟨true, [.ints .u8 (32 : Nat) a]⟩, some ⟨true, [.ints .u8 (32 : Nat) (digR a)]⟩, some ⟨true, [.ints .i64 (64 : Nat) (digR_1 a)]⟩]) | _, _, _ => none) gam79
theorem gam80_ok : GamOk Try.prog gam80 := gcall_ok tabOkRJ Try.func63 gam79_ok Try.call63 (by
  intro wk vs args p xs K1 h hv
  split at h
  · simp only [Option.some.injEq, Prod.mk.injEq] at h; obtain ⟨rfl, rfl, rfl⟩ := h; have g0 := hv; exact fun caps w rw β => digR_body _ g0 w rw β
  · simp at h)

def sameIL_mk (n : Nat) (nm : Nat) (b : List Int) (m : Nat) (mm : Nat) (c : List Int) (cap0 : Nat) (cap1 : Nat) (k : Nat) (s : Unit) : St := ⟨sparse 26 [(0, .o (.a (.sl 0 (0 : Nat) n cap0))), (1, .o (.a (.sl 1 (0 : Nat) m cap1))), (5, .o (.a (.i .i64 ((k : Nat) : Int)))), (6, .o (.a (.sl 0 (0 : Nat) n cap0))), (7, .o (.a (.i .i64 ((n : Nat) : Int)))), (8, .o (.a (.sl 1 (0 : Nat) m cap1))), (9, .o (.a (.i .i64 ((m : Nat) : Int)))), (10, .o (.a (.b (((n : Nat) : Int) != ((m : Nat) : Int)))))], [some ⟨false, [.ints .i64 nm b]⟩, some ⟨false, [.ints .i64 mm c]⟩]⟩

def sameIL_step (k : Nat) (s : Unit) : Unit :=
  ()

set_option maxHeartbeats 1000000 in
theorem sameIL_round (n : Nat) (nm : Nat) (b : List Int) (m : Nat) (mm : Nat) (c : List Int) (cap0 : Nat) (cap1 : Nat) (h0 : (nm = n)) (h1 : (mm = m)) (h2 : (m = n)) (h3 : (b = c)) (h4 : (n < (4611686018427387904 : Nat))) (hc0 : n ≤ cap0) (hc1 : m ≤ cap1) (hl0_0 : List.length b = nm) (hl1_0 : List.length c = mm) (w : World) (β : Env) (k : Nat) (hk : k < n) (s : Unit) : Run Try.prog ⟨w, [], 2, β⟩ (loopB Try.f61 0) (sameIL_mk n nm b m mm c cap0 cap1 k s) (To ⟨w, [], 2, β⟩ .normal (sameIL_mk n nm b m mm c cap0 cap1 (k + 1) (sameIL_step k s))) := by
  have e0 : (IntKind.i64.wrap (((k : Nat) : Int) + (1 : Int))) = (((k + (1 : Nat)) : Nat) : Int) := (by first | rfl | exact wrap_succ (by omega) | omega | (simp (disch := omega) only [wrapI]; omega))
  have h := Run.of_outT (B := ⟨w, [], 2, β⟩) (Λ := noLam) (Ψ := noPsi) (fuel := 0) (ora := [true, false]) (c := (loopB Try.f61 0)) (st := (sameIL_mk n nm b m mm c cap0 cap1 k s)) (l := [.forget [0, 1, 5, 6, 7, 8, 9, 10] 2]) (s' := ⟨sparse 26 [(0, .o (.a (.sl 0 (0 : Nat) n cap0))), (1, .o (.a (.sl 1 (0 : Nat) m cap1))), (5, .o (.a (.i .i64 (IntKind.i64.wrap (((k : Nat) : Int) + (1 : Int)))))), (6, .o (.a (.sl 0 (0 : Nat) n cap0))), (7, .o (.a (.i .i64 ((n : Nat) : Int)))), (8, .o (.a (.sl 1 (0 : Nat) m cap1))), (9, .o (.a (.i .i64 ((m : Nat) : Int)))), (10, .o (.a (.b (((n : Nat) : Int) != ((m : Nat) : Int)))))], [some ⟨false, [.ints .i64 nm b]⟩, some ⟨false, [.ints .i64 mm c]⟩]⟩) (ex := .normal) mix tabOkRN gam80_ok
    (vc := [(((List.getD b k 0) != (List.getD c k 0)) = false), (k < mm), (((0 : Int) ≤ ((k : Nat) : Int)) ∧ (((k : Nat) : Int) < ((m : Nat) : Int))), (k < nm), (((0 : Int) ≤ ((k : Nat) : Int)) ∧ (((k : Nat) : Int) < ((n : Nat) : Int))), ((decide (((k : Nat) : Int) < ((n : Nat) : Int))) = true)]) (by kernel_rfl)
    (AllP_cons (bne_eq_false_iff_eq.2 (by rw [h3])) (AllP_cons (by first | omega | (simp (disch := omega) only [wrapI]; omega)) (AllP_cons ⟨(by first | omega | (simp (disch := omega) only [wrapI]; omega)), (by first | omega | (simp (disch := omega) only [wrapI]; omega))⟩ (AllP_cons (by first | omega | (simp (disch := omega) only [wrapI]; omega)) (AllP_cons ⟨(by first | omega | (simp (disch := omega) only [wrapI]; omega)), (by first | omega | (simp (disch := omega) only [wrapI]; omega))⟩ (AllP_cons (decide_eq_true (by first | omega | (simp (disch := omega) only [wrapI]; omega))) (AllP_nil)))))))
  rw [e0] at h
  exact h

set_option maxHeartbeats 1000000 in
theorem sameIL_last (n : Nat) (nm : Nat) (b : List Int) (m : Nat) (mm : Nat) (c : List Int) (cap0 : Nat) (cap1 : Nat) (h0 : (nm = n)) (h1 : (mm = m)) (h2 : (m = n)) (h3 : (b = c)) (h4 : (n < (4611686018427387904 : Nat))) (hc0 : n ≤ cap0) (hc1 : m ≤ cap1) (hl0_0 : List.length b = nm) (hl1_0 : List.length c = mm) (w : World) (β : Env) (s : Unit) : Run Try.prog ⟨w, [], 2, β⟩ (loopB Try.f61 0) (sameIL_mk n nm b m mm c cap0 cap1 n s) (To ⟨w, [], 2, β⟩ (.exit 0) (sameIL_mk n nm b m mm c cap0 cap1 n s)) :=
  Run.of_outT (B := ⟨w, [], 2, β⟩) (Λ := noLam) (Ψ := noPsi) (fuel := 0) (ora := [false]) (l := [.forget [0, 1, 5, 6, 7, 8, 9, 10] 2]) mix tabOkRN gam80_ok
    (vc := [((decide (((n : Nat) : Int) < ((n : Nat) : Int))) = false)]) (by kernel_rfl)
    (AllP_cons (decide_eq_false (by first | omega | (simp (disch := omega) only [wrapI]; omega))) (AllP_nil))

theorem sameIL_loop (n : Nat) (nm : Nat) (b : List Int) (m : Nat) (mm : Nat) (c : List Int) (cap0 : Nat) (cap1 : Nat) (h0 : (nm = n)) (h1 : (mm = m)) (h2 : (m = n)) (h3 : (b = c)) (h4 : (n < (4611686018427387904 : Nat))) (hc0 : n ≤ cap0) (hc1 : m ≤ cap1) (hl0_0 : List.length b = nm) (hl1_0 : List.length c = mm) (w : World) (β : Env) (s : Unit) : Run Try.prog ⟨w, [], 2, β⟩ (.block 0 (.loop (loopB Try.f61 0))) (sameIL_mk n nm b m mm c cap0 cap1 0 s) (To ⟨w, [], 2, β⟩ .normal (sameIL_mk n nm b m mm c cap0 cap1 n (iter (sameIL_step) n s))) :=
  Run.count (fun k => sameIL_mk n nm b m mm c cap0 cap1 k (iter (sameIL_step) k s)) n (fun k hk => sameIL_round n nm b m mm c cap0 cap1 h0 h1 h2 h3 h4 hc0 hc1 hl0_0 hl1_0 w β k hk _) (ex := (.exit 0)) (by simp) (sameIL_last n nm b m mm c cap0 cap1 h0 h1 h2 h3 h4 hc0 hc1 hl0_0 hl1_0 w β _)

set_option maxHeartbeats 1000000 in
theorem sameI_body0 (n : Nat) (nm : Nat) (b : List Int) (m : Nat) (mm : Nat) (c : List Int) (cap0 : Nat) (cap1 : Nat) (h0 : (nm = n)) (h1 : (mm = m)) (h2 : (m = n)) (h3 : (b = c)) (h4 : (n < (4611686018427387904 : Nat))) (hc0 : n ≤ cap0) (hc1 : m ≤ cap1) (hl0_0 : List.length b = nm) (hl1_0 : List.length c = mm) (w : World) (β : Env) : Body Try.prog (tabOf tabRN) Try.f61 ⟨w, [], 2, β⟩ [.o (.a (.sl 0 (0 : Nat) n cap0)), .o (.a (.sl 1 (0 : Nat) m cap1))] [some ⟨false, [.ints .i64 nm b]⟩, some ⟨false, [.ints .i64 mm c]⟩] (fun ys _ => ys = [.a (.b true)]) :=
  Body.of_fin (Γ := gam80) (Λ := lamOf [(0, ⟨[.forget [0, 1, 5, 6, 7, 8, 9, 10] 2], .normal, (sameIL_mk n nm b m mm c cap0 cap1 n (iter (sameIL_step) n ()))⟩)]) (Ψ := noPsi) (fuel := 0) (m := 26) (c := (Try.f61.body.getD .skip)) mix tabOkRN gam80_ok rfl (rs := [.tmp 4]) rfl rfl [false] []
    (vc := [(Run Try.prog ⟨w, [], 2, β⟩ (.block 0 (.loop (loopB Try.f61 0))) (sameIL_mk n nm b m mm c cap0 cap1 0 ()) (To ⟨w, [], 2, β⟩ .normal (sameIL_mk n nm b m mm c cap0 cap1 n (iter (sameIL_step) n ())))), ((((n : Nat) : Int) != ((m : Nat) : Int)) = false)]) (by kernel_rfl)
    (AllP_cons (sameIL_loop n nm b m mm c cap0 cap1 h0 h1 h2 h3 h4 hc0 hc1 hl0_0 hl1_0 w β ()) (AllP_cons (bne_eq_false_iff_eq.2 (by first | omega | (simp (disch := omega) only [wrapI]; omega))) (AllP_nil)))

theorem sameI_body (n : Nat) (nm : Nat) (b : List Int) (m : Nat) (mm : Nat) (c : List Int) (cap0 : Nat) (cap1 : Nat) (h0 : (nm = n)) (h1 : (mm = m)) (h2 : (m = n)) (h3 : (b = c)) (h4 : (n < (4611686018427387904 : Nat))) (w : World) (β : Env) : Body Try.prog (tabOf tabRN) Try.f61 ⟨w, [], 2, β⟩ [.o (.a (.sl 0 (0 : Nat) n cap0)), .o (.a (.sl 1 (0 : Nat) m cap1))] [some ⟨false, [.ints .i64 nm b]⟩, some ⟨false, [.ints .i64 mm c]⟩] (fun ys _ => ys = [.a (.b true)]) :=
  Body.lens (c := (Try.f61.body.getD .skip)) rfl fun h => sameI_body0 n nm b m mm c cap0 cap1 h0 h1 h2 h3 h4 (h.caps 0 _ _ _ _ rfl) (h.caps 1 _ _ _ _ rfl) (h.lens 0 _ .i64 nm b rfl (by simp)) (h.lens 1 _ .i64 mm c rfl (by simp)) w β

def gam81 : Gam := greadV 61 [.s 1, .s 1] (fun vs args => match vs, args with | [⟨_, _, _, [.ints .i64 nm b]⟩, ⟨_, _, _, [.ints .i64 mm c]⟩], [a0, a1] => some ((nm = (lenOfA a0)) ∧ (mm = (lenOfA a1)) ∧ ((lenOfA a1) = (lenOfA a0)) ∧ (b = c) ∧ ((lenOfA a0) < (4611686018427387904 : Nat)), [.a (.b true)]) | _, _ => none) gam80
theorem gam81_ok : GamOk Try.prog gam81 := greadV_ok tabOkRN Try.func61 gam80_ok Try.call61 (by
  intro vs args p xs h hv
  split at h
  · simp only [Option.some.injEq, Prod.mk.injEq] at h; obtain ⟨rfl, rfl⟩ := h; exact ⟨by rfl, fun caps w β => sameI_body _ _ _ _ _ _ _ _ hv.1 hv.2.1 hv.2.2.1 hv.2.2.2.1 hv.2.2.2.2 w β⟩
  · simp at h)

end Go.Proofs.Ytcpoldghkiiggaa.X

/- Printed by a tool of this session. -/
namespace Go.Proofs.Ytcpoldghkiiggaa.X
open Go Go.Proofs
set_option linter.unusedVariables false
set_option linter.unusedSimpArgs false
set_option maxRecDepth 100000
theorem teRO_24 : TEOk Try.prog 24 ⟨.array 32 5, 32, 32, [.ints .u8 (32 : Nat) ([0, 0, 0, 0, 0, 0, 0, 0, 0, 0, 0, 0, 0, 0, 0, 0, 0, 0, 0, 0, 0, 0, 0, 0, 0, 0, 0, 0, 0, 0, 0, 0] : List Int)], true⟩ :=
  TEOk.of Try.underlying24 (i := Try.t24) (by kernel_rfl) rfl rfl rfl (by kernel_rfl) (fun _ => Try.eqGuardType24) (by kernel_rfl)
noncomputable def tabRO : List (Nat × TE) := [(24, ⟨.array 32 5, 32, 32, [.ints .u8 (32 : Nat) ([0, 0, 0, 0, 0, 0, 0, 0, 0, 0, 0, 0, 0, 0, 0, 0, 0, 0, 0, 0, 0, 0, 0, 0, 0, 0, 0, 0, 0, 0, 0, 0] : List Int)], true⟩)]
theorem tabOkRO : TabOk Try.prog (tabOf tabRO) := (tabOf_cons teRO_24 tabOf_nil)

def gam82 : Gam := gcall 59 [] [.w, .w] (fun wk vs args => match wk, vs, args with | [], [], [.o (.g [.ints .u8 (32 : Nat) a]), .o (.a (.i .i64 v))] => some ((Byt a) ∧ ((2 : Int) ≤ v) ∧ (v ≤ (8 : Int)), [.a (.sl 2 (0 : Nat) (256 : Nat) (256 : Nat)), .a (.i .i64 (0 : Int))], [some ⟨true, [.ints .u8 (32 : Nat) a]⟩, some ⟨true, [.ints .u64 (4 : Nat) (nafP a v)]⟩, some ⟨true, [.ints .i64 (256 : Nat) (nafP_1 a v)]⟩]) | _, _, _ => none) gam81
theorem gam82_ok : GamOk Try.prog gam82 := gcall_ok tabOkRK Try.func59 gam81_ok Try.call59 (by
  intro wk vs args p xs K1 h hv
  split at h
  · simp only [Option.some.injEq, Prod.mk.injEq] at h; obtain ⟨rfl, rfl, rfl⟩ := h; obtain ⟨g0, g1, g2⟩ := hv; exact fun caps w rw β => nafP_body _ _ g0 g1 g2 w rw β
  · simp at h)

def gam83 : Gam := gcall 60 [] [.w, .w] (fun wk vs args => match wk, vs, args with | [], [], [.o (.g [.ints .u8 (32 : Nat) a]), .o (.a (.i .i64 v))] => some ((Byt a) ∧ ((2 : Int) ≤ v) ∧ (v ≤ (8 : Int)), [.a (.rs 3 (0 : Nat) (256 : Nat) 1), .a (.i .i64 (0 : Int))], [some ⟨true, [.ints .u8 (32 : Nat) a]⟩, some ⟨true, [.ints .u32 (8 : Nat) (nafR a)]⟩, some ⟨true, [.ints .u32 (9 : Nat) (nafR_1 a v)]⟩, some ⟨true, [.ints .i64 (256 : Nat) (nafR_2 a v)]⟩]) | _, _, _ => none) gam82
theorem gam83_ok : GamOk Try.prog gam83 := gcall_ok tabOkRM Try.func60 gam82_ok Try.call60 (by
  intro wk vs args p xs K1 h hv
  split at h
  · simp only [Option.some.injEq, Prod.mk.injEq] at h; obtain ⟨rfl, rfl, rfl⟩ := h; obtain ⟨g0, g1, g2⟩ := hv; exact fun caps w rw β => nafR_body _ _ g0 g1 g2 w rw β
  · simp at h)

set_option maxHeartbeats 1000000 in
theorem dgLO_body0 (a : List Int) (v : Int) (h0 : (Byt a)) (h1 : ((2 : Int) ≤ v)) (h2 : (v ≤ (8 : Int))) (hv0 : List.length a = (32 : Nat)) (w : World) (rw : List Nat) (β : Env) : Body Try.prog (tabOf tabRO) Try.f11 ⟨w, rw, 0, β⟩ [.o (.g [.ints .u8 (32 : Nat) a]), .o (.a (.i .i64 v))] [] (fun ys K' => ys = [.a (.b true)] ∧ K' = []) :=
  Body.of_finK (Γ := gam83) (Λ := noLam) (Ψ := noPsi) (fuel := 0) (m := 40) (c := (Try.f11.body.getD .skip)) mix tabOkRO gam83_ok rfl (rs := [.tmp 4]) rfl rfl [true, true, true, true, true, true, true, true, true, true, true] [] 0
    (vc := [(true = true), (true = true), (true = true), (true = true), (true = true), (true = true), (true = true), (true = true), ((((256 : Nat) ≤ (256 : Nat)) ∧ (((256 : Nat) ≤ (256 : Nat)) ∧ True)) ∧ (((256 : Nat) = (256 : Nat)) ∧ ((256 : Nat) = (256 : Nat)) ∧ ((256 : Nat) = (256 : Nat)) ∧ ((sub (nafP_1 a v) (0 : Nat) (256 : Nat)) = (sub (nafR_2 a v) (0 : Nat) (256 : Nat))) ∧ ((256 : Nat) < (4611686018427387904 : Nat)))), (true = true), (true = true), (true = true), ((((64 : Nat) ≤ (64 : Nat)) ∧ (((64 : Nat) ≤ (64 : Nat)) ∧ True)) ∧ (((64 : Nat) = (64 : Nat)) ∧ ((64 : Nat) = (64 : Nat)) ∧ ((64 : Nat) = (64 : Nat)) ∧ ((sub (digP_1 a) (0 : Nat) (64 : Nat)) = (sub (digR_1 a) (0 : Nat) (64 : Nat))) ∧ ((64 : Nat) < (4611686018427387904 : Nat)))), ((True ∧ True) ∧ (Byt a)), ((True ∧ True) ∧ (Byt a)), ((True ∧ (True ∧ True)) ∧ ((Byt a) ∧ ((2 : Int) ≤ v) ∧ (v ≤ (8 : Int)))), ((True ∧ (True ∧ True)) ∧ ((Byt a) ∧ ((2 : Int) ≤ v) ∧ (v ≤ (8 : Int))))]) (by kernel_rfl)
    (AllP_cons rfl (AllP_cons rfl (AllP_cons rfl (AllP_cons rfl (AllP_cons rfl (AllP_cons rfl (AllP_cons rfl (AllP_cons rfl (AllP_cons ⟨⟨(by decide), ⟨(by decide), trivial⟩⟩, ⟨rfl, rfl, rfl, (by rw [show nafP_1 a v = nfO v a 256 from rfl, show nafR_2 a v = nfR v a 256 from rfl, naf_all]), (by decide)⟩⟩ (AllP_cons rfl (AllP_cons rfl (AllP_cons rfl (AllP_cons ⟨⟨(by decide), ⟨(by decide), trivial⟩⟩, ⟨rfl, rfl, rfl, (by rw [show digP_1 a = dcO (B32 (modL (BV a))) 64 from rfl, show digR_1 a = dcR (B32 (modL (BV a))) 64 from rfl, dc_all]), (by decide)⟩⟩ (AllP_cons ⟨⟨trivial, trivial⟩, (by assumption)⟩ (AllP_cons ⟨⟨trivial, trivial⟩, (by assumption)⟩ (AllP_cons ⟨⟨trivial, ⟨trivial, trivial⟩⟩, ⟨(by assumption), h1, h2⟩⟩ (AllP_cons ⟨⟨trivial, ⟨trivial, trivial⟩⟩, ⟨(by assumption), h1, h2⟩⟩ (AllP_nil))))))))))))))))))

theorem dgLO_body (a : List Int) (v : Int) (h0 : (Byt a)) (h1 : ((2 : Int) ≤ v)) (h2 : (v ≤ (8 : Int))) (w : World) (rw : List Nat) (β : Env) : Body Try.prog (tabOf tabRO) Try.f11 ⟨w, rw, 0, β⟩ [.o (.g [.ints .u8 (32 : Nat) a]), .o (.a (.i .i64 v))] [] (fun ys K' => ys = [.a (.b true)] ∧ K' = []) :=
  Body.lens (c := (Try.f11.body.getD .skip)) rfl fun h => dgLO_body0 a v h0 h1 h2 (h.vals 0 _ _ _ rfl) w rw β

def gam84 : Gam := gcall 59 [] [.w, .w] (fun wk vs args => match wk, vs, args with | [], [], [.o (.g [.ints .u8 (32 : Nat) a]), .o (.a (.i .i64 v))] => some ((Byt a) ∧ (v < (2 : Int)), [.a (.raw (.slice none 0 0)), .a (.i .i64 (1 : Int))], []) | _, _, _ => none) gam81
theorem gam84_ok : GamOk Try.prog gam84 := gcall_ok tabOkRM Try.func59 gam81_ok Try.call59 (by
  intro wk vs args p xs K1 h hv
  split at h
  · simp only [Option.some.injEq, Prod.mk.injEq] at h; obtain ⟨rfl, rfl, rfl⟩ := h; obtain ⟨g0, g1⟩ := hv; exact fun caps w rw β => nafPB_body _ _ g0 g1 w rw β
  · simp at h)

def gam85 : Gam := gcall 60 [] [.w, .w] (fun wk vs args => match wk, vs, args with | [], [], [.o (.g [.ints .u8 (32 : Nat) a]), .o (.a (.i .i64 v))] => some ((Byt a) ∧ (v < (2 : Int)), [.a (.raw (.slice none 0 0)), .a (.i .i64 (1 : Int))], []) | _, _, _ => none) gam84
theorem gam85_ok : GamOk Try.prog gam85 := gcall_ok tabOkRM Try.func60 gam84_ok Try.call60 (by
  intro wk vs args p xs K1 h hv
  split at h
  · simp only [Option.some.injEq, Prod.mk.injEq] at h; obtain ⟨rfl, rfl, rfl⟩ := h; obtain ⟨g0, g1⟩ := hv; exact fun caps w rw β => nafRB_body _ _ g0 g1 w rw β
  · simp at h)

set_option maxHeartbeats 1000000 in
theorem dgLB_body0 (a : List Int) (v : Int) (h0 : (Byt a)) (h1 : (v < (2 : Int))) (hv0 : List.length a = (32 : Nat)) (w : World) (rw : List Nat) (β : Env) : Body Try.prog (tabOf tabRO) Try.f11 ⟨w, rw, 0, β⟩ [.o (.g [.ints .u8 (32 : Nat) a]), .o (.a (.i .i64 v))] [] (fun ys K' => ys = [.a (.b true)] ∧ K' = []) :=
  Body.of_finK (Γ := gam85) (Λ := noLam) (Ψ := psiOf [(1, [.rowS 5 .i64 1]), (2, [.rowS 7 .i64 1])]) (fuel := 0) (m := 40) (c := (Try.f11.body.getD .skip)) mix tabOkRO gam85_ok rfl (rs := [.tmp 4]) rfl rfl [true, true, true, true, true, true, true, true, true, true, true] [] 0
    (vc := [(true = true), (true = true), (true = true), (true = true), (true = true), (true = true), (true = true), (true = true), ((((0 : Nat) ≤ (0 : Nat)) ∧ (((0 : Nat) ≤ (0 : Nat)) ∧ True)) ∧ (((0 : Nat) = (0 : Nat)) ∧ ((0 : Nat) = (0 : Nat)) ∧ ((0 : Nat) = (0 : Nat)) ∧ (([] : List Int) = ([] : List Int)) ∧ ((0 : Nat) < (4611686018427387904 : Nat)))), (true = true), (true = true), (true = true), ((((64 : Nat) ≤ (64 : Nat)) ∧ (((64 : Nat) ≤ (64 : Nat)) ∧ True)) ∧ (((64 : Nat) = (64 : Nat)) ∧ ((64 : Nat) = (64 : Nat)) ∧ ((64 : Nat) = (64 : Nat)) ∧ ((sub (digP_1 a) (0 : Nat) (64 : Nat)) = (sub (digR_1 a) (0 : Nat) (64 : Nat))) ∧ ((64 : Nat) < (4611686018427387904 : Nat)))), ((True ∧ True) ∧ (Byt a)), ((True ∧ True) ∧ (Byt a)), ((True ∧ (True ∧ True)) ∧ ((Byt a) ∧ (v < (2 : Int)))), ((True ∧ (True ∧ True)) ∧ ((Byt a) ∧ (v < (2 : Int))))]) (by kernel_rfl)
    (AllP_cons rfl (AllP_cons rfl (AllP_cons rfl (AllP_cons rfl (AllP_cons rfl (AllP_cons rfl (AllP_cons rfl (AllP_cons rfl (AllP_cons ⟨⟨(by decide), ⟨(by decide), trivial⟩⟩, ⟨rfl, rfl, rfl, rfl, (by decide)⟩⟩ (AllP_cons rfl (AllP_cons rfl (AllP_cons rfl (AllP_cons ⟨⟨(by decide), ⟨(by decide), trivial⟩⟩, ⟨rfl, rfl, rfl, (by rw [show digP_1 a = dcO (B32 (modL (BV a))) 64 from rfl, show digR_1 a = dcR (B32 (modL (BV a))) 64 from rfl, dc_all]), (by decide)⟩⟩ (AllP_cons ⟨⟨trivial, trivial⟩, (by assumption)⟩ (AllP_cons ⟨⟨trivial, trivial⟩, (by assumption)⟩ (AllP_cons ⟨⟨trivial, ⟨trivial, trivial⟩⟩, ⟨(by assumption), h1⟩⟩ (AllP_cons ⟨⟨trivial, ⟨trivial, trivial⟩⟩, ⟨(by assumption), h1⟩⟩ (AllP_nil))))))))))))))))))

theorem dgLB_body (a : List Int) (v : Int) (h0 : (Byt a)) (h1 : (v < (2 : Int))) (w : World) (rw : List Nat) (β : Env) : Body Try.prog (tabOf tabRO) Try.f11 ⟨w, rw, 0, β⟩ [.o (.g [.ints .u8 (32 : Nat) a]), .o (.a (.i .i64 v))] [] (fun ys K' => ys = [.a (.b true)] ∧ K' = []) :=
  Body.lens (c := (Try.f11.body.getD .skip)) rfl fun h => dgLB_body0 a v h0 h1 (h.vals 0 _ _ _ rfl) w rw β

def gam86 : Gam := gcall 59 [] [.w, .w] (fun wk vs args => match wk, vs, args with | [], [], [.o (.g [.ints .u8 (32 : Nat) a]), .o (.a (.i .i64 v))] => some ((Byt a) ∧ ((8 : Int) < v), [.a (.raw (.slice none 0 0)), .a (.i .i64 (1 : Int))], []) | _, _, _ => none) gam81
theorem gam86_ok : GamOk Try.prog gam86 := gcall_ok tabOkRM Try.func59 gam81_ok Try.call59 (by
  intro wk vs args p xs K1 h hv
  split at h
  · simp only [Option.some.injEq, Prod.mk.injEq] at h; obtain ⟨rfl, rfl, rfl⟩ := h; obtain ⟨g0, g1⟩ := hv; exact fun caps w rw β => nafPC_body _ _ g0 g1 w rw β
  · simp at h)

def gam87 : Gam := gcall 60 [] [.w, .w] (fun wk vs args => match wk, vs, args with | [], [], [.o (.g [.ints .u8 (32 : Nat) a]), .o (.a (.i .i64 v))] => some ((Byt a) ∧ ((8 : Int) < v), [.a (.raw (.slice none 0 0)), .a (.i .i64 (1 : Int))], []) | _, _, _ => none) gam86
theorem gam87_ok : GamOk Try.prog gam87 := gcall_ok tabOkRM Try.func60 gam86_ok Try.call60 (by
  intro wk vs args p xs K1 h hv
  split at h
  · simp only [Option.some.injEq, Prod.mk.injEq] at h; obtain ⟨rfl, rfl, rfl⟩ := h; obtain ⟨g0, g1⟩ := hv; exact fun caps w rw β => nafRC_body _ _ g0 g1 w rw β
  · simp at h)

set_option maxHeartbeats 1000000 in
theorem dgLC_body0 (a : List Int) (v : Int) (h0 : (Byt a)) (h1 : ((8 : Int) < v)) (hv0 : List.length a = (32 : Nat)) (w : World) (rw : List Nat) (β : Env) : Body Try.prog (tabOf tabRO) Try.f11 ⟨w, rw, 0, β⟩ [.o (.g [.ints .u8 (32 : Nat) a]), .o (.a (.i .i64 v))] [] (fun ys K' => ys = [.a (.b true)] ∧ K' = []) :=
  Body.of_finK (Γ := gam87) (Λ := noLam) (Ψ := psiOf [(1, [.rowS 5 .i64 1]), (2, [.rowS 7 .i64 1])]) (fuel := 0) (m := 40) (c := (Try.f11.body.getD .skip)) mix tabOkRO gam87_ok rfl (rs := [.tmp 4]) rfl rfl [true, true, true, true, true, true, true, true, true, true, true] [] 0
    (vc := [(true = true), (true = true), (true = true), (true = true), (true = true), (true = true), (true = true), (true = true), ((((0 : Nat) ≤ (0 : Nat)) ∧ (((0 : Nat) ≤ (0 : Nat)) ∧ True)) ∧ (((0 : Nat) = (0 : Nat)) ∧ ((0 : Nat) = (0 : Nat)) ∧ ((0 : Nat) = (0 : Nat)) ∧ (([] : List Int) = ([] : List Int)) ∧ ((0 : Nat) < (4611686018427387904 : Nat)))), (true = true), (true = true), (true = true), ((((64 : Nat) ≤ (64 : Nat)) ∧ (((64 : Nat) ≤ (64 : Nat)) ∧ True)) ∧ (((64 : Nat) = (64 : Nat)) ∧ ((64 : Nat) = (64 : Nat)) ∧ ((64 : Nat) = (64 : Nat)) ∧ ((sub (digP_1 a) (0 : Nat) (64 : Nat)) = (sub (digR_1 a) (0 : Nat) (64 : Nat))) ∧ ((64 : Nat) < (4611686018427387904 : Nat)))), ((True ∧ True) ∧ (Byt a)), ((True ∧ True) ∧ (Byt a)), ((True ∧ (True ∧ True)) ∧ ((Byt a) ∧ ((8 : Int) < v))), ((True ∧ (True ∧ True)) ∧ ((Byt a) ∧ ((8 : Int) < v)))]) (by kernel_rfl)
    (AllP_cons rfl (AllP_cons rfl (AllP_cons rfl (AllP_cons rfl (AllP_cons rfl (AllP_cons rfl (AllP_cons rfl (AllP_cons rfl (AllP_cons ⟨⟨(by decide), ⟨(by decide), trivial⟩⟩, ⟨rfl, rfl, rfl, rfl, (by decide)⟩⟩ (AllP_cons rfl (AllP_cons rfl (AllP_cons rfl (AllP_cons ⟨⟨(by decide), ⟨(by decide), trivial⟩⟩, ⟨rfl, rfl, rfl, (by rw [show digP_1 a = dcO (B32 (modL (BV a))) 64 from rfl, show digR_1 a = dcR (B32 (modL (BV a))) 64 from rfl, dc_all]), (by decide)⟩⟩ (AllP_cons ⟨⟨trivial, trivial⟩, (by assumption)⟩ (AllP_cons ⟨⟨trivial, trivial⟩, (by assumption)⟩ (AllP_cons ⟨⟨trivial, ⟨trivial, trivial⟩⟩, ⟨(by assumption), h1⟩⟩ (AllP_cons ⟨⟨trivial, ⟨trivial, trivial⟩⟩, ⟨(by assumption), h1⟩⟩ (AllP_nil))))))))))))))))))

theorem dgLC_body (a : List Int) (v : Int) (h0 : (Byt a)) (h1 : ((8 : Int) < v)) (w : World) (rw : List Nat) (β : Env) : Body Try.prog (tabOf tabRO) Try.f11 ⟨w, rw, 0, β⟩ [.o (.g [.ints .u8 (32 : Nat) a]), .o (.a (.i .i64 v))] [] (fun ys K' => ys = [.a (.b true)] ∧ K' = []) :=
  Body.lens (c := (Try.f11.body.getD .skip)) rfl fun h => dgLC_body0 a v h0 h1 (h.vals 0 _ _ _ rfl) w rw β

end Go.Proofs.Ytcpoldghkiiggaa.X

/- The core, part 5 of 5: blocks of memory known by number, and an evaluator over loaded code, shown sound. -/
/- Rows: a law that answers true and leaves what was there as it was: from its body to its post; arguments opened. -/
namespace Go.Proofs.Ytcpoldghkiiggaa.R
open Go Go.Proofs Go.ChangeShapes Go.WideShapes Go.ChangeAt Go.RowKit Go.Proofs.Ytcpoldghkiiggaa.X
set_option linter.unusedVariables false

theorem below {W W' : World} (g : Grow W W') : Below W.heap.size W W' := ⟨g.os, g.tape, g.output, g.size, g.old⟩

section post
variable {H : Type} {enc : TypeId × Value → H} {P : Program}

/-- types that read again -/
def Reads (P : Program) (ts : List TypeId) : Bool := laidOutB P && ts.all fun t => P.readableRec t && decide (t < P.types.size)

theorem trodAll_grow (hl : laidOutB P = true) {W W' : World} (g : Grow W W') {sp : Nat → Bool} : ∀ {ts : List TypeId} {vs : List Value} {ds : List (DataW H)} {ps : List MemPlace}, (ts.all fun t => P.readableRec t && decide (t < P.types.size)) = true →
    DataW.TrodAll enc P W 0 (fun _ => true) true ts vs ds ps → (∀ p ∈ ps, p.block < W.heap.size) → (∀ p ∈ ps, sp p.block = true) → DataW.TrodAll enc P W' 0 sp true ts vs ds ps
  | [], [], [], ps, _, h, _, _ => h
  | [], _ :: _, _, _, _, h, _, _ => h.elim
  | [], [], _ :: _, _, _, h, _, _ => h.elim
  | _ :: _, [], _, _, _, h, _, _ => h.elim
  | _ :: _, _ :: _, [], _, _, h, _, _ => h.elim
  | t :: ts, v :: vs, d :: ds, ps, ht, h, hlt, hsp => by
    obtain ⟨p, q, hd, hr, rfl⟩ := h
    simp only [List.all_cons, Bool.and_eq_true, decide_eq_true_eq] at ht
    exact ⟨p, q, WideElems.Trod_stays hl ht.1.1 ht.1.2 hd (fun x hx => (below g).same (hlt x (by simp [hx]))) (fun x hx => hsp x (by simp [hx])),
      trodAll_grow hl g ht.2 hr (fun x hx => hlt x (by simp [hx])) (fun x hx => hsp x (by simp [hx])), rfl⟩

theorem post_true {f : Func} {s : ChangeSpec} {W W' : World} {args : Array Value} {ds : List (DataW H)} {before : List MemPlace} {tb : TypeId}
    (hreads : Reads P f.params.toList = true) (hvars : s.vars = []) (hfn : s.fn H ds = { results := [.lit (.bool true)], args := ds }) (hrt : f.resultTypes = #[tb]) (htb : P.underlying tb = some .bool)
    (hW : DataW.Whole enc P f.params.toList s.vars false W args.toList ds [] before) (g : Grow W W') : s.post enc P f false true false false W args (.bool true) W' := by
  unfold Reads at hreads
  rw [Bool.and_eq_true] at hreads
  have hW0 := hW
  obtain ⟨p, q, hA, hV, rfl, hfz, hnd⟩ := hW
  rw [hvars] at hV
  obtain ⟨_, rfl⟩ := trodVars_none hV
  have hlt : ∀ x ∈ p ++ [], x.block < W.heap.size := fun x hx => by simpa using hW0.lt x hx
  have hfn' : s.fn H (ds ++ []) = { results := [.lit (.bool true)], args := ds } := by rw [List.append_nil]; exact hfn
  refine ⟨ds, [], p ++ [], [], p ++ [], [], hW0, ?_, ?_, ?_, (below g).frame _, fun h => by cases h⟩
  · rw [hfn', hrt]; exact trodAll_cons_mk (shut_bool htb _) trodAll_mk0
  · rw [hfn']
    rw [List.append_nil] at hlt ⊢
    exact trodAll_grow hreads.1 g hreads.2 hA hlt (fun x hx => by simpa using hlt x hx)
  · rw [hfn', hvars]; exact rfl
end post

/-- what a list of arguments is, abstractly, with blocks from the i-th on -/
def Opened (W : World) (i : Nat) (vs : List Value) (avs : List AV) (K : Know) : Prop :=
  ∃ ρ : List (Option Ref), ρ.length = K.length ∧ ∀ β : Env, (∀ j, j < ρ.length → β (i + j) = (ρ[j]?).join) →
    (∀ j b, K.at j = some b → b.own = false ∧ b.holds β W (i + j) ∧ ∀ r, β (i + j) = some r → r.blk < W.heap.size) ∧ allC β avs vs

theorem Opened.nil {W : World} {i : Nat} : Opened W i [] [] [] := ⟨[], rfl, fun β _ => ⟨fun j b h => by simp [Know.at] at h, rfl⟩⟩

theorem allC_app {β : Env} : ∀ {a b : List AV} {x y : List Value}, allC β a x → allC β b y → allC β (a ++ b) (x ++ y)
  | [], _, _, _, h, h' => by cases h; exact h'
  | _ :: _, _, _, _, ⟨v, r, hv, hc, hr⟩, h' => by subst hv; exact ⟨v, _, rfl, hc, allC_app hr h'⟩

theorem Opened.app {W : World} {i : Nat} {vs vs' : List Value} {avs avs' : List AV} {K K' : Know} (h : Opened W i vs avs K) (h' : Opened W (i + K.length) vs' avs' K') : Opened W i (vs ++ vs') (avs ++ avs') (K ++ K') := by
  obtain ⟨ρ, hl, hρ⟩ := h
  obtain ⟨ρ', hl', hρ'⟩ := h'
  refine ⟨ρ ++ ρ', by simp [hl, hl'], fun β hβ => ?_⟩
  obtain ⟨h1, h2⟩ := hρ β fun j hj => by rw [hβ j (by simp; omega), List.getElem?_append_left hj]
  obtain ⟨h3, h4⟩ := hρ' β fun j hj => by
    rw [Nat.add_assoc, hβ (K.length + j) (by simp; omega), List.getElem?_append_right (by omega)]
    congr 2; omega
  refine ⟨fun j b hb => ?_, allC_app h2 h4⟩
  by_cases hj : j < K.length
  · refine h1 j b ?_
    unfold Know.at at hb ⊢; rwa [List.getElem?_append_left hj] at hb
  · have := h3 (j - K.length) b (by unfold Know.at at hb ⊢; rwa [List.getElem?_append_right (by omega)] at hb)
    rw [show i + K.length + (j - K.length) = i + j from by omega] at this
    exact this

theorem Opened.rel {W : World} {vs : List Value} {avs : List AV} {K : Know} (h : Opened W 0 vs avs K) : ∃ β : Env, RelW W [] β K W ∧ allC β avs vs := by
  obtain ⟨ρ, hl, hρ⟩ := h
  obtain ⟨h1, h2⟩ := hρ (fun j => (ρ[j]?).join) fun j hj => by rw [Nat.zero_add]
  refine ⟨_, RelW.ofRead fun j b hj => ?_, h2⟩
  have := h1 j b hj
  rw [Nat.zero_add] at this; exact this

/-- a value without places -/
theorem Opened.val {W : World} {i : Nat} {v : Value} {x : V1} (h : ∀ β : Env, x.con β v) : Opened W i [v] [.o x] [] :=
  ⟨[], rfl, fun β _ => ⟨fun j b hb => by simp [Know.at] at hb, ⟨v, [], rfl, h β, rfl⟩⟩⟩

/-- a slice of integers -/
theorem Opened.sl {W : World} {i : Nat} {k : IntKind} {a0 : Option Addr} {len cap : Nat} {L : List Int} (hL : L.length = len) (hlc : len ≤ cap)
    (hc : 0 < cap → ∃ b off arr ty fr, a0 = some ⟨b, off, none⟩ ∧ W.heap[b]? = some (.cells arr ty fr) ∧ off + len ≤ arr.size ∧ ∀ i x, L[i]? = some x → arr[off + i]? = some (.int k x)) :
    Opened W i [.slice a0 len cap] [.o (.a (.sl i 0 len cap))] [some ⟨false, [.ints k len L]⟩] := by
  have hbk : ∀ j (bk : Blk), Know.at [some ⟨false, [.ints k len L]⟩] j = some bk → j = 0 ∧ bk = ⟨false, [.ints k len L]⟩ := by
    intro j bk hj
    match j, hj with
    | 0, hj => exact ⟨rfl, (Option.some.inj hj).symm⟩
    | j + 1, hj => simp [Know.at] at hj
  by_cases h0 : 0 < cap
  · obtain ⟨b, off, arr, ty, fr, rfl, hh, hs, hx⟩ := hc h0
    have hlt : b < W.heap.size := (Array.getElem?_eq_some_iff.1 hh).1
    refine ⟨[some ⟨b, off, arr.size⟩], rfl, fun β hβ => ?_⟩
    have hb := hβ 0 (by simp)
    rw [Nat.add_zero] at hb
    have hb : β i = some ⟨b, off, arr.size⟩ := hb
    refine ⟨fun j bk hj => ?_, _, [], rfl, ⟨_, rfl, hlc, fun _ => ⟨_, hb, rfl⟩⟩, rfl⟩
    obtain ⟨rfl, rfl⟩ := hbk j bk hj
    rw [Nat.add_zero]
    refine ⟨rfl, ⟨L.map (Value.int k), ⟨_, [], by simp, ⟨hL, rfl⟩, rfl⟩, .inr ⟨_, arr, ty, fr, hb, hh, rfl, by simp; omega, ?_, fun h => by cases h⟩⟩, fun r hr => by rw [hb] at hr; cases hr; exact hlt⟩
    intro i v hv
    rw [List.getElem?_map, Option.map_eq_some_iff] at hv
    obtain ⟨x, hx', rfl⟩ := hv
    exact hx i x hx'
  · have hn : L = [] := List.length_eq_zero_iff.1 (by omega)
    subst hn
    have hl0 : len = 0 := by omega
    subst hl0
    refine ⟨[none], rfl, fun β hβ => ?_⟩
    have hb : β i = none := hβ 0 (by simp)
    refine ⟨fun j bk hj => ?_, _, [], rfl, ⟨_, rfl, hlc, fun h => absurd h h0⟩, rfl⟩
    obtain ⟨rfl, rfl⟩ := hbk j bk hj
    rw [Nat.add_zero]
    exact ⟨rfl, ⟨[], ⟨[], [], rfl, ⟨rfl, rfl⟩, rfl⟩, .inl ⟨rfl, .inl rfl⟩⟩, fun r hr => by rw [hb] at hr; cases hr⟩

section args
variable {H : Type} {enc : TypeId × Value → H} {P : Program} {W : World} {base : Nat} {sp : Nat → Bool}

/-- an argument int -/
theorem int_arg {t : TypeId} {k : IntKind} {v : Value} {d : DataW H} {p : List MemPlace} (ht : P.underlying t = some (.int k)) (hval : Value.okWide P W .any base t v) (h : DataW.Trod enc P W 0 (fun _ => true) true t v d p) :
    ∃ n : Int, (Lit.int k n).wf = true ∧ ∀ i, Opened W i [v] [.o (.a (.i k n))] [] := by
  obtain ⟨n, rfl, _, _, hw⟩ := open_int ht hval h
  exact ⟨n, hw, fun i => Opened.val fun β => rfl⟩

/-- an argument [n]int -/
theorem arr_arg {t e : TypeId} {n : Nat} {k : IntKind} {v : Value} {d : DataW H} {p : List MemPlace} (ht : P.underlying t = some (.array n e)) (he : P.underlying e = some (.int k)) (hc : P.cellsOf e = 1) (hn : P.cellsOf t = n)
    (hval : Value.okWide P W .any base t v) (h : DataW.Trod enc P W 0 (fun _ => true) true t v d p) :
    ∃ S : List Int, S.length = n ∧ (∀ x ∈ S, (Lit.int k x).wf = true) ∧ ∀ i, Opened W i [v] [.o (.g [.ints k n S])] [] := by
  have hv : ∃ cs : Array Value, v = .agg cs ∧ cs.size = n := by
    unfold Value.okWide at hval
    rw [ht] at hval
    obtain ⟨cs, rfl, hsz, _⟩ := hval
    exact ⟨cs, rfl, hsz.trans hn⟩
  obtain ⟨cs, rfl, hsz⟩ := hv
  obtain ⟨fuel, hf⟩ := h
  obtain ⟨xs, m, rfl, _, hlen, hxl, hel⟩ := DataW.trod_array ht hf
  have hcells : (Value.agg cs).cells.toList = cs.toList := rfl
  rw [hcells] at hel
  have key : ∀ j, j < n → ∃ z : Int, cs.toList[j]? = some (.int k z) ∧ (Lit.int k z).wf = true := by
    intro j hj
    have h1 := hel j hj
    rw [hc, Nat.mul_one] at h1
    have hjx : j < xs.length := by omega
    rw [List.getElem?_eq_getElem hjx] at h1
    obtain ⟨z, hz, _, hw⟩ := DataW.trod_int he h1
    refine ⟨z, ?_, hw⟩
    have := congrArg (·[0]?) hz
    simpa [List.getElem?_take, List.getElem?_drop] using this
  have hS : ∃ S : List Int, S.length = n ∧ cs.toList = S.map (Value.int k) ∧ ∀ x ∈ S, (Lit.int k x).wf = true := by
    have hl : cs.toList.length = n := by simpa using hsz
    revert key hl
    generalize cs.toList = l
    clear hel hxl hlen hsz hf hcells hval hn ht
    intro key hl
    induction l generalizing n with
    | nil => exact ⟨[], hl, rfl, by simp⟩
    | cons a l ih =>
      cases n with
      | zero => cases hl
      | succ n =>
        obtain ⟨z, hz, hw⟩ := key 0 (by omega)
        obtain ⟨S, h1, h2, h3⟩ := ih (n := n) (fun j hj => by simpa using key (j + 1) (by omega)) (by simpa using hl)
        simp only [List.getElem?_cons_zero, Option.some.injEq] at hz
        exact ⟨z :: S, by simp [h1], by simp [hz, h2], by simpa using ⟨hw, h3⟩⟩
  obtain ⟨S, h1, h2, h3⟩ := hS
  refine ⟨S, h1, h3, fun i => Opened.val fun β => ⟨cs.toList, by simp, _, [], by simp, ⟨h1, h2⟩, rfl⟩⟩
end args

/-- a law whose body answers true -/
theorem calls_true {P : Program} {T : Tab} (hT : TabOk P T) {f : FuncId} {fn : Func} (hf : P.funcs[f]? = some fn) {W : World} {vs : List Value} {avs : List AV} {K : Know} (ho : Opened W 0 vs avs K)
    (h : ∀ β : Env, Body P T fn ⟨W, [], K.length, β⟩ avs K fun ys _ => ys = [.a (.b true)]) :
    Calls P f vs.toArray W fun e W' => e = .returned (.bool true) ∧ Grow W W' := by
  obtain ⟨β, hrel, hall⟩ := ho.rel
  refine Calls.mono (calls_of_body hT hf hall hrel (h β)) fun e W' h => ?_
  obtain ⟨xs, K, v, β', hx, rfl, hv, hr, _⟩ := h
  subst hx
  have hv : [v] = [Value.bool true] := hv
  simp only [List.cons.injEq, and_true] at hv
  subst hv
  exact ⟨rfl, hr.toGrow⟩
end Go.Proofs.Ytcpoldghkiiggaa.R

/- Arguments that are structs: opened cell by cell. -/
namespace Go.Proofs.Ytcpoldghkiiggaa.R
open Go Go.Proofs Go.ChangeShapes Go.WideShapes Go.ChangeAt Go.RowKit Go.Proofs.Ytcpoldghkiiggaa.X
set_option linter.unusedVariables false

/-- a row of cells, abstractly, with blocks from the i-th on -/
def OpenC (W : World) (i : Nat) (cs : List Value) (l : List Atom) (K : Know) : Prop :=
  ∃ ρ : List (Option Ref), ρ.length = K.length ∧ ∀ β : Env, (∀ j, j < ρ.length → β (i + j) = (ρ[j]?).join) →
    (∀ j b, K.at j = some b → b.own = false ∧ b.holds β W (i + j) ∧ ∀ r, β (i + j) = some r → r.blk < W.heap.size) ∧ cons β l cs

theorem OpenC.nil {W : World} {i : Nat} : OpenC W i [] [] [] := ⟨[], rfl, fun β _ => ⟨fun j b h => by simp [Know.at] at h, rfl⟩⟩

theorem cons_app {β : Env} : ∀ {a b : List Atom} {x y : List Value}, cons β a x → cons β b y → cons β (a ++ b) (x ++ y)
  | [], _, _, _, h, h' => by cases h; exact h'
  | _ :: _, _, _, _, ⟨v, r, hv, hc, hr⟩, h' => by subst hv; exact ⟨v, _, by rw [List.append_assoc], hc, cons_app hr h'⟩

theorem OpenC.app {W : World} {i : Nat} {vs vs' : List Value} {l l' : List Atom} {K K' : Know} (h : OpenC W i vs l K) (h' : OpenC W (i + K.length) vs' l' K') : OpenC W i (vs ++ vs') (l ++ l') (K ++ K') := by
  obtain ⟨ρ, hl, hρ⟩ := h
  obtain ⟨ρ', hl', hρ'⟩ := h'
  refine ⟨ρ ++ ρ', by simp [hl, hl'], fun β hβ => ?_⟩
  obtain ⟨h1, h2⟩ := hρ β fun j hj => by rw [hβ j (by simp; omega), List.getElem?_append_left hj]
  obtain ⟨h3, h4⟩ := hρ' β fun j hj => by
    rw [Nat.add_assoc, hβ (K.length + j) (by simp; omega), List.getElem?_append_right (by omega)]
    congr 2; omega
  refine ⟨fun j b hb => ?_, cons_app h2 h4⟩
  by_cases hj : j < K.length
  · refine h1 j b ?_
    unfold Know.at at hb ⊢; rwa [List.getElem?_append_left hj] at hb
  · have := h3 (j - K.length) b (by unfold Know.at at hb ⊢; rwa [List.getElem?_append_right (by omega)] at hb)
    rw [show i + K.length + (j - K.length) = i + j from by omega] at this
    exact this

theorem OpenC.agg {W : World} {i : Nat} {cs : Array Value} {l : List Atom} {K : Know} (h : OpenC W i cs.toList l K) : Opened W i [.agg cs] [.o (.g l)] K := by
  obtain ⟨ρ, hl, hρ⟩ := h
  refine ⟨ρ, hl, fun β hβ => ?_⟩
  obtain ⟨h1, h2⟩ := hρ β hβ
  exact ⟨h1, _, [], rfl, ⟨cs.toList, by simp, h2⟩, rfl⟩

theorem OpenC.one {W : World} {i : Nat} {v : Value} {x : Atom} {K : Know} (h : OpenC W i [v] [x] K) : Opened W i [v] [.o (.a x)] K := by
  obtain ⟨ρ, hl, hρ⟩ := h
  refine ⟨ρ, hl, fun β hβ => ?_⟩
  obtain ⟨h1, x, y, h2, h3, h4⟩ := hρ β hβ
  cases h4
  rw [List.append_nil] at h2
  subst h2
  exact ⟨h1, _, [], rfl, h3, rfl⟩

/-- cells without places -/
theorem OpenC.val {W : World} {i : Nat} {vs : List Value} {l : List Atom} (h : ∀ β : Env, cons β l vs) : OpenC W i vs l [] :=
  ⟨[], rfl, fun β _ => ⟨fun j b hb => by simp [Know.at] at hb, h β⟩⟩

section args
variable {H : Type} {enc : TypeId × Value → H} {P : Program} {W : World} {base : Nat} {sp : Nat → Bool}

theorem OpenC.ints {i : Nat} {k : IntKind} {n : Nat} {S : List Int} (h : S.length = n) : OpenC W i (S.map (Value.int k)) [.ints k n S] [] :=
  OpenC.val fun β => ⟨_, [], by simp, ⟨h, rfl⟩, rfl⟩

theorem OpenC.int {i : Nat} {k : IntKind} {n : Int} : OpenC W i [.int k n] [.i k n] [] := OpenC.val fun β => ⟨_, [], by simp, rfl, rfl⟩

end args
end Go.Proofs.Ytcpoldghkiiggaa.R

/-
  FOR A PROOF OF AN '..UptoSaid': WHAT THE BOUND GIVES. Copy it as <Name>Bulk.lean (put your seat's Name for Ytcpoldghkiiggaa, the bound of 'uptoSmall' for 1048576), name it in GOCLAIM.json's 'order' behind <Name>Rows. By an AI agent, Sun Nov 15 2026. No person has read it. No macro, syntax, notation, axiom, sorry.
-/
namespace Go.Proofs.Ytcpoldghkiiggaa.bulks

theorem append {H : Type} (l r : List (DataW H)) : Rows.uptoBulkAll (l ++ r) = Rows.uptoBulkAll l + Rows.uptoBulkAll r := by
  induction l with
  | nil => simp [Rows.uptoBulkAll]
  | cons x l ih => simp only [List.cons_append, Rows.uptoBulkAll, ih]; omega

end Go.Proofs.Ytcpoldghkiiggaa.bulks

