/- Printed by a tool of this session. -/
import Derived.Test.YtcpoldghkiiggaaNW
import Derived.KernelRfl
namespace Go.Proofs.Ytcpoldghkiiggaa.X
open Go Go.Proofs
set_option linter.unusedVariables false
set_option maxRecDepth 100000
theorem teNX_3 : TEOk Try.prog 3 ⟨.int .i64, 1, 8, [.i .i64 (0 : Int)], false⟩ :=
  TEOk.of Try.underlying3 (i := Try.t3) (by kernel_rfl) rfl rfl rfl (by kernel_rfl) (fun h => by cases h) (by kernel_rfl)
theorem teNX_62 : TEOk Try.prog 62 ⟨.int .u64, 1, 8, [.i .u64 (0 : Int)], false⟩ :=
  TEOk.of Try.underlying62 (i := Try.t62) (by kernel_rfl) rfl rfl rfl (by kernel_rfl) (fun h => by cases h) (by kernel_rfl)
theorem teNX_109 : TEOk Try.prog 109 ⟨.int .u32, 1, 4, [.i .u32 (0 : Int)], false⟩ :=
  TEOk.of Try.underlying109 (i := Try.t109) (by kernel_rfl) rfl rfl rfl (by kernel_rfl) (fun h => by cases h) (by kernel_rfl)
theorem teNX_111 : TEOk Try.prog 111 ⟨.array 8 109, 8, 32, [.ints .u32 (8 : Nat) ([0, 0, 0, 0, 0, 0, 0, 0] : List Int)], true⟩ :=
  TEOk.of Try.underlying111 (i := Try.t111) (by kernel_rfl) rfl rfl rfl (by kernel_rfl) (fun _ => Try.eqGuardType111) (by kernel_rfl)
theorem teNX_113 : TEOk Try.prog 113 ⟨.slice 109, 1, 24, [.raw (.slice none 0 0)], false⟩ :=
  TEOk.of Try.underlying113 (i := Try.t113) (by kernel_rfl) rfl rfl rfl (by kernel_rfl) (fun h => by cases h) (by kernel_rfl)
noncomputable def tabNX : List (Nat × TE) := [(3, ⟨.int .i64, 1, 8, [.i .i64 (0 : Int)], false⟩), (62, ⟨.int .u64, 1, 8, [.i .u64 (0 : Int)], false⟩), (109, ⟨.int .u32, 1, 4, [.i .u32 (0 : Int)], false⟩), (111, ⟨.array 8 109, 8, 32, [.ints .u32 (8 : Nat) ([0, 0, 0, 0, 0, 0, 0, 0] : List Int)], true⟩), (113, ⟨.slice 109, 1, 24, [.raw (.slice none 0 0)], false⟩)]
theorem tabOkNX : TabOk Try.prog (tabOf tabNX) := (tabOf_cons teNX_3 (tabOf_cons teNX_62 (tabOf_cons teNX_109 (tabOf_cons teNX_111 (tabOf_cons teNX_113 tabOf_nil)))))

theorem twA_pure (S : List Int) (b : Int) (h0 : (Wd8 S)) (h1 : ((0 : Int) ≤ b)) (h2 : (b ≤ (1 : Int))) : PureC Try.prog 130 [.g [.ints .u32 (8 : Nat) S], .a (.i .u32 b)] [.g [.ints .u32 (8 : Nat) (W8 (dbl (V8 S) b))]] :=
  PureC.of_body tabOkNU Try.func130 rfl rfl fun w => tw_can S b h0 h1 h2 w

def gam23 : Gam := gpure 130 (fun args => match args with | [.o (.g [.ints .u32 (8 : Nat) S]), .o (.a (.i .u32 b))] => some (some ((Wd8 S) ∧ ((0 : Int) ≤ b) ∧ (b ≤ (1 : Int))), [.g [.ints .u32 (8 : Nat) (W8 (dbl (V8 S) b))]]) | _ => none) gam22
theorem gam23_ok : GamOk Try.prog gam23 := gpure_ok gam22_ok Try.call130 (by
  intro args vc xs h hv
  split at h
  · simp only [Option.some.injEq, Prod.mk.injEq] at h; obtain ⟨rfl, rfl⟩ := h; exact ⟨_, by rfl, twA_pure _ _ hv.1 hv.2.1 hv.2.2⟩
  · simp at h)

theorem miA_pure (S : List Int) (T : List Int) (h0 : (Wd8 S)) (h1 : (Wd8 T)) : PureC Try.prog 96 [.g [.ints .u32 (8 : Nat) S], .g [.ints .u32 (8 : Nat) T]] [.g [.ints .u32 (8 : Nat) (W8 (difR (V8 S) (V8 T)))]] :=
  PureC.of_body tabOkNU Try.func96 rfl rfl fun w => mi_can S T h0 h1 w

def gam24 : Gam := gpure 96 (fun args => match args with | [.o (.g [.ints .u32 (8 : Nat) S]), .o (.g [.ints .u32 (8 : Nat) T])] => some (some ((Wd8 S) ∧ (Wd8 T)), [.g [.ints .u32 (8 : Nat) (W8 (difR (V8 S) (V8 T)))]]) | _ => none) gam23
theorem gam24_ok : GamOk Try.prog gam24 := gpure_ok gam23_ok Try.call96 (by
  intro args vc xs h hv
  split at h
  · simp only [Option.some.injEq, Prod.mk.injEq] at h; obtain ⟨rfl, rfl⟩ := h; exact ⟨_, by rfl, miA_pure _ _ hv.1 hv.2⟩
  · simp at h)

theorem be8_pure (S : List Int) (T : List Int) (h0 : (Wd8 S)) (h1 : (Wd8 T)) : PureC Try.prog 99 [.g [.ints .u32 (8 : Nat) S], .g [.ints .u32 (8 : Nat) T]] [.a (.b (decide ((V8 S) < (V8 T))))] :=
  PureC.of_body tabOkNU Try.func99 rfl rfl fun w => be_can S T h0 h1 w

def gam25 : Gam := gpure 99 (fun args => match args with | [.o (.g [.ints .u32 (8 : Nat) S]), .o (.g [.ints .u32 (8 : Nat) T])] => some (some ((Wd8 S) ∧ (Wd8 T)), [.a (.b (decide ((V8 S) < (V8 T))))]) | _ => none) gam24
theorem gam25_ok : GamOk Try.prog gam25 := gpure_ok gam24_ok Try.call99 (by
  intro args vc xs h hv
  split at h
  · simp only [Option.some.injEq, Prod.mk.injEq] at h; obtain ⟨rfl, rfl⟩ := h; exact ⟨_, by rfl, be8_pure _ _ hv.1 hv.2⟩
  · simp at h)

theorem bkR_pure (S : List Int) (h0 : (Wd8 S)) : PureC Try.prog 76 [.g [.ints .u32 (8 : Nat) S]] [.g [.ints .u8 (32 : Nat) (B32 (V8 S))]] :=
  PureC.of_body tabOkNU Try.func76 rfl rfl fun w => bkR_can S h0 w

def gam26 : Gam := gpure 76 (fun args => match args with | [.o (.g [.ints .u32 (8 : Nat) S])] => some (some ((Wd8 S)), [.g [.ints .u8 (32 : Nat) (B32 (V8 S))]]) | _ => none) gam25
theorem gam26_ok : GamOk Try.prog gam26 := gpure_ok gam25_ok Try.call76 (by
  intro args vc xs h hv
  split at h
  · simp only [Option.some.injEq, Prod.mk.injEq] at h; obtain ⟨rfl, rfl⟩ := h; exact ⟨_, by rfl, bkR_pure _ hv⟩
  · simp at h)

def moO_mk (n : Nat) (nm : Nat) (l : List Int) (cap0 : Nat) (ko : Nat) (sko : Unit) : St := ⟨sparse 37 [(0, .o (.a (.sl 0 (0 : Nat) n cap0))), (2, .o (.a (.p 1 0))), (3, .o (.a (.p 2 0))), (4, .o (.a (.p 3 0))), (5, .o (.a (.i .i64 ((((n : Nat) : Int) - (1 : Int)) - ((ko : Nat) : Int))))), (8, .o (.a (.sl 0 (0 : Nat) n cap0))), (10, .o (.a (.i .i64 (IntKind.i64.wrap (((n : Nat) : Int) - (1 : Int))))))], [some ⟨false, [.ints .u32 nm l]⟩, some ⟨true, [.ints .u32 (8 : Nat) ([0, 0, 0, 0, 0, 0, 0, 0] : List Int)]⟩, some ⟨true, [.ints .u32 (8 : Nat) (W8 (rO l n ko))]⟩, some ⟨true, [.ints .u32 (8 : Nat) ([1559614445, 1477600026, 2734136534, 350157278, 0, 0, 0, 268435456] : List Int)]⟩]⟩

def moI_mk (n : Nat) (nm : Nat) (l : List Int) (cap0 : Nat) (ko : Nat) (sko : Unit) (k : Nat) (s : Unit) : St := ⟨sparse 37 [(0, .o (.a (.sl 0 (0 : Nat) n cap0))), (2, .o (.a (.p 1 0))), (3, .o (.a (.p 2 0))), (4, .o (.a (.p 3 0))), (5, .o (.a (.i .i64 ((((n : Nat) : Int) - (1 : Int)) - ((ko : Nat) : Int))))), (6, .o (.a (.i .i64 ((31 : Int) - ((k : Nat) : Int))))), (8, .o (.a (.sl 0 (0 : Nat) n cap0))), (10, .o (.a (.i .i64 (IntKind.i64.wrap (((n : Nat) : Int) - (1 : Int)))))), (11, .o (.a (.i .i64 ((((n : Nat) : Int) - (1 : Int)) - ((ko : Nat) : Int))))), (12, .o (.a (.b (decide (((((n : Nat) : Int) - (1 : Int)) - ((ko : Nat) : Int)) ≥ (0 : Int))))))], [some ⟨false, [.ints .u32 nm l]⟩, some ⟨true, [.ints .u32 (8 : Nat) ([0, 0, 0, 0, 0, 0, 0, 0] : List Int)]⟩, some ⟨true, [.ints .u32 (8 : Nat) (W8 (rI (List.getD l (Int.toNat ((((n : Nat) : Int) - (1 : Int)) - ((ko : Nat) : Int))) 0) (rO l n ko) k))]⟩, some ⟨true, [.ints .u32 (8 : Nat) ([1559614445, 1477600026, 2734136534, 350157278, 0, 0, 0, 268435456] : List Int)]⟩]⟩

def moI_step (k : Nat) (s : Unit) : Unit :=
  ()

set_option maxHeartbeats 1000000 in
theorem moI_round_0 (n : Nat) (nm : Nat) (l : List Int) (cap0 : Nat) (ko : Nat) (sko : Unit) (h0 : (nm = n)) (h1 : (n < (70368744177664 : Nat))) (hc0 : n ≤ cap0) (hl0_0 : List.length l = nm) (hko : ko < n) (w : World) (β : Env) (k : Nat) (hk : k < (32 : Nat)) (s : Unit) (ha : V8 (W8 (dbl (V8 (W8 (rI (List.getD l (Int.toNat (((n : Nat) : Int) - (1 : Int) - ((ko : Nat) : Int))) 0) (rO l n ko) k))) (bitX (List.getD l (Int.toNat (((n : Nat) : Int) - (1 : Int) - ((ko : Nat) : Int))) 0) k))) < V8 OR8) : Run Try.prog ⟨w, [], 1, β⟩ (loopB Try.f77 2) (moI_mk n nm l cap0 ko sko k s) (To ⟨w, [], 1, β⟩ .normal (moI_mk n nm l cap0 ko sko (k + 1) (moI_step k s))) := by
  have e0 : (W8 (dbl (V8 (W8 (rI (List.getD l (Int.toNat ((((n : Nat) : Int) - (1 : Int)) - ((ko : Nat) : Int))) 0) (rO l n ko) k))) (bits2 .and .u32 (shr .u32 (List.getD l (Int.toNat ((((n : Nat) : Int) - (1 : Int)) - ((ko : Nat) : Int))) 0) (IntKind.u64.wrap ((31 : Int) - ((k : Nat) : Int)))) (1 : Int)))) = (W8 (rI (List.getD l (Int.toNat ((((n : Nat) : Int) - (1 : Int)) - ((ko : Nat) : Int))) 0) (rO l n ko) (k + (1 : Nat)))) := (by first | (rw [wrapI (by omega) (by omega)]; omega) | (rw [rI_a ha]; rfl))
  have e1 : (IntKind.i64.wrap (((31 : Int) - ((k : Nat) : Int)) - (1 : Int))) = ((31 : Int) - (((k + (1 : Nat)) : Nat) : Int)) := (by first | (rw [wrapI (by omega) (by omega)]; omega) | (rw [rI_a ha]; rfl))
  have h := Run.of_outT (B := ⟨w, [], 1, β⟩) (Λ := noLam) (Ψ := noPsi) (fuel := 0) (ora := [true, false]) (c := (loopB Try.f77 2)) (st := (moI_mk n nm l cap0 ko sko k s)) (l := [.forget [0, 2, 3, 4, 5, 6, 8, 10, 11, 12] 4]) (s' := ⟨sparse 37 [(0, .o (.a (.sl 0 (0 : Nat) n cap0))), (2, .o (.a (.p 1 0))), (3, .o (.a (.p 2 0))), (4, .o (.a (.p 3 0))), (5, .o (.a (.i .i64 ((((n : Nat) : Int) - (1 : Int)) - ((ko : Nat) : Int))))), (6, .o (.a (.i .i64 (IntKind.i64.wrap (((31 : Int) - ((k : Nat) : Int)) - (1 : Int)))))), (8, .o (.a (.sl 0 (0 : Nat) n cap0))), (10, .o (.a (.i .i64 (IntKind.i64.wrap (((n : Nat) : Int) - (1 : Int)))))), (11, .o (.a (.i .i64 ((((n : Nat) : Int) - (1 : Int)) - ((ko : Nat) : Int))))), (12, .o (.a (.b (decide (((((n : Nat) : Int) - (1 : Int)) - ((ko : Nat) : Int)) ≥ (0 : Int))))))], [some ⟨false, [.ints .u32 nm l]⟩, some ⟨true, [.ints .u32 (8 : Nat) ([0, 0, 0, 0, 0, 0, 0, 0] : List Int)]⟩, some ⟨true, [.ints .u32 (8 : Nat) (W8 (dbl (V8 (W8 (rI (List.getD l (Int.toNat ((((n : Nat) : Int) - (1 : Int)) - ((ko : Nat) : Int))) 0) (rO l n ko) k))) (bits2 .and .u32 (shr .u32 (List.getD l (Int.toNat ((((n : Nat) : Int) - (1 : Int)) - ((ko : Nat) : Int))) 0) (IntKind.u64.wrap ((31 : Int) - ((k : Nat) : Int)))) (1 : Int))))]⟩, some ⟨true, [.ints .u32 (8 : Nat) ([1559614445, 1477600026, 2734136534, 350157278, 0, 0, 0, 268435456] : List Int)]⟩]⟩) (ex := .normal) mix tabOkNX gam26_ok
    (vc := [((!(decide ((V8 (W8 (dbl (V8 (W8 (rI (List.getD l (Int.toNat ((((n : Nat) : Int) - (1 : Int)) - ((ko : Nat) : Int))) 0) (rO l n ko) k))) (bits2 .and .u32 (shr .u32 (List.getD l (Int.toNat ((((n : Nat) : Int) - (1 : Int)) - ((ko : Nat) : Int))) 0) (IntKind.u64.wrap ((31 : Int) - ((k : Nat) : Int)))) (1 : Int))))) < (V8 ([1559614445, 1477600026, 2734136534, 350157278, 0, 0, 0, 268435456] : List Int))))) = false), ((Wd8 (W8 (dbl (V8 (W8 (rI (List.getD l (Int.toNat ((((n : Nat) : Int) - (1 : Int)) - ((ko : Nat) : Int))) 0) (rO l n ko) k))) (bits2 .and .u32 (shr .u32 (List.getD l (Int.toNat ((((n : Nat) : Int) - (1 : Int)) - ((ko : Nat) : Int))) 0) (IntKind.u64.wrap ((31 : Int) - ((k : Nat) : Int)))) (1 : Int))))) ∧ (Wd8 ([1559614445, 1477600026, 2734136534, 350157278, 0, 0, 0, 268435456] : List Int))), ((Wd8 (W8 (rI (List.getD l (Int.toNat ((((n : Nat) : Int) - (1 : Int)) - ((ko : Nat) : Int))) 0) (rO l n ko) k))) ∧ ((0 : Int) ≤ (bits2 .and .u32 (shr .u32 (List.getD l (Int.toNat ((((n : Nat) : Int) - (1 : Int)) - ((ko : Nat) : Int))) 0) (IntKind.u64.wrap ((31 : Int) - ((k : Nat) : Int)))) (1 : Int))) ∧ ((bits2 .and .u32 (shr .u32 (List.getD l (Int.toNat ((((n : Nat) : Int) - (1 : Int)) - ((ko : Nat) : Int))) 0) (IntKind.u64.wrap ((31 : Int) - ((k : Nat) : Int)))) (1 : Int)) ≤ (1 : Int))), ((0 : Int) ≤ (IntKind.u64.wrap ((31 : Int) - ((k : Nat) : Int)))), ((Int.toNat ((((n : Nat) : Int) - (1 : Int)) - ((ko : Nat) : Int))) < nm), (((0 : Int) ≤ ((((n : Nat) : Int) - (1 : Int)) - ((ko : Nat) : Int))) ∧ (((((n : Nat) : Int) - (1 : Int)) - ((ko : Nat) : Int)) < ((n : Nat) : Int))), ((decide (((31 : Int) - ((k : Nat) : Int)) ≥ (0 : Int))) = true)]) (by kernel_rfl)
    (AllP_cons (by show (!decide (V8 (W8 (dbl (V8 (W8 (rI (List.getD l (Int.toNat (((n : Nat) : Int) - (1 : Int) - ((ko : Nat) : Int))) 0) (rO l n ko) k))) (bitX (List.getD l (Int.toNat (((n : Nat) : Int) - (1 : Int) - ((ko : Nat) : Int))) 0) k))) < V8 OR8)) = false; rw [decide_eq_true ha]; rfl) (AllP_cons ⟨(by first | assumption | exact wd8_W8 _ | exact wd8_ord), (by first | assumption | exact wd8_W8 _ | exact wd8_ord)⟩ (AllP_cons ⟨(by first | assumption | exact wd8_W8 _ | exact wd8_ord), (bits2_nn rfl), (by first | exact (bit_01 _).1 | exact (bit_01 _).2)⟩ (AllP_cons (wrap_nn rfl) (AllP_cons (by first | omega | (simp (disch := omega) only [wrapI]; omega)) (AllP_cons ⟨(by first | omega | (simp (disch := omega) only [wrapI]; omega)), (by first | omega | (simp (disch := omega) only [wrapI]; omega))⟩ (AllP_cons (decide_eq_true (by first | omega | (simp (disch := omega) only [wrapI]; omega))) (AllP_nil))))))))
  rw [e0, e1] at h
  exact h

set_option maxHeartbeats 1000000 in
theorem moI_round_1 (n : Nat) (nm : Nat) (l : List Int) (cap0 : Nat) (ko : Nat) (sko : Unit) (h0 : (nm = n)) (h1 : (n < (70368744177664 : Nat))) (hc0 : n ≤ cap0) (hl0_0 : List.length l = nm) (hko : ko < n) (w : World) (β : Env) (k : Nat) (hk : k < (32 : Nat)) (s : Unit) (ha : ¬ V8 (W8 (dbl (V8 (W8 (rI (List.getD l (Int.toNat (((n : Nat) : Int) - (1 : Int) - ((ko : Nat) : Int))) 0) (rO l n ko) k))) (bitX (List.getD l (Int.toNat (((n : Nat) : Int) - (1 : Int) - ((ko : Nat) : Int))) 0) k))) < V8 OR8) : Run Try.prog ⟨w, [], 1, β⟩ (loopB Try.f77 2) (moI_mk n nm l cap0 ko sko k s) (To ⟨w, [], 1, β⟩ .normal (moI_mk n nm l cap0 ko sko (k + 1) (moI_step k s))) := by
  have e0 : (W8 (difR (V8 (W8 (dbl (V8 (W8 (rI (List.getD l (Int.toNat ((((n : Nat) : Int) - (1 : Int)) - ((ko : Nat) : Int))) 0) (rO l n ko) k))) (bits2 .and .u32 (shr .u32 (List.getD l (Int.toNat ((((n : Nat) : Int) - (1 : Int)) - ((ko : Nat) : Int))) 0) (IntKind.u64.wrap ((31 : Int) - ((k : Nat) : Int)))) (1 : Int))))) (V8 ([1559614445, 1477600026, 2734136534, 350157278, 0, 0, 0, 268435456] : List Int)))) = (W8 (rI (List.getD l (Int.toNat ((((n : Nat) : Int) - (1 : Int)) - ((ko : Nat) : Int))) 0) (rO l n ko) (k + (1 : Nat)))) := (by first | (rw [wrapI (by omega) (by omega)]; omega) | (rw [rI_b ha]; rfl))
  have e1 : (IntKind.i64.wrap (((31 : Int) - ((k : Nat) : Int)) - (1 : Int))) = ((31 : Int) - (((k + (1 : Nat)) : Nat) : Int)) := (by first | (rw [wrapI (by omega) (by omega)]; omega) | (rw [rI_b ha]; rfl))
  have h := Run.of_outT (B := ⟨w, [], 1, β⟩) (Λ := noLam) (Ψ := noPsi) (fuel := 0) (ora := [true, true]) (c := (loopB Try.f77 2)) (st := (moI_mk n nm l cap0 ko sko k s)) (l := [.forget [0, 2, 3, 4, 5, 6, 8, 10, 11, 12] 4]) (s' := ⟨sparse 37 [(0, .o (.a (.sl 0 (0 : Nat) n cap0))), (2, .o (.a (.p 1 0))), (3, .o (.a (.p 2 0))), (4, .o (.a (.p 3 0))), (5, .o (.a (.i .i64 ((((n : Nat) : Int) - (1 : Int)) - ((ko : Nat) : Int))))), (6, .o (.a (.i .i64 (IntKind.i64.wrap (((31 : Int) - ((k : Nat) : Int)) - (1 : Int)))))), (8, .o (.a (.sl 0 (0 : Nat) n cap0))), (10, .o (.a (.i .i64 (IntKind.i64.wrap (((n : Nat) : Int) - (1 : Int)))))), (11, .o (.a (.i .i64 ((((n : Nat) : Int) - (1 : Int)) - ((ko : Nat) : Int))))), (12, .o (.a (.b (decide (((((n : Nat) : Int) - (1 : Int)) - ((ko : Nat) : Int)) ≥ (0 : Int))))))], [some ⟨false, [.ints .u32 nm l]⟩, some ⟨true, [.ints .u32 (8 : Nat) ([0, 0, 0, 0, 0, 0, 0, 0] : List Int)]⟩, some ⟨true, [.ints .u32 (8 : Nat) (W8 (difR (V8 (W8 (dbl (V8 (W8 (rI (List.getD l (Int.toNat ((((n : Nat) : Int) - (1 : Int)) - ((ko : Nat) : Int))) 0) (rO l n ko) k))) (bits2 .and .u32 (shr .u32 (List.getD l (Int.toNat ((((n : Nat) : Int) - (1 : Int)) - ((ko : Nat) : Int))) 0) (IntKind.u64.wrap ((31 : Int) - ((k : Nat) : Int)))) (1 : Int))))) (V8 ([1559614445, 1477600026, 2734136534, 350157278, 0, 0, 0, 268435456] : List Int))))]⟩, some ⟨true, [.ints .u32 (8 : Nat) ([1559614445, 1477600026, 2734136534, 350157278, 0, 0, 0, 268435456] : List Int)]⟩]⟩) (ex := .normal) mix tabOkNX gam26_ok
    (vc := [((Wd8 (W8 (dbl (V8 (W8 (rI (List.getD l (Int.toNat ((((n : Nat) : Int) - (1 : Int)) - ((ko : Nat) : Int))) 0) (rO l n ko) k))) (bits2 .and .u32 (shr .u32 (List.getD l (Int.toNat ((((n : Nat) : Int) - (1 : Int)) - ((ko : Nat) : Int))) 0) (IntKind.u64.wrap ((31 : Int) - ((k : Nat) : Int)))) (1 : Int))))) ∧ (Wd8 ([1559614445, 1477600026, 2734136534, 350157278, 0, 0, 0, 268435456] : List Int))), ((!(decide ((V8 (W8 (dbl (V8 (W8 (rI (List.getD l (Int.toNat ((((n : Nat) : Int) - (1 : Int)) - ((ko : Nat) : Int))) 0) (rO l n ko) k))) (bits2 .and .u32 (shr .u32 (List.getD l (Int.toNat ((((n : Nat) : Int) - (1 : Int)) - ((ko : Nat) : Int))) 0) (IntKind.u64.wrap ((31 : Int) - ((k : Nat) : Int)))) (1 : Int))))) < (V8 ([1559614445, 1477600026, 2734136534, 350157278, 0, 0, 0, 268435456] : List Int))))) = true), ((Wd8 (W8 (dbl (V8 (W8 (rI (List.getD l (Int.toNat ((((n : Nat) : Int) - (1 : Int)) - ((ko : Nat) : Int))) 0) (rO l n ko) k))) (bits2 .and .u32 (shr .u32 (List.getD l (Int.toNat ((((n : Nat) : Int) - (1 : Int)) - ((ko : Nat) : Int))) 0) (IntKind.u64.wrap ((31 : Int) - ((k : Nat) : Int)))) (1 : Int))))) ∧ (Wd8 ([1559614445, 1477600026, 2734136534, 350157278, 0, 0, 0, 268435456] : List Int))), ((Wd8 (W8 (rI (List.getD l (Int.toNat ((((n : Nat) : Int) - (1 : Int)) - ((ko : Nat) : Int))) 0) (rO l n ko) k))) ∧ ((0 : Int) ≤ (bits2 .and .u32 (shr .u32 (List.getD l (Int.toNat ((((n : Nat) : Int) - (1 : Int)) - ((ko : Nat) : Int))) 0) (IntKind.u64.wrap ((31 : Int) - ((k : Nat) : Int)))) (1 : Int))) ∧ ((bits2 .and .u32 (shr .u32 (List.getD l (Int.toNat ((((n : Nat) : Int) - (1 : Int)) - ((ko : Nat) : Int))) 0) (IntKind.u64.wrap ((31 : Int) - ((k : Nat) : Int)))) (1 : Int)) ≤ (1 : Int))), ((0 : Int) ≤ (IntKind.u64.wrap ((31 : Int) - ((k : Nat) : Int)))), ((Int.toNat ((((n : Nat) : Int) - (1 : Int)) - ((ko : Nat) : Int))) < nm), (((0 : Int) ≤ ((((n : Nat) : Int) - (1 : Int)) - ((ko : Nat) : Int))) ∧ (((((n : Nat) : Int) - (1 : Int)) - ((ko : Nat) : Int)) < ((n : Nat) : Int))), ((decide (((31 : Int) - ((k : Nat) : Int)) ≥ (0 : Int))) = true)]) (by kernel_rfl)
    (AllP_cons ⟨(by first | assumption | exact wd8_W8 _ | exact wd8_ord), (by first | assumption | exact wd8_W8 _ | exact wd8_ord)⟩ (AllP_cons (by show (!decide (V8 (W8 (dbl (V8 (W8 (rI (List.getD l (Int.toNat (((n : Nat) : Int) - (1 : Int) - ((ko : Nat) : Int))) 0) (rO l n ko) k))) (bitX (List.getD l (Int.toNat (((n : Nat) : Int) - (1 : Int) - ((ko : Nat) : Int))) 0) k))) < V8 OR8)) = true; rw [decide_eq_false ha]; rfl) (AllP_cons ⟨(by first | assumption | exact wd8_W8 _ | exact wd8_ord), (by first | assumption | exact wd8_W8 _ | exact wd8_ord)⟩ (AllP_cons ⟨(by first | assumption | exact wd8_W8 _ | exact wd8_ord), (bits2_nn rfl), (by first | exact (bit_01 _).1 | exact (bit_01 _).2)⟩ (AllP_cons (wrap_nn rfl) (AllP_cons (by first | omega | (simp (disch := omega) only [wrapI]; omega)) (AllP_cons ⟨(by first | omega | (simp (disch := omega) only [wrapI]; omega)), (by first | omega | (simp (disch := omega) only [wrapI]; omega))⟩ (AllP_cons (decide_eq_true (by first | omega | (simp (disch := omega) only [wrapI]; omega))) (AllP_nil)))))))))
  rw [e0, e1] at h
  exact h

theorem moI_round (n : Nat) (nm : Nat) (l : List Int) (cap0 : Nat) (ko : Nat) (sko : Unit) (h0 : (nm = n)) (h1 : (n < (70368744177664 : Nat))) (hc0 : n ≤ cap0) (hl0_0 : List.length l = nm) (hko : ko < n) (w : World) (β : Env) (k : Nat) (hk : k < (32 : Nat)) (s : Unit) : Run Try.prog ⟨w, [], 1, β⟩ (loopB Try.f77 2) (moI_mk n nm l cap0 ko sko k s) (To ⟨w, [], 1, β⟩ .normal (moI_mk n nm l cap0 ko sko (k + 1) (moI_step k s))) := by
  by_cases ha : V8 (W8 (dbl (V8 (W8 (rI (List.getD l (Int.toNat (((n : Nat) : Int) - (1 : Int) - ((ko : Nat) : Int))) 0) (rO l n ko) k))) (bitX (List.getD l (Int.toNat (((n : Nat) : Int) - (1 : Int) - ((ko : Nat) : Int))) 0) k))) < V8 OR8
  · exact moI_round_0 n nm l cap0 ko sko h0 h1 hc0 hl0_0 hko w β k hk s ha
  · exact moI_round_1 n nm l cap0 ko sko h0 h1 hc0 hl0_0 hko w β k hk s ha

set_option maxHeartbeats 1000000 in
theorem moI_last (n : Nat) (nm : Nat) (l : List Int) (cap0 : Nat) (ko : Nat) (sko : Unit) (h0 : (nm = n)) (h1 : (n < (70368744177664 : Nat))) (hc0 : n ≤ cap0) (hl0_0 : List.length l = nm) (hko : ko < n) (w : World) (β : Env) (s : Unit) : Run Try.prog ⟨w, [], 1, β⟩ (loopB Try.f77 2) (moI_mk n nm l cap0 ko sko (32 : Nat) s) (To ⟨w, [], 1, β⟩ (.exit 2) (moI_mk n nm l cap0 ko sko (32 : Nat) s)) :=
  Run.of_outT (B := ⟨w, [], 1, β⟩) (Λ := noLam) (Ψ := noPsi) (fuel := 0) (ora := [false]) (l := [.forget [0, 2, 3, 4, 5, 6, 8, 10, 11, 12] 4]) mix tabOkNX gam26_ok
    (vc := [(false = false)]) (by kernel_rfl)
    (AllP_cons rfl (AllP_nil))

theorem moI_loop (n : Nat) (nm : Nat) (l : List Int) (cap0 : Nat) (ko : Nat) (sko : Unit) (h0 : (nm = n)) (h1 : (n < (70368744177664 : Nat))) (hc0 : n ≤ cap0) (hl0_0 : List.length l = nm) (hko : ko < n) (w : World) (β : Env) (s : Unit) : Run Try.prog ⟨w, [], 1, β⟩ (.block 2 (.loop (loopB Try.f77 2))) (moI_mk n nm l cap0 ko sko 0 s) (To ⟨w, [], 1, β⟩ .normal (moI_mk n nm l cap0 ko sko (32 : Nat) (iter (moI_step) (32 : Nat) s))) :=
  Run.count (fun k => moI_mk n nm l cap0 ko sko k (iter (moI_step) k s)) (32 : Nat) (fun k hk => moI_round n nm l cap0 ko sko h0 h1 hc0 hl0_0 hko w β k hk _) (ex := (.exit 2)) (by simp) (moI_last n nm l cap0 ko sko h0 h1 hc0 hl0_0 hko w β _)

def moO_step (ko : Nat) (sko : Unit) : Unit :=
  ()

set_option maxHeartbeats 1000000 in
theorem moO_round (n : Nat) (nm : Nat) (l : List Int) (cap0 : Nat) (h0 : (nm = n)) (h1 : (n < (70368744177664 : Nat))) (hc0 : n ≤ cap0) (hl0_0 : List.length l = nm) (w : World) (β : Env) (ko : Nat) (hko : ko < n) (sko : Unit) : Run Try.prog ⟨w, [], 1, β⟩ (loopB Try.f77 0) (moO_mk n nm l cap0 ko sko) (To ⟨w, [], 1, β⟩ .normal (moO_mk n nm l cap0 (ko + 1) (moO_step ko sko))) := by
  have e0 : (W8 (rI (List.getD l (Int.toNat ((((n : Nat) : Int) - (1 : Int)) - ((ko : Nat) : Int))) 0) (rO l n ko) (32 : Nat))) = (W8 (rO l n (ko + (1 : Nat)))) := (by first | (rw [wrapI (by omega) (by omega)]; omega) | rfl)
  have e1 : (IntKind.i64.wrap (((((n : Nat) : Int) - (1 : Int)) - ((ko : Nat) : Int)) - (1 : Int))) = ((((n : Nat) : Int) - (1 : Int)) - (((ko + (1 : Nat)) : Nat) : Int)) := (by first | (rw [wrapI (by omega) (by omega)]; omega) | rfl)
  have h := Run.of_outT (B := ⟨w, [], 1, β⟩) (Λ := lamOf [(2, ⟨[.forget [0, 2, 3, 4, 5, 6, 8, 10, 11, 12] 4], .normal, (moI_mk n nm l cap0 ko sko (32 : Nat) (iter (moI_step) (32 : Nat) ()))⟩)]) (Ψ := noPsi) (fuel := 0) (ora := [true]) (c := (loopB Try.f77 0)) (st := (moO_mk n nm l cap0 ko sko)) (l := [.forget [0, 2, 3, 4, 5, 8, 10] 4]) (s' := ⟨sparse 37 [(0, .o (.a (.sl 0 (0 : Nat) n cap0))), (2, .o (.a (.p 1 0))), (3, .o (.a (.p 2 0))), (4, .o (.a (.p 3 0))), (5, .o (.a (.i .i64 (IntKind.i64.wrap (((((n : Nat) : Int) - (1 : Int)) - ((ko : Nat) : Int)) - (1 : Int)))))), (8, .o (.a (.sl 0 (0 : Nat) n cap0))), (10, .o (.a (.i .i64 (IntKind.i64.wrap (((n : Nat) : Int) - (1 : Int))))))], [some ⟨false, [.ints .u32 nm l]⟩, some ⟨true, [.ints .u32 (8 : Nat) ([0, 0, 0, 0, 0, 0, 0, 0] : List Int)]⟩, some ⟨true, [.ints .u32 (8 : Nat) (W8 (rI (List.getD l (Int.toNat ((((n : Nat) : Int) - (1 : Int)) - ((ko : Nat) : Int))) 0) (rO l n ko) (32 : Nat)))]⟩, some ⟨true, [.ints .u32 (8 : Nat) ([1559614445, 1477600026, 2734136534, 350157278, 0, 0, 0, 268435456] : List Int)]⟩]⟩) (ex := .normal) mix tabOkNX gam26_ok
    (vc := [(Run Try.prog ⟨w, [], 1, β⟩ (.block 2 (.loop (loopB Try.f77 2))) (moI_mk n nm l cap0 ko sko 0 ()) (To ⟨w, [], 1, β⟩ .normal (moI_mk n nm l cap0 ko sko (32 : Nat) (iter (moI_step) (32 : Nat) ())))), ((decide (((((n : Nat) : Int) - (1 : Int)) - ((ko : Nat) : Int)) ≥ (0 : Int))) = true)]) (by kernel_rfl)
    (AllP_cons (moI_loop n nm l cap0 ko sko h0 h1 hc0 hl0_0 hko w β ()) (AllP_cons (decide_eq_true (by first | omega | (simp (disch := omega) only [wrapI]; omega))) (AllP_nil)))
  rw [e0, e1] at h
  exact h

set_option maxHeartbeats 1000000 in
theorem moO_last (n : Nat) (nm : Nat) (l : List Int) (cap0 : Nat) (h0 : (nm = n)) (h1 : (n < (70368744177664 : Nat))) (hc0 : n ≤ cap0) (hl0_0 : List.length l = nm) (w : World) (β : Env) (sko : Unit) : Run Try.prog ⟨w, [], 1, β⟩ (loopB Try.f77 0) (moO_mk n nm l cap0 n sko) (To ⟨w, [], 1, β⟩ (.exit 0) (moO_mk n nm l cap0 n sko)) :=
  Run.of_outT (B := ⟨w, [], 1, β⟩) (Λ := noLam) (Ψ := noPsi) (fuel := 0) (ora := [false]) (l := [.forget [0, 2, 3, 4, 5, 8, 10] 4]) mix tabOkNX gam26_ok
    (vc := [((decide (((((n : Nat) : Int) - (1 : Int)) - ((n : Nat) : Int)) ≥ (0 : Int))) = false)]) (by kernel_rfl)
    (AllP_cons (decide_eq_false (by omega)) (AllP_nil))

theorem moO_loop (n : Nat) (nm : Nat) (l : List Int) (cap0 : Nat) (h0 : (nm = n)) (h1 : (n < (70368744177664 : Nat))) (hc0 : n ≤ cap0) (hl0_0 : List.length l = nm) (w : World) (β : Env) (sko : Unit) : Run Try.prog ⟨w, [], 1, β⟩ (.block 0 (.loop (loopB Try.f77 0))) (moO_mk n nm l cap0 0 sko) (To ⟨w, [], 1, β⟩ .normal (moO_mk n nm l cap0 n (iter (moO_step) n sko))) :=
  Run.count (fun ko => moO_mk n nm l cap0 ko (iter (moO_step) ko sko)) n (fun ko hko => moO_round n nm l cap0 h0 h1 hc0 hl0_0 w β ko hko _) (ex := (.exit 0)) (by simp) (moO_last n nm l cap0 h0 h1 hc0 hl0_0 w β _)

def modR (n : Nat) (l : List Int) : List Int :=
  (W8 (rO l n n))

set_option maxHeartbeats 1000000 in
theorem modR_body0 (n : Nat) (nm : Nat) (l : List Int) (cap0 : Nat) (h0 : (nm = n)) (h1 : (n < (70368744177664 : Nat))) (hc0 : n ≤ cap0) (hl0_0 : List.length l = nm) (w : World) (β : Env) : Body Try.prog (tabOf tabNX) Try.f77 ⟨w, [], 1, β⟩ [.o (.a (.sl 0 (0 : Nat) n cap0))] [some ⟨false, [.ints .u32 nm l]⟩] (fun ys _ => ys = [.g [.ints .u32 (8 : Nat) (modR n l)]]) :=
  Body.of_fin (Γ := gam26) (Λ := lamOf [(0, ⟨[.eqS 5 (.o (.a (.i .i64 ((((n : Nat) : Int) - (1 : Int)) - ((0 : Nat) : Int))))), .eqB 2 (⟨true, [.ints .u32 (8 : Nat) (W8 (rO l n (0 : Nat)))]⟩), .forget [0, 2, 3, 4, 5, 8, 10] 4], .normal, (moO_mk n nm l cap0 n (iter (moO_step) n ()))⟩)]) (Ψ := noPsi) (fuel := 0) (m := 37) (c := (Try.f77.body.getD .skip)) mix tabOkNX gam26_ok rfl (rs := [.cell 2 111]) rfl rfl [] []
    (vc := [(Run Try.prog ⟨w, [], 1, β⟩ (.block 0 (.loop (loopB Try.f77 0))) (moO_mk n nm l cap0 0 ()) (To ⟨w, [], 1, β⟩ .normal (moO_mk n nm l cap0 n (iter (moO_step) n ())))), ((some ⟨true, [.ints .u32 (8 : Nat) ([0, 0, 0, 0, 0, 0, 0, 0] : List Int)]⟩ : Option Blk) = some ⟨true, [.ints .u32 (8 : Nat) (W8 (rO l n (0 : Nat)))]⟩), ((.o (.a (.i .i64 (IntKind.i64.wrap (((n : Nat) : Int) - (1 : Int))))) : AV) = .o (.a (.i .i64 ((((n : Nat) : Int) - (1 : Int)) - ((0 : Nat) : Int)))))]) (by kernel_rfl)
    (AllP_cons (moO_loop n nm l cap0 h0 h1 hc0 hl0_0 w β ()) (AllP_cons ((by rw [show rO l n 0 = 0 from rfl, W8_0])) (AllP_cons ((congrArg (fun z => AV.o (.a (.i .i64 z))) ((wrapI (by omega) (by omega)).trans (by omega)))) (AllP_nil))))

theorem modR_body (n : Nat) (nm : Nat) (l : List Int) (cap0 : Nat) (h0 : (nm = n)) (h1 : (n < (70368744177664 : Nat))) (w : World) (β : Env) : Body Try.prog (tabOf tabNX) Try.f77 ⟨w, [], 1, β⟩ [.o (.a (.sl 0 (0 : Nat) n cap0))] [some ⟨false, [.ints .u32 nm l]⟩] (fun ys _ => ys = [.g [.ints .u32 (8 : Nat) (modR n l)]]) :=
  Body.lens (c := (Try.f77.body.getD .skip)) rfl fun h => modR_body0 n nm l cap0 h0 h1 (h.caps 0 _ _ _ _ rfl) (h.lens 0 _ .u32 nm l rfl (by simp)) w β

end Go.Proofs.Ytcpoldghkiiggaa.X
