/- Plain lemmas: the two Pads lay the same bytes, in full. -/
import Derived.Test.YtepimglipelpmaaSZ2
namespace Go.Proofs.Ytepimglipelpmaa.X
open Go Go.Proofs
set_option maxRecDepth 100000

def padSpec (n : Int) (e : Nat) : List Int := (((((((((128 :: List.replicate (e - 1) (0 : Int)) ++ List.replicate 8 (0 : Int)) ++ ([(IntKind.u8.wrap (shr .u64 (IntKind.u64.wrap (n * (8 : Int))) (56 : Int)))] : List Int)) ++ ([(IntKind.u8.wrap (shr .u64 (IntKind.u64.wrap (n * (8 : Int))) (48 : Int)))] : List Int)) ++ ([(IntKind.u8.wrap (shr .u64 (IntKind.u64.wrap (n * (8 : Int))) (40 : Int)))] : List Int)) ++ ([(IntKind.u8.wrap (shr .u64 (IntKind.u64.wrap (n * (8 : Int))) (32 : Int)))] : List Int)) ++ ([(IntKind.u8.wrap (shr .u64 (IntKind.u64.wrap (n * (8 : Int))) (24 : Int)))] : List Int)) ++ ([(IntKind.u8.wrap (shr .u64 (IntKind.u64.wrap (n * (8 : Int))) (16 : Int)))] : List Int)) ++ ([(IntKind.u8.wrap (shr .u64 (IntKind.u64.wrap (n * (8 : Int))) (8 : Int)))] : List Int)) ++ ([(IntKind.u8.wrap (shr .u64 (IntKind.u64.wrap (n * (8 : Int))) (0 : Int)))] : List Int)

theorem app_congr {x y z : List Int} (h : x = y) : x ++ z = y ++ z := by rw [h]

theorem padA (n : Int) (e : Nat) (h1 : 1 ≤ e) (h2 : e ≤ 128) : sub (splice (splice (splice (splice (splice (splice (splice (splice (splice (List.set (List.replicate (256 : Nat) (0 : Int)) (0 : Nat) (128 : Int)) ((0 : Nat) + e) (8 : Nat) (List.replicate (8 : Nat) (0 : Int))) ((0 : Nat) + (e + (8 : Nat))) (1 : Nat) ([(IntKind.u8.wrap (shr .u64 (IntKind.u64.wrap (n * (8 : Int))) (56 : Int)))] : List Int)) ((0 : Nat) + (e + (9 : Nat))) (1 : Nat) ([(IntKind.u8.wrap (shr .u64 (IntKind.u64.wrap (n * (8 : Int))) (48 : Int)))] : List Int)) ((0 : Nat) + (e + (10 : Nat))) (1 : Nat) ([(IntKind.u8.wrap (shr .u64 (IntKind.u64.wrap (n * (8 : Int))) (40 : Int)))] : List Int)) ((0 : Nat) + (e + (11 : Nat))) (1 : Nat) ([(IntKind.u8.wrap (shr .u64 (IntKind.u64.wrap (n * (8 : Int))) (32 : Int)))] : List Int)) ((0 : Nat) + (e + (12 : Nat))) (1 : Nat) ([(IntKind.u8.wrap (shr .u64 (IntKind.u64.wrap (n * (8 : Int))) (24 : Int)))] : List Int)) ((0 : Nat) + (e + (13 : Nat))) (1 : Nat) ([(IntKind.u8.wrap (shr .u64 (IntKind.u64.wrap (n * (8 : Int))) (16 : Int)))] : List Int)) ((0 : Nat) + (e + (14 : Nat))) (1 : Nat) ([(IntKind.u8.wrap (shr .u64 (IntKind.u64.wrap (n * (8 : Int))) (8 : Int)))] : List Int)) ((0 : Nat) + (e + (15 : Nat))) (1 : Nat) ([(IntKind.u8.wrap (shr .u64 (IntKind.u64.wrap (n * (8 : Int))) (0 : Int)))] : List Int)) 0 (e + 16) = padSpec n e := by
  unfold padSpec
  refine (app_step' (c := 0 + (e + 15)) (m := 1) (by omega) (by (repeat' (first | refine splice_len3 ?_ ?_ ?_)) <;> first | (rw [List.length_set, List.length_replicate]) | omega | rfl) (by omega) rfl).trans ?_
  refine app_congr ?_
  refine (app_step' (c := 0 + (e + 14)) (m := 1) (by omega) (by (repeat' (first | refine splice_len3 ?_ ?_ ?_)) <;> first | (rw [List.length_set, List.length_replicate]) | omega | rfl) (by omega) rfl).trans ?_
  refine app_congr ?_
  refine (app_step' (c := 0 + (e + 13)) (m := 1) (by omega) (by (repeat' (first | refine splice_len3 ?_ ?_ ?_)) <;> first | (rw [List.length_set, List.length_replicate]) | omega | rfl) (by omega) rfl).trans ?_
  refine app_congr ?_
  refine (app_step' (c := 0 + (e + 12)) (m := 1) (by omega) (by (repeat' (first | refine splice_len3 ?_ ?_ ?_)) <;> first | (rw [List.length_set, List.length_replicate]) | omega | rfl) (by omega) rfl).trans ?_
  refine app_congr ?_
  refine (app_step' (c := 0 + (e + 11)) (m := 1) (by omega) (by (repeat' (first | refine splice_len3 ?_ ?_ ?_)) <;> first | (rw [List.length_set, List.length_replicate]) | omega | rfl) (by omega) rfl).trans ?_
  refine app_congr ?_
  refine (app_step' (c := 0 + (e + 10)) (m := 1) (by omega) (by (repeat' (first | refine splice_len3 ?_ ?_ ?_)) <;> first | (rw [List.length_set, List.length_replicate]) | omega | rfl) (by omega) rfl).trans ?_
  refine app_congr ?_
  refine (app_step' (c := 0 + (e + 9)) (m := 1) (by omega) (by (repeat' (first | refine splice_len3 ?_ ?_ ?_)) <;> first | (rw [List.length_set, List.length_replicate]) | omega | rfl) (by omega) rfl).trans ?_
  refine app_congr ?_
  refine (app_step' (c := 0 + (e + 8)) (m := 1) (by omega) (by (repeat' (first | refine splice_len3 ?_ ?_ ?_)) <;> first | (rw [List.length_set, List.length_replicate]) | omega | rfl) (by omega) rfl).trans ?_
  refine app_congr ?_
  refine (app_step' (c := 0 + e) (m := 8) (by omega) (by (repeat' (first | refine splice_len3 ?_ ?_ ?_)) <;> first | (rw [List.length_set, List.length_replicate]) | omega | rfl) (by omega) rfl).trans ?_
  refine app_congr ?_
  rw [Nat.zero_add]
  exact set_take e h1 (by omega)

theorem padB_ (n : Int) (e : Nat) (h1 : 1 ≤ e) (h2 : e ≤ 128) : sub ((sub ((sub ((sub ((sub ((sub ((sub ((sub ((sub ((sub ((sub ((sub ((sub ((sub ((sub ((sub ((sub (128 :: List.replicate (e - 1) (0 : Int)) (0 : Nat) e) ++ ([0] : List Int)) (0 : Nat) (e + (1 : Nat))) ++ ([0] : List Int)) (0 : Nat) (e + (2 : Nat))) ++ ([0] : List Int)) (0 : Nat) (e + (3 : Nat))) ++ ([0] : List Int)) (0 : Nat) (e + (4 : Nat))) ++ ([0] : List Int)) (0 : Nat) (e + (5 : Nat))) ++ ([0] : List Int)) (0 : Nat) (e + (6 : Nat))) ++ ([0] : List Int)) (0 : Nat) (e + (7 : Nat))) ++ ([0] : List Int)) (0 : Nat) (e + (8 : Nat))) ++ ([(IntKind.u8.wrap (shr .u64 (IntKind.u64.wrap (n * (8 : Int))) (56 : Int)))] : List Int)) (0 : Nat) (e + (9 : Nat))) ++ ([(IntKind.u8.wrap (shr .u64 (IntKind.u64.wrap (n * (8 : Int))) (48 : Int)))] : List Int)) (0 : Nat) (e + (10 : Nat))) ++ ([(IntKind.u8.wrap (shr .u64 (IntKind.u64.wrap (n * (8 : Int))) (40 : Int)))] : List Int)) (0 : Nat) (e + (11 : Nat))) ++ ([(IntKind.u8.wrap (shr .u64 (IntKind.u64.wrap (n * (8 : Int))) (32 : Int)))] : List Int)) (0 : Nat) (e + (12 : Nat))) ++ ([(IntKind.u8.wrap (shr .u64 (IntKind.u64.wrap (n * (8 : Int))) (24 : Int)))] : List Int)) (0 : Nat) (e + (13 : Nat))) ++ ([(IntKind.u8.wrap (shr .u64 (IntKind.u64.wrap (n * (8 : Int))) (16 : Int)))] : List Int)) (0 : Nat) (e + (14 : Nat))) ++ ([(IntKind.u8.wrap (shr .u64 (IntKind.u64.wrap (n * (8 : Int))) (8 : Int)))] : List Int)) (0 : Nat) (e + (15 : Nat))) ++ ([(IntKind.u8.wrap (shr .u64 (IntKind.u64.wrap (n * (8 : Int))) (0 : Int)))] : List Int)) 0 (e + 16) = padSpec n e := by
  unfold padSpec
  simp (disch := (simp; omega)) only [sub_all]
  simp only [List.append_assoc, List.cons_append, List.nil_append, List.replicate_succ, List.replicate_zero]
end Go.Proofs.Ytepimglipelpmaa.X
