/- More of the document, and Finish of the document: what Write and Sum of a Hasher do. -/
import Derived.Test.YtepimglipelpmaaTE
namespace Go.Proofs.Ytepimglipelpmaa.X
open Go Go.Proofs
set_option linter.unusedVariables false

/-- the lists in the arguments' groups have the lengths that they are said to have -/
theorem Body.gens {P : Program} {T : Tab} {fn : Func} {B : Bs} {avs : List AV} {K0 : Know} {Fin : List V1 → Know → Prop} {c : Code} (hb : fn.body = some c)
    (h : (∀ (t : Nat) (l : List Atom) (k : IntKind) (n : Nat) (L : List Int), avs[t]? = some (AV.o (.g l)) → Atom.ints k n L ∈ l → L.length = n) → Body P T fn B avs K0 Fin) : Body P T fn B avs K0 Fin := by
  by_cases hl : ∀ (t : Nat) (l : List Atom) (k : IntKind) (n : Nat) (L : List Int), avs[t]? = some (AV.o (.g l)) → Atom.ints k n L ∈ l → L.length = n
  · exact h hl
  · refine ⟨c, hb, fun β a w hR => absurd ?_ hl⟩
    intro t l k n L ht hm
    have h1 := hR.slot t
    have hlt := (List.getElem?_eq_some_iff.1 ht).1
    have h2 : (avs ++ List.replicate (fn.ntmps - avs.length) AV.u).getD t .u = .o (.g l) := by
      rw [List.getD_eq_getElem?_getD, List.getElem?_append_left hlt, ht]; rfl
    simp only [h2] at h1
    obtain ⟨cs, _, hc⟩ := h1
    exact cons_lens hc hm

theorem absN_len (C D : List Int) : ∀ (k : Nat) {S : List Int}, S.length = 8 → (absN C D k S).length = 8
  | 0, S, h => h
  | k + 1, S, h => by rw [absN_succ]; exact blk_len _ _ (absN_len C D k h) _

/-- blocks by the document are blocks by the program -/
theorem absN_R {f : Nat → List Int → List Int} {D : List Int} {S : List Int} (hS : S.length = 8) : ∀ {k : Nat}, (∀ i s, i < k → s.length = 8 → f i s = blkR s (sub D (128 * i) 128)) → iter f k S = absN konst D k S
  | 0, _ => rfl
  | k + 1, h => by
    show f k (iter f k S) = _
    rw [absN_R hS fun i s hi hs => h i s (by omega) hs, absN_succ, h k _ (by omega) (absN_len _ _ _ hS), blk_eq _ (absN_len _ _ _ hS)]

theorem i64_128 {k : Nat} (h : 128 * k < 4611686018427387904) : Int.toNat (IntKind.i64.wrap (((((128 : Nat) * k) : Nat) : Int) + (128 : Int))) - 128 * k = 128 := by
  rw [wrapI (by omega) (by omega)]; omega

theorem more_out {n n2 : Nat} {b b2 S : List Int} (hb : b.length = n) (hb2 : b2.length = n2) (h : n < 70368744177664) (h2 : n2 < 70368744177664) (hS : S.length = 8) : moreL_out0 n b n2 b2 S = wrS konst S b b2 n n2 := by
  unfold moreL_out0 wrS
  refine absN_R hS fun i s hi hs => ?_
  show blkR s _ = _
  rw [i64_128 (by omega), sub_all b n (by omega), sub_all b n (by omega), sub_all b2 n2 (by omega), Nat.zero_add]

theorem more_len (n n2 : Nat) : more n n2 = wrT n n2 := by unfold more wrT; omega
theorem more_num (N : Int) (n2 : Nat) : more_1 N n2 = wrN N n2 := rfl
theorem more_tail {n n2 : Nat} {b b2 : List Int} (hb : b.length = n) (hb2 : b2.length = n2) : more_2 n b n2 b2 = wrL b b2 n n2 := by
  unfold more_2 wrL
  simp only
  rw [sub_all b n (by omega), sub_all b n (by omega), sub_all b2 n2 (by omega), Nat.zero_add, sub_drop _ _ _ (by simp; omega)]

theorem more_can (n : Nat) (b : List Int) (S : List Int) (N : Int) (n2 : Nat) (n2m : Nat) (b2 : List Int) (cap1 : Nat) (h0 : (n2m = n2)) (h1 : (n < (70368744177664 : Nat))) (h2 : (n2 < (70368744177664 : Nat))) (w : World) (rw : List Nat) (β : Env) :
    Body Try.prog (tabOf tabTE) Try.f32 ⟨w, rw, 2, β⟩ [.o (.g [.ints .u64 (8 : Nat) S, .rs 0 (0 : Nat) n 1, .i .u64 N]), .o (.a (.sl 1 (0 : Nat) n2 cap1))] [some ⟨false, [.ints .u8 n b]⟩, some ⟨false, [.ints .u8 n2m b2]⟩]
      (fun ys K' => ys = [.g [.ints .u64 (8 : Nat) (wrS konst S b b2 n n2), .rs 2 (0 : Nat) (wrT n n2) 1, .i .u64 (wrN N n2)]] ∧ K' = [some ⟨false, [.ints .u8 n b]⟩, some ⟨false, [.ints .u8 n2m b2]⟩, some ⟨true, [.ints .u8 (wrT n n2) (wrL b b2 n n2)]⟩]) := by
  refine Body.gens (c := (Try.f32.body.getD .skip)) rfl fun h' => Body.lens (c := (Try.f32.body.getD .skip)) rfl fun h => ?_
  have hS : S.length = 8 := h' 0 _ .u64 8 S rfl (by simp)
  have hb : b.length = n := h.lens 0 _ .u8 n b rfl (by simp)
  have hb2 : b2.length = n2m := h.lens 1 _ .u8 n2m b2 rfl (by simp)
  
  subst h0
  refine (more_body n b S N n2m n2m b2 cap1 rfl h1 h2 w rw β).mono fun xs K hx => ?_
  obtain ⟨rfl, rfl⟩ := hx
  rw [more_out hb hb2 h1 h2 hS, more_len, more_num, more_tail hb hb2]; exact ⟨rfl, rfl⟩

/-- the document's digest is the program's -/
theorem finR_dig (S : List Int) (n : Nat) (b : List Int) (N : Int) : finR S n b N = digL (finL_out0 n b N S) := by kernel_rfl

theorem fin_eq {S L : List Int} {tl : Nat} {N : Int} (hS : S.length = 8) (hL : L.length = tl) (h0 : 0 ≤ N) (h1 : Int.tmod N 128 = ((tl : Nat) : Int)) : finR S tl L N = hsum S tl N L konst := by
  rw [finR_dig, hsum_dig]
  congr 1
  obtain ⟨p1, p2⟩ := pad_mod h0 h1
  have p3 := pad_le N
  unfold finL_out0 sumL_out0
  rw [padR_len]
  have hP : (sub (pad_1 N) 0 (pad N)).length = pad N := by rw [sub_len]; rw [pad_1_len]; omega
  rw [absN_R (D := L ++ sub (pad_1 N) 0 (pad N)) hS fun i s hi hs => ?_]
  · refine (iter_congr fun i s hi => ?_).symm
    unfold sumL_step
    rw [rest_sub hL hP (by omega) (by omega)]
  · unfold finL_step
    rw [i64_128 (by omega), sub_all L tl (by omega), sub_all L tl (by omega), pad_same, Nat.zero_add]

theorem gb0_n (n : Nat) : gb0 n = n + 3 := rfl

theorem wrL_len {L b : List Int} {tl n : Nat} (hL : L.length = tl) (hb : b.length = n) : (wrL L b tl n).length = wrT tl n := by
  unfold wrL wrT; simp; omega

theorem wrN_eq {N : Int} {n : Nat} (h0 : 0 ≤ N) (h : N + ((n : Nat) : Int) < 2305843009213693952) : wrN N n = N + ((n : Nat) : Int) := by
  unfold wrN
  rw [wrapU (x := ((n : Nat) : Int)) (by omega) (by omega), wrapU (by omega) (by omega)]

theorem res_facts {b b2 S : List Int} {n n2 : Nat} {N : Int} (hb : b.length = n) (hb2 : b2.length = n2) (hS : S.length = 8) (h0 : 0 ≤ N) (hm : Int.tmod N 128 = ((n : Nat) : Int)) (h : N + ((n2 : Nat) : Int) < 2305843009213693952) (h2 : n2 < 70368744177664) :
    n < 128 ∧ wrT n n2 < 128 ∧ wrN N n2 = N + ((n2 : Nat) : Int) ∧ Int.tmod (wrN N n2) 128 = ((wrT n n2 : Nat) : Int) ∧ sub b 0 n = b ∧ sub b2 0 n2 = b2 ∧ sub (gb0_1 n b) 0 n = b ∧ sub (wrL b b2 n n2) 0 (wrT n n2) = wrL b b2 n n2 ∧
      hsum (wrS konst S b b2 n n2) (wrT n n2) (wrN N n2) (wrL b b2 n n2) konst = finR (wrS konst S b b2 n n2) (wrT n n2) (wrL b b2 n n2) (wrN N n2) := by
  have h1 := wr_inv (n := n2) h0 hm (by omega)
  have hn : n < 128 := by rw [Int.tmod_eq_emod_of_nonneg h0] at hm; omega
  have hl := wrL_len (L := b) (b := b2) hb hb2
  refine ⟨hn, h1.2.2, wrN_eq h0 h, h1.2.1, sub_all _ _ (by omega), sub_all _ _ (by omega), gb0_take hb, sub_all _ _ (by omega), ?_⟩
  exact (fin_eq (absN_len _ _ _ hS) hl h1.1 h1.2.1).symm
end Go.Proofs.Ytepimglipelpmaa.X
