/- A Hasher that takes some more bytes: what it holds then, in one form. -/
import Derived.Test.YtepimglipelpmaaSD
namespace Go.Proofs.Ytepimglipelpmaa.X
open Go Go.Proofs
set_option linter.unusedVariables false

theorem iter_congr {α : Type} {f g : Nat → α → α} : ∀ {k : Nat} {s : α}, (∀ i s, i < k → f i s = g i s) → iter f k s = iter g k s
  | 0, _, _ => rfl
  | k + 1, s, h => by
    show f k (iter f k s) = g k (iter g k s)
    rw [iter_congr fun i s hi => h i s (by omega), h k _ (by omega)]

theorem iter_head {α : Type} {f : Nat → α → α} : ∀ {k : Nat} {s : α}, iter f (k + 1) s = iter (fun i => f (i + 1)) k (f 0 s)
  | 0, _ => rfl
  | k + 1, s => by
    show f (k + 1) (iter f (k + 1) s) = f (k + 1) (iter (fun i => f (i + 1)) k (f 0 s))
    rw [iter_head]

/-- the state behind k blocks -/
def absN (C D : List Int) (k : Nat) (S : List Int) : List Int := iter (fun i s => blk s (sub D (128 * i) 128) C) k S

theorem sub_all {α : Type} (l : List α) (m : Nat) (h : l.length ≤ m) : sub l 0 m = l := by
  simp [sub, List.take_of_length_le h]
theorem sub_drop {α : Type} (l : List α) (c m : Nat) (h : l.length ≤ c + m) : sub l c m = l.drop c := by
  unfold sub; rw [List.take_of_length_le (by simp; omega)]
theorem sub_zero {α : Type} (l : List α) (c : Nat) : sub l c 0 = [] := by simp [sub]

def wrS (C S L b : List Int) (tl n : Nat) : List Int := absN C (L ++ b) ((tl + n) / 128) S
def wrT (tl n : Nat) : Nat := (tl + n) % 128
def wrN (N : Int) (n : Nat) : Int := IntKind.u64.wrap (N + IntKind.u64.wrap ((n : Nat) : Int))
def wrL (L b : List Int) (tl n : Nat) : List Int := (L ++ b).drop (128 * ((tl + n) / 128))

theorem wr_body (S : List Int) (tl : Nat) (N : Int) (L : List Int) (C : List Int) (n : Nat) (nm : Nat) (b : List Int) (cap3 : Nat) (h0 : (nm = n)) (h1 : (tl < (128 : Nat))) (h2 : (n < (140737488355328 : Nat))) (w : World) (rw : List Nat) (β : Env) :
    Body Try.prog (tabOf tabSD) Try.f31 ⟨w, rw, 4, β⟩ [.o (.a (.p 0 0)), .o (.a (.sl 3 (0 : Nat) n cap3))] [some ⟨true, [.ints .u64 (8 : Nat) S, .rs 1 (0 : Nat) tl 1, .i .u64 N, .p 2 0]⟩, some ⟨true, [.ints .u8 tl L]⟩, some ⟨false, [.ints .u64 (80 : Nat) C]⟩, some ⟨false, [.ints .u8 nm b]⟩]
      (fun ys K' => ys = [] ∧ K' = [some ⟨true, [.ints .u64 (8 : Nat) (wrS C S L b tl n), .rs 4 (0 : Nat) (wrT tl n) 1, .i .u64 (wrN N n), .p 2 0]⟩, none, some ⟨false, [.ints .u64 (80 : Nat) C]⟩, some ⟨false, [.ints .u8 nm b]⟩, some ⟨true, [.ints .u8 (wrT tl n) (wrL L b tl n)]⟩]) := by
  refine Body.lens (c := (Try.f31.body.getD .skip)) rfl fun h => ?_
  have hc3 : n ≤ cap3 := h.caps 1 _ _ _ _ rfl
  have hS : S.length = 8 := h.lens 0 _ .u64 8 S rfl (by simp)
  have hL : L.length = tl := h.lens 1 _ .u8 tl L rfl (by simp)
  have hC : C.length = 80 := h.lens 2 _ .u64 80 C rfl (by simp)
  have hb : b.length = nm := h.lens 3 _ .u8 nm b rfl (by simp)
  subst h0
  by_cases hp : tl = 0
  · refine (wA_body0 S tl N L C nm nm b cap3 rfl h1 h2 hc3 hS hL hC hb hp w rw β).mono fun xs K hx => ?_
    obtain ⟨rfl, rfl⟩ := hx
    have hnil : L = [] := List.length_eq_zero_iff.1 (by omega)
    have e1 : wAL_out0 C b nm S = wrS C S L b tl nm := by
      unfold wAL_out0 wrS absN
      rw [hp, hnil, Nat.zero_add]
      exact iter_congr fun i s hi => rfl
    have e2 : wA tl nm = wrT tl nm := by unfold wA wrT; omega
    have e3 : wA_2 tl L nm b = wrL L b tl nm := by
      unfold wA_2 wrL
      rw [hnil, hp, sub_zero, List.nil_append, List.nil_append, sub_drop _ _ _ (by omega), Nat.zero_add]
    have e4 : wA_1 N nm = wrN N nm := rfl
    rw [e1, e2, e3, e4]; exact ⟨rfl, rfl⟩
  · by_cases hq : tl + nm < 128
    · refine (wB_body0 S tl N L C nm nm b cap3 rfl h1 h2 hc3 hS hL hC hb (by omega) hq w rw β).mono fun xs K hx => ?_
      obtain ⟨rfl, rfl⟩ := hx
      have hd : (tl + nm) / 128 = 0 := by omega
      have e1 : S = wrS C S L b tl nm := by unfold wrS absN; rw [hd]; rfl
      have e2 : wB tl nm = wrT tl nm := by unfold wB wrT; omega
      have e3 : wB_2 tl L nm b = wrL L b tl nm := by
        unfold wB_2 wrL
        rw [hd, sub_all _ _ (by omega), sub_all _ _ (by omega)]; rfl
      have e4 : wB_1 N nm = wrN N nm := rfl
      rw [e2, e3, e4, ← e1]; exact ⟨rfl, rfl⟩
    · refine (wC_body0 S tl N L C nm nm b cap3 rfl h1 h2 hc3 hS hL hC hb (by omega) (by omega) w rw β).mono fun xs K hx => ?_
      obtain ⟨rfl, rfl⟩ := hx
      have hd : (tl + nm) / 128 = (nm - (128 - tl)) / 128 + 1 := by omega
      have hfirst : sub ((sub L (0 : Nat) tl) ++ (sub b (0 : Nat) ((128 : Nat) - tl))) (0 : Nat) (tl + ((128 : Nat) - tl)) = sub (L ++ b) 0 128 := by
        rw [sub_all L _ (by omega), sub_all _ _ (by simp [sub]; omega)]
        unfold sub
        simp only [List.drop_zero]
        rw [List.take_append, List.take_of_length_le (l := L) (by omega), hL]
      have e1 : wC S tl L C nm b = wrS C S L b tl nm := by
        unfold wC wCL_out0 wrS absN
        rw [hfirst, hd, iter_head]
        refine iter_congr fun i s hi => ?_
        show blk s _ C = blk s _ C
        congr 1
        unfold sub
        rw [List.drop_append, List.drop_of_length_le (l := L) (by omega), List.nil_append, hL]
        congr 2; omega
      have e2 : wC_1 tl nm = wrT tl nm := by unfold wC_1 wrT; simp only; omega
      have e3 : wC_3 tl L nm b = wrL L b tl nm := by
        unfold wC_3 wrL
        simp only
        rw [sub_zero, List.nil_append, hd, List.drop_append, List.drop_of_length_le (l := L) (by omega), List.nil_append, hL, sub_drop _ _ _ (by omega)]
        congr 1; omega
      have e4 : wC_2 N nm = wrN N nm := rfl
      rw [e1, e2, e3, e4]; exact ⟨rfl, rfl⟩
end Go.Proofs.Ytepimglipelpmaa.X
