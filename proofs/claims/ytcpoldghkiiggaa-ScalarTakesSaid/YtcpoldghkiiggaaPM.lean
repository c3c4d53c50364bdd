/- Decode in one form. -/
import Derived.Test.YtcpoldghkiiggaaQP
namespace Go.Proofs.Ytcpoldghkiiggaa.X
open Go Go.Proofs
set_option linter.unusedVariables false
set_option maxRecDepth 100000

def decL (n : Nat) (b : List Int) : List Int := if n = 32 then (if BV b < LL then sub b 0 32 else [0, 0, 0, 0, 0, 0, 0, 0, 0, 0, 0, 0, 0, 0, 0, 0, 0, 0, 0, 0, 0, 0, 0, 0, 0, 0, 0, 0, 0, 0, 0, 0]) else [0, 0, 0, 0, 0, 0, 0, 0, 0, 0, 0, 0, 0, 0, 0, 0, 0, 0, 0, 0, 0, 0, 0, 0, 0, 0, 0, 0, 0, 0, 0, 0]
def decE (n : Nat) (b : List Int) : Int := if n = 32 then (if BV b < LL then 0 else 21) else 3
theorem dec_num (n nm : Nat) (b : List Int) (cap0 : Nat) (h0 : nm = n) (h1 : n ≤ 140737488351232) (h2 : Byt b) (w : World) (β : Env) : Body Try.prog (tabOf tabQP) Try.f15 ⟨w, [], 1, β⟩ [.o (.a (.sl 0 (0 : Nat) n cap0))] [some ⟨false, [.ints .u8 nm b]⟩] (fun ys _ => ys = [.g [.ints .u8 (32 : Nat) (decL n b)], .a (.i .i64 (decE n b))]) :=
  Body.lens (c := (Try.f15.body.getD .skip)) rfl fun h => by
    have hc := h.caps 0 _ _ _ _ rfl
    have hl := h.lens 0 _ .u8 nm b rfl (by simp)
    unfold decL decE
    by_cases hn : n = 32
    · rw [if_pos hn, if_pos hn]
      by_cases hd : BV b < LL
      · rw [if_pos hd, if_pos hd]; exact deC_body0 n nm b cap0 h0 h1 h2 hc hl hn hd w β
      · rw [if_neg hd, if_neg hd]; exact deB_body0 n nm b cap0 h0 h1 h2 hc hl hn hd w β
    · rw [if_neg hn, if_neg hn]; exact deA_body0 n nm b cap0 h0 h1 h2 hc hl hn w β
theorem decR_num (n nm : Nat) (b : List Int) (cap0 : Nat) (h0 : nm = n) (h1 : n ≤ 140737488351232) (h2 : Byt b) (w : World) (β : Env) : Body Try.prog (tabOf tabQP) Try.f16 ⟨w, [], 1, β⟩ [.o (.a (.sl 0 (0 : Nat) n cap0))] [some ⟨false, [.ints .u8 nm b]⟩] (fun ys _ => ys = [.g [.ints .u8 (32 : Nat) (decL n b)], .a (.i .i64 (decE n b))]) :=
  Body.lens (c := (Try.f16.body.getD .skip)) rfl fun h => by
    have hc := h.caps 0 _ _ _ _ rfl
    have hl := h.lens 0 _ .u8 nm b rfl (by simp)
    unfold decL decE
    by_cases hn : n = 32
    · rw [if_pos hn, if_pos hn]
      by_cases hd : BV b < LL
      · rw [if_pos hd, if_pos hd]; exact drC_body0 n nm b cap0 h0 h1 h2 hc hl hn hd w β
      · rw [if_neg hd, if_neg hd]; exact drB_body0 n nm b cap0 h0 h1 h2 hc hl hn hd w β
    · rw [if_neg hn, if_neg hn]; exact drA_body0 n nm b cap0 h0 h1 h2 hc hl hn w β
end Go.Proofs.Ytcpoldghkiiggaa.X
