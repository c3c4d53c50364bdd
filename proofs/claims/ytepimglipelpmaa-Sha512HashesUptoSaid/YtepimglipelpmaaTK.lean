/- Join of parts that lie in the law's first world, as a contract. -/
import Derived.Test.YtepimglipelpmaaTJ
namespace Go.Proofs.Ytepimglipelpmaa.X
open Go Go.Proofs
set_option linter.unusedVariables false

theorem joinP_sha (w : World) (n : Nat) (L : List Value) : joinP w n L = shaD (catV w L n) := rfl

theorem contV_move {w0 w : World} (h : ∀ b, b < w0.heap.size → w.heap[b]? = w0.heap[b]?) {v : Value} {k : Nat} {β : Env} (hi : ImpOk ⟨w0, [], k, β⟩ v .u8 (lenV v) (capV v) (contV w0 v)) : contV w v = contV w0 v := by
  obtain ⟨base, hv, hlc, hL, hb⟩ := hi
  by_cases hc : 0 < capV v
  · obtain ⟨b, off, arr, ty, fr, rfl, h1, h2, h3, h4, h5⟩ := hb hc
    have h1 : b < w0.heap.size := h1
    rw [hv]
    unfold contV
    simp only
    rw [h b h1]
  · have h0 : lenV v = 0 := by omega
    rw [hv]
    unfold contV
    rw [h0]
    cases base with
    | none => rfl
    | some a =>
      simp only [List.range_zero, List.map_nil]
      split <;> split <;> rfl

theorem PartsOk.move {w0 w : World} (h : ∀ b, b < w0.heap.size → w.heap[b]? = w0.heap[b]?) (hs : w0.heap.size ≤ w.heap.size) {L : List Value} {n : Nat} (hp : PartsOk w0 L n) : PartsOk w L n ∧ catV w L n = catV w0 L n := by
  have hc : ∀ k, k ≤ n → catV w L k = catV w0 L k := by
    intro k
    induction k with
    | zero => intro _; rfl
    | succ k ih =>
      intro hk
      show catV w L k ++ _ = catV w0 L k ++ _
      rw [ih (by omega), contV_move h (hp.imp k (by omega) 0 noEnv)]
  refine ⟨⟨fun i hi k β => ?_, by rw [hc n (Nat.le_refl _)]; exact hp.small⟩, hc n (Nat.le_refl _)⟩
  rw [contV_move h (hp.imp i hi 0 noEnv)]
  obtain ⟨base, hv, hlc, hL, hb⟩ := hp.imp i hi 0 noEnv
  refine ⟨base, hv, hlc, hL, fun h0 => ?_⟩
  obtain ⟨b, off, arr, ty, fr, g1, g2, g3, g4, g5, g6⟩ := hb h0
  have g2 : b < w0.heap.size := g2
  exact ⟨b, off, arr, ty, fr, g1, Nat.lt_of_lt_of_le g2 hs, g3, (h b g2).trans g4, g5, g6⟩

def gjoin (w0 : World) (rest : Gam) : Gam := fun g K n args =>
  if 13 = g then (match args with
    | [.o (.a (.sl j 0 m _))] => (match K.at j with
      | some ⟨_, [.vals m' L]⟩ => some ⟨some (m' = m ∧ m < 70368744177664 ∧ PartsOk w0 L m), .o (.g [.ints .u8 64 (shaD (catV w0 L m))]), [], 0⟩
      | _ => none)
    | _ => none) else rest g K n args

theorem gjoin_ok {rest : Gam} {w0 : World} (hr : GamAt Try.prog rest w0 []) : GamAt Try.prog (gjoin w0 rest) w0 [] := by
  refine ⟨?_, ?_, ?_, ?_⟩
  · intro f K n args s hf hs
    unfold gjoin at hs
    split at hs
    · rename_i hg; subst hg; exact Try.call13
    · exact hr.enter _ _ _ _ _ hf hs
  · intro f K n args s hf hs hvc β w xs hx hR hn hK
    unfold gjoin at hs
    split at hs
    · rename_i hg; subst hg
      split at hs
      · rename_i j m cap
        split at hs
        · rename_i own m' L hb
          simp only [Option.some.injEq] at hs; subst hs
          obtain ⟨rfl, hm, hp⟩ := hvc
          obtain ⟨v, rest', rfl, hv, hrest⟩ := hx
          cases hrest
          obtain ⟨hp2, hcat⟩ := hp.move (fun b hb => hR.old b hb (by simp)) hR.size
          have hrel : RelW w [] (fun _ => β j) [some ⟨false, [.vals m' L]⟩] w := by
            refine RelW.ofRead fun i bk hi => ?_
            have hi0 : i = 0 ∧ bk = ⟨false, [.vals m' L]⟩ := by
              match i, hi with
              | 0, hi => exact ⟨rfl, (Option.some.inj hi).symm⟩
              | i + 1, hi => simp [Know.at] at hi
            obtain ⟨rfl, rfl⟩ := hi0
            refine ⟨rfl, ?_, fun r hr' => hR.live j _ r hb hr'⟩
            obtain ⟨cs, hc, hd⟩ := hR.holds j _ hb
            refine ⟨cs, ?_, ?_⟩
            · obtain ⟨x, y, h1, h2, h3⟩ := hc
              exact ⟨x, y, h1, h2, h3⟩
            · rcases hd with ⟨h1, _⟩ | ⟨r, arr, ty, fr, g1, g2, g3, g4, g5, _⟩
              · exact .inl ⟨h1, .inl rfl⟩
              · exact .inr ⟨r, arr, ty, fr, g1, g2, g3, g4, g5, fun h => by cases h⟩
          have hall : allC (fun _ => β j) [.o (.a (.sl 0 0 m' cap))] [v] := by
            refine ⟨v, [], rfl, ?_, rfl⟩
            obtain ⟨base, h1, h2, h3⟩ := hv
            exact ⟨base, h1, h2, h3⟩
          refine Calls.mono (calls_of_body tabOkTJ Try.func13 hall hrel (joinP_body w m' L cap hm (fun _ => β j) hp2)) fun e w' h => ?_
          obtain ⟨xs, K1, v', β', hx', rfl, hv', hr', _⟩ := h
          subst hx'
          refine ⟨v', β, rfl, agree_refl _ _ _, ?_, hR.grow hr'.toGrow⟩
          rw [joinP_sha, hcat] at hv'
          obtain ⟨cs, h1, h2⟩ := hv'
          obtain ⟨x, y, h3, h4, h5⟩ := h2
          exact ⟨cs, h1, x, y, h3, h4, h5⟩
        · simp at hs
      · simp at hs
    · exact hr.calls _ _ _ _ _ hf hs hvc β w xs hx hR hn hK
  · intro f K K' n args s hf hs hk
    unfold gjoin at hs ⊢
    split at hs
    · rename_i hg
      rw [if_pos hg]
      split at hs
      · split at hs
        · rename_i hb
          rw [hk _ _ hb]; exact hs
        · simp at hs
      · simp at hs
    · rename_i hg; rw [if_neg hg]; exact hr.mono _ _ _ _ _ _ hf hs hk
  · intro f n v s hf hs
    have hne : ¬ (13 = f) := fun e => by
      have h13 : 13 < impId := by decide
      rw [e] at h13
      exact Nat.lt_irrefl _ (Nat.lt_of_lt_of_le h13 hf)
    unfold gjoin at hs
    rw [if_neg hne] at hs
    exact hr.imp _ _ _ _ hf hs

/-- bools that lie in a block -/
def BoolsOk (A : List Value) (m : Nat) : Prop := ∀ i, i < m → A.getD i undef = .bool (boolV (A.getD i undef))

theorem tm_nn (k m : Nat) : 0 ≤ Int.tmod ((k : Nat) : Int) ((m : Nat) : Int) := Int.tmod_nonneg _ (by omega)
theorem tm_lti {k m : Nat} (h : 0 < m) : Int.tmod ((k : Nat) : Int) ((m : Nat) : Int) < ((m : Nat) : Int) := Int.tmod_lt_of_pos _ (by omega)
theorem tm_lt {k m : Nat} (h : 0 < m) : Int.toNat (Int.tmod ((k : Nat) : Int) ((m : Nat) : Int)) < m := by
  have h1 := tm_nn k m
  have h2 := tm_lti (k := k) h
  omega

theorem catV_app {w : World} {L : List Value} {n k : Nat} (h : PartsOk w L n) (hk : k < n) :
    (sub (catV w L k) 0 (catV w L k).length) ++ (sub (contV w (L.getD k undef)) 0 (lenV (L.getD k undef))) = catV w L (k + 1) := by
  rw [sub_all _ _ (Nat.le_refl _), sub_all _ _ (Nat.le_of_eq (h.len hk))]; rfl
theorem catV_len {w : World} {L : List Value} {n k : Nat} (h : PartsOk w L n) (hk : k < n) : (catV w L (k + 1)).length = (catV w L k).length + lenV (L.getD k undef) := by
  show (catV w L k ++ _).length = _
  rw [List.length_append, h.len hk]
theorem state_h (D : List Int) : state (hT D) (hL D) = hL D := sub_all _ _ (Nat.le_of_eq (hL_len D))
theorem hN_def (D : List Int) : hN D = ((D.length : Nat) : Int) := rfl

theorem sum_sha {D : List Int} (h : D.length < 70368744177664) : hsum (hS D) (hT D) (hN D) (hL D) konst = join1 D.length (sub D 0 D.length) := by
  rw [sub_all _ _ (Nat.le_refl _), join1_sha rfl h]; rfl
theorem sum_sha2 {D : List Int} (h : D.length < 70368744177664) : shaD D = join1 D.length (sub D 0 D.length) := sum_sha h
end Go.Proofs.Ytepimglipelpmaa.X
