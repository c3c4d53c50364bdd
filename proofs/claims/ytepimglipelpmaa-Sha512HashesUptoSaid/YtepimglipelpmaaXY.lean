/- Values that lie outside of the known blocks, taken in where they are loaded; a function whose arguments lie there. -/
import Derived.Test.YtepimglipelpmaaC4
namespace Go.Proofs.Ytepimglipelpmaa.X
open Go Go.Proofs
set_option linter.unusedVariables false

/-- what a value says -/
def intV : Value → Int
  | .int _ n => n
  | _ => 0
def boolV : Value → Bool
  | .bool b => b
  | _ => false
def lenV : Value → Nat
  | .slice _ len _ => len
  | _ => 0
def capV : Value → Nat
  | .slice _ _ cap => cap
  | _ => 0
/-- the integers that a slice shows in a world -/
def contV (w : World) : Value → List Int
  | .slice (some a) len _ => (match w.heap[a.block]? with
    | some (.cells arr _ _) => (List.range len).map fun i => intV (arr.getD (a.off + i) (.int .i64 0))
    | _ => [])
  | _ => []

/-- how values of a type are taken in -/
def gimp (t : TypeId) (mk : Value → Nat → Rx) (rest : Gam) : Gam := fun g K n args =>
  if impId + t = g then (match args with | [.o (.a (.raw v))] => some (mk v n) | _ => none) else rest g K n args

theorem gimp_ok {P : Program} {t : TypeId} {mk : Value → Nat → Rx} {rest : Gam} {w0 : World} {rw : List Nat} (hr : GamAt P rest w0 rw)
    (h : ∀ v n, okP (mk v n).vc → ∀ β K w, RelW w0 rw β K w → (∀ i, i < (mk v n).fr → K.at (n + i) = none) → K.nom n (n + (mk v n).fr) = true → ∃ β', Agree n (n + (mk v n).fr) β β' ∧ (mk v n).val.con β' v ∧ RelW w0 rw β' (app K (mk v n).ch) w) :
    GamAt P (gimp t mk rest) w0 rw := by
  have ne : ∀ f : Nat, f < impId → ¬ (impId + t = f) := fun f hf e => by
    have : impId ≤ f := e ▸ Nat.le_add_right _ _
    omega
  refine ⟨?_, ?_, ?_, ?_⟩
  · intro f K n args s hf hs
    unfold gimp at hs; rw [if_neg (ne f hf)] at hs
    exact hr.enter _ _ _ _ _ hf hs
  · intro f K n args s hf hs
    unfold gimp at hs; rw [if_neg (ne f hf)] at hs
    exact hr.calls _ _ _ _ _ hf hs
  · intro f K K' n args s hf hs hk
    unfold gimp at hs ⊢; rw [if_neg (ne f hf)] at hs ⊢
    exact hr.mono _ _ _ _ _ _ hf hs hk
  · intro f n v s hf hs hvc β K w hR hn hK
    unfold gimp at hs
    split at hs
    · simp only [Option.some.injEq] at hs; subst hs
      exact h v n hvc β K w hR hn hK
    · exact hr.imp _ _ _ _ hf hs hvc β K w hR hn hK

/-- an integer -/
def mkI (k : IntKind) (v : Value) (n : Nat) : Rx := ⟨some (v = .int k (intV v)), .o (.a (.i k (intV v))), [], 0⟩
def mkB (v : Value) (n : Nat) : Rx := ⟨some (v = .bool (boolV v)), .o (.a (.b (boolV v))), [], 0⟩
/-- a slice of integers -/
def mkS (B : Bs) (k : IntKind) (v : Value) (n : Nat) : Rx :=
  ⟨some (ImpOk B v k (lenV v) (capV v) (contV B.w0 v)), .o (.a (.sl n 0 (lenV v) (capV v))), [(n, some ⟨false, [.ints k (lenV v) (contV B.w0 v)]⟩)], 1⟩

theorem mkI_ok {k : IntKind} {w0 : World} {rw : List Nat} (v : Value) (n : Nat) (hv : okP (mkI k v n).vc) (β : Env) (K : Know) (w : World) (hR : RelW w0 rw β K w) (_ : ∀ i, i < (mkI k v n).fr → K.at (n + i) = none) (_ : K.nom n (n + (mkI k v n).fr) = true) :
    ∃ β', Agree n (n + (mkI k v n).fr) β β' ∧ (mkI k v n).val.con β' v ∧ RelW w0 rw β' (app K (mkI k v n).ch) w := by
  have hv : v = .int k (intV v) := hv
  refine ⟨β, agree_refl _ _ _, ?_, hR⟩
  show [v] = [Value.int k (intV v)]
  rw [← hv]

theorem mkB_ok {w0 : World} {rw : List Nat} (v : Value) (n : Nat) (hv : okP (mkB v n).vc) (β : Env) (K : Know) (w : World) (hR : RelW w0 rw β K w) (_ : ∀ i, i < (mkB v n).fr → K.at (n + i) = none) (_ : K.nom n (n + (mkB v n).fr) = true) :
    ∃ β', Agree n (n + (mkB v n).fr) β β' ∧ (mkB v n).val.con β' v ∧ RelW w0 rw β' (app K (mkB v n).ch) w := by
  have hv : v = .bool (boolV v) := hv
  refine ⟨β, agree_refl _ _ _, ?_, hR⟩
  show [v] = [Value.bool (boolV v)]
  rw [← hv]

theorem mkS_ok {B : Bs} {k : IntKind} (v : Value) (n : Nat) (hv : okP (mkS B k v n).vc) (β : Env) (K : Know) (w : World) (hR : RelW B.w0 B.rw β K w) (hn : ∀ i, i < (mkS B k v n).fr → K.at (n + i) = none) (hK : K.nom n (n + (mkS B k v n).fr) = true) :
    ∃ β', Agree n (n + (mkS B k v n).fr) β β' ∧ (mkS B k v n).val.con β' v ∧ RelW B.w0 B.rw β' (app K (mkS B k v n).ch) w := by
  obtain ⟨base, hvb, hlc, hL, hb⟩ := hv
  have hn0 : K.at n = none := hn 0 (by show 0 < 1; omega)
  have hK : K.nom n (n + 1) = true := hK
  have gen : ∀ rr : Option Ref, (∀ r, rr = some r → r.blk < B.w0.heap.size ∧ r.blk ∉ B.rw) →
      ((∃ r arr ty fr, rr = some r ∧ w.heap[r.blk]? = some (.cells arr ty fr) ∧ arr.size = r.size ∧ r.off + lenV v ≤ r.size ∧ ∀ i x, (contV B.w0 v)[i]? = some x → arr[r.off + i]? = some (.int k x)) ∨ lenV v = 0) →
      RelW B.w0 B.rw (β.upd n rr) (app K [(n, some ⟨false, [.ints k (lenV v) (contV B.w0 v)]⟩)]) w := by
    intro rr hrr hold
    have hag := Env.agree_upd β n rr
    have hself : (β.upd n rr) n = rr := by unfold Env.upd; rw [if_pos rfl]
    have hoth : ∀ t, t ≠ n → (β.upd n rr) t = β t := fun t ht => by unfold Env.upd; rw [if_neg ht]
    have hat : ∀ j, Know.at (app K [(n, some ⟨false, [.ints k (lenV v) (contV B.w0 v)]⟩)]) j = if j = n then some ⟨false, [.ints k (lenV v) (contV B.w0 v)]⟩ else K.at j := by
      intro j
      rw [app_at]
      unfold lkCh lkCh
      by_cases h : j = n
      · subst h; simp
      · simp [h]
    refine ⟨?_, ?_, ?_, ?_, hR.old, hR.size, hR.os, hR.tape, hR.output⟩
    · intro t b hb
      rw [hat] at hb
      split at hb
      · rename_i ht
        subst ht
        simp only [Option.some.injEq] at hb; subst hb
        refine ⟨(contV B.w0 v).map (Value.int k), ⟨_, [], by simp, ⟨hL, rfl⟩, rfl⟩, ?_⟩
        rcases hold with ⟨r, arr, ty, fr, hr, hh, hsz, hl, ha⟩ | h0
        · refine .inr ⟨r, arr, ty, fr, by rw [hself]; exact hr, hh, hsz, by simp; omega, ?_, fun h => by cases h⟩
          intro i x hx
          rw [List.getElem?_map, Option.map_eq_some_iff] at hx
          obtain ⟨y, hy, rfl⟩ := hx
          exact ha i y hy
        · have hnil : contV B.w0 v = [] := List.length_eq_zero_iff.1 (by omega)
          exact .inl ⟨by rw [hnil]; rfl, .inl rfl⟩
      · rename_i ht
        obtain ⟨cs, h1, h2⟩ := hR.holds t b hb
        refine ⟨cs, cons_agree hag (Know.nom_at hK hb) h1, ?_⟩
        rw [hoth t ht]; exact h2
    · intro i j b c r s hi hj ho hne hri hsj
      rw [hat] at hi hj
      split at hi
      · simp only [Option.some.injEq] at hi; subst hi; cases ho
      · rename_i hin
        rw [hoth i hin] at hri
        split at hj
        · rename_i hjn
          subst hjn
          rw [hself] at hsj
          obtain ⟨g1, g2⟩ := hrr s hsj
          rcases hR.mine i b r hi ho hri with h | h
          · omega
          · intro e; rw [e] at h; exact g2 h
        · rename_i hjn
          rw [hoth j hjn] at hsj
          exact hR.apart i j b c r s hi hj ho hne hri hsj
    · intro i b r hi ho hri
      rw [hat] at hi
      split at hi
      · simp only [Option.some.injEq] at hi; subst hi; cases ho
      · rename_i hin
        rw [hoth i hin] at hri
        exact hR.mine i b r hi ho hri
    · intro i b r hi hri
      rw [hat] at hi
      split at hi
      · rename_i hin
        subst hin
        rw [hself] at hri
        exact Nat.lt_of_lt_of_le (hrr r hri).1 hR.size
      · rename_i hin
        rw [hoth i hin] at hri
        exact hR.live i b r hi hri
  by_cases hc : 0 < capV v
  · obtain ⟨b, off, arr, ty, fr, rfl, h1, h2, h3, h4, h5⟩ := hb hc
    refine ⟨_, Env.agree_upd β n (some ⟨b, off, arr.size⟩), ⟨some ⟨b, off, none⟩, by rw [← hvb], hlc, fun _ => ⟨⟨b, off, arr.size⟩, ?_, rfl⟩⟩, gen (some ⟨b, off, arr.size⟩) (fun r hr => by cases hr; exact ⟨h1, h2⟩) (.inl ⟨_, arr, ty, fr, rfl, ?_, rfl, h4, h5⟩)⟩
    · show (β.upd n _) n = _
      unfold Env.upd; rw [if_pos rfl]
    · show w.heap[b]? = _
      rw [hR.old b h1 h2]; exact h3
  · exact ⟨_, Env.agree_upd β n none, ⟨base, by rw [← hvb], hlc, fun h => absurd h hc⟩, gen none (fun r hr => by cases hr) (.inr (by omega))⟩
end Go.Proofs.Ytepimglipelpmaa.X
