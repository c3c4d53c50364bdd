/- Conversion of a row of bytes to its own type: the row is only read from then on. -/
import Derived.Test.YtepimglipelpmaaXG
namespace Go.Proofs.Ytepimglipelpmaa.X
open Go

def opConvS (T : Tab) (K : Know) (src dst : TypeId) (x : AV) : Option Ox :=
  match T dst, x with
  | some e, .o (.a (.sl j c len cap)) =>
    (match e.d with
     | .slice el => (match T el, K.at j with
        | some e2, some b => (match e2.d with
            | .int .u8 => if src = dst ∧ b.own = true then some ⟨some (0 < cap), .o (.a (.sl j c len cap)), [(j, some ⟨false, b.cells⟩)], false⟩ else none
            | _ => none)
        | _, _ => none)
     | _ => none)
  | _, _ => none

section sound
variable {P : Program} {T : Tab} {w0 : World} {rw : List Nat} {β : Env} {K : Know} {w : World}

theorem RelW.frozen (h : RelW w0 rw β K w) {j : Nat} {b : Blk} (hb : K.at j = some b) (ho : b.own = true) {r : Ref} (hr : β j = some r) (a : Addr) (ha : a.block = r.blk) (n : Nat) :
    RelW w0 rw β (K.set1 j (some ⟨false, b.cells⟩)) (w.freeze a n) := by
  unfold World.freeze
  split
  · have hat : ∀ x c, (K.set1 j (some ⟨false, b.cells⟩)).at x = some c → ∃ d, K.at x = some d ∧ d.cells = c.cells ∧ (c.own = true → d.own = true) := by
      intro x c hx
      rw [Know.at_set1] at hx
      split at hx
      · rename_i e; subst e; simp only [Option.some.injEq] at hx; subst hx; exact ⟨b, hb, rfl, fun h => by cases h⟩
      · exact ⟨c, hx, rfl, fun h => h⟩
    refine ⟨?_, ?_, ?_, ?_, h.old, h.size, h.os, h.tape, h.output⟩
    · intro x c hx
      obtain ⟨d, hd, hc, hown⟩ := hat x c hx
      obtain ⟨cs, h1, h2⟩ := h.holds x d hd
      refine ⟨cs, hc ▸ h1, ?_⟩
      rcases h2 with ⟨h3, h4⟩ | ⟨q, arr, ty, fr, g1, g2, g3, g4, g5, g6⟩
      · refine .inl ⟨h3, ?_⟩
        rcases h4 with h4 | h4
        · left
          cases hco : c.own with
          | false => rfl
          | true => rw [hown hco] at h4; cases h4
        · exact .inr h4
      · exact .inr ⟨q, arr, ty, fr, g1, g2, g3, g4, g5, fun h => g6 (hown h)⟩
    · intro x y c d q s hx hy hown
      obtain ⟨c', hc', _, ho'⟩ := hat x c hx
      obtain ⟨d', hd', _, _⟩ := hat y d hy
      exact h.apart x y c' d' q s hc' hd' (ho' hown)
    · intro x c q hx hown
      obtain ⟨c', hc', _, ho'⟩ := hat x c hx
      exact h.mine x c' q hc' (ho' hown)
    · intro x c q hx
      obtain ⟨c', hc', _, _⟩ := hat x c hx
      exact h.live x c' q hc'
  · have hne : ∀ x c q, (K.set1 j (some ⟨false, b.cells⟩)).at x = some c → x ≠ j → β x = some q → q.blk ≠ r.blk := by
      intro x c q hx hxj hq
      rw [Know.at_set1, if_neg hxj] at hx
      exact fun e => h.apart j x b c r q hb hx ho (fun e => hxj e.symm) hr hq e.symm
    have hsz : ∀ (f : Obj → Obj), (w.heap.modify a.block f).size = w.heap.size := fun f => by simp
    have hoth : ∀ (f : Obj → Obj) (x : Nat), x ≠ r.blk → (w.heap.modify a.block f)[x]? = w.heap[x]? := fun f x hx => by
      rw [Array.getElem?_modify, if_neg (by rw [ha]; exact fun e => hx e.symm)]
    refine ⟨?_, ?_, ?_, ?_, ?_, ?_, h.os, h.tape, h.output⟩
    · intro x c hx
      by_cases hxj : x = j
      · subst hxj
        rw [Know.at_set1, if_pos rfl] at hx
        simp only [Option.some.injEq] at hx; subst hx
        obtain ⟨cs, h1, h2⟩ := h.holds x b hb
        refine ⟨cs, h1, ?_⟩
        rcases h2 with ⟨h3, h4⟩ | ⟨q, arr, ty, fr, g1, g2, g3, g4, g5, g6⟩
        · exact .inl ⟨h3, .inl rfl⟩
        · rw [hr] at g1; cases g1
          obtain ⟨lo, hi⟩ := fr
          have hget : ∃ fr', (w.heap.modify a.block fun
              | .cells c elem (lo, hi) => .cells c elem (if lo == hi then (a.off, a.off + n) else (min lo a.off, max hi (a.off + n)))
              | o => o)[r.blk]? = some (.cells arr ty fr') := by
            rw [Array.getElem?_modify, if_pos ha, g2]; exact ⟨_, rfl⟩
          obtain ⟨fr', hf⟩ := hget
          exact .inr ⟨r, arr, ty, fr', hr, hf, g3, g4, g5, fun h => by cases h⟩
      · have hx' := hx
        rw [Know.at_set1, if_neg hxj] at hx
        obtain ⟨cs, h1, h2⟩ := h.holds x c hx
        refine ⟨cs, h1, ?_⟩
        rcases h2 with h2 | ⟨q, arr, ty, fr, g1, g2, rest⟩
        · exact .inl h2
        · exact .inr ⟨q, arr, ty, fr, g1, (hoth _ _ (hne x c q hx' hxj g1)).trans g2, rest⟩
    · intro x y c d q s hx hy hown hxy h1 h2
      rw [Know.at_set1] at hx hy
      split at hx
      · simp only [Option.some.injEq] at hx; subst hx; cases hown
      · split at hy
        · rename_i _ e; subst e
          exact h.apart x y c b q s hx hb hown hxy h1 h2
        · exact h.apart x y c d q s hx hy hown hxy h1 h2
    · intro x c q hx hown h1
      rw [Know.at_set1] at hx
      split at hx
      · simp only [Option.some.injEq] at hx; subst hx; cases hown
      · exact h.mine x c q hx hown h1
    · intro x c q hx h1
      simp only [hsz]
      rw [Know.at_set1] at hx
      split at hx
      · rename_i e; subst e; exact h.live x b q hb h1
      · exact h.live x c q hx h1
    · intro x hx hnr
      refine (hoth _ x fun e => ?_).trans (h.old x hx hnr)
      rcases h.mine j b r hb ho hr with h1 | h1
      · omega
      · exact hnr (e ▸ h1)
    · simp only [hsz]; exact h.size

theorem opConvS_ok (hT : TabOk P T) {n : Nat} {src dst : TypeId} {x : AV} {o : Ox} {v : Value} (h : opConvS T K src dst x = some o) (hv : okP o.vc) (hx : x.con β v) (hR : RelW w0 rw β K w) : Goes P w0 rw β K w n (convert src dst v) o := by
  unfold opConvS at h
  split at h
  · rename_i e j c len cap he
    split at h
    · rename_i el hel
      split at h
      · rename_i e2 b he2 hb
        split at h
        · rename_i hd2
          split at h
          · rename_i hc
            obtain ⟨rfl, ho⟩ := hc
            simp only [Option.some.injEq] at h; subst h
            have hcap : 0 < cap := hv
            have hxx := hx
            obtain ⟨base, hvv, hlc, hbase⟩ := hx
            simp only [List.cons.injEq, and_true] at hvv; subst hvv
            obtain ⟨r, hr, rfl⟩ := hbase hcap
            have hu := (hT _ _ he).und
            have hu2 := (hT _ _ he2).und
            rw [hel] at hu; rw [hd2] at hu2
            have hsh : ∃ w', (markStringish ⟨r.blk, r.off + c, none⟩).run P w = .ok () w' ∧ RelW w0 rw β (K.set1 j (some ⟨false, b.cells⟩)) w' := by
              unfold markStringish
              simp only [Sem.run_bind, run_shape, Result.andThen_ok]
              cases hs : w.shape? r.blk with
              | none =>
                refine ⟨w, rfl, ?_⟩
                have := hR.frozen hb ho hr ⟨r.blk, 0, none⟩ rfl 0
                simpa [World.freeze] using this
              | some q =>
                obtain ⟨q1, q2⟩ := q
                exact ⟨_, rfl, hR.frozen hb ho hr ⟨r.blk, q2, none⟩ rfl 1⟩
            obtain ⟨w', hrun, hrel⟩ := hsh
            refine ⟨β, _, w', ?_, agree_refl _ _ _, hxx, hrel⟩
            unfold convert
            simp only [Sem.run_bind, run_underlying hu, Result.andThen_ok, beq_self_eq_true, run_underlying hu2, hrun, Sem.run_pure]
          · simp at h
        · simp at h
      · simp at h
    · simp at h
  · simp at h

theorem opConvS_mono {K' : Know} (hs : ∀ j b, K.at j = some b → K'.at j = some b) {src dst : TypeId} {x : AV} {r : Ox} (h : opConvS T K src dst x = some r) : opConvS T K' src dst x = some r := by
  unfold opConvS at h ⊢
  split at h
  · split at h
    · split at h
      · rename_i e2 b he2 hb
        rw [hs _ _ hb, he2]; exact h
      · simp at h
    · simp at h
  · simp at h
end sound
end Go.Proofs.Ytepimglipelpmaa.X
