/- Contracts of functions that read and write blocks: the theorem. -/
import Derived.Test.YtepimglipelpmaaXR
namespace Go.Proofs.Ytepimglipelpmaa.X
open Go

theorem getD_mem {l : List Nat} {i : Nat} (h : i < l.length) : l[i]? = some (l.getD i 0) := by
  rw [List.getD_eq_getElem?_getD, List.getElem?_eq_getElem h]; rfl

theorem know_append_left {K K' : Know} {t : Nat} (h : t < K.length) : Know.at (K ++ K') t = K.at t := by
  unfold Know.at; rw [List.getElem?_append_left h]
theorem know_append_right {K K' : Know} {t : Nat} (h : K.length ≤ t) : Know.at (K ++ K') t = Know.at K' (t - K.length) := by
  unfold Know.at; rw [List.getElem?_append_right h]

theorem knowSome {wk : List Blk} {t : Nat} : Know.at (wk.map some) t = wk[t]? := by
  unfold Know.at; rw [List.getElem?_map]
  cases wk[t]? <;> rfl

theorem all_at {K : Know} {f : Option Blk → Bool} (h : K.all f = true) {t : Nat} {b : Blk} (hb : K.at t = some b) : f (some b) = true := by
  unfold Know.at at hb
  rw [Option.join_eq_some_iff] at hb
  exact List.all_eq_true.1 h _ (List.mem_of_getElem? hb)

section call
variable {K : Know} {pk : List Nat} {wk : List Blk} {vs : List Vw}

/-- the callee's blocks, in the caller's world -/
theorem callee_rel {w0 : World} {rw : List Nat} {β : Env} {w : World} (hR : RelW w0 rw β K w) {ow : List Bool} (hwk : wkOf K pk pk ow = some wk) (hvs : ∀ v ∈ vs, VwOk β K v) (hvk : viewsOk pk wk vs = true) (hnd : nodupB pk = true) :
    RelW w ((List.range pk.length).filterMap fun i => if ownAt wk i = true then (β (pk.getD i 0)).map Ref.blk else none) (envW pk β vs) (wk.map some ++ knowV vs) w := by
  obtain ⟨hlen, hw⟩ := wkOf_ok hwk
  have hviews := views_rel hR hvs
  have hat : ∀ t b, Know.at (wk.map some ++ knowV vs) t = some b → (t < pk.length ∧ wk[t]? = some b) ∨ (pk.length ≤ t ∧ (knowV vs).at (t - pk.length) = some b) := by
    intro t b hb
    by_cases ht : t < pk.length
    · rw [know_append_left (by simp; omega), knowSome] at hb; exact .inl ⟨ht, hb⟩
    · rw [know_append_right (by simp; omega)] at hb
      simp only [List.length_map, hlen] at hb
      exact .inr ⟨by omega, hb⟩
  have hl : ∀ t, t < pk.length → envW pk β vs t = β (pk.getD t 0) := fun t ht => by unfold envW; rw [if_pos ht]
  have hg : ∀ t, pk.length ≤ t → envW pk β vs t = envV β vs (t - pk.length) := fun t ht => by unfold envW; rw [if_neg (by omega)]
  have vown : ∀ t b, (knowV vs).at t = some b → b.own = false ∧ ∃ v ∈ vs, envV β vs t = shiftR v.c (β v.j) ∧ ∃ b0, K.at v.j = some b0 := by
    intro t b hb
    unfold knowV Know.at at hb
    rw [List.getElem?_map] at hb
    cases hi : vs[t]? with
    | none => rw [hi] at hb; simp at hb
    | some v =>
      rw [hi] at hb; simp at hb
      have hm := List.mem_of_getElem? hi
      obtain ⟨_, b0, hb0, _⟩ := hvs v hm
      refine ⟨by rw [← hb], v, hm, ?_, b0, hb0⟩
      unfold envV; rw [hi]
  refine ⟨?_, ?_, ?_, ?_, fun _ _ _ => rfl, Nat.le_refl _, rfl, rfl, rfl⟩
  · intro t b hb
    rcases hat t b hb with ⟨ht, hb⟩ | ⟨ht, hb⟩
    · obtain ⟨b', hb', ho, hall, hce⟩ := hw t b hb
      obtain ⟨cs, h1, h2⟩ := hR.holds _ _ hb'
      refine ⟨cs, ?_, ?_⟩
      · rw [hce]; exact cons_ren (fun j hj => envW_posn hj) hall h1
      · rw [hl t ht]
        rcases h2 with ⟨h3, h4⟩ | ⟨r, arr, ty, fr, g1, g2, g3, g4, g5, g6⟩
        · refine .inl ⟨h3, ?_⟩
          rcases h4 with h4 | h4
          · left
            cases hbo : b.own with
            | false => rfl
            | true => rw [ho hbo] at h4; cases h4
          · exact .inr h4
        · exact .inr ⟨r, arr, ty, fr, g1, g2, g3, g4, g5, fun h => g6 (ho h)⟩
    · obtain ⟨cs, h1, h2⟩ := hviews.holds _ _ hb
      have hf := (vown _ _ hb).1
      -- the views' cells name nothing
      have hflat : b.cells.all Atom.flat = true := by
        unfold knowV Know.at at hb
        rw [List.getElem?_map] at hb
        cases hi : vs[t - pk.length]? with
        | none => rw [hi] at hb; simp at hb
        | some v =>
          rw [hi] at hb; simp at hb; subst hb
          exact (hvs v (List.mem_of_getElem? hi)).1
      exact ⟨cs, cons_flat hflat h1, by rw [hg t ht]; exact h2⟩
  · intro x y b c r s hx hy ho hne h1 h2
    rcases hat x b hx with ⟨hx', hb⟩ | ⟨hx', hb⟩
    · obtain ⟨b', hb', hbo, _, _⟩ := hw x b hb
      rw [hl x hx'] at h1
      rcases hat y c hy with ⟨hy', hc⟩ | ⟨hy', hc⟩
      · obtain ⟨c', hc', _⟩ := hw y c hc
        rw [hl y hy'] at h2
        exact hR.apart _ _ b' c' r s hb' hc' (hbo ho) (fun e => hne (nodupB_ok hnd x y hx' hy' e)) h1 h2
      · obtain ⟨_, v, hv, he, b0, hb0⟩ := vown _ _ hc
        rw [hg y hy', he] at h2
        cases hq : β v.j with
        | none => rw [hq] at h2; simp [shiftR] at h2
        | some q =>
          rw [hq] at h2; simp only [shiftR, Option.some.injEq] at h2; subst h2
          have h3 := List.all_eq_true.1 hvk x (List.mem_range.2 hx')
          have hox : ownAt wk x = true := by unfold ownAt; rw [hb]; exact ho
          rw [hox] at h3
          simp only [Bool.not_true, Bool.false_or, List.all_eq_true, decide_eq_true_eq] at h3
          exact hR.apart _ _ b' b0 r q hb' hb0 (hbo ho) (fun e => h3 v hv e.symm) h1 hq
    · rw [(vown _ _ hb).1] at ho; cases ho
  · intro x b r hx ho h1
    rcases hat x b hx with ⟨hx', hb⟩ | ⟨hx', hb⟩
    · right
      rw [List.mem_filterMap]
      refine ⟨x, List.mem_range.2 hx', ?_⟩
      rw [hl x hx'] at h1
      have hox : ownAt wk x = true := by unfold ownAt; rw [hb]; exact ho
      rw [if_pos hox, h1]; rfl
    · rw [(vown _ _ hb).1] at ho; cases ho
  · intro x b r hx h1
    rcases hat x b hx with ⟨hx', hb⟩ | ⟨hx', hb⟩
    · obtain ⟨b', hb', _⟩ := hw x b hb
      rw [hl x hx'] at h1
      exact hR.live _ b' r hb' h1
    · rw [hg x hx'] at h1
      exact hviews.live _ _ r hb h1
end call

theorem gcall_full {P : Program} {T : Tab} (hT : TabOk P T) {f : FuncId} {fn : Func} (hf : P.funcs[f]? = some fn) {ow : List Bool} {specs : List AW} {entry : List Blk → List Vw → List AV → Option (Prop × List V1 × Know)}
    (h : ∀ wk vs as p xs K1, entry wk vs as = some (p, xs, K1) → p → ∀ (caps : List Nat) (w : World) (rw : List Nat) (β : Env), Body P T fn ⟨w, rw, wk.length + vs.length, β⟩ (recap specs as caps) (wk.map some ++ knowV vs) fun ys K' => ys = xs ∧ K' = K1)
    {K : Know} {n : Nat} {args : List AV} {s : Rx} (hs : gcallE ow specs entry K n args = some s) (hvc : okP s.vc) : FullC P f K n args s := by
  unfold gcallE at hs
  split at hs
  · simp at hs
  rename_i pk hpk
  split at hs
  · simp at hs
  rename_i wk hwk
  split at hs
  · simp at hs
  rename_i ps vs as hmk
  split at hs
  · simp at hs
  rename_i p xs K1 hen
  split at hs
  rotate_left
  · simp at hs
  rename_i hchk
  simp only [Option.some.injEq] at hs
  subst hs
  simp only [Bool.and_eq_true, decide_eq_true_eq] at hchk
  obtain ⟨⟨⟨⟨⟨hvk, hnd⟩, hxi⟩, hki⟩, hfo⟩, hle⟩ := hchk
  obtain ⟨hps, hp⟩ := hvc
  intro w0 rw β w vals ha hR hfree hnom
  simp only at hfree hnom
  obtain ⟨hlen, hw⟩ := wkOf_ok hwk
  obtain ⟨hvs, caps, hcaps⟩ := mkW_ok specs args [] [] ps vs as vals (by simpa using hmk) hps ha
  have hrelC := callee_rel hR hwk hvs hvk hnd
  have hcaps := hcaps []
  simp only [List.nil_append, List.append_nil] at hcaps
  have hl0 : (wk.map some ++ knowV vs : Know).length = pk.length + vs.length := by simp [knowV, hlen]
  have hbody := h wk vs as p xs K1 hen hp caps w ((List.range pk.length).filterMap fun i => if ownAt wk i = true then (β (pk.getD i 0)).map Ref.blk else none) (envW pk β vs)
  rw [show wk.length + vs.length = (wk.map some ++ knowV vs : Know).length by simp [knowV]] at hbody
  refine Calls.mono (calls_of_body hT hf hcaps hrelC hbody) fun e w' he => ?_
  obtain ⟨ys, K', v, β1, ⟨rfl, rfl⟩, rfl, hv, hrel, hfix⟩ := he
  rw [hl0] at hfix
  generalize hl : pk.length + vs.length = l0 at *
  -- the caller's names behind the call
  let β2 : Env := fun t => if n ≤ t ∧ t < n + (K'.length - l0) then β1 (l0 + (t - n)) else β t
  have hag : Agree n (n + (K'.length - l0)) β β2 := fun t ht => by
    show (if _ then _ else _) = _
    rw [if_neg (by omega)]
  have hpkf : ∀ i, i < pk.length → ¬(n ≤ pk.getD i 0 ∧ pk.getD i 0 < n + (K'.length - l0)) := by
    intro i hi hc
    obtain ⟨b, hb⟩ : ∃ b, wk[i]? = some b := ⟨wk[i], List.getElem?_eq_getElem (by omega)⟩
    obtain ⟨b', hb', _⟩ := hw i b hb
    have := hfree (pk.getD i 0 - n) (by omega)
    rw [show n + (pk.getD i 0 - n) = pk.getD i 0 by omega, hb'] at this
    cases this
  have hσ : ∀ i, okI pk.length l0 K'.length i = true → β2 (sgm pk l0 n i) = β1 i := by
    intro i hi
    simp only [okI, decide_eq_true_eq] at hi
    unfold sgm
    rcases hi with hi | ⟨h1, h2⟩
    · rw [if_pos (by omega)]
      show (if _ then _ else _) = _
      rw [if_neg (hpkf i hi), hfix i (by omega)]
      unfold envW; rw [if_pos hi]
    · rw [if_neg (by omega)]
      show (if _ then _ else _) = _
      rw [if_pos (by omega)]
      congr 1; omega
  have hown : ∀ i, ownAt wk i = true → i < pk.length ∧ ∃ b', K.at (pk.getD i 0) = some b' ∧ b'.own = true := by
    intro i hi
    unfold ownAt at hi
    split at hi
    · rename_i b hb
      obtain ⟨b', hb', ho, _⟩ := hw i b hb
      refine ⟨?_, b', hb', ho hi⟩
      have := (List.getElem?_eq_some_iff.1 hb).1
      omega
    · cases hi
  have hrwc : ∀ x, x ∈ ((List.range pk.length).filterMap fun i => if ownAt wk i = true then (β (pk.getD i 0)).map Ref.blk else none) → ∃ i r, ownAt wk i = true ∧ β (pk.getD i 0) = some r ∧ x = r.blk := by
    intro x hx
    obtain ⟨i, _, hi⟩ := List.mem_filterMap.1 hx
    split at hi
    · rename_i ho
      rw [Option.map_eq_some_iff] at hi
      obtain ⟨r, hr, rfl⟩ := hi
      exact ⟨i, r, ho, hr, rfl⟩
    · cases hi
  -- what the blocks behind the call are
  have hK2 : ∀ t b, (app K (chOf pk wk l0 n K')).at t = some b → (∃ i b1, okI pk.length l0 K'.length i = true ∧ (i < pk.length → ownAt wk i = true) ∧ t = sgm pk l0 n i ∧ K'.at i = some b1 ∧ b = b1.ren (sgm pk l0 n)) ∨
      (K.at t = some b ∧ (∀ i, ownAt wk i = true → t ≠ pk.getD i 0) ∧ (t < n ∨ n + (K'.length - l0) ≤ t)) := by
    intro t b hb
    rcases app_some _ _ _ _ hb with h1 | ⟨h1, h2⟩
    · left
      unfold chOf at h1
      rcases List.mem_append.1 h1 with h1 | h1
      · obtain ⟨i, hi, he⟩ := List.mem_map.1 h1
        simp only [Prod.mk.injEq] at he
        obtain ⟨rfl, he⟩ := he
        rw [Option.map_eq_some_iff] at he
        obtain ⟨b1, hb1, rfl⟩ := he
        obtain ⟨hi1, hi2⟩ := List.mem_filter.1 hi
        have hi1 := List.mem_range.1 hi1
        exact ⟨i, b1, by simp [okI, hi1], fun _ => hi2, by unfold sgm; rw [if_pos (by omega)], hb1, rfl⟩
      · obtain ⟨m, hm, he⟩ := List.mem_map.1 h1
        simp only [Prod.mk.injEq] at he
        obtain ⟨rfl, he⟩ := he
        rw [Option.map_eq_some_iff] at he
        obtain ⟨b1, hb1, rfl⟩ := he
        have hm := List.mem_range.1 hm
        refine ⟨l0 + m, b1, by simp [okI]; omega, fun h => by omega, by unfold sgm; rw [if_neg (by omega)]; omega, hb1, rfl⟩
    · right
      refine ⟨h1, fun i hi he => ?_, ?_⟩
      · obtain ⟨hlt, _⟩ := hown i hi
        refine h2 ((K'.at i).map (Blk.ren (sgm pk l0 n))) ?_
        unfold chOf
        refine List.mem_append_left _ (List.mem_map.2 ⟨i, List.mem_filter.2 ⟨List.mem_range.2 hlt, hi⟩, ?_⟩)
        rw [he]
      · by_cases hc : t < n ∨ n + (K'.length - l0) ≤ t
        · exact hc
        · have := hfree (t - n) (by omega)
          rw [show n + (t - n) = t by omega, h1] at this
          cases this
  have hmineC : ∀ i b1 r, K'.at i = some b1 → (i < pk.length → ownAt wk i = true) → okI pk.length l0 K'.length i = true → β1 i = some r → w.heap.size ≤ r.blk ∨ ∃ i' q, ownAt wk i' = true ∧ β (pk.getD i' 0) = some q ∧ r.blk = q.blk := by
    intro i b1 r hb1 ho hok hr
    by_cases hi : i < pk.length
    · rw [hfix i (by omega)] at hr
      unfold envW at hr; rw [if_pos hi] at hr
      exact .inr ⟨i, r, ho hi, hr, rfl⟩
    · simp only [okI, decide_eq_true_eq] at hok
      have hfr : freshOwn (some b1) = true := by
        refine all_at (K := K'.drop l0) hfo (t := i - l0) ?_
        unfold Know.at at hb1 ⊢
        rw [List.getElem?_drop, show l0 + (i - l0) = i by omega]; exact hb1
      rcases hrel.mine i b1 r hb1 hfr hr with h3 | h3
      · exact .inl h3
      · obtain ⟨i', q, h4, h5, h6⟩ := hrwc _ h3
        exact .inr ⟨i', q, h4, h5, h6⟩
  refine ⟨v, β2, rfl, hag, ?_, ?_⟩
  · have hall : (retOf ys).allI (okI pk.length l0 K'.length) = true := by
      match ys, hxi with
      | [], _ => rfl
      | [x], hxi =>
        simp only [List.all_cons, List.all_nil, Bool.and_true] at hxi
        exact hxi
      | x :: y :: r, hxi => exact hxi
    exact AV.con_ren hσ hall hv
  · refine ⟨?_, ?_, ?_, ?_, ?_, Nat.le_trans hR.size hrel.size, hrel.os.trans hR.os, hrel.tape.trans hR.tape, hrel.output.trans hR.output⟩
    · intro t b hb
      rcases hK2 t b hb with ⟨i, b1, hok, _, rfl, hb1, rfl⟩ | ⟨hb, hnk, hrange⟩
      · obtain ⟨cs, h1, h2⟩ := hrel.holds i b1 hb1
        exact ⟨cs, cons_ren hσ (all_at hki hb1) h1, by rw [hσ i hok]; exact h2⟩
      · obtain ⟨cs, h1, h2⟩ := hR.holds t b hb
        refine ⟨cs, cons_agree hag (Know.nom_at hnom hb) h1, ?_⟩
        rw [hag t hrange]
        rcases h2 with h2 | ⟨r, arr, ty, fr, hr, hh, rest⟩
        · exact .inl h2
        · refine .inr ⟨r, arr, ty, fr, hr, ?_, rest⟩
          refine (hrel.old r.blk (hR.live t b r hb hr) ?_).trans hh
          intro hm
          obtain ⟨i, q, h4, h5, h6⟩ := hrwc _ hm
          obtain ⟨_, b', hb', ho'⟩ := hown i h4
          exact hR.apart _ _ b' b q r hb' hb ho' (fun e => hnk i h4 e.symm) h5 hr h6.symm
    · intro x y b c r s hx hy ho hne h1 h2
      rcases hK2 x b hx with ⟨i, b1, hok, hoi, rfl, hb1, rfl⟩ | ⟨hb, hnk, hrange⟩
      · rw [hσ i hok] at h1
        rcases hK2 y c hy with ⟨i2, c1, hok2, hoi2, rfl, hc1, rfl⟩ | ⟨hc, hnk2, hrange2⟩
        · rw [hσ i2 hok2] at h2
          exact hrel.apart i i2 b1 c1 r s hb1 hc1 ho (fun e => hne (by rw [e])) h1 h2
        · rw [hag y hrange2] at h2
          rcases hmineC i b1 r hb1 hoi hok h1 with h3 | ⟨i', q, h4, h5, h6⟩
          · have := hR.live y c s hc h2; omega
          · obtain ⟨_, b', hb', ho'⟩ := hown i' h4
            rw [h6]
            exact hR.apart _ _ b' c q s hb' hc ho' (fun e => hnk2 i' h4 e.symm) h5 h2
      · rw [hag x hrange] at h1
        rcases hK2 y c hy with ⟨i2, c1, hok2, hoi2, rfl, hc1, rfl⟩ | ⟨hc, hnk2, hrange2⟩
        · rw [hσ i2 hok2] at h2
          rcases hmineC i2 c1 s hc1 hoi2 hok2 h2 with h3 | ⟨i', q, h4, h5, h6⟩
          · have := hR.live x b r hb h1; omega
          · obtain ⟨_, b', hb', ho'⟩ := hown i' h4
            rw [h6]
            exact hR.apart _ _ b b' r q hb hb' ho (hnk i' h4) h1 h5
        · rw [hag y hrange2] at h2
          exact hR.apart x y b c r s hb hc ho hne h1 h2
    · intro x b r hx ho h1
      rcases hK2 x b hx with ⟨i, b1, hok, hoi, rfl, hb1, rfl⟩ | ⟨hb, hnk, hrange⟩
      · rw [hσ i hok] at h1
        rcases hmineC i b1 r hb1 hoi hok h1 with h3 | ⟨i', q, h4, h5, h6⟩
        · exact .inl (Nat.le_trans hR.size h3)
        · obtain ⟨_, b', hb', ho'⟩ := hown i' h4
          rw [h6]; exact hR.mine _ b' q hb' ho' h5
      · rw [hag x hrange] at h1
        exact hR.mine x b r hb ho h1
    · intro x b r hx h1
      rcases hK2 x b hx with ⟨i, b1, hok, hoi, rfl, hb1, rfl⟩ | ⟨hb, hnk, hrange⟩
      · rw [hσ i hok] at h1
        exact hrel.live i b1 r hb1 h1
      · rw [hag x hrange] at h1
        exact Nat.lt_of_lt_of_le (hR.live x b r hb h1) hrel.size
    · intro b hb hnr
      refine (hrel.old b (Nat.lt_of_lt_of_le hb hR.size) ?_).trans (hR.old b hb hnr)
      intro hm
      obtain ⟨i, q, h4, h5, h6⟩ := hrwc _ hm
      obtain ⟨_, b', hb', ho'⟩ := hown i h4
      rcases hR.mine _ b' q hb' ho' h5 with h7 | h7
      · omega
      · rw [h6] at hnr; exact hnr h7

/- what more is known changes nothing -/
theorem reach_mono {K K' : Know} (hk : Knows K K') : ∀ {f : Nat} {todo acc pk : List Nat}, reach K f todo acc = some pk → reach K' f todo acc = some pk
  | 0, _, _, _, h => by simp [reach] at h
  | f + 1, [], acc, pk, h => h
  | f + 1, j :: r, acc, pk, h => by
    simp only [reach] at h ⊢
    split at h
    · rename_i hc; rw [if_pos hc]; exact reach_mono hk h
    · rename_i hc
      rw [if_neg hc]
      split at h
      · rename_i b hb; rw [hk _ _ hb]; exact reach_mono hk h
      · simp at h

theorem wkOf_mono {K K' : Know} (hk : Knows K K') {pk : List Nat} : ∀ {l : List Nat} {ow : List Bool} {wk : List Blk}, wkOf K pk l ow = some wk → wkOf K' pk l ow = some wk
  | [], _, _, h => h
  | j :: r, ow, wk, h => by
    simp only [wkOf] at h ⊢
    split at h
    · rename_i b hb
      rw [hk _ _ hb]
      simp only
      split at h
      · rename_i hc
        rw [if_pos hc]
        split at h
        · rename_i l hl; rw [wkOf_mono hk hl]; exact h
        · simp at h
      · simp at h
    · simp at h

theorem mkW_mono {K K' : Know} (hk : Knows K K') {pk : List Nat} : ∀ {ss : List AW} {args : List AV} {i : Nat} {caps : List Nat} {r : List Prop × List Vw × List AV}, mkW K pk ss args i caps = some r → mkW K' pk ss args i caps = some r
  | [], [], _, _, _, h => h
  | [], _ :: _, _, _, _, h => by simp [mkW] at h
  | sp :: _, [], _, _, _, h => by cases sp <;> simp [mkW] at h
  | .w :: ss, a :: q, i, caps, r, h => by
    simp only [mkW] at h ⊢
    split at h
    · rename_i hc
      rw [if_pos hc]
      split at h
      · rename_i h2; rw [mkW_mono hk h2]; exact h
      · simp at h
    · simp at h
  | .s z :: ss, a :: q, i, caps, r, h => by
    simp only [mkW] at h ⊢
    split at h
    · rename_i h1
      rw [arg1_mono hk h1]
      simp only
      split at h
      · rename_i h2; rw [mkW_mono hk h2]; exact h
      · simp at h
    · simp at h
  | .p m :: ss, a :: q, i, caps, r, h => by
    simp only [mkW] at h ⊢
    split at h
    · rename_i h1
      rw [arg1_mono hk h1]
      simp only
      split at h
      · rename_i h2; rw [mkW_mono hk h2]; exact h
      · simp at h
    · simp at h

theorem gcallE_mono {ow : List Bool} {specs : List AW} {entry : List Blk → List Vw → List AV → Option (Prop × List V1 × Know)} {K K' : Know} (hk : Knows K K') {n : Nat} {args : List AV} {s : Rx} (hs : gcallE ow specs entry K n args = some s) : gcallE ow specs entry K' n args = some s := by
  unfold gcallE at hs ⊢
  split at hs
  · simp at hs
  rename_i pk hpk
  rw [reach_mono hk hpk]
  simp only
  split at hs
  · simp at hs
  rename_i wk hwk
  rw [wkOf_mono hk hwk]
  simp only
  split at hs
  · simp at hs
  rename_i ps vs as hmk
  rw [mkW_mono hk hmk]
  exact hs

/-- a function with effects: its table -/
def gcall (f : FuncId) (ow : List Bool) (specs : List AW) (entry : List Blk → List Vw → List AV → Option (Prop × List V1 × Know)) (rest : Gam) : Gam := gfull f (gcallE ow specs entry) rest

theorem gcall_ok {P : Program} {T : Tab} (hT : TabOk P T) {f : FuncId} {fn : Func} (hf : P.funcs[f]? = some fn) {ow : List Bool} {specs : List AW} {entry : List Blk → List Vw → List AV → Option (Prop × List V1 × Know)} {rest : Gam} (hr : GamOk P rest) (he : ∀ (as : Array Value) (w : World), (callFunc f as).run P w = .ok (.enter f as) w)
    (h : ∀ wk vs as p xs K1, entry wk vs as = some (p, xs, K1) → p → ∀ (caps : List Nat) (w : World) (rw : List Nat) (β : Env), Body P T fn ⟨w, rw, wk.length + vs.length, β⟩ (recap specs as caps) (wk.map some ++ knowV vs) fun ys K' => ys = xs ∧ K' = K1) : GamOk P (gcall f ow specs entry rest) :=
  gfull_ok hr he (fun _ _ _ _ hs hv => gcall_full hT hf h hs hv) fun _ _ _ _ _ hs hk => gcallE_mono hk hs
end Go.Proofs.Ytepimglipelpmaa.X
