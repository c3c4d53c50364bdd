/- Regions that draw their order, third part: the whole; and code. -/
import Derived.Test.YtepimglipelpmaaXK
namespace Go.Proofs.Ytepimglipelpmaa.X
open Go

def putAll : List Oper → List Dop → List AV → List AV
  | o :: os, d :: ds, sl => putAll os ds (put sl o.dst d.val)
  | _, _, sl => sl

theorem put_length (sl : List AV) (dst : Option Tmp) (v : AV) : (put sl dst v).length = sl.length := by
  cases dst <;> simp [put]

theorem putAll_length : ∀ (ops : List Oper) (D : List Dop) (sl : List AV), (putAll ops D sl).length = sl.length
  | [], _, _ => by simp [putAll]
  | _ :: _, [], _ => by simp [putAll]
  | o :: os, d :: ds, sl => by rw [putAll, putAll_length os ds, put_length]

theorem putAll_other : ∀ (ops : List Oper) (D : List Dop) (sl : List AV) (t : Tmp), (∀ o ∈ ops, o.dst ≠ some t) → (putAll ops D sl).getD t .u = sl.getD t .u
  | [], _, _, _, _ => by simp [putAll]
  | _ :: _, [], _, _, _ => by simp [putAll]
  | o :: os, d :: ds, sl, t, h => by
    rw [putAll, putAll_other os ds _ t fun o ho => h o (by simp [ho])]
    have := h o (by simp)
    cases hd : o.dst with
    | none => rfl
    | some q =>
      have hne : q ≠ t := fun e => this (by rw [hd, e])
      simp only [put, List.getD_eq_getElem?_getD]
      rw [List.getElem?_set_ne hne]

theorem putAll_at : ∀ (ops : List Oper) (D : List Dop) (sl : List AV) (t : Tmp) (j : Nat) (o : Oper) (d : Dop), (ops.filterMap (·.dst)).Nodup → ops[j]? = some o → o.dst = some t → D[j]? = some d → t < sl.length → (putAll ops D sl).getD t .u = d.val
  | [], _, _, _, j, o, d, _, h, _, _, _ => by simp at h
  | _ :: _, [], _, _, j, o, d, _, _, _, h, _ => by simp at h
  | a :: os, e :: ds, sl, t, j, o, d, hn, ho, ht, hd, hl => by
    rw [putAll]
    cases j with
    | zero =>
      simp at ho hd; subst ho; subst hd
      have hno : ∀ o ∈ os, o.dst ≠ some t := by
        intro o ho ht'
        have : (a :: os).filterMap (·.dst) = t :: os.filterMap (·.dst) := by simp [ht]
        rw [this] at hn
        exact (List.nodup_cons.1 hn).1 (List.mem_filterMap.2 ⟨o, ho, ht'⟩)
      rw [putAll_other os ds _ t hno, ht]
      simp only [put, List.getD_eq_getElem?_getD]
      rw [List.getElem?_set_self hl]; rfl
    | succ j =>
      have hn' : (os.filterMap (·.dst)).Nodup := by
        cases hda : a.dst with
        | none => simpa [hda] using hn
        | some q =>
          have : (a :: os).filterMap (·.dst) = q :: os.filterMap (·.dst) := by simp [hda]
          rw [this] at hn; exact (List.nodup_cons.1 hn).2
      exact putAll_at os ds _ t j o d hn' (by simpa using ho) ht (by simpa using hd) (by rw [put_length]; exact hl)

theorem filter_addS {S : Nat → Bool} {i : Nat} (hS : S i = false) : ∀ {l : List Nat}, l.Nodup → i ∈ l → (l.filter fun j => !addS S i j).length + 1 = (l.filter fun j => !S j).length
  | [], _, h => by simp at h
  | a :: l, hn, h => by
    obtain ⟨h1, h2⟩ := List.nodup_cons.1 hn
    have other : i ∉ l → (l.filter fun j => !addS S i j) = l.filter fun j => !S j := by
      intro hi
      apply List.filter_congr
      intro j hj
      unfold addS
      rw [if_neg (fun e : j = i => hi (e ▸ hj))]
    by_cases ha : a = i
    · subst ha
      rw [List.filter_cons_of_neg (by simp [addS]), List.filter_cons_of_pos (by simp [hS]), other h1]
      rfl
    · have him : i ∈ l := by simpa [Ne.symm ha] using h
      have ih := filter_addS hS h2 him
      have e : addS S i a = S a := by unfold addS; rw [if_neg ha]
      cases hb : S a with
      | true => rw [List.filter_cons_of_neg (by simp [e, hb]), List.filter_cons_of_neg (by simp [hb])]; exact ih
      | false => rw [List.filter_cons_of_pos (by simp [e, hb]), List.filter_cons_of_pos (by simp [hb])]; simp only [List.length_cons]; omega

section sound
variable {P : Program} {T : Tab} {Γ : Gam} {B : Bs}

def setOf (listed : Array Bool) : Nat → Bool := fun i => listed.getD i false

theorem ready_spec {ops : List Oper} {listed : Array Bool} (hl : listed.size = ops.length) {i : Nat} (h : i ∈ Region.ready .any ops.toArray listed) :
    i < ops.length ∧ setOf listed i = false ∧ ∀ o, ops[i]? = some o → ∀ e ∈ directs o, setOf listed e = true := by
  unfold Region.ready at h
  rw [List.mem_filter] at h
  obtain ⟨h1, h2⟩ := h
  have hi : i < ops.length := by simpa using h1
  simp only [Bool.and_eq_true, Bool.not_eq_true'] at h2
  refine ⟨hi, ?_, fun o ho e he => ?_⟩
  · unfold setOf
    have := h2.1
    simp only [Array.getD_eq_getD_getElem?] at this ⊢
    have hlt : i < listed.size := by omega
    rw [Array.getElem?_eq_getElem hlt] at this ⊢
    exact this
  · have h3 := h2.2
    have hoa : ops.toArray[i]? = some o := by simpa using ho
    rw [hoa] at h3
    simp only [Option.map_some, Option.getD_some] at h3
    unfold directs at he
    simp only [List.mem_map, List.mem_filter] at he
    obtain ⟨x, ⟨hx, hb⟩, rfl⟩ := he
    rw [← Array.all_toList] at h3
    have := List.all_eq_true.1 h3 x hx
    simpa [hb, setOf] using this

theorem ready_nil {ops : List Oper} {listed : Array Bool} (hl : listed.size = ops.length) (hlt : ∀ (i : Nat) (o : Oper), ops[i]? = some o → ∀ e ∈ directs o, e < i) (h : Region.ready .any ops.toArray listed = []) : ∀ i, i < ops.length → setOf listed i = true := by
  intro i
  induction i using Nat.strongRecOn with
  | _ i ih =>
    intro hi
    cases hs : setOf listed i with
    | true => rfl
    | false =>
      exfalso
      have : i ∈ Region.ready .any ops.toArray listed := by
        unfold Region.ready
        rw [List.mem_filter]
        refine ⟨by simpa using hi, ?_⟩
        have ho : ops.toArray[i]? = some ops[i] := by simp [hi]
        rw [ho]
        simp only [Option.map_some, Option.getD_some, Bool.and_eq_true, Bool.not_eq_true']
        constructor
        · unfold setOf at hs
          simp only [Array.getD_eq_getD_getElem?] at hs ⊢
          have hlt' : i < listed.size := by omega
          rw [Array.getElem?_eq_getElem hlt'] at hs ⊢
          exact hs
        · rw [← Array.all_toList, List.all_eq_true]
          intro e he
          cases hb : Region.binds .any e with
          | false => simp
          | true =>
            have hd : e.on ∈ directs ops[i] := List.mem_map.2 ⟨e, List.mem_filter.2 ⟨he, hb⟩, rfl⟩
            have h1 := hlt i ops[i] (List.getElem?_eq_getElem hi) _ hd
            have := ih e.on h1 (by omega)
            simpa [setOf] using this
      rw [h] at this; simp at this

theorem setOf_set {listed : Array Bool} {i : Nat} (hi : i < listed.size) : setOf (listed.setIfInBounds i true) = addS (setOf listed) i := by
  funext j
  unfold setOf addS
  simp only [Array.getD_eq_getD_getElem?]
  by_cases h : j = i
  · subst h; simp [hi]
  · rw [Array.getElem?_setIfInBounds_ne (fun e => h e.symm), if_neg h]

theorem addS_closed {ops : List Oper} {S : Nat → Bool} {i : Nat} (hcl : Closed ops S) (hr : ∀ o, ops[i]? = some o → ∀ e ∈ directs o, S e = true) : Closed ops (addS S i) := by
  intro q oq hq hSq e he
  unfold addS at hSq ⊢
  by_cases hqi : q = i
  · subst hqi; split; rfl; exact hr oq hq e he
  · rw [if_neg hqi] at hSq; split; rfl; exact hcl q oq hq hSq e he

theorem draw_any (hT : TabOk P T) (hΓ : GamOk P Γ) {ops : List Oper} {masks : List Nat} {slots : List AV} {hs : List (List Nat)} {K0 : Know} {D : List Dop} {n0 F : Nat} (hm : MaskOk ops masks) (hok : DrawOk ops masks slots hs K0 D n0 F) (hk : B.k ≤ n0)
    (hcert : ∀ i, i < ops.length → Cert T Γ ops masks slots hs K0 D i) {Q : Exit → Act → World → Prop} (hq : ∀ S β a w, (∀ i, i < ops.length → S i = true) → Inv B ops slots K0 D S β a w → Q .normal a w) :
    ∀ (fuel : Nat) (listed : Array Bool) (β : Env) (a : Act) (w : World), listed.size = ops.length → ((List.range ops.length).filter fun j => !setOf listed j).length ≤ fuel → Closed ops (setOf listed) → Inv B ops slots K0 D (setOf listed) β a w →
      wpAny P .any ops.toArray Q fuel listed a w
  | 0, listed, β, a, w, hl, hc, _, hI => by
    have hall : ∀ i, i < ops.length → setOf listed i = true := by
      intro i hi
      cases hs : setOf listed i with
      | true => rfl
      | false =>
        have : i ∈ (List.range ops.length).filter fun j => !setOf listed j := List.mem_filter.2 ⟨List.mem_range.2 hi, by simp [hs]⟩
        have := List.length_pos_of_mem this
        omega
    refine ⟨?_, hq _ β a w hall hI⟩
    cases hr : Region.ready .any ops.toArray listed with
    | nil => rfl
    | cons i r =>
      have := ready_spec hl (i := i) (by rw [hr]; simp)
      rw [hall i this.1] at this; cases this.2.1
  | fuel + 1, listed, β, a, w, hl, hc, hcl, hI => by
    refine ⟨fun hr => hq _ β a w (ready_nil hl hok.lt hr) hI, fun i hi => ?_⟩
    obtain ⟨h1, h2, h3⟩ := ready_spec hl hi
    refine draw_step hT hΓ hm hok hk hcert hcl h2 h3 hI h1 fun β' a' w' hI' => ?_
    have hsz : i < listed.size := by omega
    refine draw_any hT hΓ hm hok hk hcert hq fuel _ β' a' w' (by simp [hl]) ?_ ?_ ?_
    · rw [setOf_set hsz]
      have := filter_addS h2 (List.nodup_range (n := ops.length)) (List.mem_range.2 h1)
      omega
    · rw [setOf_set hsz]; exact addS_closed hcl h3
    · rw [setOf_set hsz]; exact hI'

/-- what each operation must not look at, found by a first run -/
def hidesOf (ops : List Oper) (masks : List Nat) (D : List Dop) : List (List Nat) :=
  let m (i j : Nat) : Bool := (masks.getD i 0).testBit j
  let ks := D.zipIdx.filter fun d => d.1.ch.any fun y => !inR d.1 y.1
  match ks with
  | [] => []
  | ks => ops.zipIdx.map fun x => if memOp x.1.op then ks.flatMap fun d => if x.2 == d.2 || m x.2 d.2 || m d.2 x.2 then [] else (d.1.ch.filter fun y => !inR d.1 y.1).map (·.1) else []

/-- the second run, or the first where nothing is hidden -/
def execDraw2 (T : Tab) (Γ : Gam) (ops : List Oper) (ora : List Bool) (st : St) (vc : List Prop) (masks : List Nat) (hs : List (List Nat)) (d : DOut) : Option Out :=
  if hs.all (·.isEmpty) then
    (if drawOk ops masks st.slots [] st.K d.D st.K.length (d.n - st.K.length) then some ⟨d.ora, d.vc, ⟨putAll ops d.D st.slots, KSf (fun _ => true) 0 d.D st.K⟩⟩ else none)
  else match drawGo T Γ ops masks st.slots hs st.K ops st.K.length ora [] vc with
  | some d => if drawOk ops masks st.slots hs st.K d.D st.K.length (d.n - st.K.length) then some ⟨d.ora, d.vc, ⟨putAll ops d.D st.slots, KSf (fun _ => true) 0 d.D st.K⟩⟩ else none
  | none => none

theorem execDraw2_some {T : Tab} {Γ : Gam} {ops : List Oper} {ora : List Bool} {st : St} {vc : List Prop} {masks : List Nat} {hs : List (List Nat)} {d : DOut} {out : Out} (h0 : drawGo T Γ ops masks st.slots [] st.K ops st.K.length ora [] vc = some d)
    (h : execDraw2 T Γ ops ora st vc masks hs d = some out) : ∃ hs d, drawGo T Γ ops masks st.slots hs st.K ops st.K.length ora [] vc = some d ∧ drawOk ops masks st.slots hs st.K d.D st.K.length (d.n - st.K.length) = true ∧ out = ⟨d.ora, d.vc, ⟨putAll ops d.D st.slots, KSf (fun _ => true) 0 d.D st.K⟩⟩ := by
  unfold execDraw2 at h
  split at h
  · split at h
    · rename_i hc
      simp only [Option.some.injEq] at h
      exact ⟨[], d, h0, hc, h.symm⟩
    · simp at h
  · split at h
    · rename_i d' hd'
      split at h
      · rename_i hc
        simp only [Option.some.injEq] at h
        exact ⟨hs, d', hd', hc, h.symm⟩
      · simp at h
    · simp at h

def execDraw (T : Tab) (Γ : Gam) (ops : List Oper) (ora : List Bool) (st : St) (vc : List Prop) : Option Out :=
  let masks := masksOf ops []
  match drawGo T Γ ops masks st.slots [] st.K ops st.K.length ora [] vc with
  | some d => execDraw2 T Γ ops ora st vc masks (hidesOf ops masks d.D) d
  | none => none

theorem KSf_length (p : Nat → Bool) : ∀ (D : List Dop) (k : Nat) (K : Know), K.length ≤ (KSf p k D K).length
  | [], _, _ => Nat.le_refl _
  | d :: D, k, K => by
    refine Nat.le_trans ?_ (KSf_length p D (k + 1) _)
    split
    · exact app_length _ _
    · exact Nat.le_refl _

theorem draw_sound (hmix : P.follows .mixedOrders = true) (hT : TabOk P T) (hΓ : GamOk P Γ) {Q : Exit → Act → World → Prop} {id : Nat} {ops : Array Oper} {ora : List Bool} {st : St} {vc : List Prop} {out : Out} (h : execDraw T Γ ops.toList ora st vc = some out) (hvc : AllP out.vc)
    {β : Env} {a : Act} {w : World} (hR : Rel B β st a w) (hq : ∀ β' a' w', Rel B β' out.st a' w' → Q .normal a' w') : (Code.region id ops true).wp P Q a w := by
  unfold execDraw at h
  simp only at h
  split at h
  · rename_i d0 hd0
    obtain ⟨hs, d, hd, hchk, rfl⟩ := execDraw2_some hd0 h
    · have hok := drawOk_ok hchk
      have hm : MaskOk ops.toList (masksOf ops.toList []) := masksOf_ok _ _ [] [] (by simp) rfl (fun i j hij => by simp at hij)
      obtain ⟨_, hvc0, hc⟩ := drawGo_cert (fun i j hij => (hm i j hij).2 (by
        have := hok.lt; exact this)) _ _ _ _ _ _ hd hvc rfl
      have hcert : ∀ i, i < ops.toList.length → Cert T Γ ops.toList (masksOf ops.toList []) st.slots hs st.K d.D i := fun i hi => hc i (by simp) hi
      refine wp_region_any hmix ?_
      have hst : setOf (Array.replicate ops.size false) = fun _ => false := by
        funext i; unfold setOf; simp only [Array.getD_eq_getD_getElem?]
        by_cases hi : i < ops.size <;> simp [hi]
      have hKf : KSf (fun _ => false) 0 d.D st.K = st.K := KSf_false _ _ _ _ fun _ _ => rfl
      have := draw_any (B := B) hT hΓ (Q := Q) hm hok hR.len hcert (fun S β a w hall hI => hq β a w ?_) ops.size (Array.replicate ops.size false) β a { w with drawn := w.drawn + 1 } (by simp) ?_ ?_ ?_
      · rw [Array.toArray_toList] at this; exact this
      · -- the end
        have hS : ∀ (k : Nat) (e : Dop), d.D[k]? = some e → S k = true := fun k e hk => hall k (by rw [hok.len]; exact (List.getElem?_eq_some_iff.1 hk).1)
        refine ⟨hI.relw.congr fun j => ?_, hI.defers, by rw [putAll_length]; exact hI.size, fun t => ?_, hI.fix, Nat.le_trans hR.len (KSf_length _ _ _ _)⟩
        · rw [KSf_at, KSf_at]
          refine KSl_congr (fun m e hm' hne => ?_) _
          simp only [Nat.zero_add] at hne
          rw [hS m e hm'] at hne; exact absurd rfl hne
        · have hs := hI.slot t
          have e : (putAll ops.toList d.D st.slots).getD t .u = slotS ops.toList st.slots d.D S t := by
            unfold slotS
            split
            · rename_i j hj
              obtain ⟨o, ho, ht⟩ := wIdx_spec hj
              have hjl : j < d.D.length := by rw [← hok.len]; exact (List.getElem?_eq_some_iff.1 ho).1
              have hDj := List.getElem?_eq_getElem hjl
              rw [hS j _ hDj, if_pos rfl, putAll_at _ _ _ t j o _ hok.nodup ho ht hDj (hok.inb j o t ho ht), List.getD_eq_getElem?_getD, hDj]; rfl
            · rename_i hj
              refine putAll_other _ _ _ t fun o ho ht => ?_
              unfold wIdx at hj
              rw [List.findIdx?_eq_none_iff] at hj
              have := hj o ho
              simp [ht] at this
          rw [e]; exact hs
      · rw [hst]; refine Nat.le_trans (List.length_filter_le _ _) (by simp)
      · rw [hst]; intro i o _ hS; cases hS
      · rw [hst]
        refine ⟨by rw [hKf]; exact hR.relw.drew _, hR.defers, hR.size, fun t => ?_, hR.fix⟩
        have : slotS ops.toList st.slots d.D (fun _ => false) t = st.slots.getD t .u := by unfold slotS; split <;> rfl
        rw [this]; exact hR.slot t
  · simp at h
end sound
end Go.Proofs.Ytepimglipelpmaa.X
