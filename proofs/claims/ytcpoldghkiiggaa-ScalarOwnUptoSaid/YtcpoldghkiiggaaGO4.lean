/- Texts of this session, put together (part 4), less what nothing uses. -/
import Derived.Test.YtcpoldghkiiggaaGO3
import Derived.KernelRfl
import Derived.WalkKit
import Derived.ProofKit
import Derived.OpenShut
import Derived.JoinedCond
import Derived.Carry
/- Inverses of lists. -/
namespace Go.Proofs.Ytcpoldghkiiggaa.X
open Go Go.Proofs
set_option linter.unusedVariables false
set_option linter.unusedSimpArgs false
set_option maxRecDepth 100000
set_option maxHeartbeats 8000000

def fz (l : List Int) (n : Nat) : Nat := (List.range n).findIdx (fun i => decide (modL (BV (sub l (i * 32) 32)) = 0))
theorem fz_le (l : List Int) (n : Nat) : fz l n ≤ n := by
 have := List.findIdx_le_length (xs := List.range n) (p := fun i => decide (modL (BV (sub l (i * 32) 32)) = 0))
 rwa [List.length_range] at this
theorem fz_at {l : List Int} {n : Nat} (h : fz l n < n) : modL (BV (sub l (fz l n * 32) 32)) = 0 := by
 have hl : (List.range n).findIdx (fun i => decide (modL (BV (sub l (i * 32) 32)) = 0)) < (List.range n).length := by rw [List.length_range]; exact h
 have := List.findIdx_getElem (w := hl)
 rw [List.getElem_range] at this
 exact of_decide_eq_true this
theorem fz_before {l : List Int} {n i : Nat} (h : i < fz l n) : modL (BV (sub l (i * 32) 32)) ≠ 0 := by
 have := List.not_of_lt_findIdx (p := fun i => decide (modL (BV (sub l (i * 32) 32)) = 0)) (xs := List.range n) h
 rw [List.getElem_range] at this
 simpa using this
theorem inv_uniq {x y : Int} (hx : modL x ≠ 0) (h : modL (x * y) = 1) (h0 : 0 ≤ y ∧ y < LL) : y = invN x := by
 have e1 : modL (y * modL (x * invN x)) = y := by rw [invN_mul hx, Int.mul_one, modL_small h0.1 h0.2]
 rw [modL_mulr, ← Int.mul_assoc, Int.mul_comm y x, ← modL_mull, h, Int.one_mul, modL_small (invN_rng x).1 (invN_rng x).2.1] at e1
 exact e1.symm

theorem prS_nz {l : List Int} {n : Nat} (h : ∀ i, i < n → modL (BV (sub l (i * 32) 32)) ≠ 0) : ∀ k, k ≤ n → prS l k ≠ 0
 | 0, _ => by show (1 : Int) ≠ 0; decide
 | k + 1, hk => by
  intro h0
  have ih := prS_nz h k (by omega)
  have h0 : modL (prS l k * BV (sub l (k * 32) 32)) = 0 := h0
  rcases modL_mul0 h0 with h1 | h1
  ·rw [modL_small (prS_rng l k).1 (prS_rng l k).2] at h1; exact ih h1
  ·exact h k (by omega) h1
def alS (l : List Int) (n : Nat) : Nat → Int
 | 0 => invN (prS l n)
 | k + 1 => modL (alS l n k * BV (sub l ((n - 1 - k) * 32) 32))
theorem alS_rng (l : List Int) (n : Nat) : ∀ k, 0 ≤ alS l n k ∧ alS l n k < LL
 | 0 => ⟨(invN_rng _).1, (invN_rng _).2.1⟩
 | _ + 1 => modL_b _
theorem alS_inv {l : List Int} {n : Nat} (h : ∀ i, i < n → modL (BV (sub l (i * 32) 32)) ≠ 0) : ∀ k, k ≤ n → modL (alS l n k * prS l (n - k)) = 1
 | 0, _ => by
  show modL (invN (prS l n) * prS l n) = 1
  rw [Int.mul_comm]
  exact invN_mul (by rw [modL_small (prS_rng l n).1 (prS_rng l n).2]; exact prS_nz h n (Nat.le_refl _))
 | k + 1, hk => by
  have ih := alS_inv h k (by omega)
  show modL (modL (alS l n k * BV (sub l ((n - 1 - k) * 32) 32)) * prS l (n - (k + 1))) = 1
  rw [show n - k = (n - 1 - k) + 1 by omega] at ih
  have ih : modL (alS l n k * modL (prS l (n - 1 - k) * BV (sub l ((n - 1 - k) * 32) 32))) = 1 := ih
  rw [modL_mulr] at ih
  rw [modL_mull, show n - (k + 1) = n - 1 - k by omega, Int.mul_assoc, Int.mul_comm (BV _)]
  exact ih
theorem entry_inv {l : List Int} {n : Nat} (h : ∀ i, i < n → modL (BV (sub l (i * 32) 32)) ≠ 0) {k : Nat} (hk : k < n) : modL (prS l (n - 1 - k) * alS l n k) = invN (BV (sub l ((n - 1 - k) * 32) 32)) := by
 refine inv_uniq (h _ (by omega)) ?_ (modL_b _)
 have ih := alS_inv h k (by omega)
 rw [show n - k = (n - 1 - k) + 1 by omega] at ih
 have ih : modL (alS l n k * modL (prS l (n - 1 - k) * BV (sub l ((n - 1 - k) * 32) 32))) = 1 := ih
 rw [modL_mulr] at ih ⊢
 rw [← ih]
 congr 1
 rw [← Int.mul_assoc, Int.mul_comm]
 congr 1
 exact Int.mul_comm _ _

def outS (l : List Int) (n : Nat) : Nat → List Int
 | 0 => List.replicate (n * 32) 0
 | k + 1 => splice (outS l n k) (k * 32) 32 (B32 (prS l k))
def out2 (l : List Int) (n : Nat) : Nat → List Int
 | 0 => outS l n n
 | k + 1 => splice (out2 l n k) ((n - 1 - k) * 32) 32 (B32 (modL (BV (sub (out2 l n k) ((n - 1 - k) * 32) 32) * alS l n k)))
def rfS (l : List Int) : Nat → List Int
 | 0 => []
 | k + 1 => rfS l k ++ B32 (invN (BV (sub l (k * 32) 32)))
theorem B32_len (v : Int) : (B32 v).length = 32 := rfl
theorem outS_len (l : List Int) (n : Nat) : ∀ k, k ≤ n → (outS l n k).length = n * 32
 | 0, _ => List.length_replicate
 | k + 1, hk => by
  have ih := outS_len l n k (by omega)
  show (splice _ _ _ _).length = _
  rw [splice_lenS (by omega) (B32_len _), ih]
theorem out2_len (l : List Int) (n : Nat) : ∀ k, k ≤ n → (out2 l n k).length = n * 32
 | 0, _ => outS_len l n n (Nat.le_refl _)
 | k + 1, hk => by
  have ih := out2_len l n k (by omega)
  show (splice _ _ _ _).length = _
  rw [splice_lenS (by omega) (B32_len _), ih]
theorem rfS_len (l : List Int) : ∀ k, (rfS l k).length = k * 32
 | 0 => rfl
 | k + 1 => by
  show (rfS l k ++ _).length = _
  rw [List.length_append, rfS_len l k, B32_len]; omega
theorem sub_get {s : List Int} {c m r : Nat} (h : r < m) : (sub s c m)[r]? = s[c + r]? := by
 unfold sub
 rw [List.getElem?_take_of_lt h, List.getElem?_drop]
theorem splice_get {s y : List Int} {c m j : Nat} (hc : c + m ≤ s.length) (hy : y.length = m) : (splice s c m y)[j]? = if j < c then s[j]? else if j < c + m then y[j - c]? else s[j]? := by
 unfold splice
 have h1 : (s.take c).length = c := by rw [List.length_take]; omega
 by_cases hj : j < c
 ·rw [if_pos hj, List.append_assoc, List.getElem?_append_left (by omega), List.getElem?_take_of_lt hj]
 ·rw [if_neg hj, List.append_assoc, List.getElem?_append_right (by omega), h1]
  by_cases hj2 : j < c + m
  ·rw [if_pos hj2, List.getElem?_append_left (by omega)]
  ·rw [if_neg hj2, List.getElem?_append_right (by omega), hy, List.getElem?_drop]
   congr 1; omega
theorem sub_splice {s y : List Int} {n c i : Nat} (hs : s.length = n * 32) (hc : c < n) (hi : i < n) (hy : y.length = 32) : sub (splice s (c * 32) 32 y) (i * 32) 32 = if i = c then y else sub s (i * 32) 32 := by
 apply List.ext_getElem?
 intro r
 by_cases hr : r < 32
 ·rw [sub_get hr, splice_get (by omega) hy]
  by_cases hic : i = c
  ·subst hic
   rw [if_pos rfl, if_neg (by omega), if_pos (by omega)]
   congr 1; omega
  ·rw [if_neg hic, sub_get hr]
   rcases Nat.lt_or_gt_of_ne hic with h | h
   ·rw [if_pos (by omega)]
   ·rw [if_neg (by omega), if_neg (by omega)]
 ·have e1 : (sub (splice s (c * 32) 32 y) (i * 32) 32).length = 32 := sub_len _ _ _ (by rw [splice_lenS (by omega) hy]; omega)
  have e2 : (sub s (i * 32) 32).length = 32 := sub_len _ _ _ (by omega)
  rw [List.getElem?_eq_none (by omega)]
  split
  ·rw [List.getElem?_eq_none (by omega)]
  ·rw [List.getElem?_eq_none (by omega)]
theorem chunk_ext {a b : List Int} {n : Nat} (ha : a.length = n * 32) (hb : b.length = n * 32) (h : ∀ i, i < n → sub a (i * 32) 32 = sub b (i * 32) 32) : a = b := by
 apply List.ext_getElem?
 intro j
 by_cases hj : j < n * 32
 ·have := congrArg (fun l => l[j % 32]?) (h (j / 32) (by omega))
  rw [sub_get (Nat.mod_lt _ (by decide)), sub_get (Nat.mod_lt _ (by decide)), show j / 32 * 32 + j % 32 = j by omega] at this
  exact this
 ·rw [List.getElem?_eq_none (by omega), List.getElem?_eq_none (by omega)]
theorem outS_at (l : List Int) (n : Nat) : ∀ k, k ≤ n → ∀ i, i < k → sub (outS l n k) (i * 32) 32 = B32 (prS l i)
 | k + 1, hk, i, hi => by
  show sub (splice _ _ _ _) _ _ = _
  rw [sub_splice (outS_len l n k (by omega)) (by omega) (by omega) (B32_len _)]
  split
  ·rename_i h; rw [h]
  ·exact outS_at l n k (by omega) i (by omega)
theorem out2_at {l : List Int} {n : Nat} (h : ∀ i, i < n → modL (BV (sub l (i * 32) 32)) ≠ 0) : ∀ k, k ≤ n → ∀ i, i < n → sub (out2 l n k) (i * 32) 32 = if i < n - k then B32 (prS l i) else B32 (invN (BV (sub l (i * 32) 32)))
 | 0, _, i, hi => by
  rw [if_pos (by omega)]
  exact outS_at l n n (Nat.le_refl _) i hi
 | k + 1, hk, i, hi => by
  have ih := out2_at h k (by omega)
  show sub (splice _ _ _ _) _ _ = _
  rw [sub_splice (out2_len l n k (by omega)) (by omega) hi (B32_len _)]
  by_cases hc : i = n - 1 - k
  ·rw [if_pos hc, if_neg (by omega), ih _ (show n - 1 - k < n by omega), if_pos (by omega), BV_lt (prS_rng l _), entry_inv h (by omega), hc]
  ·rw [if_neg hc, ih i hi]
   by_cases h2 : i < n - k
   ·rw [if_pos h2, if_pos (by omega)]
   ·rw [if_neg h2, if_neg (by omega)]
theorem rfS_at (l : List Int) : ∀ k i, i < k → sub (rfS l k) (i * 32) 32 = B32 (invN (BV (sub l (i * 32) 32)))
 | k + 1, i, hi => by
  show sub (rfS l k ++ _) _ _ = _
  apply List.ext_getElem?
  intro r
  by_cases hr : r < 32
  ·rw [sub_get hr]
   by_cases hik : i < k
   ·rw [List.getElem?_append_left (by rw [rfS_len]; omega), ← rfS_at l k i hik, sub_get hr]
   ·have : i = k := by omega
    subst this
    rw [List.getElem?_append_right (by rw [rfS_len]; omega), rfS_len, show i * 32 + r - i * 32 = r by omega]
  ·rw [List.getElem?_eq_none (by rw [sub_len _ _ _ (by rw [List.length_append, rfS_len, B32_len]; omega)]; omega), List.getElem?_eq_none (by rw [B32_len]; omega)]
theorem inv_all {l : List Int} {n : Nat} (h : fz l n = n) : out2 l n n = rfS l n := by
 refine chunk_ext (out2_len l n n (Nat.le_refl _)) (rfS_len l n) fun i hi => ?_
 rw [out2_at (fun i hi => fz_before (h ▸ hi)) n (Nat.le_refl _) i hi, if_neg (by omega), rfS_at l n i hi]
theorem out2_step (l : List Int) (n k : Nat) : splice (out2 l n k) ((n - 1 - k) * 32) 32 (B32 (modL (BV (sub (out2 l n k) ((n - 1 - k) * 32) 32) * BV (B32 (alS l n k))))) = out2 l n (k + 1) := by
 rw [BV_lt (alS_rng l n k)]; rfl
theorem alS_step (l : List Int) (n k : Nat) : modL (BV (B32 (alS l n k)) * BV (sub l ((n - 1 - k) * 32) 32)) = alS l n (k + 1) := by
 rw [BV_lt (alS_rng l n k)]; rfl
theorem inv_prS (l : List Int) (n : Nat) : invN (BV (B32 (prS l n))) = alS l n 0 := by
 rw [BV_lt (prS_rng l n)]; rfl
theorem byt_spl {s y : List Int} {c m : Nat} (hs : Byt s) (hy : Byt y) : Byt (splice s c m y) := by
 intro x hx
 unfold splice at hx
 rw [List.mem_append, List.mem_append] at hx
 rcases hx with (hx | hx) | hx
 ·exact hs x (List.mem_of_mem_take hx)
 ·exact hy x hx
 ·exact hs x (List.mem_of_mem_drop hx)
theorem outS_byt (l : List Int) (n : Nat) : ∀ k, Byt (outS l n k)
 | 0 => byt_rep _
 | k + 1 => byt_spl (outS_byt l n k) (byt_B32 _)
theorem out2_byt (l : List Int) (n : Nat) : ∀ k, Byt (out2 l n k)
 | 0 => outS_byt l n n
 | k + 1 => byt_spl (out2_byt l n k) (byt_B32 _)
end Go.Proofs.Ytcpoldghkiiggaa.X

/- The core, part 5 of 5: blocks of memory known by number, and an evaluator over loaded code, shown sound. -/
/- Rows: a law that answers true and leaves what was there as it was: from its body to its post; arguments opened. -/
namespace Go.Proofs.Ytcpoldghkiiggaa.R
open Go Go.Proofs Go.ChangeShapes Go.WideShapes Go.ChangeAt Go.RowKit Go.Proofs.Ytcpoldghkiiggaa.X
set_option linter.unusedVariables false

theorem below {W W' : World} (g : Grow W W') : Below W.heap.size W W' := ⟨g.os, g.tape, g.output, g.size, g.old⟩

section post
variable {H : Type} {enc : TypeId × Value → H} {P : Program}

def Reads (P : Program) (ts : List TypeId) : Bool := laidOutB P && ts.all fun t => P.readableRec t && decide (t < P.types.size)

theorem trodAll_grow (hl : laidOutB P = true) {W W' : World} (g : Grow W W') {sp : Nat → Bool} : ∀ {ts : List TypeId} {vs : List Value} {ds : List (DataW H)} {ps : List MemPlace}, (ts.all fun t => P.readableRec t && decide (t < P.types.size)) = true →
  DataW.TrodAll enc P W 0 (fun _ => true) true ts vs ds ps → (∀ p ∈ ps, p.block < W.heap.size) → (∀ p ∈ ps, sp p.block = true) → DataW.TrodAll enc P W' 0 sp true ts vs ds ps
 | [], [], [], ps, _, h, _, _ => h
 | [], _ :: _, _, _, _, h, _, _ => h.elim
 | [], [], _ :: _, _, _, h, _, _ => h.elim
 | _ :: _, [], _, _, _, h, _, _ => h.elim
 | _ :: _, _ :: _, [], _, _, h, _, _ => h.elim
 | t :: ts, v :: vs, d :: ds, ps, ht, h, hlt, hsp => by
  obtain ⟨p, q, hd, hr, rfl⟩ := h
  simp only [List.all_cons, Bool.and_eq_true, decide_eq_true_eq] at ht
  exact ⟨p, q, WideElems.Trod_stays hl ht.1.1 ht.1.2 hd (fun x hx => (below g).same (hlt x (by simp [hx]))) (fun x hx => hsp x (by simp [hx])),
   trodAll_grow hl g ht.2 hr (fun x hx => hlt x (by simp [hx])) (fun x hx => hsp x (by simp [hx])), rfl⟩

theorem post_true {f : Func} {s : ChangeSpec} {W W' : World} {args : Array Value} {ds : List (DataW H)} {before : List MemPlace} {tb : TypeId}
  (hreads : Reads P f.params.toList = true) (hvars : s.vars = []) (hfn : s.fn H ds = { results := [.lit (.bool true)], args := ds }) (hrt : f.resultTypes = #[tb]) (htb : P.underlying tb = some .bool)
  (hW : DataW.Whole enc P f.params.toList s.vars false W args.toList ds [] before) (g : Grow W W') : s.post enc P f false true false false W args (.bool true) W' := by
 unfold Reads at hreads
 rw [Bool.and_eq_true] at hreads
 have hW0 := hW
 obtain ⟨p, q, hA, hV, rfl, hfz, hnd⟩ := hW
 rw [hvars] at hV
 obtain ⟨_, rfl⟩ := trodVars_none hV
 have hlt : ∀ x ∈ p ++ [], x.block < W.heap.size := fun x hx => by simpa using hW0.lt x hx
 have hfn' : s.fn H (ds ++ []) = { results := [.lit (.bool true)], args := ds } := by rw [List.append_nil]; exact hfn
 refine ⟨ds, [], p ++ [], [], p ++ [], [], hW0, ?_, ?_, ?_, (below g).frame _, fun h => by cases h⟩
 ·rw [hfn', hrt]; exact trodAll_cons_mk (shut_bool htb _) trodAll_mk0
 ·rw [hfn']
  rw [List.append_nil] at hlt ⊢
  exact trodAll_grow hreads.1 g hreads.2 hA hlt (fun x hx => by simpa using hlt x hx)
 ·rw [hfn', hvars]; exact rfl
end post

def Opened (W : World) (i : Nat) (vs : List Value) (avs : List AV) (K : Know) : Prop :=
 ∃ ρ : List (Option Ref), ρ.length = K.length ∧ ∀ β : Env, (∀ j, j < ρ.length → β (i + j) = (ρ[j]?).join) →
  (∀ j b, K.at j = some b → b.own = false ∧ b.holds β W (i + j) ∧ ∀ r, β (i + j) = some r → r.blk < W.heap.size) ∧ allC β avs vs

theorem Opened.nil {W : World} {i : Nat} : Opened W i [] [] [] := ⟨[], rfl, fun β _ => ⟨fun j b h => by simp [Know.at] at h, rfl⟩⟩

theorem allC_app {β : Env} : ∀ {a b : List AV} {x y : List Value}, allC β a x → allC β b y → allC β (a ++ b) (x ++ y)
 | [], _, _, _, h, h' => by cases h; exact h'
 | _ :: _, _, _, _, ⟨v, r, hv, hc, hr⟩, h' => by subst hv; exact ⟨v, _, rfl, hc, allC_app hr h'⟩

theorem Opened.app {W : World} {i : Nat} {vs vs' : List Value} {avs avs' : List AV} {K K' : Know} (h : Opened W i vs avs K) (h' : Opened W (i + K.length) vs' avs' K') : Opened W i (vs ++ vs') (avs ++ avs') (K ++ K') := by
 obtain ⟨ρ, hl, hρ⟩ := h
 obtain ⟨ρ', hl', hρ'⟩ := h'
 refine ⟨ρ ++ ρ', by simp [hl, hl'], fun β hβ => ?_⟩
 obtain ⟨h1, h2⟩ := hρ β fun j hj => by rw [hβ j (by simp; omega), List.getElem?_append_left hj]
 obtain ⟨h3, h4⟩ := hρ' β fun j hj => by
  rw [Nat.add_assoc, hβ (K.length + j) (by simp; omega), List.getElem?_append_right (by omega)]
  congr 2; omega
 refine ⟨fun j b hb => ?_, allC_app h2 h4⟩
 by_cases hj : j < K.length
 ·refine h1 j b ?_
  unfold Know.at at hb ⊢; rwa [List.getElem?_append_left hj] at hb
 ·have := h3 (j - K.length) b (by unfold Know.at at hb ⊢; rwa [List.getElem?_append_right (by omega)] at hb)
  rw [show i + K.length + (j - K.length) = i + j from by omega] at this
  exact this

theorem Opened.rel {W : World} {vs : List Value} {avs : List AV} {K : Know} (h : Opened W 0 vs avs K) : ∃ β : Env, RelW W [] β K W ∧ allC β avs vs := by
 obtain ⟨ρ, hl, hρ⟩ := h
 obtain ⟨h1, h2⟩ := hρ (fun j => (ρ[j]?).join) fun j hj => by rw [Nat.zero_add]
 refine ⟨_, RelW.ofRead fun j b hj => ?_, h2⟩
 have := h1 j b hj
 rw [Nat.zero_add] at this; exact this

theorem Opened.val {W : World} {i : Nat} {v : Value} {x : V1} (h : ∀ β : Env, x.con β v) : Opened W i [v] [.o x] [] :=
 ⟨[], rfl, fun β _ => ⟨fun j b hb => by simp [Know.at] at hb, ⟨v, [], rfl, h β, rfl⟩⟩⟩

theorem Opened.sl {W : World} {i : Nat} {k : IntKind} {a0 : Option Addr} {len cap : Nat} {L : List Int} (hL : L.length = len) (hlc : len ≤ cap)
  (hc : 0 < cap → ∃ b off arr ty fr, a0 = some ⟨b, off, none⟩ ∧ W.heap[b]? = some (.cells arr ty fr) ∧ off + len ≤ arr.size ∧ ∀ i x, L[i]? = some x → arr[off + i]? = some (.int k x)) :
  Opened W i [.slice a0 len cap] [.o (.a (.sl i 0 len cap))] [some ⟨false, [.ints k len L]⟩] := by
 have hbk : ∀ j (bk : Blk), Know.at [some ⟨false, [.ints k len L]⟩] j = some bk → j = 0 ∧ bk = ⟨false, [.ints k len L]⟩ := by
  intro j bk hj
  match j, hj with
  | 0, hj => exact ⟨rfl, (Option.some.inj hj).symm⟩
  | j + 1, hj => simp [Know.at] at hj
 by_cases h0 : 0 < cap
 ·obtain ⟨b, off, arr, ty, fr, rfl, hh, hs, hx⟩ := hc h0
  have hlt : b < W.heap.size := (Array.getElem?_eq_some_iff.1 hh).1
  refine ⟨[some ⟨b, off, arr.size⟩], rfl, fun β hβ => ?_⟩
  have hb := hβ 0 (by simp)
  rw [Nat.add_zero] at hb
  have hb : β i = some ⟨b, off, arr.size⟩ := hb
  refine ⟨fun j bk hj => ?_, _, [], rfl, ⟨_, rfl, hlc, fun _ => ⟨_, hb, rfl⟩⟩, rfl⟩
  obtain ⟨rfl, rfl⟩ := hbk j bk hj
  rw [Nat.add_zero]
  refine ⟨rfl, ⟨L.map (Value.int k), ⟨_, [], by simp, ⟨hL, rfl⟩, rfl⟩, .inr ⟨_, arr, ty, fr, hb, hh, rfl, by simp; omega, ?_, fun h => by cases h⟩⟩, fun r hr => by rw [hb] at hr; cases hr; exact hlt⟩
  intro i v hv
  rw [List.getElem?_map, Option.map_eq_some_iff] at hv
  obtain ⟨x, hx', rfl⟩ := hv
  exact hx i x hx'
 ·have hn : L = [] := List.length_eq_zero_iff.1 (by omega)
  subst hn
  have hl0 : len = 0 := by omega
  subst hl0
  refine ⟨[none], rfl, fun β hβ => ?_⟩
  have hb : β i = none := hβ 0 (by simp)
  refine ⟨fun j bk hj => ?_, _, [], rfl, ⟨_, rfl, hlc, fun h => absurd h h0⟩, rfl⟩
  obtain ⟨rfl, rfl⟩ := hbk j bk hj
  rw [Nat.add_zero]
  exact ⟨rfl, ⟨[], ⟨[], [], rfl, ⟨rfl, rfl⟩, rfl⟩, .inl ⟨rfl, .inl rfl⟩⟩, fun r hr => by rw [hb] at hr; cases hr⟩

section args
variable {H : Type} {enc : TypeId × Value → H} {P : Program} {W : World} {base : Nat} {sp : Nat → Bool}

theorem arr_arg {t e : TypeId} {n : Nat} {k : IntKind} {v : Value} {d : DataW H} {p : List MemPlace} (ht : P.underlying t = some (.array n e)) (he : P.underlying e = some (.int k)) (hc : P.cellsOf e = 1) (hn : P.cellsOf t = n)
  (hval : Value.okWide P W .any base t v) (h : DataW.Trod enc P W 0 (fun _ => true) true t v d p) :
  ∃ S : List Int, S.length = n ∧ (∀ x ∈ S, (Lit.int k x).wf = true) ∧ ∀ i, Opened W i [v] [.o (.g [.ints k n S])] [] := by
 have hv : ∃ cs : Array Value, v = .agg cs ∧ cs.size = n := by
  unfold Value.okWide at hval
  rw [ht] at hval
  obtain ⟨cs, rfl, hsz, _⟩ := hval
  exact ⟨cs, rfl, hsz.trans hn⟩
 obtain ⟨cs, rfl, hsz⟩ := hv
 obtain ⟨fuel, hf⟩ := h
 obtain ⟨xs, m, rfl, _, hlen, hxl, hel⟩ := DataW.trod_array ht hf
 have hcells : (Value.agg cs).cells.toList = cs.toList := rfl
 rw [hcells] at hel
 have key : ∀ j, j < n → ∃ z : Int, cs.toList[j]? = some (.int k z) ∧ (Lit.int k z).wf = true := by
  intro j hj
  have h1 := hel j hj
  rw [hc, Nat.mul_one] at h1
  have hjx : j < xs.length := by omega
  rw [List.getElem?_eq_getElem hjx] at h1
  obtain ⟨z, hz, _, hw⟩ := DataW.trod_int he h1
  refine ⟨z, ?_, hw⟩
  have := congrArg (·[0]?) hz
  simpa [List.getElem?_take, List.getElem?_drop] using this
 have hS : ∃ S : List Int, S.length = n ∧ cs.toList = S.map (Value.int k) ∧ ∀ x ∈ S, (Lit.int k x).wf = true := by
  have hl : cs.toList.length = n := by simpa using hsz
  revert key hl
  generalize cs.toList = l
  clear hel hxl hlen hsz hf hcells hval hn ht
  intro key hl
  induction l generalizing n with
  | nil => exact ⟨[], hl, rfl, by simp⟩
  | cons a l ih =>
   cases n with
   | zero => cases hl
   | succ n =>
    obtain ⟨z, hz, hw⟩ := key 0 (by omega)
    obtain ⟨S, h1, h2, h3⟩ := ih (n := n) (fun j hj => by simpa using key (j + 1) (by omega)) (by simpa using hl)
    simp only [List.getElem?_cons_zero, Option.some.injEq] at hz
    exact ⟨z :: S, by simp [h1], by simp [hz, h2], by simpa using ⟨hw, h3⟩⟩
 obtain ⟨S, h1, h2, h3⟩ := hS
 refine ⟨S, h1, h3, fun i => Opened.val fun β => ⟨cs.toList, by simp, _, [], by simp, ⟨h1, h2⟩, rfl⟩⟩
end args

theorem calls_true {P : Program} {T : Tab} (hT : TabOk P T) {f : FuncId} {fn : Func} (hf : P.funcs[f]? = some fn) {W : World} {vs : List Value} {avs : List AV} {K : Know} (ho : Opened W 0 vs avs K)
  (h : ∀ β : Env, Body P T fn ⟨W, [], K.length, β⟩ avs K fun ys _ => ys = [.a (.b true)]) :
  Calls P f vs.toArray W fun e W' => e = .returned (.bool true) ∧ Grow W W' := by
 obtain ⟨β, hrel, hall⟩ := ho.rel
 refine Calls.mono (calls_of_body hT hf hall hrel (h β)) fun e W' h => ?_
 obtain ⟨xs, K, v, β', hx, rfl, hv, hr, _⟩ := h
 subst hx
 have hv : [v] = [Value.bool true] := hv
 simp only [List.cons.injEq, and_true] at hv
 subst hv
 exact ⟨rfl, hr.toGrow⟩
end Go.Proofs.Ytcpoldghkiiggaa.R

/- Arguments that are structs: opened cell by cell. -/
namespace Go.Proofs.Ytcpoldghkiiggaa.R
open Go Go.Proofs Go.ChangeShapes Go.WideShapes Go.ChangeAt Go.RowKit Go.Proofs.Ytcpoldghkiiggaa.X
set_option linter.unusedVariables false

def OpenC (W : World) (i : Nat) (cs : List Value) (l : List Atom) (K : Know) : Prop :=
 ∃ ρ : List (Option Ref), ρ.length = K.length ∧ ∀ β : Env, (∀ j, j < ρ.length → β (i + j) = (ρ[j]?).join) →
  (∀ j b, K.at j = some b → b.own = false ∧ b.holds β W (i + j) ∧ ∀ r, β (i + j) = some r → r.blk < W.heap.size) ∧ cons β l cs

theorem OpenC.nil {W : World} {i : Nat} : OpenC W i [] [] [] := ⟨[], rfl, fun β _ => ⟨fun j b h => by simp [Know.at] at h, rfl⟩⟩

theorem cons_app {β : Env} : ∀ {a b : List Atom} {x y : List Value}, cons β a x → cons β b y → cons β (a ++ b) (x ++ y)
 | [], _, _, _, h, h' => by cases h; exact h'
 | _ :: _, _, _, _, ⟨v, r, hv, hc, hr⟩, h' => by subst hv; exact ⟨v, _, by rw [List.append_assoc], hc, cons_app hr h'⟩

theorem OpenC.app {W : World} {i : Nat} {vs vs' : List Value} {l l' : List Atom} {K K' : Know} (h : OpenC W i vs l K) (h' : OpenC W (i + K.length) vs' l' K') : OpenC W i (vs ++ vs') (l ++ l') (K ++ K') := by
 obtain ⟨ρ, hl, hρ⟩ := h
 obtain ⟨ρ', hl', hρ'⟩ := h'
 refine ⟨ρ ++ ρ', by simp [hl, hl'], fun β hβ => ?_⟩
 obtain ⟨h1, h2⟩ := hρ β fun j hj => by rw [hβ j (by simp; omega), List.getElem?_append_left hj]
 obtain ⟨h3, h4⟩ := hρ' β fun j hj => by
  rw [Nat.add_assoc, hβ (K.length + j) (by simp; omega), List.getElem?_append_right (by omega)]
  congr 2; omega
 refine ⟨fun j b hb => ?_, cons_app h2 h4⟩
 by_cases hj : j < K.length
 ·refine h1 j b ?_
  unfold Know.at at hb ⊢; rwa [List.getElem?_append_left hj] at hb
 ·have := h3 (j - K.length) b (by unfold Know.at at hb ⊢; rwa [List.getElem?_append_right (by omega)] at hb)
  rw [show i + K.length + (j - K.length) = i + j from by omega] at this
  exact this

theorem OpenC.agg {W : World} {i : Nat} {cs : Array Value} {l : List Atom} {K : Know} (h : OpenC W i cs.toList l K) : Opened W i [.agg cs] [.o (.g l)] K := by
 obtain ⟨ρ, hl, hρ⟩ := h
 refine ⟨ρ, hl, fun β hβ => ?_⟩
 obtain ⟨h1, h2⟩ := hρ β hβ
 exact ⟨h1, _, [], rfl, ⟨cs.toList, by simp, h2⟩, rfl⟩

theorem OpenC.one {W : World} {i : Nat} {v : Value} {x : Atom} {K : Know} (h : OpenC W i [v] [x] K) : Opened W i [v] [.o (.a x)] K := by
 obtain ⟨ρ, hl, hρ⟩ := h
 refine ⟨ρ, hl, fun β hβ => ?_⟩
 obtain ⟨h1, x, y, h2, h3, h4⟩ := hρ β hβ
 cases h4
 rw [List.append_nil] at h2
 subst h2
 exact ⟨h1, _, [], rfl, h3, rfl⟩

theorem OpenC.val {W : World} {i : Nat} {vs : List Value} {l : List Atom} (h : ∀ β : Env, cons β l vs) : OpenC W i vs l [] :=
 ⟨[], rfl, fun β _ => ⟨fun j b hb => by simp [Know.at] at hb, h β⟩⟩

section args
variable {H : Type} {enc : TypeId × Value → H} {P : Program} {W : World} {base : Nat} {sp : Nat → Bool}

theorem OpenC.ints {i : Nat} {k : IntKind} {n : Nat} {S : List Int} (h : S.length = n) : OpenC W i (S.map (Value.int k)) [.ints k n S] [] :=
 OpenC.val fun β => ⟨_, [], by simp, ⟨h, rfl⟩, rfl⟩

theorem OpenC.int {i : Nat} {k : IntKind} {n : Int} : OpenC W i [.int k n] [.i k n] [] := OpenC.val fun β => ⟨_, [], by simp, rfl, rfl⟩

end args
end Go.Proofs.Ytcpoldghkiiggaa.R

/- Values that lie outside of the known blocks, taken in where they are loaded; a function whose arguments lie there. -/
namespace Go.Proofs.Ytcpoldghkiiggaa.X
open Go Go.Proofs
set_option linter.unusedVariables false

def intV : Value → Int
 | .int _ n => n
 | _ => 0
def lenV : Value → Nat
 | .slice _ len _ => len
 | _ => 0
def capV : Value → Nat
 | .slice _ _ cap => cap
 | _ => 0
def contV (w : World) : Value → List Int
 | .slice (some a) len _ => (match w.heap[a.block]? with
  | some (.cells arr _ _) => (List.range len).map fun i => intV (arr.getD (a.off + i) (.int .i64 0))
  | _ => [])
 | _ => []

end Go.Proofs.Ytcpoldghkiiggaa.X

/- Arguments that are slices of whatever: their cells as values. -/
namespace Go.Proofs.Ytcpoldghkiiggaa.R
open Go Go.Proofs Go.ChangeShapes Go.WideShapes Go.ChangeAt Go.RowKit Go.Proofs.Ytcpoldghkiiggaa.X
set_option linter.unusedVariables false

theorem vals_open {W : World} {i : Nat} {a0 : Option Addr} {len cap N : Nat} {L : List Value} (hL : L.length = N) (hlc : len ≤ cap) (hone : ∀ v ∈ L, v.oneCell' = true) (h0 : cap = 0 → N = 0)
  (hc : 0 < cap → ∃ b off arr ty fr, a0 = some ⟨b, off, none⟩ ∧ W.heap[b]? = some (.cells arr ty fr) ∧ off + N ≤ arr.size ∧ ∀ i x, L[i]? = some x → arr[off + i]? = some x) :
  Opened W i [.slice a0 len cap] [.o (.a (.sl i 0 len cap))] [some ⟨false, [.vals N L]⟩] := by
 have hbk : ∀ j (bk : Blk), Know.at [some ⟨false, [.vals N L]⟩] j = some bk → j = 0 ∧ bk = ⟨false, [.vals N L]⟩ := by
  intro j bk hj
  match j, hj with
  | 0, hj => exact ⟨rfl, (Option.some.inj hj).symm⟩
  | j + 1, hj => simp [Know.at] at hj
 by_cases hcap : 0 < cap
 ·obtain ⟨b, off, arr, ty, fr, rfl, hh, hs, hx⟩ := hc hcap
  have hlt : b < W.heap.size := (Array.getElem?_eq_some_iff.1 hh).1
  refine ⟨[some ⟨b, off, arr.size⟩], rfl, fun β hβ => ?_⟩
  have hb := hβ 0 (by simp)
  rw [Nat.add_zero] at hb
  have hb : β i = some ⟨b, off, arr.size⟩ := hb
  refine ⟨fun j bk hj => ?_, _, [], rfl, ⟨_, rfl, hlc, fun _ => ⟨_, hb, rfl⟩⟩, rfl⟩
  obtain ⟨rfl, rfl⟩ := hbk j bk hj
  rw [Nat.add_zero]
  exact ⟨rfl, ⟨L, ⟨_, [], by simp, ⟨hL, rfl, hone⟩, rfl⟩, .inr ⟨_, arr, ty, fr, hb, hh, rfl, by simp; omega, hx, fun h => by cases h⟩⟩, fun r hr => by rw [hb] at hr; cases hr; exact hlt⟩
 ·have hN : N = 0 := h0 (by omega)
  have hn : L = [] := List.length_eq_zero_iff.1 (by omega)
  subst hn
  refine ⟨[none], rfl, fun β hβ => ?_⟩
  have hb : β i = none := hβ 0 (by simp)
  refine ⟨fun j bk hj => ?_, _, [], rfl, ⟨_, rfl, hlc, fun h => absurd h hcap⟩, rfl⟩
  obtain ⟨rfl, rfl⟩ := hbk j bk hj
  rw [Nat.add_zero]
  exact ⟨rfl, ⟨[], ⟨[], [], rfl, ⟨hL, rfl, by simp⟩, rfl⟩, .inl ⟨rfl, .inl rfl⟩⟩, fun r hr => by rw [hb] at hr; cases hr⟩

section args
variable {H : Type} {enc : TypeId × Value → H} {P : Program} {W : World} {base : Nat}

theorem slice_cells {t e : TypeId} {fuel : Nat} {cs : List Value} {x : DataW H × List MemPlace} (ht : P.underlying t = some (.slice e)) (hpos : 0 < P.cellsOf e) (h : DataW.trod enc P W 0 (fun _ => true) true fuel t cs = some x) :
  (cs = [.slice none 0 0] ∧ x.1 = .nil) ∨
  ∃ (a : Addr) (len cap n : Nat) (xs rest : List (DataW H × List MemPlace)) (A : List Value), cs = [.slice (some a) len cap] ∧ x.1 = .slice (xs.map (·.1)) (rest.map (·.1)) ∧ len ≤ cap ∧ cap ≤ maxLen ∧ xs.length = len ∧ A.length = cap * P.cellsOf e ∧
   (∀ i, i < cap * P.cellsOf e → W.cell? (a.add i) = A[i]?) ∧ ∀ i, i < cap → ∃ y, DataW.trod enc P W 0 (fun _ => true) true n e ((A.drop (i * P.cellsOf e)).take (P.cellsOf e)) = some y ∧ (i < len → xs[i]? = some y) := by
 rcases DataW.trod_slice ht h with ⟨h1, rfl⟩ | ⟨a, len, cap, elems, rest, n, _, rfl, rfl, _, hl, hm, hlen, hel, hsp, _⟩
 ·exact .inl ⟨h1, rfl⟩
 obtain ⟨hrl, hr⟩ := hsp rfl
 have each : ∀ i, i < cap → ∃ y, (W.cells? 0 (a.add (i * P.cellsOf e)) (P.cellsOf e)).bind (DataW.trod enc P W 0 (fun _ => true) true n e) = some y ∧ (i < len → elems[i]? = some y) := by
  intro i hi
  by_cases h1 : i < len
  ·have h2 : i < elems.length := by omega
   exact ⟨elems[i], by rw [hel i h1, List.getElem?_eq_getElem h2], fun _ => List.getElem?_eq_getElem h2⟩
  ·have h2 : i - len < rest.length := by omega
   have := hr (i - len) (by omega)
   rw [show len + (i - len) = i by omega] at this
   exact ⟨rest[i - len], by rw [this, List.getElem?_eq_getElem h2], fun h => absurd h h1⟩
 have some_ : ∀ i, i < cap * P.cellsOf e → ∃ v, W.cell? (a.add i) = some v := by
  intro i hi
  have hq : i / P.cellsOf e < cap := (Nat.div_lt_iff_lt_mul hpos).2 hi
  obtain ⟨y, hy, _⟩ := each _ hq
  rw [Option.bind_eq_some_iff] at hy
  obtain ⟨ds, hds, _⟩ := hy
  obtain ⟨_, h2, h3⟩ := World.cells?_some hds
  have h4 := h3 (i % P.cellsOf e) (Nat.mod_lt _ hpos)
  rw [Addr.add_add, show i / P.cellsOf e * P.cellsOf e + i % P.cellsOf e = i from Nat.div_add_mod' _ _] at h4
  have h5 : i % P.cellsOf e < ds.length := by rw [h2]; exact Nat.mod_lt _ hpos
  exact ⟨ds[i % P.cellsOf e], by rw [h4, List.getElem?_eq_getElem h5]⟩
 refine .inr ⟨a, len, cap, n, elems, rest, (List.range (cap * P.cellsOf e)).map fun i => (W.cell? (a.add i)).getD undef, rfl, rfl, hl, hm, hlen, by simp, ?_, ?_⟩
 ·intro i hi
  obtain ⟨v, hv⟩ := some_ i hi
  rw [List.getElem?_map, List.getElem?_range hi, hv]
  simp [hv]
 ·intro i hi
  obtain ⟨y, hy, hy2⟩ := each i hi
  refine ⟨y, ?_, hy2⟩
  rw [Option.bind_eq_some_iff] at hy
  obtain ⟨ds, hds, hy3⟩ := hy
  obtain ⟨_, h2, h3⟩ := World.cells?_some hds
  have hle : i * P.cellsOf e + P.cellsOf e ≤ cap * P.cellsOf e := by
   have := Nat.mul_le_mul_right (P.cellsOf e) (Nat.succ_le_of_lt hi)
   rw [Nat.succ_mul] at this; exact this
  have : ((((List.range (cap * P.cellsOf e)).map fun i => (W.cell? (a.add i)).getD undef).drop (i * P.cellsOf e)).take (P.cellsOf e)) = ds := by
   refine List.ext_getElem? fun j => ?_
   by_cases hj : j < P.cellsOf e
   ·rw [List.getElem?_take_of_lt hj, List.getElem?_drop, List.getElem?_map, List.getElem?_range (by omega)]
    have h4 := h3 j hj
    rw [Addr.add_add] at h4
    have h5 : j < ds.length := by omega
    simp only [Option.map_some]
    rw [h4, List.getElem?_eq_getElem h5]; rfl
   ·rw [List.getElem?_eq_none (by simp; omega), List.getElem?_eq_none (by omega)]
  rw [this]; exact hy3

theorem vals_arg {t e : TypeId} {c : Nat} {v : Value} {d : DataW H} {p : List MemPlace} (ht : P.underlying t = some (.slice e)) (hcc : P.cellsOf e = c) (hpos : 0 < c)
  (hone : ∀ (n : Nat) (cs : List Value) (y : DataW H × List MemPlace), DataW.trod enc P W 0 (fun _ => true) true n e cs = some y → ∀ v ∈ cs, v.oneCell' = true)
  (hval : Value.okWide P W .any base t v) (h : DataW.Trod enc P W 0 (fun _ => true) true t v d p) :
  ∃ (len cap : Nat) (L : List Value), L.length = len * c ∧ len ≤ cap ∧ (∀ i, Opened W i [v] [.o (.a (.sl i 0 len cap))] [some ⟨false, [.vals (len * c) L]⟩]) ∧
   ((d = .nil ∧ len = 0) ∨ ∃ (n : Nat) (xs : List (DataW H × List MemPlace)) (s : List (DataW H)), d = .slice (xs.map (·.1)) s ∧ xs.length = len ∧
    ∀ i, i < len → ∃ y, DataW.trod enc P W 0 (fun _ => true) true n e ((L.drop (i * c)).take c) = some y ∧ xs[i]? = some y) := by
 subst hcc
 obtain ⟨a0, len, cap, rfl⟩ := okWide_slice ht hval
 obtain ⟨fuel, hf⟩ := h
 rcases slice_cells ht hpos hf with ⟨hcs, hx⟩ | ⟨a, len', cap', n, xs, rest, A, hcs, hx, hl, hm, hxl, hAl, hcell, hel⟩
 ·simp [Value.cells] at hcs
  obtain ⟨rfl, rfl, rfl⟩ := hcs
  exact ⟨0, 0, [], by simp, Nat.le_refl _, fun i => vals_open (by simp) (Nat.le_refl _) (by simp) (fun _ => by simp) (fun h => absurd h (by omega)), .inl ⟨hx, rfl⟩⟩
 ·simp [Value.cells] at hcs
  obtain ⟨rfl, rfl, rfl⟩ := hcs
  have hle : len * P.cellsOf e ≤ cap * P.cellsOf e := Nat.mul_le_mul_right _ hl
  refine ⟨len, cap, A.take (len * P.cellsOf e), by simp; omega, hl, fun i => vals_open (by simp; omega) hl ?_ ?_ fun hcap => ?_, .inr ⟨n, xs, _, hx, hxl, ?_⟩⟩
  ·intro v hv
   obtain ⟨j, hj⟩ := List.getElem?_of_mem hv
   rw [List.getElem?_take] at hj
   split at hj
   ·rename_i hjl
    have hq : j / P.cellsOf e < cap := (Nat.div_lt_iff_lt_mul hpos).2 (by omega)
    obtain ⟨y, hy, _⟩ := hel _ hq
    refine hone _ _ _ hy v (List.mem_of_getElem? (i := j % P.cellsOf e) ?_)
    rw [List.getElem?_take_of_lt (Nat.mod_lt _ hpos), List.getElem?_drop, Nat.div_add_mod']; exact hj
   ·cases hj
  ·intro hc0; have : len = 0 := by omega
   rw [this, Nat.zero_mul]
  ·have hp : 0 < cap * P.cellsOf e := Nat.mul_pos hcap hpos
   have h0 := hcell 0 hp
   obtain ⟨v0, hv0⟩ : ∃ v0, A[0]? = some v0 := ⟨A[0], List.getElem?_eq_getElem (by omega)⟩
   rw [hv0] at h0
   obtain ⟨b, off, spot⟩ := a
   have hspot : spot = none := by simpa [Addr.add] using World.cell?_spot h0
   subst hspot
   have hc2 : ∀ j, j < cap * P.cellsOf e → W.cell? ⟨b, off + j, none⟩ = A[j]? := fun j hj => by rw [← Go.WideShapes.add_plain]; exact hcell j hj
   have h00 := hc2 0 hp
   rw [hv0] at h00
   unfold World.cell? at h00
   split at h00
   ·rename_i arr ty fr hh
    have hget : ∀ j, j < cap * P.cellsOf e → arr[off + j]? = A[j]? := by
     intro j hj
     have h1 := hc2 j hj
     unfold World.cell? at h1
     rw [hh] at h1
     simpa using h1
    refine ⟨b, off, arr, ty, fr, rfl, hh, ?_, ?_⟩
    ·by_cases hz : len * P.cellsOf e = 0
     ·have := (Array.getElem?_eq_some_iff.1 ((hget 0 hp).trans hv0)).1
      omega
     ·have h1 := hget (len * P.cellsOf e - 1) (by omega)
      rw [List.getElem?_eq_getElem (by omega)] at h1
      have := (Array.getElem?_eq_some_iff.1 h1).1
      omega
    ·intro i x hix
     rw [List.getElem?_take] at hix
     split at hix
     ·rw [hget i (by omega), hix]
     ·cases hix
   ·cases h00
  ·intro i hi
   obtain ⟨y, hy, hy2⟩ := hel i (by omega)
   refine ⟨y, ?_, hy2 hi⟩
   rw [← hy]
   congr 1
   refine List.ext_getElem? fun j => ?_
   by_cases hj : j < P.cellsOf e
   ·rw [List.getElem?_take_of_lt hj, List.getElem?_take_of_lt hj, List.getElem?_drop, List.getElem?_drop, List.getElem?_take_of_lt]
    have := Nat.mul_le_mul_right (P.cellsOf e) (Nat.succ_le_of_lt hi)
    rw [Nat.succ_mul] at this; omega
   ·rw [List.getElem?_eq_none (by simp; omega), List.getElem?_eq_none (by simp; omega)]

end args
end Go.Proofs.Ytcpoldghkiiggaa.R

/- Arguments that are slices of arrays of whole numbers. -/
namespace Go.Proofs.Ytcpoldghkiiggaa.R
open Go Go.Proofs Go.ChangeShapes Go.WideShapes Go.ChangeAt Go.RowKit Go.Proofs.Ytcpoldghkiiggaa.X
set_option linter.unusedVariables false

theorem vals_ints {W : World} {i m : Nat} {v : Value} {x : AV} {k : IntKind} {L : List Value} {l : List Int} (hL : L = l.map (Value.int k)) (h : Opened W i [v] [x] [some ⟨false, [.vals m L]⟩]) : Opened W i [v] [x] [some ⟨false, [.ints k m l]⟩] := by
 obtain ⟨ρ, hl, hρ⟩ := h
 refine ⟨ρ, hl, fun β hβ => ?_⟩
 obtain ⟨hb, ha⟩ := hρ β hβ
 refine ⟨fun j b hj => ?_, ha⟩
 have hj0 : j = 0 ∧ b = ⟨false, [.ints k m l]⟩ := by
  match j, hj with
  | 0, hj => exact ⟨rfl, (Option.some.inj hj).symm⟩
  | j + 1, hj => simp [Know.at] at hj
 obtain ⟨rfl, rfl⟩ := hj0
 obtain ⟨_, hh, hlt⟩ := hb 0 ⟨false, [.vals m L]⟩ rfl
 refine ⟨rfl, ?_, hlt⟩
 obtain ⟨cs, hc, hr⟩ := hh
 refine ⟨cs, ?_, hr⟩
 obtain ⟨a, b, rfl, hx, hy⟩ := hc
 refine ⟨a, b, rfl, ?_, hy⟩
 obtain ⟨h1, h2, _⟩ := hx
 exact ⟨by rw [← h1, hL, List.length_map], by rw [h2, hL]⟩

variable {H : Type} {enc : TypeId × Value → H} {P : Program} {W : World} {base : Nat}

theorem arr_ints {e b : TypeId} {k : IntKind} {z : Nat} (he : P.underlying e = some (.array z b)) (hb : P.underlying b = some (.int k)) (hcb : P.cellsOf b = 1) (hce : P.cellsOf e = z)
  {n : Nat} {cs : List Value} {y : DataW H × List MemPlace} (h : DataW.trod enc P W 0 (fun _ => true) true n e cs = some y) : ∀ v ∈ cs, ∃ x, v = .int k x ∧ (Lit.int k x).wf = true := by
 obtain ⟨xs, m, rfl, _, hlen, hxl, hel⟩ := DataW.trod_array he h
 intro v hv
 obtain ⟨j, hj⟩ := List.getElem?_of_mem hv
 have hjl : j < z := by
  have := (List.getElem?_eq_some_iff.1 hj).1
  omega
 have h1 := hel j hjl
 rw [hcb, Nat.mul_one] at h1
 have hjx : j < xs.length := by omega
 rw [List.getElem?_eq_getElem hjx] at h1
 obtain ⟨x, hx, _, hw⟩ := DataW.trod_int hb h1
 refine ⟨x, ?_, hw⟩
 have := congrArg (·[0]?) hx
 have e : cs[j]? = some (.int k x) := by simpa [List.getElem?_take, List.getElem?_drop] using this
 rw [hj] at e
 exact Option.some.inj e

def toI : Value → Int
 | .int _ x => x
 | _ => 0

theorem arrs_arg {t e b : TypeId} {k : IntKind} {z : Nat} {v : Value} {d : DataW H} {p : List MemPlace} (ht : P.underlying t = some (.slice e)) (he : P.underlying e = some (.array z b)) (hb : P.underlying b = some (.int k)) (hcb : P.cellsOf b = 1) (hce : P.cellsOf e = z) (hz : 0 < z)
  (hval : Value.okWide P W .any base t v) (h : DataW.Trod enc P W 0 (fun _ => true) true t v d p) :
  ∃ (len cap : Nat) (L : List Int), L.length = len * z ∧ len ≤ cap ∧ (∀ x ∈ L, (Lit.int k x).wf = true) ∧ (∀ i, Opened W i [v] [.o (.a (.sl i 0 len cap))] [some ⟨false, [.ints k (len * z) L]⟩]) ∧
   ((d = .nil ∧ len = 0) ∨ ∃ (xs s : List (DataW H)), d = .slice xs s ∧ xs.length = len) := by
 obtain ⟨len, cap, L, hl, hlc, ho, hd⟩ := vals_arg (c := z) ht hce hz (fun n cs y h v hv => by obtain ⟨x, rfl, _⟩ := arr_ints he hb hcb hce h v hv; rfl) hval h
 have key : ∀ v ∈ L, ∃ x, v = .int k x ∧ (Lit.int k x).wf = true := by
  intro v hv
  rcases hd with ⟨_, h0⟩ | ⟨n, xs, s, _, _, hx⟩
  ·subst h0
   rw [Nat.zero_mul] at hl
   rw [List.length_eq_zero_iff.1 hl] at hv
   cases hv
  ·obtain ⟨j, hj⟩ := List.getElem?_of_mem hv
   have hjl := (List.getElem?_eq_some_iff.1 hj).1
   have hq : j / z < len := (Nat.div_lt_iff_lt_mul hz).2 (by omega)
   obtain ⟨y, hy, _⟩ := hx _ hq
   refine arr_ints he hb hcb hce hy v (List.mem_of_getElem? (i := j % z) ?_)
   rw [List.getElem?_take_of_lt (Nat.mod_lt _ hz), List.getElem?_drop, Nat.div_add_mod']; exact hj
 have hmap : L = (L.map toI).map (Value.int k) := by
  rw [List.map_map]
  conv => lhs; rw [← List.map_id L]
  refine List.map_congr_left fun v hv => ?_
  obtain ⟨x, rfl, _⟩ := key v hv
  rfl
 refine ⟨len, cap, L.map toI, by rw [List.length_map]; exact hl, hlc, ?_, fun i => vals_ints hmap (ho i), ?_⟩
 ·intro x hx
  obtain ⟨v, hv, rfl⟩ := List.mem_map.1 hx
  obtain ⟨y, rfl, hw⟩ := key v hv
  exact hw
 ·rcases hd with h | ⟨n, xs, s, h1, h2, _⟩
  ·exact .inl h
  ·exact .inr ⟨xs.map (·.1), s, h1, by rw [List.length_map]; exact h2⟩
end Go.Proofs.Ytcpoldghkiiggaa.R

/- A row that grows while its older view is read on: its room laid open; laid still. -/
namespace Go.Proofs.Ytcpoldghkiiggaa.X
open Go
set_option linter.unusedVariables false

theorem Rel.opened {B : Bs} {β : Env} {slots : List AV} {K : Know} {a : Act} {w : World} (h : Rel B β ⟨slots, K⟩ a w) {t j c len z : Nat} (hs : slots.getD t .u = .o (.a (.rs j c len z))) {cells : List Atom} (hj : K.at j = some ⟨true, cells⟩)
  (hz : sizes cells = c + len * z) :
  ∃ cap J, len ≤ cap ∧ J.length = (cap - len) * z ∧ Rel B β ⟨slots.set t (.o (.a (.sl j c len cap))), K.set1 j (some ⟨true, cells ++ [.vals ((cap - len) * z) J]⟩)⟩ a w := by
 have hx := h.slot t
 simp only at hx
 rw [hs] at hx
 obtain ⟨base, cap, hv, hlc, hbase⟩ := hx
 simp only [List.cons.injEq, and_true] at hv
 obtain ⟨cs, hc, hd⟩ := h.relw.holds j _ hj
 change cons β cells cs at hc
 have hlen := cons_len hc
 rw [hz] at hlen
 have key : ∃ J : List Value, J.length = (cap - len) * z ∧ Blk.holds β w j ⟨true, cells ++ [.vals ((cap - len) * z) J]⟩ := by
  by_cases h0 : cap = 0
  ·refine ⟨[], by subst h0; simp, cs, ?_, hd⟩
   have := cons_append (m := [.vals ((cap - len) * z) []]) (ds := []) hc ⟨[], [], rfl, ⟨by subst h0; simp, rfl, fun _ h => by cases h⟩, rfl⟩
   simpa using this
  ·obtain ⟨r, hr, _, hroom⟩ := hbase (by omega)
   rcases hd with ⟨_, h2⟩ | ⟨r', arr, ty, fr, hr', hh, hsz, hl, ha, hf⟩
   ·rcases h2 with h2 | h2
    ·cases h2
    ·rw [hr] at h2; cases h2
   ·rw [hr] at hr'; cases hr'
    have hm : len * z + (cap - len) * z = cap * z := by rw [← Nat.add_mul]; congr 1; omega
    have hJl : ((arr.toList.drop (r.off + (c + len * z))).take ((cap - len) * z)).length = (cap - len) * z := by
     simp only [List.length_take, List.length_drop, Array.length_toList]; omega
    refine ⟨_, hJl, cs ++ _, cons_append hc (cons_single.2 ⟨hJl, rfl, fun v hv => (hf rfl).2 v (List.mem_of_mem_drop (List.mem_of_mem_take hv))⟩), .inr ⟨r, arr, ty, fr, hr, hh, hsz, ?_, ?_, hf⟩⟩
    ·rw [List.length_append, hJl]; omega
    ·intro i v hv
     by_cases hi : i < cs.length
     ·rw [List.getElem?_append_left hi] at hv; exact ha i v hv
     ·rw [List.getElem?_append_right (by omega), List.getElem?_take] at hv
      split at hv
      ·rw [List.getElem?_drop, hlen] at hv
       rw [← hv, Array.getElem?_toList]
       congr 1; omega
      ·cases hv
 obtain ⟨J, hJ, hhold⟩ := key
 refine ⟨cap, J, hlc, hJ, ?_⟩
 have h1 : Rel B β ⟨slots, K.set1 j (some ⟨true, cells ++ [.vals ((cap - len) * z) J]⟩)⟩ a w := ⟨h.relw.rehold hj (fun _ => rfl) hhold, h.defers, h.size, h.slot, h.fix, Nat.le_trans h.len (set1_length _ _ _)⟩
 exact h1.setSlot (t := t) (x := .o (.a (.sl j c len cap))) ⟨base, by rw [hv], hlc, fun hp => by obtain ⟨r, h1, h2, _⟩ := hbase hp; exact ⟨r, h1, h2⟩⟩

theorem Rel.opened1 {B : Bs} {β : Env} {slots : List AV} {K : Know} {a : Act} {w : World} (h : Rel B β ⟨slots, K⟩ a w) {t j c len : Nat} (hs : slots.getD t .u = .o (.a (.rs j c len 1))) {cells : List Atom} (hj : K.at j = some ⟨true, cells⟩)
  (hz : sizes cells = c + len) :
  ∃ cap J, len ≤ cap ∧ J.length = cap - len ∧ Rel B β ⟨slots.set t (.o (.a (.sl j c len cap))), K.set1 j (some ⟨true, cells ++ [.vals (cap - len) J]⟩)⟩ a w := by
 obtain ⟨cap, J, h1, h2, h3⟩ := h.opened hs hj (by rw [Nat.mul_one]; exact hz)
 rw [Nat.mul_one] at h2 h3
 exact ⟨cap, J, h1, h2, h3⟩

def Pre (β : Env) (cells c1 : List Atom) : Prop := ∀ cs, cons β cells cs → ∃ x y, cs = x ++ y ∧ cons β c1 x
theorem Pre.ints {β : Env} {k : IntKind} {n m : Nat} {L : List Int} (h : m ≤ n) (r : List Atom) : Pre β (.ints k n L :: r) [.ints k m (L.take m)] := by
 rintro cs ⟨x, y, rfl, ⟨hl, rfl⟩, _⟩
 refine ⟨(L.take m).map (Value.int k), (L.drop m).map (Value.int k) ++ y, ?_, cons_single.2 ⟨by simp; omega, rfl⟩⟩
 rw [← List.append_assoc, ← List.map_append, List.take_append_drop]
theorem Pre.all {β : Env} {k : IntKind} {n : Nat} {L : List Int} (r : List Atom) : Pre β (.ints k n L :: r) [.ints k n L] := by
 rintro cs ⟨x, y, rfl, h, _⟩
 exact ⟨x, y, rfl, cons_single.2 h⟩
theorem Pre.pref {β : Env} {k : IntKind} {n m : Nat} {L L' : List Int} (h : ∃ t, L' = L ++ t) (hl : L.length = m) (r : List Atom) : Pre β (.ints k n L' :: r) [.ints k m L] := by
 obtain ⟨t, rfl⟩ := h
 rintro cs ⟨x, y, rfl, ⟨_, rfl⟩, _⟩
 exact ⟨L.map (Value.int k), t.map (Value.int k) ++ y, by simp, cons_single.2 ⟨hl, rfl⟩⟩
theorem Rel.cast {B : Bs} {β : Env} {s s' : St} {a : Act} {w : World} (h : Rel B β s a w) (e : s = s') : Rel B β s' a w := e ▸ h
theorem Pre.holds {β : Env} {w : World} {j : Nat} {own : Bool} {cells c1 : List Atom} (hp : Pre β cells c1) (h : Blk.holds β w j ⟨own, cells⟩) : Blk.holds β w j ⟨false, c1⟩ := by
 obtain ⟨cs, hc, hd⟩ := h
 obtain ⟨x, y, rfl, hx⟩ := hp cs hc
 refine ⟨x, hx, ?_⟩
 rcases hd with ⟨h1, _⟩ | ⟨r, arr, ty, fr, hr, hh, hsz, hl, ha, _⟩
 ·exact .inl ⟨(List.append_eq_nil_iff.1 h1).1, .inl rfl⟩
 ·refine .inr ⟨r, arr, ty, fr, hr, hh, hsz, ?_, ?_, fun h => by cases h⟩
  ·rw [List.length_append] at hl; omega
  ·intro i v hv
   exact ha i v (by rw [List.getElem?_append_left (List.getElem?_eq_some_iff.1 hv).1]; exact hv)

theorem Rel.stilled {B : Bs} {β : Env} {slots : List AV} {K : Know} {a : Act} {w : World} (h : Rel B β ⟨slots, K⟩ a w) {j : Nat} {b : Blk} (hj : K.at j = some b) {c1 : List Atom} (hp : Pre β b.cells c1) :
  Rel B β ⟨slots, K.set1 j (some ⟨false, c1⟩)⟩ a w :=
 ⟨h.relw.rehold hj (fun h => by cases h) (hp.holds (own := b.own) (h.relw.holds j b hj)), h.defers, h.size, h.slot, h.fix, Nat.le_trans h.len (set1_length _ _ _)⟩

theorem Rel.twin {B : Bs} {β : Env} {slots : List AV} {K : Know} {a : Act} {w : World} (h : Rel B β ⟨slots, K⟩ a w) (hn : K.nom K.length (K.length + 1) = true) (hsn : slots.all (AV.nom K.length (K.length + 1)) = true)
  {t j c len cap z : Nat} (hs : slots.getD t .u = .o (.a (.sl j c len cap))) {cells : List Atom} (hj : K.at j = some ⟨true, cells⟩) (hz : c + cap * z ≤ sizes cells) {c1 c2 : List Atom} (hp1 : Pre β cells c1) (hp2 : Pre β cells c2) (hn1 : nomL K.length (K.length + 1) c1 = true) (hn2 : nomL K.length (K.length + 1) c2 = true) :
  Rel B (β.upd K.length (β j)) ⟨slots.set t (.o (.a (.rs K.length c len z))), K.set1 j (some ⟨false, c1⟩) ++ [some ⟨false, c2⟩]⟩ a w := by
 have hjl : j < K.length := by
  unfold Know.at at hj
  rcases Nat.lt_or_ge j K.length with h | h
  ·exact h
  ·rw [List.getElem?_eq_none h] at hj; cases hj
 have hset : (K.set1 j (some ⟨false, c1⟩)).length = K.length := by unfold Know.set1; rw [if_pos hjl, List.length_set]
 have hag := Env.agree_upd β K.length (β j)
 have hself : (β.upd K.length (β j)) K.length = β j := by unfold Env.upd; rw [if_pos rfl]
 have hoth : ∀ t, t < K.length → (β.upd K.length (β j)) t = β t := fun t ht => by unfold Env.upd; rw [if_neg (by omega)]
 have hold := h.relw.holds j _ hj
 have h1 := h.stilled hj hp1
 have hK1 : (K.set1 j (some ⟨false, c1⟩)).nom K.length (K.length + 1) = true := Know.set1_nom hn j _ hn1
 have hat : ∀ x b, Know.at (K.set1 j (some ⟨false, c1⟩) ++ [some ⟨false, c2⟩]) x = some b → (x < K.length ∧ (K.set1 j (some ⟨false, c1⟩)).at x = some b) ∨ (x = K.length ∧ b = ⟨false, c2⟩) := by
  intro x b hb
  rcases at_append1 hb with ⟨h1, h2⟩ | ⟨h1, h2⟩
  ·exact .inl ⟨by omega, h2⟩
  ·exact .inr ⟨by omega, (Option.some.inj h2).symm⟩
 have hlive : ∀ r, β j = some r → r.blk < w.heap.size := fun r hr => h.relw.live j _ r hj hr
 have hR : Rel B (β.upd K.length (β j)) ⟨slots, K.set1 j (some ⟨false, c1⟩) ++ [some ⟨false, c2⟩]⟩ a w := by
  refine ⟨⟨?_, ?_, ?_, ?_, h.relw.old, h.relw.size, h.relw.os, h.relw.tape, h.relw.output⟩, h.defers, h.size, ?_, ?_, ?_⟩
  ·intro x b hb
   rcases hat x b hb with ⟨hx, hb⟩ | ⟨rfl, rfl⟩
   ·obtain ⟨cs, k1, k2⟩ := h1.relw.holds x b hb
    refine ⟨cs, cons_agree hag (Know.nom_at hK1 hb) k1, ?_⟩
    rw [hoth x hx]; exact k2
   ·obtain ⟨cs, k1, k2⟩ := hp2.holds (own := true) hold
    refine ⟨cs, cons_agree hag hn2 k1, ?_⟩
    rcases k2 with ⟨k2, _⟩ | ⟨r, arr, ty, fr, hr, rest⟩
    ·exact .inl ⟨k2, .inl rfl⟩
    ·exact .inr ⟨r, arr, ty, fr, by rw [hself]; exact hr, rest⟩
  ·intro x y b d r s hx hy ho hne e1 e2
   rcases hat x b hx with ⟨hx', hb⟩ | ⟨rfl, rfl⟩
   ·rw [hoth _ hx'] at e1
    rcases hat y d hy with ⟨hy', hd⟩ | ⟨rfl, rfl⟩
    ·rw [hoth _ hy'] at e2
     exact h1.relw.apart x y b d r s hb hd ho hne e1 e2
    ·rw [hself] at e2
     have hxj : x ≠ j := fun e => by subst e; rw [Know.at_set1, if_pos rfl] at hb; cases hb; cases ho
     refine h1.relw.apart x j b ⟨false, c1⟩ r s hb ?_ ho hxj e1 e2
     rw [Know.at_set1, if_pos rfl]
   ·cases ho
  ·intro x b r hx ho e1
   rcases hat x b hx with ⟨hx', hb⟩ | ⟨rfl, rfl⟩
   ·rw [hoth _ hx'] at e1; exact h1.relw.mine x b r hb ho e1
   ·cases ho
  ·intro x b r hx e1
   rcases hat x b hx with ⟨hx', hb⟩ | ⟨rfl, rfl⟩
   ·rw [hoth _ hx'] at e1; exact h1.relw.live x b r hb e1
   ·rw [hself] at e1; exact hlive r e1
  ·intro s
   exact AV.con_agree hag (slots_nom (st := ⟨slots, K⟩) hsn s) (h.slot s)
  ·intro s hs
   rw [hoth s (Nat.lt_of_lt_of_le hs h.len)]; exact h.fix s hs
  ·have := h.len; simp only [List.length_append, hset] at *; simp; omega
 refine hR.setSlot (t := t) (x := .o (.a (.rs K.length c len z))) ?_
 have hx := h.slot t
 simp only at hx
 rw [hs] at hx
 obtain ⟨base, hv, hlc, hbase⟩ := hx
 refine ⟨base, cap, hv, hlc, fun hp => ?_⟩
 obtain ⟨r, hr, hb⟩ := hbase hp
 refine ⟨r, by rw [hself]; exact hr, hb, ?_⟩
 obtain ⟨cs, hc, hd⟩ := hold
 change cons β cells cs at hc
 have hlen := cons_len hc
 rcases hd with ⟨_, h2⟩ | ⟨r', arr, ty, fr, hr', hh, hsz, hl, ha, hf⟩
 ·rcases h2 with h2 | h2
  ·cases h2
  ·rw [hr] at h2; cases h2
 ·rw [hr] at hr'; cases hr'
  omega
end Go.Proofs.Ytcpoldghkiiggaa.X

/- Slices of bytes in a list, one behind the other: what they show together; contracts of functions that read such a list. -/
namespace Go.Proofs.Ytcpoldghkiiggaa.X
open Go Go.Proofs
set_option linter.unusedVariables false

def catV (w : World) (L : List Value) : Nat → List Int
 | 0 => []
 | k + 1 => catV w L k ++ contV w (L.getD k undef)

structure PartsR (w : World) (rw : List Nat) (L : List Value) (n : Nat) : Prop where
 imp : ∀ i, i < n → ∀ (k : Nat) (β : Env), ImpOk ⟨w, rw, k, β⟩ (L.getD i undef) .u8 (lenV (L.getD i undef)) (capV (L.getD i undef)) (contV w (L.getD i undef))
 small : (catV w L n).length < 70368744177664
abbrev PartsOk (w : World) (L : List Value) (n : Nat) : Prop := PartsR w [] L n

theorem PartsR.len {w : World} {rw : List Nat} {L : List Value} {n : Nat} (h : PartsR w rw L n) {i : Nat} (hi : i < n) : (contV w (L.getD i undef)).length = lenV (L.getD i undef) := by
 obtain ⟨_, _, _, h3, _⟩ := h.imp i hi 0 noEnv
 exact h3

theorem catV_mono (w : World) (L : List Value) {i : Nat} : ∀ {n : Nat}, i ≤ n → (catV w L i).length ≤ (catV w L n).length
  | 0, h => by have : i = 0 := by omega
               subst this; exact Nat.le_refl _
  | n + 1, h => by
    rcases Nat.lt_or_ge n i with h1 | h1
    · have : i = n + 1 := by omega
      subst this; exact Nat.le_refl _
    · refine Nat.le_trans (catV_mono w L h1) ?_
      show _ ≤ (catV w L n ++ _).length
      rw [List.length_append]; omega

theorem PartsR.lt {w : World} {rw : List Nat} {L : List Value} {n : Nat} (h : PartsR w rw L n) {i : Nat} (hi : i ≤ n) : (catV w L i).length < 70368744177664 := Nat.lt_of_le_of_lt (catV_mono w L hi) h.small
theorem getD_left {L M : List Value} {i : Nat} (h : i < L.length) : (L ++ M).getD i undef = L.getD i undef := by
 rw [List.getD_eq_getElem?_getD, List.getD_eq_getElem?_getD, List.getElem?_append_left h]
theorem getD_right {L M : List Value} {i : Nat} : (L ++ M).getD (L.length + i) undef = M.getD i undef := by
 rw [List.getD_eq_getElem?_getD, List.getD_eq_getElem?_getD, List.getElem?_append_right (by omega)]
 congr 2; omega
theorem contV_move {w0 w : World} {rw : List Nat} (h : ∀ b, b < w0.heap.size → b ∉ rw → w.heap[b]? = w0.heap[b]?) {v : Value} {k : Nat} {β : Env} (hi : ImpOk ⟨w0, rw, k, β⟩ v .u8 (lenV v) (capV v) (contV w0 v)) : contV w v = contV w0 v := by
 obtain ⟨base, hv, hlc, hL, hb⟩ := hi
 by_cases hc : 0 < capV v
 ·obtain ⟨b, off, rfl, h1, h2, _⟩ := hb hc
  rw [hv]
  unfold contV
  simp only
  rw [h b h1 h2]
 ·have h0 : lenV v = 0 := by omega
  rw [hv]
  unfold contV
  rw [h0]
  cases base with
  | none => rfl
  | some a =>
   simp only [List.range_zero, List.map_nil]
   split <;> split <;> rfl

theorem PartsR.move {w0 w : World} {rw : List Nat} (h : ∀ b, b < w0.heap.size → b ∉ rw → w.heap[b]? = w0.heap[b]?) (hs : w0.heap.size ≤ w.heap.size) {L : List Value} {n : Nat} (hp : PartsR w0 rw L n) : PartsOk w L n ∧ catV w L n = catV w0 L n := by
 have hc : ∀ k, k ≤ n → catV w L k = catV w0 L k := by
  intro k
  induction k with
  | zero => intro _; rfl
  | succ k ih =>
   intro hk
   show catV w L k ++ _ = catV w0 L k ++ _
   rw [ih (by omega), contV_move h (hp.imp k (by omega) 0 noEnv)]
 refine ⟨⟨fun i hi k β => ?_, by rw [hc n (Nat.le_refl _)]; exact hp.small⟩, hc n (Nat.le_refl _)⟩
 rw [contV_move h (hp.imp i hi 0 noEnv)]
 obtain ⟨base, hv, hlc, hL, hb⟩ := hp.imp i hi 0 noEnv
 refine ⟨base, hv, hlc, hL, fun h0 => ?_⟩
 obtain ⟨b, off, g1, g2, g3, g4⟩ := hb h0
 have g2 : b < w0.heap.size := g2
 refine ⟨b, off, g1, Nat.lt_of_lt_of_le g2 hs, by simp, fun hl => ?_⟩
 obtain ⟨arr, ty, fr, k1, k2⟩ := g4 hl
 exact ⟨arr, ty, fr, (h b g2 g3).trans k1, k2⟩

section sound
variable {w0 w : World} {rw : List Nat} {β : Env} {K : Know}

end sound

end Go.Proofs.Ytcpoldghkiiggaa.X

/- A walk begun anew where it stands; families of slices that the walk itself made. -/
namespace Go.Proofs.Ytcpoldghkiiggaa.X
open Go Go.Proofs
set_option linter.unusedVariables false

def ownBlks (β : Env) (K : Know) : List Nat := (List.range K.length).filterMap fun j => match K.at j with
 | some b => if b.own = true then (β j).map Ref.blk else none
 | none => none
theorem mem_ownBlks {β : Env} {K : Know} {x : Nat} : x ∈ ownBlks β K ↔ ∃ j b r, K.at j = some b ∧ b.own = true ∧ β j = some r ∧ r.blk = x := by
 unfold ownBlks
 rw [List.mem_filterMap]
 constructor
 ·rintro ⟨j, _, h⟩
  split at h
  ·rename_i b hb
   split at h
   ·rename_i ho
    rw [Option.map_eq_some_iff] at h
    obtain ⟨r, hr, hx⟩ := h
    exact ⟨j, b, r, hb, ho, hr, hx⟩
   ·cases h
  ·cases h
 ·rintro ⟨j, b, r, hb, ho, hr, hx⟩
  have hj : j < K.length := by
   rcases Nat.lt_or_ge j K.length with h | h
   ·exact h
   ·unfold Know.at at hb; rw [List.getElem?_eq_none h] at hb; cases hb
  refine ⟨j, List.mem_range.2 hj, ?_⟩
  rw [hb]
  simp only
  rw [if_pos ho, hr]
  exact congrArg some hx

section anew
variable {P : Program} {B : Bs} {β β' : Env} {st st' : St} {a a' : Act} {w w' : World}

theorem Rel.anew (h : Rel B β st a w) : Rel ⟨w, ownBlks β st.K, B.k, β⟩ β st a w :=
 ⟨⟨h.relw.holds, h.relw.apart, fun j b r hj ho hr => .inr (mem_ownBlks.2 ⟨j, b, r, hj, ho, hr, rfl⟩), h.relw.live, fun _ _ _ => rfl, Nat.le_refl _, rfl, rfl, rfl⟩, h.defers, h.size, h.slot, fun _ _ => rfl, h.len⟩

theorem Rel.back (h : Rel B β st a w) (h' : Rel ⟨w, ownBlks β st.K, B.k, β⟩ β' st' a' w') : Rel B β' st' a' w' := by
 have hown : ∀ x, x ∈ ownBlks β st.K → B.w0.heap.size ≤ x ∨ x ∈ B.rw := by
  intro x hx
  obtain ⟨j, b, r, hj, ho, hr, rfl⟩ := mem_ownBlks.1 hx
  exact h.relw.mine j b r hj ho hr
 refine ⟨⟨h'.relw.holds, h'.relw.apart, ?_, h'.relw.live, ?_, Nat.le_trans h.relw.size h'.relw.size, h'.relw.os.trans h.relw.os, h'.relw.tape.trans h.relw.tape, h'.relw.output.trans h.relw.output⟩, h'.defers, h'.size, h'.slot, fun j hj => (h'.fix j hj).trans (h.fix j hj), h'.len⟩
 ·intro j b r hj ho hr
  rcases h'.relw.mine j b r hj ho hr with h1 | h1
  ·exact .inl (Nat.le_trans h.relw.size h1)
  ·exact hown _ h1
 ·intro b hb hn
  have h1 : b ∉ ownBlks β st.K := fun hx => by
   rcases hown b hx with h2 | h2
   ·omega
   ·exact hn h2
  exact (h'.relw.old b (Nat.lt_of_lt_of_le hb h.relw.size) h1).trans (h.relw.old b hb hn)

theorem Run.anew {c : Code} {post : Ex → St → Prop} (h : ∀ β a w, Rel B β st a w → Run P ⟨w, ownBlks β st.K, B.k, β⟩ c st post) : Run P B c st post :=
 fun β a w hR Q hq => h β a w hR β a w hR.anew Q fun e st' β' a' w' hp hR' => hq e st' β' a' w' hp (hR.back hR')
end anew

theorem Run.fam {P : Program} {σ : Type} {c rest : Code} {id : Nat} {post : Ex → St → Prop} (mk : Nat → σ → St) (Inv : World → List Nat → Nat → σ → Prop) (n kk : Nat)
  (hround : ∀ w rw β0 k s, k < n → Inv w rw k s → ∃ md, Run P ⟨w, rw, kk, β0⟩ c (mk k s) (To ⟨w, rw, kk, β0⟩ .normal md) ∧
   ∀ β a' w', Rel ⟨w, rw, kk, β0⟩ β md a' w' → ∃ β' s', Rel ⟨w, rw, kk, β0⟩ β' (mk (k + 1) s') a' w' ∧ Inv w' (ownBlks β' (mk (k + 1) s').K) (k + 1) s')
  (hlast : ∀ w rw β0 s, Inv w rw n s → Run P ⟨w, rw, kk, β0⟩ c (mk n s) (To ⟨w, rw, kk, β0⟩ (.exit id) (mk n s)))
  (hrest : ∀ w rw β0 s, Inv w rw n s → Run P ⟨w, rw, kk, β0⟩ rest (mk n s) post)
  {w0 : World} {rw0 : List Nat} {β0 : Env} {s0 : σ} (h0 : Inv w0 rw0 0 s0) : Run P ⟨w0, rw0, kk, β0⟩ (.seq (.block id (.loop c)) rest) (mk 0 s0) post := by
 have key : ∀ Q1 : Exit → Act → World → Prop, (∀ w1 rw1 β1 s β a w, Inv w1 rw1 n s → Rel ⟨w1, rw1, kk, β1⟩ β (mk n s) a w →
    (∀ β' st' a' w', Rel ⟨w1, rw1, kk, β1⟩ β' st' a' w' → Rel ⟨w0, rw0, kk, β0⟩ β' st' a' w') → Q1 (.exit id) a w) → ∀ m k, k + m = n → ∀ w1 rw1 β1 s β a w, Inv w1 rw1 k s → Rel ⟨w1, rw1, kk, β1⟩ β (mk k s) a w →
   (∀ β' st' a' w', Rel ⟨w1, rw1, kk, β1⟩ β' st' a' w' → Rel ⟨w0, rw0, kk, β0⟩ β' st' a' w') → Code.rounds P c Q1 (m + 1) a w := by
  intro Q1 hQ1 m
  induction m with
  | zero =>
   intro k hk w1 rw1 β1 s β a w hi hR hback
   have : k = n := by omega
   subst this
   rw [rounds_succ]
   refine hlast w1 rw1 β1 s hi β a w hR _ fun e st' β' a' w' hp hR' => ?_
   obtain ⟨rfl, hw⟩ := hp
   obtain ⟨β2, hR2⟩ := hw β' a' w' hR'
   exact hQ1 w1 rw1 β1 s β2 a' w' hi hR2 hback
  | succ m ih =>
   intro k hk w1 rw1 β1 s β a w hi hR hback
   rw [rounds_succ]
   obtain ⟨md, hrun, hconv⟩ := hround w1 rw1 β1 k s (by omega) hi
   refine hrun β a w hR _ fun e st' β' a' w' hp hR' => ?_
   obtain ⟨rfl, hw⟩ := hp
   obtain ⟨β2, hR2⟩ := hw β' a' w' hR'
   obtain ⟨β3, s', hR3, hi'⟩ := hconv β2 a' w' hR2
   exact ih (k + 1) (by omega) w' (ownBlks β3 (mk (k + 1) s').K) β3 s' β3 a' w' hi' hR3.anew fun β' st' a'' w'' h => hback _ _ _ _ (hR3.back h)
 intro β a w hR Q hq
 refine wp_seq (wp_block (wp_loop_rounds (n + 1) (key _ ?_ n 0 (by omega) w0 rw0 β0 s0 β a w h0 hR fun _ _ _ _ h => h)))
 intro w1 rw1 β1 s β2 a' w' hi hR2 hback
 show (if id = id then _ else _)
 rw [if_pos rfl]
 exact hrest w1 rw1 β1 s hi β2 a' w' hR2 Q fun e st' β' a' w' hp hR' => hq e st' β' a' w' hp (hback _ _ _ _ hR')

structure FamR (w : World) (rw : List Nat) (L : List Value) (C : List (List Int)) : Prop where
 len : L.length = C.length
 imp : ∀ i, i < C.length → ∀ (k : Nat) (β : Env), ImpOk ⟨w, rw, k, β⟩ (L.getD i undef) .u8 (lenV (L.getD i undef)) (capV (L.getD i undef)) (contV w (L.getD i undef))
 cont : ∀ i, i < C.length → contV w (L.getD i undef) = C.getD i []

theorem FamR.nil {w : World} {rw : List Nat} : FamR w rw [] [] := ⟨rfl, fun i hi => absurd hi (Nat.not_lt_zero i), fun i hi => absurd hi (Nat.not_lt_zero i)⟩

def Less (K K' : Know) (kb : Nat) : Prop := ∀ j b, K'.at j = some b → b.own = true → j < kb ∧ ∃ c, K.at j = some c ∧ c.own = true

section fam
variable {w0 w : World} {rw : List Nat} {β : Env} {K K' : Know} {kb : Nat}

theorem Less.old (hR : RelW w0 rw β K w) (hL : Less K K' kb) {b : Nat} (h1 : b < w0.heap.size) (h2 : b ∉ rw) : b ∉ ownBlks β K' := fun hx => by
 obtain ⟨x, b', s, hx1, ho, hs, he⟩ := mem_ownBlks.1 hx
 obtain ⟨hlt, c, hc, hco⟩ := hL x b' hx1 ho
 rcases hR.mine x c s hc hco hs with h | h
 ·omega
 ·rw [he] at h; exact h2 h

theorem FamR.move (hR : RelW w0 rw β K w) (hL : Less K K' kb) {L : List Value} {C : List (List Int)} (h : FamR w0 rw L C) : FamR w (ownBlks β K') L C := by
 have hc : ∀ i, i < C.length → contV w (L.getD i undef) = contV w0 (L.getD i undef) := fun i hi => contV_move hR.old (h.imp i hi 0 noEnv)
 refine ⟨h.len, fun i hi k β1 => ?_, fun i hi => (hc i hi).trans (h.cont i hi)⟩
 rw [hc i hi]
 obtain ⟨base, hv, hlc, hl, hb⟩ := h.imp i hi 0 noEnv
 refine ⟨base, hv, hlc, hl, fun h0 => ?_⟩
 obtain ⟨b, off, g1, g2, g3, g4⟩ := hb h0
 have g2 : b < w0.heap.size := g2
 refine ⟨b, off, g1, Nat.lt_of_lt_of_le g2 hR.size, hL.old hR g2 g3, fun hl0 => ?_⟩
 obtain ⟨arr, ty, fr, k1, k2⟩ := g4 hl0
 exact ⟨arr, ty, fr, (hR.old b g2 g3).trans k1, k2⟩

theorem FamR.app {rw' : List Nat} {L M : List Value} {C D : List (List Int)} (h : FamR w rw' L C) (h' : FamR w rw' M D) : FamR w rw' (L ++ M) (C ++ D) := by
 have hl := h.len
 refine ⟨by rw [List.length_append, List.length_append, h.len, h'.len], fun i hi k β => ?_, fun i hi => ?_⟩
 ·by_cases h1 : i < C.length
  ·rw [getD_left (by omega)]; exact h.imp i h1 k β
  ·obtain ⟨t, rfl⟩ : ∃ t, i = L.length + t := ⟨i - L.length, by omega⟩
   rw [getD_right]
   rw [List.length_append] at hi
   exact h'.imp t (by omega) k β
 ·rw [List.length_append] at hi
  by_cases h1 : i < C.length
  ·rw [getD_left (by omega), h.cont i h1, List.getD_eq_getElem?_getD, List.getD_eq_getElem?_getD, List.getElem?_append_left h1]
  ·obtain ⟨t, rfl⟩ : ∃ t, i = L.length + t := ⟨i - L.length, by omega⟩
   rw [getD_right, h'.cont t (by omega), List.getD_eq_getElem?_getD, List.getD_eq_getElem?_getD, List.getElem?_append_right (by omega)]
   congr 2; omega

theorem FamR.parts {rw' : List Nat} {L : List Value} {C : List (List Int)} (h : FamR w rw' L C) : ∀ n, n ≤ C.length → catV w L n = (C.take n).flatten
 | 0, _ => rfl
 | n + 1, hn => by
  show catV w L n ++ contV w (L.getD n undef) = _
  rw [FamR.parts h n (by omega), h.cont n (by omega), List.take_add_one, List.getElem?_eq_getElem (by omega), List.flatten_append, List.getD_eq_getElem?_getD, List.getElem?_eq_getElem (by omega)]
  simp
end fam

def lessKB (K K' : Know) (kb : Nat) : Bool := (List.range K'.length).all fun j => match K'.at j with
 | some b => !b.own || (decide (j < kb) && (match K.at j with | some c => c.own | none => false))
 | none => true
theorem Less.of {K K' : Know} {kb : Nat} (h : lessKB K K' kb = true) : Less K K' kb := by
 intro j b hj ho
 have hlt : j < K'.length := by
  rcases Nat.lt_or_ge j K'.length with h | h
  ·exact h
  ·unfold Know.at at hj; rw [List.getElem?_eq_none h] at hj; cases hj
 have h1 := List.all_eq_true.1 h j (List.mem_range.2 hlt)
 rw [hj] at h1
 simp only [ho, Bool.not_true, Bool.false_or, Bool.and_eq_true, decide_eq_true_eq] at h1
 refine ⟨h1.1, ?_⟩
 have h2 := h1.2
 split at h2
 ·rename_i c hc; exact ⟨c, hc, h2⟩
 ·cases h2

theorem Run.seqTo {P : Program} {B : Bs} {a b : Code} {st st1 : St} {post : Ex → St → Prop} (h : Run P B a st (To B .normal st1)) (h2 : Run P B b st1 post) : Run P B (.seq a b) st post :=
 fun β ac w hR Q hq => wp_seq (h β ac w hR _ fun e st' β' a' w' hp hR' => by
  obtain ⟨rfl, hw⟩ := hp
  obtain ⟨β2, hR2⟩ := hw β' a' w' hR'
  exact h2 β2 a' w' hR2 Q hq)
theorem Run.absorb {P : Program} {B : Bs} {c : Code} {st : St} {R : Ex → St → Prop} (h : Run P B c st fun e s => ∃ s', Weak B s s' ∧ R e s') : Run P B c st R :=
 fun β a w hR Q hq => h β a w hR Q fun e st' β' a' w' hp hR' => by
  obtain ⟨s', hw, hr⟩ := hp
  obtain ⟨β2, hR2⟩ := hw β' a' w' hR'
  exact hq e s' β2 a' w' hr hR2
def finP (T : Tab) (fn : Func) (Fin : List V1 → Know → Prop) : Ex → St → Prop := fun e s => (e = .normal ∨ e = .ret) ∧ ∃ xs m, resL T s fn.results.toList = some xs ∧ Fin xs (s.K.take m)
theorem Run.of_finAt {P : Program} {T : Tab} {Γ : Gam} {B : Bs} {Λ : Lam} {Ψ : Psi} {fuel : Nat} (hmix : P.follows .mixedOrders = true) (hT : TabOk P T) (hΓ : GamAt P Γ B.w0 B.rw) {fn : Func} {c : Code} {rs : List ResultVar} (hrs : fn.results = rs.toArray) (ora : List Bool) (l : List Tr) {st : St}
  {vc : List Prop} {xs : List V1} (h : fin B T rs l (execC P B T Γ Λ Ψ fuel c ora st []) = some ⟨true, vc, xs⟩) (hvc : AllP vc) : Run P B c st (finP T fn fun ys _ => ys = xs) := by
 unfold fin at h
 split at h
 ·rename_i o ho
  split at h
  ·rename_i vc1 st1 ht
   split at h
   ·rename_i ys hys
    simp only [Option.some.injEq, FOut.mk.injEq] at h
    obtain ⟨h1, rfl, rfl⟩ := h
    obtain ⟨h2, h3⟩ := trs_weak ht hvc
    exact Run.absorb (Run.exec hmix hT hΓ Λ Ψ fuel ora ho h2 ⟨_, h3, exRet_ok h1, _, 0, by rw [hrs]; exact hys, rfl⟩)
   ·simp at h
  ·simp at h
 ·simp at h
theorem Body.of_run {P : Program} {T : Tab} {B : Bs} {fn : Func} {c : Code} (hb : fn.body = some c) {avs : List AV} {K0 : Know} {Fin : List V1 → Know → Prop} (h : Run P B c ⟨avs ++ List.replicate (fn.ntmps - avs.length) .u, K0⟩ (finP T fn Fin)) : Body P T fn B avs K0 Fin :=
 ⟨c, hb, h.mono fun e s hp => ⟨hp.1, s, Weak.refl, hp.2⟩⟩
end Go.Proofs.Ytcpoldghkiiggaa.X

/- A contract of a function that reads a block of which a cell is not looked at: the cell may hold whatever. -/
namespace Go.Proofs.Ytcpoldghkiiggaa.X
open Go Go.Proofs
set_option linter.unusedVariables false

def hidB (i : Nat) (b : Blk) : Blk := ⟨false, b.cells.set i .unk⟩
def oneA : Atom → Bool
 | .ints _ _ _ => false
 | .vals _ _ => false
 | _ => true
def headP : List AV → Option Nat
 | .o (.a (.p g 0)) :: _ => some g
 | _ => none
def chOk (K : Know) (g : Nat) (e : Nat × Option Blk) : Bool := !Nat.beq e.1 g && (match e.2 with
 | some b => b.own || (match K.at e.1 with | some c => c.own | none => false)
 | none => true)
def hideE (i : Nat) (A : Know → Nat → List AV → Option Rx) (K : Know) (n : Nat) (args : List AV) : Option Rx :=
 match headP args with
 | some g => (match K.at g with
  | some b => (match b.cells[i]? with
   | some a => (match A (K.set1 g (some (hidB i b))) n args with
    | some s => if (oneA a && s.ch.all (chOk K g)) = true then some s else none
    | none => none)
   | none => none)
  | none => none)
 | none => none

theorem oneA_size {a : Atom} (h : oneA a = true) : a.size = 1 := by cases a <;> first | rfl | cases h
theorem cons_hid {β : Env} : ∀ {l : List Atom} {i : Nat} {a : Atom} {cs : List Value}, l[i]? = some a → oneA a = true → cons β l cs → cons β (l.set i .unk) cs
 | [], i, a, cs, h, _, _ => by simp at h
 | x :: r, 0, a, cs, h, ho, hc => by
  simp only [List.getElem?_cons_zero, Option.some.injEq] at h
  subst h
  obtain ⟨u, w, rfl, hu, hw⟩ := hc
  have hl : u.length = 1 := (Atom.con_len hu).trans (oneA_size ho)
  obtain ⟨v, rfl⟩ := List.length_eq_one_iff.1 hl
  exact ⟨[v], w, rfl, ⟨v, rfl, cons_one (cons_single.2 hu) v (by simp)⟩, hw⟩
 | x :: r, i + 1, a, cs, h, ho, hc => by
  simp only [List.getElem?_cons_succ] at h
  obtain ⟨u, w, rfl, hu, hw⟩ := hc
  exact ⟨u, w, rfl, hu, cons_hid h ho hw⟩

theorem app_other : ∀ {ch : List (Nat × Option Blk)} {K K' : Know} {g : Nat}, (∀ t, t ≠ g → K.at t = K'.at t) → (∀ e ∈ ch, e.1 ≠ g) →
  (∀ t, t ≠ g → (app K ch).at t = (app K' ch).at t) ∧ (app K ch).at g = K.at g
 | [], K, K', g, h, _ => ⟨h, rfl⟩
 | (j, b) :: r, K, K', g, h, hn => by
  have hj : j ≠ g := hn (j, b) (by simp)
  have := app_other (ch := r) (K := K.set1 j b) (K' := K'.set1 j b) (g := g) (fun t ht => by rw [Know.at_set1, Know.at_set1]; split; rfl; exact h t ht) (fun e he => hn e (by simp [he]))
  refine ⟨this.1, this.2.trans ?_⟩
  rw [Know.at_set1, if_neg (fun e => hj e.symm)]

theorem hide_full {P : Program} {f : FuncId} {i : Nat} {A : Know → Nat → List AV → Option Rx} (hA : ∀ K n args s, A K n args = some s → okP s.vc → FullC P f K n args s)
  {K : Know} {n : Nat} {args : List AV} {s : Rx} (hs : hideE i A K n args = some s) (hvc : okP s.vc) : FullC P f K n args s := by
 unfold hideE at hs
 split at hs
 rotate_left
 ·simp at hs
 rename_i g hg
 split at hs
 rotate_left
 ·simp at hs
 rename_i b hb
 split at hs
 rotate_left
 ·simp at hs
 rename_i a hcell
 split at hs
 rotate_left
 ·simp at hs
 rename_i s' hs'
 split at hs
 rotate_left
 ·simp at hs
 rename_i hchk
 simp only [Option.some.injEq] at hs; subst hs
 rw [Bool.and_eq_true] at hchk
 obtain ⟨hone, hch⟩ := hchk
 have hne : ∀ e ∈ s'.ch, e.1 ≠ g := fun e he hh => by
  have := List.all_eq_true.1 hch e he
  unfold chOk at this
  rw [Bool.and_eq_true] at this
  have h1 := this.1
  rw [hh] at h1
  simp at h1
 intro w0 rw β w xs hx hR hfree hnom
 -- the callee's knowledge
 have hat : ∀ t c, (K.set1 g (some (hidB i b))).at t = some c → (t = g ∧ c = hidB i b) ∨ (t ≠ g ∧ K.at t = some c) := fun t c ht => by
  rw [Know.at_set1] at ht
  split at ht
  ·rename_i e; exact .inl ⟨e, (Option.some.inj ht).symm⟩
  ·rename_i e; exact .inr ⟨e, ht⟩
 have hownK : ∀ x, x ∈ ownBlks β (K.set1 g (some (hidB i b))) → ∃ t c r, t ≠ g ∧ K.at t = some c ∧ c.own = true ∧ β t = some r ∧ r.blk = x := fun x hx => by
  obtain ⟨t, c, r, h1, h2, h3, h4⟩ := mem_ownBlks.1 hx
  rcases hat t c h1 with ⟨rfl, rfl⟩ | ⟨ht, hk⟩
  ·cases h2
  ·exact ⟨t, c, r, ht, hk, h2, h3, h4⟩
 obtain ⟨csg, hcg, hdg⟩ := hR.holds g b hb
 have hR1 : RelW w (ownBlks β (K.set1 g (some (hidB i b)))) β (K.set1 g (some (hidB i b))) w := by
  refine ⟨fun t c ht => ?_, fun t u c d r z ht hu ho hne2 hr hz => ?_, fun t c r ht ho hr => .inr (mem_ownBlks.2 ⟨t, c, r, ht, ho, hr, rfl⟩), fun t c r ht hr => ?_, fun _ _ _ => rfl, Nat.le_refl _, rfl, rfl, rfl⟩
  ·rcases hat t c ht with ⟨rfl, rfl⟩ | ⟨_, hk⟩
   ·refine ⟨csg, cons_hid hcell hone hcg, ?_⟩
    rcases hdg with ⟨h1, _⟩ | ⟨r, arr, ty, fr, h1, h2, h3, h4, h5, _⟩
    ·exact .inl ⟨h1, .inl rfl⟩
    ·exact .inr ⟨r, arr, ty, fr, h1, h2, h3, h4, h5, fun h => by cases h⟩
   ·exact hR.holds t c hk
  ·rcases hat t c ht with ⟨rfl, rfl⟩ | ⟨_, hk⟩
   ·cases ho
   ·rcases hat u d hu with ⟨rfl, rfl⟩ | ⟨_, hk2⟩
    ·exact hR.apart t u c b r z hk hb ho hne2 hr hz
    ·exact hR.apart t u c d r z hk hk2 ho hne2 hr hz
  ·rcases hat t c ht with ⟨rfl, rfl⟩ | ⟨_, hk⟩
   ·exact hR.live t b r hb hr
   ·exact hR.live t c r hk hr
 have hgn : ¬ (n ≤ g ∧ g < n + s'.fr) := fun hc => by
  have := hfree (g - n) (by omega)
  rw [show n + (g - n) = g by omega, hb] at this
  cases this
 have hfree1 : ∀ k, k < s'.fr → (K.set1 g (some (hidB i b))).at (n + k) = none := fun k hk => by
  rw [Know.at_set1, if_neg (fun e => hgn ⟨by omega, by omega⟩)]
  exact hfree k hk
 have hnom1 : (K.set1 g (some (hidB i b))).nom n (n + s'.fr) = true := by
  unfold Know.nom
  rw [List.all_eq_true]
  intro o ho
  cases o with
  | none => rfl
  | some c =>
   obtain ⟨t, ht⟩ := List.getElem?_of_mem ho
   have hc : (K.set1 g (some (hidB i b))).at t = some c := by unfold Know.at; rw [ht]; rfl
   rcases hat t c hc with ⟨rfl, rfl⟩ | ⟨_, hk⟩
   ·have h1 := Know.nom_at hnom hb
    show nomL n (n + s'.fr) (b.cells.set i .unk) = true
    unfold nomL at h1 ⊢
    rw [List.all_eq_true] at h1 ⊢
    intro x hx
    rcases List.mem_or_eq_of_mem_set hx with h | h
    ·exact h1 x h
    ·rw [h]; rfl
   ·exact Know.nom_at hnom hk
 refine Calls.mono (hA _ _ _ _ hs' hvc w _ β w xs hx hR1 hfree1 hnom1) fun e w' he => ?_
 obtain ⟨v, β', rfl, hag, hv, h2⟩ := he
 refine ⟨v, β', rfl, hag, hv, ?_⟩
 obtain ⟨hoth, hsame⟩ := app_other (ch := s'.ch) (K := K) (K' := K.set1 g (some (hidB i b))) (g := g) (fun t ht => by rw [Know.at_set1, if_neg ht]) hne
 have hgK : (app K s'.ch).at g = some b := hsame.trans hb
 have hgH : (app (K.set1 g (some (hidB i b))) s'.ch).at g = some (hidB i b) := by
  have := (app_other (ch := s'.ch) (K := K.set1 g (some (hidB i b))) (K' := K) (g := g) (fun t ht => by rw [Know.at_set1, if_neg ht]) hne).2
  rw [this, Know.at_set1, if_pos rfl]
 have hβg : β' g = β g := hag g (by omega)
 have hat2 : ∀ t c, (app K s'.ch).at t = some c → (t = g ∧ c = b) ∨ (t ≠ g ∧ (app (K.set1 g (some (hidB i b))) s'.ch).at t = some c) := fun t c ht => by
  by_cases e : t = g
  ·subst e; rw [hgK] at ht; exact .inl ⟨rfl, (Option.some.inj ht).symm⟩
  ·exact .inr ⟨e, by rw [← hoth t e]; exact ht⟩
 -- a block that stands beside g lies elsewhere
 have hgone : ∀ r, β g = some r → b.own = true → r.blk ∉ ownBlks β (K.set1 g (some (hidB i b))) := fun r hr ho hx => by
  obtain ⟨t, c, z, h1, h3, h4, h5, h6⟩ := hownK _ hx
  exact hR.apart g t b c r z hb h3 ho (fun e => h1 e.symm) hr h5 h6.symm
 have hgout : ∀ r, β g = some r → r.blk ∉ ownBlks β (K.set1 g (some (hidB i b))) := fun r hr hx => by
  obtain ⟨t, c, z, h1, h3, h4, h5, h6⟩ := hownK _ hx
  exact hR.apart t g c b z r h3 hb h4 h1 h5 hr h6
 have hapg : ∀ u d z r, u ≠ g → (app (K.set1 g (some (hidB i b))) s'.ch).at u = some d → β' u = some z → β g = some r → b.own = true → r.blk ≠ z.blk := fun u d z r hu hd hz hr ho => by
  by_cases hdo : d.own = true
  ·exact fun e => h2.apart u g d (hidB i b) z r hd hgH hdo hu hz (by rw [hβg]; exact hr) e.symm
  ·rcases app_some s'.ch (K.set1 g (some (hidB i b))) u d hd with hm | ⟨hk, _⟩
   ·have := List.all_eq_true.1 hch _ hm
    unfold chOk at this
    simp only [Bool.and_eq_true, Bool.or_eq_true] at this
    rcases this.2 with h | h
    ·exact absurd h hdo
    ·split at h
     ·rename_i c hc
      have hun : ¬ (n ≤ u ∧ u < n + s'.fr) := fun hcc => by
       have := hfree (u - n) (by omega)
       rw [show n + (u - n) = u by omega, hc] at this
       cases this
      have hβu : β' u = β u := hag u (by omega)
      rw [hβu] at hz
      exact hR.apart g u b c r z hb hc ho (fun e => hu e.symm) hr hz
     ·cases h
   ·rcases hat u d hk with ⟨rfl, _⟩ | ⟨_, hk⟩
    ·exact absurd rfl hu
    ·have hun : ¬ (n ≤ u ∧ u < n + s'.fr) := fun hcc => by
      have := hfree (u - n) (by omega)
      rw [show n + (u - n) = u by omega, hk] at this
      cases this
     have hβu : β' u = β u := hag u (by omega)
     rw [hβu] at hz
     exact hR.apart g u b d r z hb hk ho (fun e => hu e.symm) hr hz
 refine ⟨fun t c ht => ?_, fun t u c d r z ht hu ho hne2 hr hz => ?_, fun t c r ht ho hr => ?_, fun t c r ht hr => ?_, fun x hx hx2 => ?_, Nat.le_trans hR.size h2.size, h2.os.trans hR.os, h2.tape.trans hR.tape, h2.output.trans hR.output⟩
 ·rcases hat2 t c ht with ⟨rfl, rfl⟩ | ⟨_, hk⟩
  ·refine ⟨csg, cons_agree hag (Know.nom_at hnom hb) hcg, ?_⟩
   rcases hdg with ⟨h1, h3⟩ | ⟨r, arr, ty, fr, h1, h3, h4, h5, h6, h7⟩
   ·exact .inl ⟨h1, by rw [hβg]; exact h3⟩
   ·exact .inr ⟨r, arr, ty, fr, by rw [hβg]; exact h1, (h2.old r.blk (hR.live t c r hb h1) (hgout r h1)).trans h3, h4, h5, h6, h7⟩
  ·exact h2.holds t c hk
 ·rcases hat2 t c ht with ⟨rfl, rfl⟩ | ⟨e1, hk⟩
  ·rcases hat2 u d hu with ⟨rfl, rfl⟩ | ⟨e2, hk2⟩
   ·exact absurd rfl hne2
   ·rw [hβg] at hr
    exact hapg u d z r e2 hk2 hz hr ho
  ·rcases hat2 u d hu with ⟨rfl, rfl⟩ | ⟨_, hk2⟩
   ·exact h2.apart t u c (hidB i d) r z hk hgH ho hne2 hr hz
   ·exact h2.apart t u c d r z hk hk2 ho hne2 hr hz
 ·rcases hat2 t c ht with ⟨rfl, rfl⟩ | ⟨e1, hk⟩
  ·rw [hβg] at hr; exact hR.mine t c r hb ho hr
  ·rcases h2.mine t c r hk ho hr with h | h
   ·exact .inl (Nat.le_trans hR.size h)
   ·obtain ⟨t2, c2, z, _, h3, h4, h5, h6⟩ := hownK _ h
    rw [← h6]; exact hR.mine t2 c2 z h3 h4 h5
 ·rcases hat2 t c ht with ⟨rfl, rfl⟩ | ⟨e1, hk⟩
  ·rw [hβg] at hr; exact Nat.lt_of_lt_of_le (hR.live t c r hb hr) h2.size
  ·exact h2.live t c r hk hr
 ·have hnot : x ∉ ownBlks β (K.set1 g (some (hidB i b))) := fun hm => by
   obtain ⟨t2, c2, z, _, h3, h4, h5, h6⟩ := hownK _ hm
   rcases hR.mine t2 c2 z h3 h4 h5 with h | h
   ·omega
   ·rw [h6] at h; exact hx2 h
  exact (h2.old x (Nat.lt_of_lt_of_le hx hR.size) hnot).trans (hR.old x hx hx2)

theorem hideE_ent {P : Program} {f : FuncId} {i : Nat} {A : Know → Nat → List AV → Option Rx} (hA : EntOk P f A) : EntOk P f (hideE i A) := by
 refine ⟨fun K n args s hs hv => hide_full hA.ok hs hv, fun K K' n args r hs hk => ?_⟩
 unfold hideE at hs ⊢
 split at hs
 rotate_left
 ·simp at hs
 rename_i g hg
 split at hs
 rotate_left
 ·simp at hs
 rename_i b hb
 rw [hk _ _ hb]
 simp only
 split at hs
 rotate_left
 ·simp at hs
 rename_i a hcell
 split at hs
 rotate_left
 ·simp at hs
 rename_i s' hs'
 have hkn : Knows (K.set1 g (some (hidB i b))) (K'.set1 g (some (hidB i b))) := fun j c hj => by
  rw [Know.at_set1] at hj ⊢
  split at hj
  ·rename_i e; rw [if_pos e]; exact hj
  ·rename_i e; rw [if_neg e]; exact hk _ _ hj
 rw [hA.mono _ _ _ _ _ hs' hkn]
 simp only
 split at hs
 rotate_left
 ·simp at hs
 rename_i hchk
 rw [Bool.and_eq_true] at hchk
 have h2 : s'.ch.all (chOk K' g) = true := by
  rw [List.all_eq_true]
  intro e he
  have := List.all_eq_true.1 hchk.2 e he
  unfold chOk at this ⊢
  rw [Bool.and_eq_true] at this ⊢
  refine ⟨this.1, ?_⟩
  have h3 := this.2
  split at h3
  ·rename_i bb hbb
   rw [Bool.or_eq_true] at h3 ⊢
   rcases h3 with h | h
   ·exact .inl h
   ·right
    split at h
    ·rename_i c hc; rw [hk _ _ hc]; exact h
    ·cases h
  ·rfl
 rw [if_pos (by rw [Bool.and_eq_true]; exact ⟨hchk.1, h2⟩)]
 exact hs
end Go.Proofs.Ytcpoldghkiiggaa.X

/- Printed by a tool of this session. -/
namespace Go.Proofs.Ytcpoldghkiiggaa.X
open Go Go.Proofs
set_option linter.unusedVariables false
set_option linter.unusedSimpArgs false
set_option maxRecDepth 100000
set_option maxHeartbeats 8000000
noncomputable def tabSA : List (Nat × TE) := [(3, ⟨.int .i64, 1, 8, [.i .i64 0], false⟩), (5, ⟨.int .u8, 1, 1, [.i .u8 0], false⟩), (24, ⟨.array 32 5, 32, 32, [.ints .u8 32 ([0, 0, 0, 0, 0, 0, 0, 0, 0, 0, 0, 0, 0, 0, 0, 0, 0, 0, 0, 0, 0, 0, 0, 0, 0, 0, 0, 0, 0, 0, 0, 0] : List Int)], true⟩)]
theorem tabOkSA : TabOk Try.prog (tabOf tabSA) := (tabOf_cons teQJ_3 (tabOf_cons teNM_5 (tabOf_cons teNM_24 tabOf_nil)))

theorem mkSc_body0 (i k : Int) (w : World) : Body Try.prog (tabOf tabSA) Try.f102 ⟨w, [], 0, noEnv⟩ (toA [.a (.i .i64 i), .a (.i .i64 k)]) [] (fun ys _ => ys = [.g [.ints .u8 32 (markS i k)]]) :=
 Body.of_fin (Γ := gam88) (Λ := noLam) (Ψ := noPsi) (fuel := 0) (m := 16) (c := (Try.f102.body.getD .skip)) mix tabOkSA gam88_ok rfl (rs := [.cell 4 24]) rfl rfl [] []
  (vc := [((0 : Int) ≤ 8), ((0 : Int) ≤ 8)]) (by kernel_rfl)
  (aC (by decide) (aC (by decide) (AllP_nil)))

theorem mkSc_body (i k : Int) (w : World) : Body Try.prog (tabOf tabSA) Try.f102 ⟨w, [], 0, noEnv⟩ (toA [.a (.i .i64 i), .a (.i .i64 k)]) [] (fun ys _ => ys = [.g [.ints .u8 32 (markS i k)]]) :=
 Body.lens (c := (Try.f102.body.getD .skip)) rfl fun h => mkSc_body0 i k  w

theorem mkSc_pure (i k : Int) : PureC Try.prog 102 [.a (.i .i64 i), .a (.i .i64 k)] [.g [.ints .u8 32 (markS i k)]] :=
 PureC.of_body tabOkSA Try.func102 rfl rfl fun w => mkSc_body i k w

def gam301 : Gam := gpure 102 (fun args => match args with | [.o (.a (.i .i64 i)), .o (.a (.i .i64 k))] => some (none, [.g [.ints .u8 (32 : Nat) (markS i k)]]) | _ => none) gam88
theorem gam301_ok : GamOk Try.prog gam301 := gpure_ok gam88_ok Try.call102 (by
 intro args vc xs h hv
 split at h
 ·simp only [Option.some.injEq, Prod.mk.injEq] at h; obtain ⟨rfl, rfl⟩ := h; exact ⟨_, by rfl, mkSc_pure _ _⟩
 ·simp at h)

def mkIn (i k : Int) : Int :=
 (IntKind.i64.wrap ((IntKind.i64.wrap ((-1 : Int) - (IntKind.i64.wrap ((100003 : Int) * (IntKind.i64.wrap (i + (1 : Int))))))) - (IntKind.i64.wrap ((7 : Int) * k))))

theorem mkIn_body0 (i k : Int) (w : World) : Body Try.prog (tabOf tabSA) Try.f133 ⟨w, [], 0, noEnv⟩ (toA [.a (.i .i64 i), .a (.i .i64 k)]) [] (fun ys _ => ys = [.a (.i .i64 (mkIn i k))]) :=
 Body.of_fin (Γ := gam301) (Λ := noLam) (Ψ := noPsi) (fuel := 0) (m := 12) (c := (Try.f133.body.getD .skip)) mix tabOkSA gam301_ok rfl (rs := [.tmp 4]) rfl rfl [] []
  (vc := []) (by kernel_rfl)
  (AllP_nil)

theorem mkIn_body (i k : Int) (w : World) : Body Try.prog (tabOf tabSA) Try.f133 ⟨w, [], 0, noEnv⟩ (toA [.a (.i .i64 i), .a (.i .i64 k)]) [] (fun ys _ => ys = [.a (.i .i64 (mkIn i k))]) :=
 Body.lens (c := (Try.f133.body.getD .skip)) rfl fun h => mkIn_body0 i k  w

theorem mkIn_pure (i k : Int) : PureC Try.prog 133 [.a (.i .i64 i), .a (.i .i64 k)] [.a (.i .i64 (mkIn i k))] :=
 PureC.of_body tabOkSA Try.func133 rfl rfl fun w => mkIn_body i k w

def gam302 : Gam := gpure 133 (fun args => match args with | [.o (.a (.i .i64 i)), .o (.a (.i .i64 k))] => some (none, [.a (.i .i64 (mkIn i k))]) | _ => none) gam301
theorem gam302_ok : GamOk Try.prog gam302 := gpure_ok gam301_ok Try.call133 (by
 intro args vc xs h hv
 split at h
 ·simp only [Option.some.injEq, Prod.mk.injEq] at h; obtain ⟨rfl, rfl⟩ := h; exact ⟨_, by rfl, mkIn_pure _ _⟩
 ·simp at h)

end Go.Proofs.Ytcpoldghkiiggaa.X

/- Rows of marks: scalars and ints. -/
namespace Go.Proofs.Ytcpoldghkiiggaa.X
open Go Go.Proofs
set_option linter.unusedVariables false
set_option maxRecDepth 100000
set_option maxHeartbeats 8000000

def rowsL (f : Nat → List Int) : Nat → List Int
 | 0 => []
 | n + 1 => rowsL f n ++ f n
theorem rowsL_len {f : Nat → List Int} : ∀ {n : Nat}, (∀ j, j < n → (f j).length = 32) → (rowsL f n).length = n * 32
 | 0, _ => rfl
 | n + 1, h => by
  show (rowsL f n ++ f n).length = _
  rw [List.length_append, rowsL_len (fun j hj => h j (by omega)), h n (by omega)]; omega
theorem rowsL_sub {f : Nat → List Int} : ∀ {n k : Nat}, (∀ j, j < n → (f j).length = 32) → k < n → sub (rowsL f n) (k * 32) 32 = f k
 | 0, k, _, h => by omega
 | n + 1, k, hf, h => by
  show sub (rowsL f n ++ f n) (k * 32) 32 = _
  have l := rowsL_len (n := n) (fun j hj => hf j (by omega))
  have ln := hf n (by omega)
  by_cases hk : k < n
  ·have ih := rowsL_sub (n := n) (fun j hj => hf j (by omega)) hk
   rw [← ih]
   refine List.ext_getElem? fun r => ?_
   by_cases hr : r < 32
   ·rw [sub_get hr, sub_get hr, List.getElem?_append_left (by omega)]
   ·rw [List.getElem?_eq_none, List.getElem?_eq_none]
    ·rw [sub_len _ _ _ (by omega)]; omega
    ·rw [sub_len _ _ _ (by rw [List.length_append, ln]; omega)]; omega
  ·have : k = n := by omega
   subst this
   refine List.ext_getElem? fun r => ?_
   by_cases hr : r < 32
   ·rw [sub_get hr, List.getElem?_append_right (by omega)]
    congr 1; omega
   ·rw [List.getElem?_eq_none, List.getElem?_eq_none]
    ·rw [ln]; omega
    ·rw [sub_len _ _ _ (by rw [List.length_append, ln]; omega)]; omega
def rwM (i : Int) : Nat → List Int := rowsL (fun k => markS i (k : Int))
theorem mkSc_len (i k : Int) : (markS i k).length = 32 := rfl
theorem rwM_len (i : Int) (n : Nat) : (rwM i n).length = n * 32 := rowsL_len fun _ _ => mkSc_len _ _
theorem rwM_sub (i : Int) {n k : Nat} (h : k < n) : sub (rwM i n) (k * 32) 32 = markS i (k : Int) := rowsL_sub (fun _ _ => mkSc_len _ _) h
theorem rwM_pref (i : Int) (n : Nat) : ∀ k : Nat, ∃ t, rwM i (n + k) = rwM i n ++ t
 | 0 => ⟨[], (List.append_nil _).symm⟩
 | k + 1 => by
  obtain ⟨t, h⟩ := rwM_pref i n k
  refine ⟨t ++ markS i ((n + k : Nat) : Int), ?_⟩
  show rwM i (n + k) ++ markS i ((n + k : Nat) : Int) = _
  rw [h, List.append_assoc]
theorem rwM_grow (i : Int) (n : Nat) : sub (rwM i n) 0 (n * 32) ++ sub (markS i (n : Int)) 0 32 = rwM i (n + 1) := by
 rw [sub_all _ _ (Nat.le_of_eq (rwM_len i n)), sub_all _ _ (Nat.le_of_eq (mkSc_len i _))]; rfl
def mkP (L : List Int) (i : Int) (k : Nat) : List Int := rwM i k ++ L.drop (k * 32)
theorem mkP_step {L : List Int} {i : Int} {n k : Nat} (l : L.length = n) (h : k * 32 + 32 ≤ n) : splice (mkP L i k) (k * 32) 32 (markS i (k : Int)) = mkP L i (k + 1) := by
 have a := rwM_len i k
 show splice (rwM i k ++ L.drop (k * 32)) (k * 32) 32 _ = (rwM i k ++ markS i (k : Int)) ++ L.drop ((k + 1) * 32)
 rw [splice_at a, List.drop_drop]
 congr 2; omega
theorem mkP_all {L : List Int} {i : Int} {n : Nat} (l : L.length = n * 32) : mkP L i n = rwM i n := by
 unfold mkP
 rw [List.drop_of_length_le (by omega), List.append_nil]
def rwI (i : Int) : Nat → List Int
 | 0 => []
 | n + 1 => rwI i n ++ [mkIn i ((n : Nat) : Int)]
theorem rwI_len (i : Int) : ∀ n, (rwI i n).length = n
 | 0 => rfl
 | n + 1 => by show (rwI i n ++ _).length = _; rw [List.length_append, rwI_len i n]; rfl
theorem rwI_get {i : Int} {k : Nat} : ∀ {n : Nat}, k < n → List.getD (rwI i n) k 0 = mkIn i (k : Int)
 | 0, h => absurd h (Nat.not_lt_zero k)
 | n + 1, h => by
  show List.getD (rwI i n ++ [mkIn i (n : Int)]) k 0 = _
  rw [List.getD_eq_getElem?_getD]
  by_cases hk : k < n
  ·rw [List.getElem?_append_left (by rw [rwI_len]; exact hk), ← List.getD_eq_getElem?_getD]; exact rwI_get hk
  ·have : k = n := by omega
   subst this
   rw [List.getElem?_append_right (by rw [rwI_len]; omega), rwI_len, Nat.sub_self]; rfl
theorem rwI_pref (i : Int) (n : Nat) : ∀ k : Nat, ∃ t, rwI i (n + k) = rwI i n ++ t
 | 0 => ⟨[], (List.append_nil _).symm⟩
 | k + 1 => by
  obtain ⟨t, h⟩ := rwI_pref i n k
  refine ⟨t ++ [mkIn i ((n + k : Nat) : Int)], ?_⟩
  show rwI i (n + k) ++ [mkIn i ((n + k : Nat) : Int)] = _
  rw [h, List.append_assoc]
theorem rwI_grow (i : Int) (n : Nat) : sub (rwI i n) 0 n ++ [mkIn i (n : Int)] = rwI i (n + 1) := by
 rw [sub_all _ _ (Nat.le_of_eq (rwI_len i n))]; rfl
theorem rwI_more (i : Int) (n : Nat) : rwI i n ++ [mkIn i (n : Int)] = rwI i (n + 1) := rfl
def mkQ (L : List Int) (i : Int) (k : Nat) : List Int := rwI i k ++ L.drop k
theorem mkQ_step {L : List Int} {i : Int} {n k : Nat} (l : L.length = n) (h : k < n) : List.set (mkQ L i k) k (mkIn i (k : Int)) = mkQ L i (k + 1) := by
 have a := rwI_len i k
 have e : L.drop k = L[k] :: L.drop (k + 1) := List.drop_eq_getElem_cons (by omega)
 show List.set (rwI i k ++ L.drop k) k _ = (rwI i k ++ [mkIn i (k : Int)]) ++ L.drop (k + 1)
 rw [e, List.set_append_right _ _ (by omega), a, Nat.sub_self, List.set_cons_zero, List.append_assoc]
 rfl
theorem mkQ_all {L : List Int} {i : Int} {n : Nat} (l : L.length = n) : mkQ L i n = rwI i n := by
 unfold mkQ
 rw [List.drop_of_length_le (by omega), List.append_nil]
end Go.Proofs.Ytcpoldghkiiggaa.X

/- InvertAll over lists in which 0 is, or of no elements; the list that Own writes. -/
namespace Go.Proofs.Ytcpoldghkiiggaa.X
open Go Go.Proofs
set_option linter.unusedVariables false
set_option maxRecDepth 100000
set_option maxHeartbeats 8000000

def IaP (l : List Int) (n : Nat) : Prop := fz l n = n ∧ 0 < n
def IaZ (l : List Int) (n : Nat) : Prop := fz l n < n ∨ n = 0
def iaE (n : Nat) : Int := if n = 0 then 0 else 9
def iaX (l : List Int) (n : Nat) : Int := if n = 0 then 0 else ((fz l n : Nat) : Int)
theorem ia_or (l : List Int) (n : Nat) : IaP l n ∨ IaZ l n := by
 have := fz_le l n
 unfold IaP IaZ
 omega
def nsC (k : Nat) : List Int := [IntKind.u8.wrap (IntKind.i64.wrap ((k : Int) + 1)), IntKind.u8.wrap (shr .i64 (k : Int) 8), 0, 0, 0, 0, 0, 0, 0, 0, 0, 0, 0, 0, 0, 0, 0, 0, 0, 0, 0, 0, 0, 0, 0, 0, 0, 0, 0, 0, 0, 0]
def nsR (L : List Int) (k : Nat) : List Int := rowsL nsC k ++ L.drop (k * 32)
theorem nsC_len (k : Nat) : (nsC k).length = 32 := rfl
theorem nsR_step {L : List Int} {k : Nat} : splice (nsR L k) (k * 32) 32 (nsC k) = nsR L (k + 1) := by
 have a : (rowsL nsC k).length = k * 32 := rowsL_len fun j _ => nsC_len j
 show splice (rowsL nsC k ++ L.drop (k * 32)) (k * 32) 32 _ = (rowsL nsC k ++ nsC k) ++ L.drop ((k + 1) * 32)
 rw [splice_at a, List.drop_drop]
 congr 2; omega
theorem nsR_all {L : List Int} {n : Nat} (hL : L.length = n * 32) : nsR L n = rowsL nsC n := by
 unfold nsR
 rw [List.drop_of_length_le (by omega), List.append_nil]
theorem nsC_byt (k : Nat) : Byt (nsC k) := by
 refine byt_wraps fun x hx => ?_
 unfold nsC at hx
 rcases List.mem_cons.1 hx with rfl | hx
 ·exact ⟨_, rfl⟩
 rcases List.mem_cons.1 hx with rfl | hx
 ·exact ⟨_, rfl⟩
 ·exact ⟨0, by
   have : x = 0 := by
    simp only [List.mem_cons, List.not_mem_nil, or_false, or_self] at hx
    exact hx
   rw [this]; rfl⟩
theorem rowsL_byt {f : Nat → List Int} (h : ∀ j, Byt (f j)) : ∀ n, Byt (rowsL f n)
 | 0 => fun x hx => nomatch hx
 | n + 1 => fun x hx => by
  rcases List.mem_append.1 hx with h1 | h1
  ·exact rowsL_byt h n x h1
  ·exact h n x h1
theorem own_one {L : List Int} {n k : Nat} (h : fz L n = n) (hk : k < n) : B32 (modL (BV (sub (out2 L n n) (k * 32) 32) * BV (sub L (k * 32) 32))) = [1, 0, 0, 0, 0, 0, 0, 0, 0, 0, 0, 0, 0, 0, 0, 0, 0, 0, 0, 0, 0, 0, 0, 0, 0, 0, 0, 0, 0, 0, 0, 0] := by
 have hz : modL (BV (sub L (k * 32) 32)) ≠ 0 := fz_before (n := n) (by omega)
 rw [inv_all h, rfS_at L n k hk, BV_inv, Int.mul_comm, invN_mul hz]
 decide +kernel
def nsRows (n : Nat) : List Int := rowsL nsC n
theorem nsRows_byt (n : Nat) : Byt (nsRows n) := rowsL_byt nsC_byt n
theorem nsRows_len (n : Nat) : (nsRows n).length = n * 32 := rowsL_len fun j _ => nsC_len j
theorem so_copy {l : List Int} {n : Nat} (hl : l.length = n * 32) : copyS_1 n (sub l 0 (n * 32)) = l := by
 show sub (sub l 0 (n * 32)) 0 (n * 32) = l
 rw [sub_all l _ (by omega)]; exact sub_all l _ (by omega)
theorem not_bne_same {α : Type} [BEq α] [LawfulBEq α] (x : α) : (x != x) = false := by simp
end Go.Proofs.Ytcpoldghkiiggaa.X

/- Printed by a tool of this session. -/
namespace Go.Proofs.Ytcpoldghkiiggaa.X
open Go Go.Proofs
set_option linter.unusedVariables false
set_option linter.unusedSimpArgs false
set_option maxRecDepth 100000
set_option maxHeartbeats 8000000
noncomputable def tabSH : List (Nat × TE) := [(24, ⟨.array 32 5, 32, 32, [.ints .u8 32 ([0, 0, 0, 0, 0, 0, 0, 0, 0, 0, 0, 0, 0, 0, 0, 0, 0, 0, 0, 0, 0, 0, 0, 0, 0, 0, 0, 0, 0, 0, 0, 0] : List Int)], true⟩), (64, ⟨.slice 24, 1, 24, [nlA], false⟩)]
theorem tabOkSH : TabOk Try.prog (tabOf tabSH) := (tabOf_cons teNM_24 (tabOf_cons teRB_64 tabOf_nil))

def iaP0_mk (n nm : Nat) (l : List Int) (cap0 k : Nat) (s : Unit) : St := ⟨sparse 65 [(0, .o (.a (.sl 0 0 n cap0))), (5, .o (.a (.sl 1 0 n n))), (6, .o (.a (.p 2 0))), (11, .o (.a (.sl 0 0 n cap0))), (12, .o (.a (.i .i64 (n : Int)))), (13, .o (.a (.sl 1 0 n n))), (14, .o (.g [.ints .u8 32 (B32 (1 : Int))])), (15, .o (.a (.sl 0 0 n cap0))), (16, .o (.a (.i .i64 (n : Int)))), (17, .o (.a (.i .i64 (k : Int))))], [bF [.ints .u8 nm l], bT [.ints .u8 (n * 32) (outS l n k)], bT [.ints .u8 32 (B32 (prS l k))]]⟩

theorem iaP0_round (n nm : Nat) (l : List Int) (cap0 : Nat) (h0 : (nm = (n * 32))) (h1 : (n ≤ 4398046510976)) (h2 : (Byt l)) (hc0 : n ≤ cap0) (hl0_0 : l.length = nm) (h3 : fz l n = n) (h4 : 0 < n) (w : World) (rw : List Nat) (β : Env) (k : Nat) (hk : k < n) (s : Unit) : Run Try.prog ⟨w, rw, 1, β⟩ (loopB Try.f44 0) (iaP0_mk n nm l cap0 k s) (To ⟨w, rw, 1, β⟩ .normal (iaP0_mk n nm l cap0 (k + 1) (moL_step k s))) := by
 have e0 : (B32 (modL ((BV (B32 (prS l k))) * (BV (sub l (k * (32 : Nat)) (32 : Nat)))))) = (B32 (prS l (k + (1 : Nat)))) := (by first | exact wrap_succ (by have hq := fz_le l n; omega) | (rw [pr_r]) | rfl)
 have e1 : (splice (outS l n k) (k * (32 : Nat)) (32 : Nat) (B32 (prS l k))) = (outS l n (k + (1 : Nat))) := (by first | exact wrap_succ (by have hq := fz_le l n; omega) | (rw [pr_r]) | rfl)
 have e2 := wrap_succ (n := k) (by omega)
 have h := Run.of_outT (B := ⟨w, rw, 1, β⟩) (Λ := noLam) (Ψ := noPsi) (fuel := 0) (ora := [true, false]) (c := (loopB Try.f44 0)) (st := (iaP0_mk n nm l cap0 k s)) (l := [.forget [0, 5, 6, 11, 12, 13, 14, 15, 16, 17] 3]) (s' := ⟨sparse 65 [(0, .o (.a (.sl 0 0 n cap0))), (5, .o (.a (.sl 1 0 n n))), (6, .o (.a (.p 2 0))), (11, .o (.a (.sl 0 0 n cap0))), (12, .o (.a (.i .i64 (n : Int)))), (13, .o (.a (.sl 1 0 n n))), (14, .o (.g [.ints .u8 32 (B32 (1 : Int))])), (15, .o (.a (.sl 0 0 n cap0))), (16, .o (.a (.i .i64 (n : Int)))), (17, .o (.a (.i .i64 (IntKind.i64.wrap ((k : Int) + 1)))))], [bF [.ints .u8 nm l], bT [.ints .u8 (n * 32) (splice (outS l n k) (k * 32) 32 (B32 (prS l k)))], bT [.ints .u8 32 (B32 (modL ((BV (B32 (prS l k))) * (BV (sub l (k * 32) 32)))))]]⟩) (ex := .normal) mix tabOkSH gam88_ok
  (vc := (let p0_ : Prop := ((0 ≤ (k : Int)) ∧ ((k : Int) < (n : Int))); [((Byt (B32 (prS l k))) ∧ (Byt (sub l (k * 32) 32))), (((k * 32) + 32) ≤ (n * 32)), p0_, (((modL (BV (sub l (k * 32) 32))) == (0 : Int)) = false), (Byt (sub l (k * 32) 32)), (((k * 32) + 32) ≤ nm), p0_, ((decide ((k : Int) < (n : Int))) = true)])) (by kernel_rfl)
  (aC ⟨(byt_B32 _), (byt_sub (by assumption) _ _)⟩ (aC (by have hq := fz_le l n; first | omega | (simp (disch := omega) only [wrapI]; omega)) (aC ⟨(by have hq := fz_le l n; first | omega | (simp (disch := omega) only [wrapI]; omega)), (by have hq := fz_le l n; first | omega | (simp (disch := omega) only [wrapI]; omega))⟩ (aC (beq_eq_false_iff_ne.2 (fz_before (l := l) (n := n) (by omega))) (aC (byt_sub (by assumption) _ _) (aC (by have hq := fz_le l n; first | omega | (simp (disch := omega) only [wrapI]; omega)) (aC ⟨(by have hq := fz_le l n; first | omega | (simp (disch := omega) only [wrapI]; omega)), (by have hq := fz_le l n; first | omega | (simp (disch := omega) only [wrapI]; omega))⟩ (aC (dt (by have hq := fz_le l n; first | omega | (simp (disch := omega) only [wrapI]; omega))) (AllP_nil)))))))))
 rw [e0, e1, e2] at h
 exact h

theorem iaP0_last (n nm : Nat) (l : List Int) (cap0 : Nat) (h0 : (nm = (n * 32))) (h1 : (n ≤ 4398046510976)) (h2 : (Byt l)) (hc0 : n ≤ cap0) (hl0_0 : l.length = nm) (h3 : fz l n = n) (h4 : 0 < n) (w : World) (rw : List Nat) (β : Env) (s : Unit) : Run Try.prog ⟨w, rw, 1, β⟩ (loopB Try.f44 0) (iaP0_mk n nm l cap0 n s) (To ⟨w, rw, 1, β⟩ (.exit 0) (iaP0_mk n nm l cap0 n s)) :=
 Run.of_outT (Λ := noLam) (Ψ := noPsi) (fuel := 0) (ora := [false]) (l := [.forget [0, 5, 6, 11, 12, 13, 14, 15, 16, 17] 3]) mix tabOkSH gam88_ok
  (vc := [((decide ((n : Int) < (n : Int))) = false)]) (by kernel_rfl)
  (aC (decide_eq_false (by have hq := fz_le l n; first | omega | (simp (disch := omega) only [wrapI]; omega))) (AllP_nil))

theorem iaP0_loop (n nm : Nat) (l : List Int) (cap0 : Nat) (h0 : (nm = (n * 32))) (h1 : (n ≤ 4398046510976)) (h2 : (Byt l)) (hc0 : n ≤ cap0) (hl0_0 : l.length = nm) (h3 : fz l n = n) (h4 : 0 < n) (w : World) (rw : List Nat) (β : Env) (s : Unit) : Run Try.prog ⟨w, rw, 1, β⟩ (.block 0 (.loop (loopB Try.f44 0))) (iaP0_mk n nm l cap0 0 s) (To ⟨w, rw, 1, β⟩ .normal (iaP0_mk n nm l cap0 n (iter (moL_step) n s))) :=
 Run.count (fun k => iaP0_mk n nm l cap0 k (iter (moL_step) k s)) n (fun k hk => iaP0_round n nm l cap0 h0 h1 h2 hc0 hl0_0 h3 h4 w rw β k hk _) (ex := (.exit 0)) (by simp) (iaP0_last n nm l cap0 h0 h1 h2 hc0 hl0_0 h3 h4 w rw β _)

def iaP2_mk (n nm : Nat) (l : List Int) (cap0 k : Nat) (s : Unit) : St := ⟨sparse 65 [(0, .o (.a (.sl 0 0 n cap0))), (5, .o (.a (.sl 1 0 n n))), (6, .o (.a (.p 2 0))), (11, .o (.a (.sl 0 0 n cap0))), (12, .o (.a (.i .i64 (n : Int)))), (13, .o (.a (.sl 1 0 n n))), (14, .o (.g [.ints .u8 32 (B32 (1 : Int))])), (15, .o (.a (.sl 0 0 n cap0))), (16, .o (.a (.i .i64 (n : Int)))), (17, .o (.a (.i .i64 (n : Int)))), (33, .t [.g [.ints .u8 32 (B32 (invN (BV (B32 (prS l n)))))], .a (.i .i64 (invE1 (BV (B32 (prS l n)))))]), (34, .o (.g [.ints .u8 32 (B32 (prS l n))])), (35, .t [.g [.ints .u8 32 (B32 (invN (BV (B32 (prS l n)))))], .a (.i .i64 (invE1 (BV (B32 (prS l n)))))]), (36, .o (.g [.ints .u8 32 (B32 (invN (BV (B32 (prS l n)))))])), (38, .o (.a (.sl 0 0 n cap0))), (39, .o (.a (.i .i64 (n : Int)))), (40, .o (.a (.i .i64 (k : Int))))], [bF [.ints .u8 nm l], bT [.ints .u8 (n * 32) (out2 l n k)], bT [.ints .u8 32 (B32 (alS l n k))]]⟩

theorem iaP2_round (n nm : Nat) (l : List Int) (cap0 : Nat) (h0 : (nm = (n * 32))) (h1 : (n ≤ 4398046510976)) (h2 : (Byt l)) (hc0 : n ≤ cap0) (hl0_0 : l.length = nm) (h3 : fz l n = n) (h4 : 0 < n) (w : World) (rw : List Nat) (β : Env) (k : Nat) (hk : k < n) (s : Unit) : Run Try.prog ⟨w, rw, 1, β⟩ (loopB Try.f44 2) (iaP2_mk n nm l cap0 k s) (To ⟨w, rw, 1, β⟩ .normal (iaP2_mk n nm l cap0 (k + 1) (moL_step k s))) := by
 have e0 : (splice (out2 l n k) (((n - 1) - k) * 32) 32 (B32 (modL ((BV (sub (out2 l n k) (((n - 1) - k) * 32) 32)) * (BV (B32 (alS l n k))))))) = (out2 l n (k + 1)) := (by first | exact wrap_succ (by omega) | (rw [out2_step]) | (rw [alS_step]) | rfl)
 have e1 : (B32 (modL ((BV (B32 (alS l n k))) * (BV (sub l (((n - (1 : Nat)) - k) * (32 : Nat)) (32 : Nat)))))) = (B32 (alS l n (k + (1 : Nat)))) := (by first | exact wrap_succ (by omega) | (rw [out2_step]) | (rw [alS_step]) | rfl)
 have e2 := wrap_succ (n := k) (by omega)
 have h := Run.of_outT (B := ⟨w, rw, 1, β⟩) (Λ := noLam) (Ψ := psiOf [(15, [.eqS 10 (.o (.a (.i .i64 ((((n - 1) - k) : Nat) : Int))))])]) (fuel := 0) (ora := [true]) (c := (loopB Try.f44 2)) (st := (iaP2_mk n nm l cap0 k s)) (l := [.forget [0, 5, 6, 11, 12, 13, 14, 15, 16, 17, 33, 34, 35, 36, 38, 39, 40] 3]) (s' := ⟨sparse 65 [(0, .o (.a (.sl 0 0 n cap0))), (5, .o (.a (.sl 1 0 n n))), (6, .o (.a (.p 2 0))), (11, .o (.a (.sl 0 0 n cap0))), (12, .o (.a (.i .i64 (n : Int)))), (13, .o (.a (.sl 1 0 n n))), (14, .o (.g [.ints .u8 32 (B32 (1 : Int))])), (15, .o (.a (.sl 0 0 n cap0))), (16, .o (.a (.i .i64 (n : Int)))), (17, .o (.a (.i .i64 (n : Int)))), (33, .t [.g [.ints .u8 32 (B32 (invN (BV (B32 (prS l n)))))], .a (.i .i64 (invE1 (BV (B32 (prS l n)))))]), (34, .o (.g [.ints .u8 32 (B32 (prS l n))])), (35, .t [.g [.ints .u8 32 (B32 (invN (BV (B32 (prS l n)))))], .a (.i .i64 (invE1 (BV (B32 (prS l n)))))]), (36, .o (.g [.ints .u8 32 (B32 (invN (BV (B32 (prS l n)))))])), (38, .o (.a (.sl 0 0 n cap0))), (39, .o (.a (.i .i64 (n : Int)))), (40, .o (.a (.i .i64 (IntKind.i64.wrap ((k : Int) + 1)))))], [bF [.ints .u8 nm l], bT [.ints .u8 (n * 32) (splice (out2 l n k) (((n - 1) - k) * 32) 32 (B32 (modL ((BV (sub (out2 l n k) (((n - 1) - k) * 32) 32)) * (BV (B32 (alS l n k)))))))], bT [.ints .u8 32 (B32 (modL ((BV (B32 (alS l n k))) * (BV (sub l (((n - 1) - k) * 32) 32)))))]]⟩) (ex := .normal) mix tabOkSH gam88_ok
  (vc := (let p0_ : Prop := ((0 ≤ ((((n - 1) - k) : Nat) : Int)) ∧ (((((n - 1) - k) : Nat) : Int) < (n : Int))); let p1_ : Prop := (((((n - 1) - k) * 32) + 32) ≤ (n * 32)); [((Byt (B32 (alS l n k))) ∧ (Byt (sub l (((n - 1) - k) * 32) 32))), (((((n - 1) - k) * 32) + 32) ≤ nm), p0_, p1_, p0_, ((Byt (sub (out2 l n k) (((n - 1) - k) * 32) 32)) ∧ (Byt (B32 (alS l n k)))), p1_, p0_, ((.o (.a (.i .i64 (IntKind.i64.wrap ((IntKind.i64.wrap ((n : Int) - 1)) - (k : Int))))) : AV) = .o (.a (.i .i64 ((((n - 1) - k) : Nat) : Int)))), ((decide ((k : Int) < (n : Int))) = true)])) (by kernel_rfl)
  (aC ⟨(byt_B32 _), (byt_sub (by assumption) _ _)⟩ (aC (by have hq := fz_le l n; first | omega | (simp (disch := omega) only [wrapI]; omega)) (aC ⟨(by have hq := fz_le l n; first | omega | (simp (disch := omega) only [wrapI]; omega)), (by have hq := fz_le l n; first | omega | (simp (disch := omega) only [wrapI]; omega))⟩ (aC (by have hq := fz_le l n; first | omega | (simp (disch := omega) only [wrapI]; omega)) (aC ⟨(by have hq := fz_le l n; first | omega | (simp (disch := omega) only [wrapI]; omega)), (by have hq := fz_le l n; first | omega | (simp (disch := omega) only [wrapI]; omega))⟩ (aC ⟨(byt_sub (out2_byt l n _) _ _), (byt_B32 _)⟩ (aC (by have hq := fz_le l n; first | omega | (simp (disch := omega) only [wrapI]; omega)) (aC ⟨(by have hq := fz_le l n; first | omega | (simp (disch := omega) only [wrapI]; omega)), (by have hq := fz_le l n; first | omega | (simp (disch := omega) only [wrapI]; omega))⟩ (aC ((congrArg (fun z => AV.o (.a (.i .i64 z))) (by simp (disch := omega) only [wrapI]; omega))) (aC (dt (by have hq := fz_le l n; first | omega | (simp (disch := omega) only [wrapI]; omega))) (AllP_nil)))))))))))
 rw [e0, e1, e2] at h
 exact h

theorem iaP2_last (n nm : Nat) (l : List Int) (cap0 : Nat) (h0 : (nm = (n * 32))) (h1 : (n ≤ 4398046510976)) (h2 : (Byt l)) (hc0 : n ≤ cap0) (hl0_0 : l.length = nm) (h3 : fz l n = n) (h4 : 0 < n) (w : World) (rw : List Nat) (β : Env) (s : Unit) : Run Try.prog ⟨w, rw, 1, β⟩ (loopB Try.f44 2) (iaP2_mk n nm l cap0 n s) (To ⟨w, rw, 1, β⟩ (.exit 2) (iaP2_mk n nm l cap0 n s)) :=
 Run.of_outT (Λ := noLam) (Ψ := noPsi) (fuel := 0) (ora := [false]) (l := [.forget [0, 5, 6, 11, 12, 13, 14, 15, 16, 17, 33, 34, 35, 36, 38, 39, 40] 3]) mix tabOkSH gam88_ok
  (vc := [((decide ((n : Int) < (n : Int))) = false)]) (by kernel_rfl)
  (aC (decide_eq_false (by have hq := fz_le l n; first | omega | (simp (disch := omega) only [wrapI]; omega))) (AllP_nil))

theorem iaP2_loop (n nm : Nat) (l : List Int) (cap0 : Nat) (h0 : (nm = (n * 32))) (h1 : (n ≤ 4398046510976)) (h2 : (Byt l)) (hc0 : n ≤ cap0) (hl0_0 : l.length = nm) (h3 : fz l n = n) (h4 : 0 < n) (w : World) (rw : List Nat) (β : Env) (s : Unit) : Run Try.prog ⟨w, rw, 1, β⟩ (.block 2 (.loop (loopB Try.f44 2))) (iaP2_mk n nm l cap0 0 s) (To ⟨w, rw, 1, β⟩ .normal (iaP2_mk n nm l cap0 n (iter (moL_step) n s))) :=
 Run.count (fun k => iaP2_mk n nm l cap0 k (iter (moL_step) k s)) n (fun k hk => iaP2_round n nm l cap0 h0 h1 h2 hc0 hl0_0 h3 h4 w rw β k hk _) (ex := (.exit 2)) (by simp) (iaP2_last n nm l cap0 h0 h1 h2 hc0 hl0_0 h3 h4 w rw β _)

def iaP (n : Nat) : Nat :=
 (n * 32)

theorem iaP_body0 (n nm : Nat) (l : List Int) (cap0 : Nat) (h0 : (nm = (n * 32))) (h1 : (n ≤ 4398046510976)) (h2 : (Byt l)) (hc0 : n ≤ cap0) (hl0_0 : l.length = nm) (h3 : fz l n = n) (h4 : 0 < n) (w : World) (rw : List Nat) (β : Env) : Body Try.prog (tabOf tabSH) Try.f44 ⟨w, rw, 1, β⟩ [.o (.a (.sl 0 0 n cap0))] [bF [.ints .u8 nm l]] (fun ys K' => ys = [.a (.rs 1 0 n 32), .a (.i .i64 0), .a (.i .i64 0)] ∧ K' = [bF [.ints .u8 nm l], bT [.ints .u8 (iaP n) (out2 l n n)]]) :=
 Body.of_finK (Γ := gam88) (Λ := lamOf [(0, ⟨[.eqB 1 (⟨true, [.ints .u8 (n * 32) (outS l n 0)]⟩), .eqB 2 (⟨true, [.ints .u8 32 (B32 (prS l 0))]⟩), .forget [0, 5, 6, 11, 12, 13, 14, 15, 16, 17] 3], .normal, (iaP0_mk n nm l cap0 n (iter (moL_step) n ()))⟩), (2, ⟨[.eqB 1 (⟨true, [.ints .u8 (n * 32) (out2 l n 0)]⟩), .eqB 2 (⟨true, [.ints .u8 32 (B32 (alS l n 0))]⟩), .forget [0, 5, 6, 11, 12, 13, 14, 15, 16, 17, 33, 34, 35, 36, 38, 39, 40] 3], .normal, (iaP2_mk n nm l cap0 n (iter (moL_step) n ()))⟩)]) (Ψ := noPsi) (fuel := 0) (m := 65) (c := (Try.f44.body.getD .skip)) mix tabOkSH gam88_ok rfl (rs := [.tmp 2, .tmp 3, .tmp 4]) rfl rfl [] [.slrs 2 32] 2
  (vc := [((0 + (n * 32)) ≤ (n * 32)), (Run Try.prog ⟨w, rw, 1, β⟩ (.block 2 (.loop (loopB Try.f44 2))) (iaP2_mk n nm l cap0 0 ()) (To ⟨w, rw, 1, β⟩ .normal (iaP2_mk n nm l cap0 n (iter (moL_step) n ())))), ((bT [.ints .u8 32 (B32 (invN (BV (B32 (prS l n)))))] : Option Blk) = bT [.ints .u8 32 (B32 (alS l n 0))]), ((bT [.ints .u8 (n * 32) (outS l n n)] : Option Blk) = bT [.ints .u8 (n * 32) (out2 l n 0)]), (Byt (B32 (prS l n))), (Run Try.prog ⟨w, rw, 1, β⟩ (.block 0 (.loop (loopB Try.f44 0))) (iaP0_mk n nm l cap0 0 ()) (To ⟨w, rw, 1, β⟩ .normal (iaP0_mk n nm l cap0 n (iter (moL_step) n ())))), ((bT [.ints .u8 32 (B32 (1 : Int))] : Option Blk) = bT [.ints .u8 32 (B32 (prS l 0))]), ((bT [.ints .u8 (n * 32) (List.replicate (n * 32) (0 : Int))] : Option Blk) = bT [.ints .u8 (n * 32) (outS l n 0)]), (cI 1 18446744073709551616), ((0 ≤ (n : Int)) ∧ ((n : Int) ≤ (n : Int)) ∧ (((n : Int) * 32) ≤ 281474976710656))]) (by kernel_rfl)
  (aC (by have hq := fz_le l n; first | omega | (simp (disch := omega) only [wrapI]; omega)) (aC (iaP2_loop n nm l cap0 h0 h1 h2 hc0 hl0_0 h3 h4 w rw β ()) (aC ((by rw [inv_prS])) (aC ((by rfl)) (aC (byt_B32 _) (aC (iaP0_loop n nm l cap0 h0 h1 h2 hc0 hl0_0 h3 h4 w rw β ()) (aC ((by kernel_rfl)) (aC ((by rfl)) (aC (dd rfl) (aC ⟨(by have hq := fz_le l n; first | omega | (simp (disch := omega) only [wrapI]; omega)), (by have hq := fz_le l n; first | omega | (simp (disch := omega) only [wrapI]; omega)), (by have hq := fz_le l n; first | omega | (simp (disch := omega) only [wrapI]; omega))⟩ (AllP_nil)))))))))))

theorem iaZ0_round (n nm : Nat) (l : List Int) (cap0 : Nat) (h0 : (nm = (n * 32))) (h1 : (n ≤ 4398046510976)) (h2 : (Byt l)) (hc0 : n ≤ cap0) (hl0_0 : l.length = nm) (h3 : fz l n < n) (w : World) (rw : List Nat) (β : Env) (k : Nat) (hk : k < (fz l n)) (s : Unit) : Run Try.prog ⟨w, rw, 1, β⟩ (loopB Try.f44 0) (iaP0_mk n nm l cap0 k s) (To ⟨w, rw, 1, β⟩ .normal (iaP0_mk n nm l cap0 (k + 1) (moL_step k s))) := by
 have e0 : (B32 (modL ((BV (B32 (prS l k))) * (BV (sub l (k * (32 : Nat)) (32 : Nat)))))) = (B32 (prS l (k + (1 : Nat)))) := (by first | exact wrap_succ (by have hq := fz_le l n; omega) | (rw [pr_r]) | rfl)
 have e1 : (splice (outS l n k) (k * (32 : Nat)) (32 : Nat) (B32 (prS l k))) = (outS l n (k + (1 : Nat))) := (by first | exact wrap_succ (by have hq := fz_le l n; omega) | (rw [pr_r]) | rfl)
 have e2 := wrap_succ (n := k) (by omega)
 have h := Run.of_outT (B := ⟨w, rw, 1, β⟩) (Λ := noLam) (Ψ := noPsi) (fuel := 0) (ora := [true, false]) (c := (loopB Try.f44 0)) (st := (iaP0_mk n nm l cap0 k s)) (l := [.forget [0, 5, 6, 11, 12, 13, 14, 15, 16, 17] 3]) (s' := ⟨sparse 65 [(0, .o (.a (.sl 0 0 n cap0))), (5, .o (.a (.sl 1 0 n n))), (6, .o (.a (.p 2 0))), (11, .o (.a (.sl 0 0 n cap0))), (12, .o (.a (.i .i64 (n : Int)))), (13, .o (.a (.sl 1 0 n n))), (14, .o (.g [.ints .u8 32 (B32 (1 : Int))])), (15, .o (.a (.sl 0 0 n cap0))), (16, .o (.a (.i .i64 (n : Int)))), (17, .o (.a (.i .i64 (IntKind.i64.wrap ((k : Int) + 1)))))], [bF [.ints .u8 nm l], bT [.ints .u8 (n * 32) (splice (outS l n k) (k * 32) 32 (B32 (prS l k)))], bT [.ints .u8 32 (B32 (modL ((BV (B32 (prS l k))) * (BV (sub l (k * 32) 32)))))]]⟩) (ex := .normal) mix tabOkSH gam88_ok
  (vc := (let p0_ : Prop := ((0 ≤ (k : Int)) ∧ ((k : Int) < (n : Int))); [((Byt (B32 (prS l k))) ∧ (Byt (sub l (k * 32) 32))), (((k * 32) + 32) ≤ (n * 32)), p0_, (((modL (BV (sub l (k * 32) 32))) == (0 : Int)) = false), (Byt (sub l (k * 32) 32)), (((k * 32) + 32) ≤ nm), p0_, ((decide ((k : Int) < (n : Int))) = true)])) (by kernel_rfl)
  (aC ⟨(byt_B32 _), (byt_sub (by assumption) _ _)⟩ (aC (by have hq := fz_le l n; first | omega | (simp (disch := omega) only [wrapI]; omega)) (aC ⟨(by have hq := fz_le l n; first | omega | (simp (disch := omega) only [wrapI]; omega)), (by have hq := fz_le l n; first | omega | (simp (disch := omega) only [wrapI]; omega))⟩ (aC (beq_eq_false_iff_ne.2 (fz_before (l := l) (n := n) (by omega))) (aC (byt_sub (by assumption) _ _) (aC (by have hq := fz_le l n; first | omega | (simp (disch := omega) only [wrapI]; omega)) (aC ⟨(by have hq := fz_le l n; first | omega | (simp (disch := omega) only [wrapI]; omega)), (by have hq := fz_le l n; first | omega | (simp (disch := omega) only [wrapI]; omega))⟩ (aC (dt (by have hq := fz_le l n; first | omega | (simp (disch := omega) only [wrapI]; omega))) (AllP_nil)))))))))
 rw [e0, e1, e2] at h
 exact h

def iaZ0_end (n nm : Nat) (l : List Int) (cap0 : Nat) (s : Unit) : St := ⟨sparse 65 [(0, .o (.a (.sl 0 0 n cap0))), (2, .o (.a nlA)), (3, .o (.a (.i .i64 9))), (4, .o (.a (.i .i64 (((fz l n) : Nat) : Int)))), (5, .o (.a (.sl 1 0 n n))), (6, .o (.a (.p 2 0))), (11, .o (.a (.sl 0 0 n cap0))), (12, .o (.a (.i .i64 (n : Int)))), (13, .o (.a (.sl 1 0 n n))), (14, .o (.g [.ints .u8 32 (B32 (1 : Int))])), (15, .o (.a (.sl 0 0 n cap0))), (16, .o (.a (.i .i64 (n : Int)))), (17, .o (.a (.i .i64 (((fz l n) : Nat) : Int))))], [bF [.ints .u8 nm l], bT [.ints .u8 (n * 32) (outS l n (fz l n))], bT [.ints .u8 32 (B32 (prS l (fz l n)))]]⟩

theorem iaZ0_last (n nm : Nat) (l : List Int) (cap0 : Nat) (h0 : (nm = (n * 32))) (h1 : (n ≤ 4398046510976)) (h2 : (Byt l)) (hc0 : n ≤ cap0) (hl0_0 : l.length = nm) (h3 : fz l n < n) (w : World) (rw : List Nat) (β : Env) (s : Unit) : Run Try.prog ⟨w, rw, 1, β⟩ (loopB Try.f44 0) (iaP0_mk n nm l cap0 (fz l n) s) (To ⟨w, rw, 1, β⟩ .ret (iaZ0_end n nm l cap0 s)) :=
 Run.of_outT (Λ := noLam) (Ψ := noPsi) (fuel := 0) (ora := [true, true]) (l := [.forget [0, 2, 3, 4, 5, 6, 11, 12, 13, 14, 15, 16, 17] 3]) mix tabOkSH gam88_ok
  (vc := [(((modL (BV (sub l ((fz l n) * 32) 32))) == (0 : Int)) = true), (Byt (sub l ((fz l n) * 32) 32)), ((((fz l n) * 32) + 32) ≤ nm), ((0 ≤ (((fz l n) : Nat) : Int)) ∧ ((((fz l n) : Nat) : Int) < (n : Int))), ((decide ((((fz l n) : Nat) : Int) < (n : Int))) = true)]) (by kernel_rfl)
  (aC (beq_iff_eq.2 (fz_at h3)) (aC (byt_sub (by assumption) _ _) (aC (by have hq := fz_le l n; first | omega | (simp (disch := omega) only [wrapI]; omega)) (aC ⟨(by have hq := fz_le l n; first | omega | (simp (disch := omega) only [wrapI]; omega)), (by have hq := fz_le l n; first | omega | (simp (disch := omega) only [wrapI]; omega))⟩ (aC (dt (by have hq := fz_le l n; first | omega | (simp (disch := omega) only [wrapI]; omega))) (AllP_nil))))))

theorem iaZ0_loop (n nm : Nat) (l : List Int) (cap0 : Nat) (h0 : (nm = (n * 32))) (h1 : (n ≤ 4398046510976)) (h2 : (Byt l)) (hc0 : n ≤ cap0) (hl0_0 : l.length = nm) (h3 : fz l n < n) (w : World) (rw : List Nat) (β : Env) (s : Unit) : Run Try.prog ⟨w, rw, 1, β⟩ (.block 0 (.loop (loopB Try.f44 0))) (iaP0_mk n nm l cap0 0 s) (To ⟨w, rw, 1, β⟩ .ret (iaZ0_end n nm l cap0 (iter (moL_step) (fz l n) s))) :=
 Run.count (fun k => iaP0_mk n nm l cap0 k (iter (moL_step) k s)) (fz l n) (fun k hk => iaZ0_round n nm l cap0 h0 h1 h2 hc0 hl0_0 h3 w rw β k hk _) (ex := .ret) (by simp) (iaZ0_last n nm l cap0 h0 h1 h2 hc0 hl0_0 h3 w rw β _)

theorem iaZ_body0 (n nm : Nat) (l : List Int) (cap0 : Nat) (h0 : (nm = (n * 32))) (h1 : (n ≤ 4398046510976)) (h2 : (Byt l)) (hc0 : n ≤ cap0) (hl0_0 : l.length = nm) (h3 : fz l n < n) (w : World) (rw : List Nat) (β : Env) : Body Try.prog (tabOf tabSH) Try.f44 ⟨w, rw, 1, β⟩ [.o (.a (.sl 0 0 n cap0))] [bF [.ints .u8 nm l]] (fun ys K' => ys = [.a (.rs 1 0 0 1), .a (.i .i64 (iaE n)), .a (.i .i64 (iaX l n))] ∧ K' = [bF [.ints .u8 nm l], bT [.ints .u8 0 ([] : List Int)]]) :=
 Body.of_finK (Γ := gam88) (Λ := lamOf [(0, ⟨[.eqB 1 (⟨true, [.ints .u8 (n * 32) (outS l n 0)]⟩), .eqB 2 (⟨true, [.ints .u8 32 (B32 (prS l 0))]⟩), .forget [0, 5, 6, 11, 12, 13, 14, 15, 16, 17] 3], .ret, (iaZ0_end n nm l cap0 (iter (moL_step) (fz l n) ()))⟩)]) (Ψ := noPsi) (fuel := 0) (m := 65) (c := (Try.f44.body.getD .skip)) mix tabOkSH gam88_ok rfl (rs := [.tmp 2, .tmp 3, .tmp 4]) rfl rfl [] [.rowS 2 .u8 1, .eqS 2 (.o (.a (.rs 3 0 0 1))), .eqS 3 (.o (.a (.i .i64 (iaE n)))), .eqS 4 (.o (.a (.i .i64 (iaX l n)))), .eqB 3 (⟨true, [.ints .u8 0 ([] : List Int)]⟩), .swap 1 3] 2
  (vc := [((bT [.ints .u8 0 ([] : List Int)] : Option Blk) = bT [.ints .u8 0 ([] : List Int)]), ((.o (.a (.i .i64 (((fz l n) : Nat) : Int))) : AV) = .o (.a (.i .i64 (iaX l n)))), ((.o (.a (.i .i64 9)) : AV) = .o (.a (.i .i64 (iaE n)))), ((.o (.a (.rs 3 0 0 1)) : AV) = .o (.a (.rs 3 0 0 1))), (Run Try.prog ⟨w, rw, 1, β⟩ (.block 0 (.loop (loopB Try.f44 0))) (iaP0_mk n nm l cap0 0 ()) (To ⟨w, rw, 1, β⟩ .ret (iaZ0_end n nm l cap0 (iter (moL_step) (fz l n) ())))), ((bT [.ints .u8 32 (B32 (1 : Int))] : Option Blk) = bT [.ints .u8 32 (B32 (prS l 0))]), ((bT [.ints .u8 (n * 32) (List.replicate (n * 32) (0 : Int))] : Option Blk) = bT [.ints .u8 (n * 32) (outS l n 0)]), (cI 1 18446744073709551616), ((0 ≤ (n : Int)) ∧ ((n : Int) ≤ (n : Int)) ∧ (((n : Int) * 32) ≤ 281474976710656))]) (by kernel_rfl)
  (aC (rfl) (aC ((congrArg (fun z => AV.o (.a (.i .i64 z))) (by unfold iaX; first | rw [if_pos h4] | (rw [if_neg (by omega)])))) (aC ((congrArg (fun z => AV.o (.a (.i .i64 z))) (by unfold iaE; first | rw [if_pos h4] | (rw [if_neg (by omega)])))) (aC (rfl) (aC (iaZ0_loop n nm l cap0 h0 h1 h2 hc0 hl0_0 h3 w rw β ()) (aC ((by kernel_rfl)) (aC ((by rfl)) (aC (dd rfl) (aC ⟨(by have hq := fz_le l n; first | omega | (simp (disch := omega) only [wrapI]; omega)), (by have hq := fz_le l n; first | omega | (simp (disch := omega) only [wrapI]; omega)), (by have hq := fz_le l n; first | omega | (simp (disch := omega) only [wrapI]; omega))⟩ (AllP_nil))))))))))

theorem iaO0_round (n nm : Nat) (l : List Int) (cap0 : Nat) (h0 : (nm = (n * 32))) (h1 : (n ≤ 4398046510976)) (h2 : (Byt l)) (hc0 : n ≤ cap0) (hl0_0 : l.length = nm) (h3 : fz l n = n) (h4 : n = 0) (w : World) (rw : List Nat) (β : Env) (k : Nat) (hk : k < n) (s : Unit) : Run Try.prog ⟨w, rw, 1, β⟩ (loopB Try.f44 0) (iaP0_mk n nm l cap0 k s) (To ⟨w, rw, 1, β⟩ .normal (iaP0_mk n nm l cap0 (k + 1) (moL_step k s))) := by
 have e0 : (B32 (modL ((BV (B32 (prS l k))) * (BV (sub l (k * (32 : Nat)) (32 : Nat)))))) = (B32 (prS l (k + (1 : Nat)))) := (by first | exact wrap_succ (by have hq := fz_le l n; omega) | (rw [pr_r]) | rfl)
 have e1 : (splice (outS l n k) (k * (32 : Nat)) (32 : Nat) (B32 (prS l k))) = (outS l n (k + (1 : Nat))) := (by first | exact wrap_succ (by have hq := fz_le l n; omega) | (rw [pr_r]) | rfl)
 have e2 := wrap_succ (n := k) (by omega)
 have h := Run.of_outT (B := ⟨w, rw, 1, β⟩) (Λ := noLam) (Ψ := noPsi) (fuel := 0) (ora := [true, false]) (c := (loopB Try.f44 0)) (st := (iaP0_mk n nm l cap0 k s)) (l := [.forget [0, 5, 6, 11, 12, 13, 14, 15, 16, 17] 3]) (s' := ⟨sparse 65 [(0, .o (.a (.sl 0 0 n cap0))), (5, .o (.a (.sl 1 0 n n))), (6, .o (.a (.p 2 0))), (11, .o (.a (.sl 0 0 n cap0))), (12, .o (.a (.i .i64 (n : Int)))), (13, .o (.a (.sl 1 0 n n))), (14, .o (.g [.ints .u8 32 (B32 (1 : Int))])), (15, .o (.a (.sl 0 0 n cap0))), (16, .o (.a (.i .i64 (n : Int)))), (17, .o (.a (.i .i64 (IntKind.i64.wrap ((k : Int) + 1)))))], [bF [.ints .u8 nm l], bT [.ints .u8 (n * 32) (splice (outS l n k) (k * 32) 32 (B32 (prS l k)))], bT [.ints .u8 32 (B32 (modL ((BV (B32 (prS l k))) * (BV (sub l (k * 32) 32)))))]]⟩) (ex := .normal) mix tabOkSH gam88_ok
  (vc := (let p0_ : Prop := ((0 ≤ (k : Int)) ∧ ((k : Int) < (n : Int))); [((Byt (B32 (prS l k))) ∧ (Byt (sub l (k * 32) 32))), (((k * 32) + 32) ≤ (n * 32)), p0_, (((modL (BV (sub l (k * 32) 32))) == (0 : Int)) = false), (Byt (sub l (k * 32) 32)), (((k * 32) + 32) ≤ nm), p0_, ((decide ((k : Int) < (n : Int))) = true)])) (by kernel_rfl)
  (aC ⟨(byt_B32 _), (byt_sub (by assumption) _ _)⟩ (aC (by have hq := fz_le l n; first | omega | (simp (disch := omega) only [wrapI]; omega)) (aC ⟨(by have hq := fz_le l n; first | omega | (simp (disch := omega) only [wrapI]; omega)), (by have hq := fz_le l n; first | omega | (simp (disch := omega) only [wrapI]; omega))⟩ (aC (beq_eq_false_iff_ne.2 (fz_before (l := l) (n := n) (by omega))) (aC (byt_sub (by assumption) _ _) (aC (by have hq := fz_le l n; first | omega | (simp (disch := omega) only [wrapI]; omega)) (aC ⟨(by have hq := fz_le l n; first | omega | (simp (disch := omega) only [wrapI]; omega)), (by have hq := fz_le l n; first | omega | (simp (disch := omega) only [wrapI]; omega))⟩ (aC (dt (by have hq := fz_le l n; first | omega | (simp (disch := omega) only [wrapI]; omega))) (AllP_nil)))))))))
 rw [e0, e1, e2] at h
 exact h

theorem iaO0_last (n nm : Nat) (l : List Int) (cap0 : Nat) (h0 : (nm = (n * 32))) (h1 : (n ≤ 4398046510976)) (h2 : (Byt l)) (hc0 : n ≤ cap0) (hl0_0 : l.length = nm) (h3 : fz l n = n) (h4 : n = 0) (w : World) (rw : List Nat) (β : Env) (s : Unit) : Run Try.prog ⟨w, rw, 1, β⟩ (loopB Try.f44 0) (iaP0_mk n nm l cap0 n s) (To ⟨w, rw, 1, β⟩ (.exit 0) (iaP0_mk n nm l cap0 n s)) :=
 Run.of_outT (Λ := noLam) (Ψ := noPsi) (fuel := 0) (ora := [false]) (l := [.forget [0, 5, 6, 11, 12, 13, 14, 15, 16, 17] 3]) mix tabOkSH gam88_ok
  (vc := [((decide ((n : Int) < (n : Int))) = false)]) (by kernel_rfl)
  (aC (decide_eq_false (by have hq := fz_le l n; first | omega | (simp (disch := omega) only [wrapI]; omega))) (AllP_nil))

theorem iaO0_loop (n nm : Nat) (l : List Int) (cap0 : Nat) (h0 : (nm = (n * 32))) (h1 : (n ≤ 4398046510976)) (h2 : (Byt l)) (hc0 : n ≤ cap0) (hl0_0 : l.length = nm) (h3 : fz l n = n) (h4 : n = 0) (w : World) (rw : List Nat) (β : Env) (s : Unit) : Run Try.prog ⟨w, rw, 1, β⟩ (.block 0 (.loop (loopB Try.f44 0))) (iaP0_mk n nm l cap0 0 s) (To ⟨w, rw, 1, β⟩ .normal (iaP0_mk n nm l cap0 n (iter (moL_step) n s))) :=
 Run.count (fun k => iaP0_mk n nm l cap0 k (iter (moL_step) k s)) n (fun k hk => iaO0_round n nm l cap0 h0 h1 h2 hc0 hl0_0 h3 h4 w rw β k hk _) (ex := (.exit 0)) (by simp) (iaO0_last n nm l cap0 h0 h1 h2 hc0 hl0_0 h3 h4 w rw β _)

theorem iaO2_round (n nm : Nat) (l : List Int) (cap0 : Nat) (h0 : (nm = (n * 32))) (h1 : (n ≤ 4398046510976)) (h2 : (Byt l)) (hc0 : n ≤ cap0) (hl0_0 : l.length = nm) (h3 : fz l n = n) (h4 : n = 0) (w : World) (rw : List Nat) (β : Env) (k : Nat) (hk : k < n) (s : Unit) : Run Try.prog ⟨w, rw, 1, β⟩ (loopB Try.f44 2) (iaP2_mk n nm l cap0 k s) (To ⟨w, rw, 1, β⟩ .normal (iaP2_mk n nm l cap0 (k + 1) (moL_step k s))) := by
 have e0 : (splice (out2 l n k) (((n - 1) - k) * 32) 32 (B32 (modL ((BV (sub (out2 l n k) (((n - 1) - k) * 32) 32)) * (BV (B32 (alS l n k))))))) = (out2 l n (k + 1)) := (by first | exact wrap_succ (by omega) | (rw [out2_step]) | (rw [alS_step]) | rfl)
 have e1 : (B32 (modL ((BV (B32 (alS l n k))) * (BV (sub l (((n - (1 : Nat)) - k) * (32 : Nat)) (32 : Nat)))))) = (B32 (alS l n (k + (1 : Nat)))) := (by first | exact wrap_succ (by omega) | (rw [out2_step]) | (rw [alS_step]) | rfl)
 have e2 := wrap_succ (n := k) (by omega)
 have h := Run.of_outT (B := ⟨w, rw, 1, β⟩) (Λ := noLam) (Ψ := psiOf [(15, [.eqS 10 (.o (.a (.i .i64 ((((n - 1) - k) : Nat) : Int))))])]) (fuel := 0) (ora := [true]) (c := (loopB Try.f44 2)) (st := (iaP2_mk n nm l cap0 k s)) (l := [.forget [0, 5, 6, 11, 12, 13, 14, 15, 16, 17, 33, 34, 35, 36, 38, 39, 40] 3]) (s' := ⟨sparse 65 [(0, .o (.a (.sl 0 0 n cap0))), (5, .o (.a (.sl 1 0 n n))), (6, .o (.a (.p 2 0))), (11, .o (.a (.sl 0 0 n cap0))), (12, .o (.a (.i .i64 (n : Int)))), (13, .o (.a (.sl 1 0 n n))), (14, .o (.g [.ints .u8 32 (B32 (1 : Int))])), (15, .o (.a (.sl 0 0 n cap0))), (16, .o (.a (.i .i64 (n : Int)))), (17, .o (.a (.i .i64 (n : Int)))), (33, .t [.g [.ints .u8 32 (B32 (invN (BV (B32 (prS l n)))))], .a (.i .i64 (invE1 (BV (B32 (prS l n)))))]), (34, .o (.g [.ints .u8 32 (B32 (prS l n))])), (35, .t [.g [.ints .u8 32 (B32 (invN (BV (B32 (prS l n)))))], .a (.i .i64 (invE1 (BV (B32 (prS l n)))))]), (36, .o (.g [.ints .u8 32 (B32 (invN (BV (B32 (prS l n)))))])), (38, .o (.a (.sl 0 0 n cap0))), (39, .o (.a (.i .i64 (n : Int)))), (40, .o (.a (.i .i64 (IntKind.i64.wrap ((k : Int) + 1)))))], [bF [.ints .u8 nm l], bT [.ints .u8 (n * 32) (splice (out2 l n k) (((n - 1) - k) * 32) 32 (B32 (modL ((BV (sub (out2 l n k) (((n - 1) - k) * 32) 32)) * (BV (B32 (alS l n k)))))))], bT [.ints .u8 32 (B32 (modL ((BV (B32 (alS l n k))) * (BV (sub l (((n - 1) - k) * 32) 32)))))]]⟩) (ex := .normal) mix tabOkSH gam88_ok
  (vc := (let p0_ : Prop := ((0 ≤ ((((n - 1) - k) : Nat) : Int)) ∧ (((((n - 1) - k) : Nat) : Int) < (n : Int))); let p1_ : Prop := (((((n - 1) - k) * 32) + 32) ≤ (n * 32)); [((Byt (B32 (alS l n k))) ∧ (Byt (sub l (((n - 1) - k) * 32) 32))), (((((n - 1) - k) * 32) + 32) ≤ nm), p0_, p1_, p0_, ((Byt (sub (out2 l n k) (((n - 1) - k) * 32) 32)) ∧ (Byt (B32 (alS l n k)))), p1_, p0_, ((.o (.a (.i .i64 (IntKind.i64.wrap ((IntKind.i64.wrap ((n : Int) - 1)) - (k : Int))))) : AV) = .o (.a (.i .i64 ((((n - 1) - k) : Nat) : Int)))), ((decide ((k : Int) < (n : Int))) = true)])) (by kernel_rfl)
  (aC ⟨(byt_B32 _), (byt_sub (by assumption) _ _)⟩ (aC (by have hq := fz_le l n; first | omega | (simp (disch := omega) only [wrapI]; omega)) (aC ⟨(by have hq := fz_le l n; first | omega | (simp (disch := omega) only [wrapI]; omega)), (by have hq := fz_le l n; first | omega | (simp (disch := omega) only [wrapI]; omega))⟩ (aC (by have hq := fz_le l n; first | omega | (simp (disch := omega) only [wrapI]; omega)) (aC ⟨(by have hq := fz_le l n; first | omega | (simp (disch := omega) only [wrapI]; omega)), (by have hq := fz_le l n; first | omega | (simp (disch := omega) only [wrapI]; omega))⟩ (aC ⟨(byt_sub (out2_byt l n _) _ _), (byt_B32 _)⟩ (aC (by have hq := fz_le l n; first | omega | (simp (disch := omega) only [wrapI]; omega)) (aC ⟨(by have hq := fz_le l n; first | omega | (simp (disch := omega) only [wrapI]; omega)), (by have hq := fz_le l n; first | omega | (simp (disch := omega) only [wrapI]; omega))⟩ (aC ((congrArg (fun z => AV.o (.a (.i .i64 z))) (by simp (disch := omega) only [wrapI]; omega))) (aC (dt (by have hq := fz_le l n; first | omega | (simp (disch := omega) only [wrapI]; omega))) (AllP_nil)))))))))))
 rw [e0, e1, e2] at h
 exact h

theorem iaO2_last (n nm : Nat) (l : List Int) (cap0 : Nat) (h0 : (nm = (n * 32))) (h1 : (n ≤ 4398046510976)) (h2 : (Byt l)) (hc0 : n ≤ cap0) (hl0_0 : l.length = nm) (h3 : fz l n = n) (h4 : n = 0) (w : World) (rw : List Nat) (β : Env) (s : Unit) : Run Try.prog ⟨w, rw, 1, β⟩ (loopB Try.f44 2) (iaP2_mk n nm l cap0 n s) (To ⟨w, rw, 1, β⟩ (.exit 2) (iaP2_mk n nm l cap0 n s)) :=
 Run.of_outT (Λ := noLam) (Ψ := noPsi) (fuel := 0) (ora := [false]) (l := [.forget [0, 5, 6, 11, 12, 13, 14, 15, 16, 17, 33, 34, 35, 36, 38, 39, 40] 3]) mix tabOkSH gam88_ok
  (vc := [((decide ((n : Int) < (n : Int))) = false)]) (by kernel_rfl)
  (aC (decide_eq_false (by have hq := fz_le l n; first | omega | (simp (disch := omega) only [wrapI]; omega))) (AllP_nil))

theorem iaO2_loop (n nm : Nat) (l : List Int) (cap0 : Nat) (h0 : (nm = (n * 32))) (h1 : (n ≤ 4398046510976)) (h2 : (Byt l)) (hc0 : n ≤ cap0) (hl0_0 : l.length = nm) (h3 : fz l n = n) (h4 : n = 0) (w : World) (rw : List Nat) (β : Env) (s : Unit) : Run Try.prog ⟨w, rw, 1, β⟩ (.block 2 (.loop (loopB Try.f44 2))) (iaP2_mk n nm l cap0 0 s) (To ⟨w, rw, 1, β⟩ .normal (iaP2_mk n nm l cap0 n (iter (moL_step) n s))) :=
 Run.count (fun k => iaP2_mk n nm l cap0 k (iter (moL_step) k s)) n (fun k hk => iaO2_round n nm l cap0 h0 h1 h2 hc0 hl0_0 h3 h4 w rw β k hk _) (ex := (.exit 2)) (by simp) (iaO2_last n nm l cap0 h0 h1 h2 hc0 hl0_0 h3 h4 w rw β _)

theorem iaO_body0 (n nm : Nat) (l : List Int) (cap0 : Nat) (h0 : (nm = (n * 32))) (h1 : (n ≤ 4398046510976)) (h2 : (Byt l)) (hc0 : n ≤ cap0) (hl0_0 : l.length = nm) (h3 : fz l n = n) (h4 : n = 0) (w : World) (rw : List Nat) (β : Env) : Body Try.prog (tabOf tabSH) Try.f44 ⟨w, rw, 1, β⟩ [.o (.a (.sl 0 0 n cap0))] [bF [.ints .u8 nm l]] (fun ys K' => ys = [.a (.rs 1 0 0 1), .a (.i .i64 (iaE n)), .a (.i .i64 (iaX l n))] ∧ K' = [bF [.ints .u8 nm l], bT [.ints .u8 0 ([] : List Int)]]) :=
 Body.of_finK (Γ := gam88) (Λ := lamOf [(0, ⟨[.eqB 1 (⟨true, [.ints .u8 (n * 32) (outS l n 0)]⟩), .eqB 2 (⟨true, [.ints .u8 32 (B32 (prS l 0))]⟩), .forget [0, 5, 6, 11, 12, 13, 14, 15, 16, 17] 3], .normal, (iaP0_mk n nm l cap0 n (iter (moL_step) n ()))⟩), (2, ⟨[.eqB 1 (⟨true, [.ints .u8 (n * 32) (out2 l n 0)]⟩), .eqB 2 (⟨true, [.ints .u8 32 (B32 (alS l n 0))]⟩), .forget [0, 5, 6, 11, 12, 13, 14, 15, 16, 17, 33, 34, 35, 36, 38, 39, 40] 3], .normal, (iaP2_mk n nm l cap0 n (iter (moL_step) n ()))⟩)]) (Ψ := noPsi) (fuel := 0) (m := 65) (c := (Try.f44.body.getD .skip)) mix tabOkSH gam88_ok rfl (rs := [.tmp 2, .tmp 3, .tmp 4]) rfl rfl [] [.slrs 2 1, .eqS 2 (.o (.a (.rs 1 0 0 1))), .eqS 3 (.o (.a (.i .i64 (iaE n)))), .eqS 4 (.o (.a (.i .i64 (iaX l n)))), .eqB 1 (⟨true, [.ints .u8 0 ([] : List Int)]⟩)] 2
  (vc := [((bT [.ints .u8 (n * 32) (out2 l n n)] : Option Blk) = bT [.ints .u8 0 ([] : List Int)]), ((.o (.a (.i .i64 0)) : AV) = .o (.a (.i .i64 (iaX l n)))), ((.o (.a (.i .i64 0)) : AV) = .o (.a (.i .i64 (iaE n)))), ((.o (.a (.rs 1 0 n 1)) : AV) = .o (.a (.rs 1 0 0 1))), ((0 + n) ≤ (n * 32)), (Run Try.prog ⟨w, rw, 1, β⟩ (.block 2 (.loop (loopB Try.f44 2))) (iaP2_mk n nm l cap0 0 ()) (To ⟨w, rw, 1, β⟩ .normal (iaP2_mk n nm l cap0 n (iter (moL_step) n ())))), ((bT [.ints .u8 32 (B32 (invN (BV (B32 (prS l n)))))] : Option Blk) = bT [.ints .u8 32 (B32 (alS l n 0))]), ((bT [.ints .u8 (n * 32) (outS l n n)] : Option Blk) = bT [.ints .u8 (n * 32) (out2 l n 0)]), (Byt (B32 (prS l n))), (Run Try.prog ⟨w, rw, 1, β⟩ (.block 0 (.loop (loopB Try.f44 0))) (iaP0_mk n nm l cap0 0 ()) (To ⟨w, rw, 1, β⟩ .normal (iaP0_mk n nm l cap0 n (iter (moL_step) n ())))), ((bT [.ints .u8 32 (B32 (1 : Int))] : Option Blk) = bT [.ints .u8 32 (B32 (prS l 0))]), ((bT [.ints .u8 (n * 32) (List.replicate (n * 32) (0 : Int))] : Option Blk) = bT [.ints .u8 (n * 32) (outS l n 0)]), (cI 1 18446744073709551616), ((0 ≤ (n : Int)) ∧ ((n : Int) ≤ (n : Int)) ∧ (((n : Int) * 32) ≤ 281474976710656))]) (by kernel_rfl)
  (aC ((by subst h4; rw [show out2 l 0 0 = [] from List.length_eq_zero_iff.1 (out2_len l 0 0 (Nat.le_refl _))])) (aC ((congrArg (fun z => AV.o (.a (.i .i64 z))) (by unfold iaX; first | rw [if_pos h4] | (rw [if_neg (by omega)])))) (aC ((congrArg (fun z => AV.o (.a (.i .i64 z))) (by unfold iaE; first | rw [if_pos h4] | (rw [if_neg (by omega)])))) (aC ((by rw [h4])) (aC (by have hq := fz_le l n; first | omega | (simp (disch := omega) only [wrapI]; omega)) (aC (iaO2_loop n nm l cap0 h0 h1 h2 hc0 hl0_0 h3 h4 w rw β ()) (aC ((by rw [inv_prS])) (aC ((by rfl)) (aC (byt_B32 _) (aC (iaO0_loop n nm l cap0 h0 h1 h2 hc0 hl0_0 h3 h4 w rw β ()) (aC ((by kernel_rfl)) (aC ((by rfl)) (aC (dd rfl) (aC ⟨(by have hq := fz_le l n; first | omega | (simp (disch := omega) only [wrapI]; omega)), (by have hq := fz_le l n; first | omega | (simp (disch := omega) only [wrapI]; omega)), (by have hq := fz_le l n; first | omega | (simp (disch := omega) only [wrapI]; omega))⟩ (AllP_nil)))))))))))))))

theorem iaSome_body (n nm : Nat) (l : List Int) (cap0 : Nat) (h0 : (nm = (n * 32))) (h1 : (n ≤ 4398046510976)) (h2 : (Byt l)) (hx : (IaP l n)) (w : World) (rw : List Nat) (β : Env) : Body Try.prog (tabOf tabSH) Try.f44 ⟨w, rw, 1, β⟩ [.o (.a (.sl 0 0 n cap0))] [bF [.ints .u8 nm l]] (fun ys K' => ys = [.a (.rs 1 0 n 32), .a (.i .i64 0), .a (.i .i64 0)] ∧ K' = [bF [.ints .u8 nm l], bT [.ints .u8 (iaP n) (out2 l n n)]]) :=
 Body.lens (c := (Try.f44.body.getD .skip)) rfl fun h => by
 exact iaP_body0 n nm l cap0 h0 h1 h2 (h.caps 0 _ _ _ _ rfl) (h.lens 0 _ .u8 nm l rfl (by simp)) hx.1 hx.2 w rw β

theorem iaNone_body (n nm : Nat) (l : List Int) (cap0 : Nat) (h0 : (nm = (n * 32))) (h1 : (n ≤ 4398046510976)) (h2 : (Byt l)) (hx : (IaZ l n)) (w : World) (rw : List Nat) (β : Env) : Body Try.prog (tabOf tabSH) Try.f44 ⟨w, rw, 1, β⟩ [.o (.a (.sl 0 0 n cap0))] [bF [.ints .u8 nm l]] (fun ys K' => ys = [.a (.rs 1 0 0 1), .a (.i .i64 (iaE n)), .a (.i .i64 (iaX l n))] ∧ K' = [bF [.ints .u8 nm l], bT [.ints .u8 0 ([] : List Int)]]) :=
 Body.lens (c := (Try.f44.body.getD .skip)) rfl fun h => by
 by_cases hz : fz l n < n
 ·exact iaZ_body0 n nm l cap0 h0 h1 h2 (h.caps 0 _ _ _ _ rfl) (h.lens 0 _ .u8 nm l rfl (by simp)) hz w rw β
 ·have hq := fz_le l n
  exact iaO_body0 n nm l cap0 h0 h1 h2 (h.caps 0 _ _ _ _ rfl) (h.lens 0 _ .u8 nm l rfl (by simp)) (by omega) (by rcases hx with h | h; exact absurd h hz; exact h) w rw β

end Go.Proofs.Ytcpoldghkiiggaa.X

/- Printed by a tool of this session. -/
namespace Go.Proofs.Ytcpoldghkiiggaa.X
open Go Go.Proofs
set_option linter.unusedVariables false
set_option linter.unusedSimpArgs false
set_option maxRecDepth 100000
set_option maxHeartbeats 8000000
theorem teSD_90 : TEOk Try.prog 90 ⟨.slice 186, 1, 24, [.raw (.slice none 0 0)], false⟩ :=
 TEOk.of Try.underlying90 (i := Try.t90) (by kernel_rfl) rfl rfl rfl (by kernel_rfl) (fun h => by cases h) (by kernel_rfl)
theorem teSD_91 : TEOk Try.prog 91 ⟨.slice 191, 1, 24, [.raw (.slice none 0 0)], false⟩ :=
 TEOk.of Try.underlying91 (i := Try.t91) (by kernel_rfl) rfl rfl rfl (by kernel_rfl) (fun h => by cases h) (by kernel_rfl)
theorem teSD_92 : TEOk Try.prog 92 ⟨.slice 197, 1, 24, [.raw (.slice none 0 0)], false⟩ :=
 TEOk.of Try.underlying92 (i := Try.t92) (by kernel_rfl) rfl rfl rfl (by kernel_rfl) (fun h => by cases h) (by kernel_rfl)
theorem teSD_93 : TEOk Try.prog 93 ⟨.slice 201, 1, 24, [.raw (.slice none 0 0)], false⟩ :=
 TEOk.of Try.underlying93 (i := Try.t93) (by kernel_rfl) rfl rfl rfl (by kernel_rfl) (fun h => by cases h) (by kernel_rfl)
theorem teSD_94 : TEOk Try.prog 94 ⟨.slice 206, 1, 24, [.raw (.slice none 0 0)], false⟩ :=
 TEOk.of Try.underlying94 (i := Try.t94) (by kernel_rfl) rfl rfl rfl (by kernel_rfl) (fun h => by cases h) (by kernel_rfl)
theorem teSD_95 : TEOk Try.prog 95 ⟨.slice 211, 1, 24, [.raw (.slice none 0 0)], false⟩ :=
 TEOk.of Try.underlying95 (i := Try.t95) (by kernel_rfl) rfl rfl rfl (by kernel_rfl) (fun h => by cases h) (by kernel_rfl)
theorem teSD_97 : TEOk Try.prog 97 ⟨Try.t96.desc, 21, 504, [nlA, nlA, nlA, nlA, nlA, nlA, nlA, nlA, nlA, nlA, nlA, nlA, nlA, nlA, nlA, nlA, nlA, nlA, nlA, nlA, nlA], false⟩ :=
 TEOk.of Try.underlying97 (i := Try.t97) (by kernel_rfl) rfl rfl rfl (by kernel_rfl) (fun h => by cases h) (by kernel_rfl)
noncomputable def tabSD : List (Nat × TE) := [(26, ⟨.slice 22, 1, 24, [nlA], false⟩), (28, ⟨.slice 113, 1, 24, [nlA], false⟩), (29, ⟨.slice 122, 1, 24, [nlA], false⟩), (30, ⟨.slice 64, 1, 24, [nlA], false⟩), (31, ⟨.slice 124, 1, 24, [nlA], false⟩), (32, ⟨.slice 126, 1, 24, [nlA], false⟩), (33, ⟨.slice 128, 1, 24, [nlA], false⟩), (34, ⟨.slice 130, 1, 24, [nlA], false⟩), (35, ⟨.slice 132, 1, 24, [nlA], false⟩), (36, ⟨.slice 134, 1, 24, [nlA], false⟩), (37, ⟨.slice 136, 1, 24, [nlA], false⟩), (38, ⟨.slice 138, 1, 24, [nlA], false⟩), (39, ⟨.slice 140, 1, 24, [nlA], false⟩), (40, ⟨.slice 142, 1, 24, [nlA], false⟩), (90, ⟨.slice 186, 1, 24, [nlA], false⟩), (91, ⟨.slice 191, 1, 24, [nlA], false⟩), (92, ⟨.slice 197, 1, 24, [nlA], false⟩), (93, ⟨.slice 201, 1, 24, [nlA], false⟩), (94, ⟨.slice 206, 1, 24, [nlA], false⟩), (95, ⟨.slice 211, 1, 24, [nlA], false⟩), (97, ⟨Try.t96.desc, 21, 504, [nlA, nlA, nlA, nlA, nlA, nlA, nlA, nlA, nlA, nlA, nlA, nlA, nlA, nlA, nlA, nlA, nlA, nlA, nlA, nlA, nlA], false⟩)]
theorem tabOkSD : TabOk Try.prog (tabOf tabSD) := (tabOf_cons teQJ_26 (tabOf_cons teQJ_28 (tabOf_cons teQJ_29 (tabOf_cons teQJ_30 (tabOf_cons teQJ_31 (tabOf_cons teQJ_32 (tabOf_cons teQJ_33 (tabOf_cons teQJ_34 (tabOf_cons teQJ_35 (tabOf_cons teQJ_36 (tabOf_cons teQJ_37 (tabOf_cons teQJ_38 (tabOf_cons teQJ_39 (tabOf_cons teQJ_40 (tabOf_cons teSD_90 (tabOf_cons teSD_91 (tabOf_cons teSD_92 (tabOf_cons teSD_93 (tabOf_cons teSD_94 (tabOf_cons teSD_95 (tabOf_cons teSD_97 tabOf_nil)))))))))))))))))))))

theorem bo0_body0 (w : World) (rw : List Nat) (β : Env) : Body Try.prog (tabOf tabSD) Try.f108 ⟨w, rw, 1, β⟩ [.o (.a (.p 0 0))] [some kb2] (fun ys K' => ys = [.a (.b true)] ∧ K' = [some kb2]) :=
 Body.of_finK (Γ := gam302) (Λ := noLam) (Ψ := noPsi) (fuel := 1) (m := 113) (c := (Try.f108.body.getD .skip)) mix tabOkSD gam302_ok rfl (rs := [.tmp 2]) rfl rfl [false, false, false] [] 1
  (vc := [(false = false), (false = false), (false = false)]) (by kernel_rfl)
  (aC rfl (aC rfl (aC rfl (AllP_nil))))

theorem bo0_body (w : World) (rw : List Nat) (β : Env) : Body Try.prog (tabOf tabSD) Try.f108 ⟨w, rw, 1, β⟩ [.o (.a (.p 0 0))] [some kb2] (fun ys K' => ys = [.a (.b true)] ∧ K' = [some kb2]) :=
 Body.lens (c := (Try.f108.body.getD .skip)) rfl fun h => bo0_body0  w rw β

theorem bo2_body0 (w : World) (rw : List Nat) (β : Env) : Body Try.prog (tabOf tabSD) Try.f110 ⟨w, rw, 1, β⟩ [.o (.a (.p 0 0))] [some kb2] (fun ys K' => ys = [.a (.b true)] ∧ K' = [some kb2]) :=
 Body.of_finK (Γ := gam302) (Λ := noLam) (Ψ := noPsi) (fuel := 1) (m := 113) (c := (Try.f110.body.getD .skip)) mix tabOkSD gam302_ok rfl (rs := [.tmp 2]) rfl rfl [false, false, false] [] 1
  (vc := [(false = false), (false = false), (false = false)]) (by kernel_rfl)
  (aC rfl (aC rfl (aC rfl (AllP_nil))))

theorem bo2_body (w : World) (rw : List Nat) (β : Env) : Body Try.prog (tabOf tabSD) Try.f110 ⟨w, rw, 1, β⟩ [.o (.a (.p 0 0))] [some kb2] (fun ys K' => ys = [.a (.b true)] ∧ K' = [some kb2]) :=
 Body.lens (c := (Try.f110.body.getD .skip)) rfl fun h => bo2_body0  w rw β

theorem bo3_body0 (w : World) (rw : List Nat) (β : Env) : Body Try.prog (tabOf tabSD) Try.f111 ⟨w, rw, 1, β⟩ [.o (.a (.p 0 0))] [some kb2] (fun ys K' => ys = [.a (.b true)] ∧ K' = [some kb2]) :=
 Body.of_finK (Γ := gam302) (Λ := noLam) (Ψ := noPsi) (fuel := 1) (m := 113) (c := (Try.f111.body.getD .skip)) mix tabOkSD gam302_ok rfl (rs := [.tmp 2]) rfl rfl [false, false, false] [] 1
  (vc := [(false = false), (false = false), (false = false)]) (by kernel_rfl)
  (aC rfl (aC rfl (aC rfl (AllP_nil))))

theorem bo3_body (w : World) (rw : List Nat) (β : Env) : Body Try.prog (tabOf tabSD) Try.f111 ⟨w, rw, 1, β⟩ [.o (.a (.p 0 0))] [some kb2] (fun ys K' => ys = [.a (.b true)] ∧ K' = [some kb2]) :=
 Body.lens (c := (Try.f111.body.getD .skip)) rfl fun h => bo3_body0  w rw β

theorem bo5_body0 (w : World) (rw : List Nat) (β : Env) : Body Try.prog (tabOf tabSD) Try.f113 ⟨w, rw, 1, β⟩ [.o (.a (.p 0 0))] [some kb2] (fun ys K' => ys = [.a (.b true)] ∧ K' = [some kb2]) :=
 Body.of_finK (Γ := gam302) (Λ := noLam) (Ψ := noPsi) (fuel := 1) (m := 113) (c := (Try.f113.body.getD .skip)) mix tabOkSD gam302_ok rfl (rs := [.tmp 2]) rfl rfl [false, false, false] [] 1
  (vc := [(false = false), (false = false), (false = false)]) (by kernel_rfl)
  (aC rfl (aC rfl (aC rfl (AllP_nil))))

theorem bo5_body (w : World) (rw : List Nat) (β : Env) : Body Try.prog (tabOf tabSD) Try.f113 ⟨w, rw, 1, β⟩ [.o (.a (.p 0 0))] [some kb2] (fun ys K' => ys = [.a (.b true)] ∧ K' = [some kb2]) :=
 Body.lens (c := (Try.f113.body.getD .skip)) rfl fun h => bo5_body0  w rw β

theorem bo6_body0 (w : World) (rw : List Nat) (β : Env) : Body Try.prog (tabOf tabSD) Try.f114 ⟨w, rw, 1, β⟩ [.o (.a (.p 0 0))] [some kb2] (fun ys K' => ys = [.a (.b true)] ∧ K' = [some kb2]) :=
 Body.of_finK (Γ := gam302) (Λ := noLam) (Ψ := noPsi) (fuel := 1) (m := 113) (c := (Try.f114.body.getD .skip)) mix tabOkSD gam302_ok rfl (rs := [.tmp 2]) rfl rfl [false, false, false] [] 1
  (vc := [(false = false), (false = false), (false = false)]) (by kernel_rfl)
  (aC rfl (aC rfl (aC rfl (AllP_nil))))

theorem bo6_body (w : World) (rw : List Nat) (β : Env) : Body Try.prog (tabOf tabSD) Try.f114 ⟨w, rw, 1, β⟩ [.o (.a (.p 0 0))] [some kb2] (fun ys K' => ys = [.a (.b true)] ∧ K' = [some kb2]) :=
 Body.lens (c := (Try.f114.body.getD .skip)) rfl fun h => bo6_body0  w rw β

theorem bo7_body0 (w : World) (rw : List Nat) (β : Env) : Body Try.prog (tabOf tabSD) Try.f115 ⟨w, rw, 1, β⟩ [.o (.a (.p 0 0))] [some kb2] (fun ys K' => ys = [.a (.b true)] ∧ K' = [some kb2]) :=
 Body.of_finK (Γ := gam302) (Λ := noLam) (Ψ := noPsi) (fuel := 1) (m := 113) (c := (Try.f115.body.getD .skip)) mix tabOkSD gam302_ok rfl (rs := [.tmp 2]) rfl rfl [false, false, false] [] 1
  (vc := [(false = false), (false = false), (false = false)]) (by kernel_rfl)
  (aC rfl (aC rfl (aC rfl (AllP_nil))))

theorem bo7_body (w : World) (rw : List Nat) (β : Env) : Body Try.prog (tabOf tabSD) Try.f115 ⟨w, rw, 1, β⟩ [.o (.a (.p 0 0))] [some kb2] (fun ys K' => ys = [.a (.b true)] ∧ K' = [some kb2]) :=
 Body.lens (c := (Try.f115.body.getD .skip)) rfl fun h => bo7_body0  w rw β

theorem bo8_body0 (w : World) (rw : List Nat) (β : Env) : Body Try.prog (tabOf tabSD) Try.f116 ⟨w, rw, 1, β⟩ [.o (.a (.p 0 0))] [some kb2] (fun ys K' => ys = [.a (.b true)] ∧ K' = [some kb2]) :=
 Body.of_finK (Γ := gam302) (Λ := noLam) (Ψ := noPsi) (fuel := 1) (m := 113) (c := (Try.f116.body.getD .skip)) mix tabOkSD gam302_ok rfl (rs := [.tmp 2]) rfl rfl [false, false, false] [] 1
  (vc := [(false = false), (false = false), (false = false)]) (by kernel_rfl)
  (aC rfl (aC rfl (aC rfl (AllP_nil))))

theorem bo8_body (w : World) (rw : List Nat) (β : Env) : Body Try.prog (tabOf tabSD) Try.f116 ⟨w, rw, 1, β⟩ [.o (.a (.p 0 0))] [some kb2] (fun ys K' => ys = [.a (.b true)] ∧ K' = [some kb2]) :=
 Body.lens (c := (Try.f116.body.getD .skip)) rfl fun h => bo8_body0  w rw β

theorem bo9_body0 (w : World) (rw : List Nat) (β : Env) : Body Try.prog (tabOf tabSD) Try.f117 ⟨w, rw, 1, β⟩ [.o (.a (.p 0 0))] [some kb2] (fun ys K' => ys = [.a (.b true)] ∧ K' = [some kb2]) :=
 Body.of_finK (Γ := gam302) (Λ := noLam) (Ψ := noPsi) (fuel := 1) (m := 113) (c := (Try.f117.body.getD .skip)) mix tabOkSD gam302_ok rfl (rs := [.tmp 2]) rfl rfl [false, false, false] [] 1
  (vc := [(false = false), (false = false), (false = false)]) (by kernel_rfl)
  (aC rfl (aC rfl (aC rfl (AllP_nil))))

theorem bo9_body (w : World) (rw : List Nat) (β : Env) : Body Try.prog (tabOf tabSD) Try.f117 ⟨w, rw, 1, β⟩ [.o (.a (.p 0 0))] [some kb2] (fun ys K' => ys = [.a (.b true)] ∧ K' = [some kb2]) :=
 Body.lens (c := (Try.f117.body.getD .skip)) rfl fun h => bo9_body0  w rw β

theorem bo10_body0 (w : World) (rw : List Nat) (β : Env) : Body Try.prog (tabOf tabSD) Try.f118 ⟨w, rw, 1, β⟩ [.o (.a (.p 0 0))] [some kb2] (fun ys K' => ys = [.a (.b true)] ∧ K' = [some kb2]) :=
 Body.of_finK (Γ := gam302) (Λ := noLam) (Ψ := noPsi) (fuel := 1) (m := 113) (c := (Try.f118.body.getD .skip)) mix tabOkSD gam302_ok rfl (rs := [.tmp 2]) rfl rfl [false, false, false] [] 1
  (vc := [(false = false), (false = false), (false = false)]) (by kernel_rfl)
  (aC rfl (aC rfl (aC rfl (AllP_nil))))

theorem bo10_body (w : World) (rw : List Nat) (β : Env) : Body Try.prog (tabOf tabSD) Try.f118 ⟨w, rw, 1, β⟩ [.o (.a (.p 0 0))] [some kb2] (fun ys K' => ys = [.a (.b true)] ∧ K' = [some kb2]) :=
 Body.lens (c := (Try.f118.body.getD .skip)) rfl fun h => bo10_body0  w rw β

theorem bo11_body0 (w : World) (rw : List Nat) (β : Env) : Body Try.prog (tabOf tabSD) Try.f119 ⟨w, rw, 1, β⟩ [.o (.a (.p 0 0))] [some kb2] (fun ys K' => ys = [.a (.b true)] ∧ K' = [some kb2]) :=
 Body.of_finK (Γ := gam302) (Λ := noLam) (Ψ := noPsi) (fuel := 1) (m := 113) (c := (Try.f119.body.getD .skip)) mix tabOkSD gam302_ok rfl (rs := [.tmp 2]) rfl rfl [false, false, false] [] 1
  (vc := [(false = false), (false = false), (false = false)]) (by kernel_rfl)
  (aC rfl (aC rfl (aC rfl (AllP_nil))))

theorem bo11_body (w : World) (rw : List Nat) (β : Env) : Body Try.prog (tabOf tabSD) Try.f119 ⟨w, rw, 1, β⟩ [.o (.a (.p 0 0))] [some kb2] (fun ys K' => ys = [.a (.b true)] ∧ K' = [some kb2]) :=
 Body.lens (c := (Try.f119.body.getD .skip)) rfl fun h => bo11_body0  w rw β

theorem bo12_body0 (w : World) (rw : List Nat) (β : Env) : Body Try.prog (tabOf tabSD) Try.f120 ⟨w, rw, 1, β⟩ [.o (.a (.p 0 0))] [some kb2] (fun ys K' => ys = [.a (.b true)] ∧ K' = [some kb2]) :=
 Body.of_finK (Γ := gam302) (Λ := noLam) (Ψ := noPsi) (fuel := 1) (m := 113) (c := (Try.f120.body.getD .skip)) mix tabOkSD gam302_ok rfl (rs := [.tmp 2]) rfl rfl [false, false, false] [] 1
  (vc := [(false = false), (false = false), (false = false)]) (by kernel_rfl)
  (aC rfl (aC rfl (aC rfl (AllP_nil))))

theorem bo12_body (w : World) (rw : List Nat) (β : Env) : Body Try.prog (tabOf tabSD) Try.f120 ⟨w, rw, 1, β⟩ [.o (.a (.p 0 0))] [some kb2] (fun ys K' => ys = [.a (.b true)] ∧ K' = [some kb2]) :=
 Body.lens (c := (Try.f120.body.getD .skip)) rfl fun h => bo12_body0  w rw β

theorem bo13_body0 (w : World) (rw : List Nat) (β : Env) : Body Try.prog (tabOf tabSD) Try.f121 ⟨w, rw, 1, β⟩ [.o (.a (.p 0 0))] [some kb2] (fun ys K' => ys = [.a (.b true)] ∧ K' = [some kb2]) :=
 Body.of_finK (Γ := gam302) (Λ := noLam) (Ψ := noPsi) (fuel := 1) (m := 113) (c := (Try.f121.body.getD .skip)) mix tabOkSD gam302_ok rfl (rs := [.tmp 2]) rfl rfl [false, false, false] [] 1
  (vc := [(false = false), (false = false), (false = false)]) (by kernel_rfl)
  (aC rfl (aC rfl (aC rfl (AllP_nil))))

theorem bo13_body (w : World) (rw : List Nat) (β : Env) : Body Try.prog (tabOf tabSD) Try.f121 ⟨w, rw, 1, β⟩ [.o (.a (.p 0 0))] [some kb2] (fun ys K' => ys = [.a (.b true)] ∧ K' = [some kb2]) :=
 Body.lens (c := (Try.f121.body.getD .skip)) rfl fun h => bo13_body0  w rw β

theorem bo14_body0 (w : World) (rw : List Nat) (β : Env) : Body Try.prog (tabOf tabSD) Try.f122 ⟨w, rw, 1, β⟩ [.o (.a (.p 0 0))] [some kb2] (fun ys K' => ys = [.a (.b true)] ∧ K' = [some kb2]) :=
 Body.of_finK (Γ := gam302) (Λ := noLam) (Ψ := noPsi) (fuel := 1) (m := 113) (c := (Try.f122.body.getD .skip)) mix tabOkSD gam302_ok rfl (rs := [.tmp 2]) rfl rfl [false, false, false] [] 1
  (vc := [(false = false), (false = false), (false = false)]) (by kernel_rfl)
  (aC rfl (aC rfl (aC rfl (AllP_nil))))

theorem bo14_body (w : World) (rw : List Nat) (β : Env) : Body Try.prog (tabOf tabSD) Try.f122 ⟨w, rw, 1, β⟩ [.o (.a (.p 0 0))] [some kb2] (fun ys K' => ys = [.a (.b true)] ∧ K' = [some kb2]) :=
 Body.lens (c := (Try.f122.body.getD .skip)) rfl fun h => bo14_body0  w rw β

theorem bo15_body0 (w : World) (rw : List Nat) (β : Env) : Body Try.prog (tabOf tabSD) Try.f123 ⟨w, rw, 1, β⟩ [.o (.a (.p 0 0))] [some kb2] (fun ys K' => ys = [.a (.b true)] ∧ K' = [some kb2]) :=
 Body.of_finK (Γ := gam302) (Λ := noLam) (Ψ := noPsi) (fuel := 1) (m := 116) (c := (Try.f123.body.getD .skip)) mix tabOkSD gam302_ok rfl (rs := [.tmp 2]) rfl rfl [false, false, false] [] 1
  (vc := [(false = false), (false = false), (false = false)]) (by kernel_rfl)
  (aC rfl (aC rfl (aC rfl (AllP_nil))))

theorem bo15_body (w : World) (rw : List Nat) (β : Env) : Body Try.prog (tabOf tabSD) Try.f123 ⟨w, rw, 1, β⟩ [.o (.a (.p 0 0))] [some kb2] (fun ys K' => ys = [.a (.b true)] ∧ K' = [some kb2]) :=
 Body.lens (c := (Try.f123.body.getD .skip)) rfl fun h => bo15_body0  w rw β

theorem bo16_body0 (w : World) (rw : List Nat) (β : Env) : Body Try.prog (tabOf tabSD) Try.f124 ⟨w, rw, 1, β⟩ [.o (.a (.p 0 0))] [some kb2] (fun ys K' => ys = [.a (.b true)] ∧ K' = [some kb2]) :=
 Body.of_finK (Γ := gam302) (Λ := noLam) (Ψ := noPsi) (fuel := 1) (m := 116) (c := (Try.f124.body.getD .skip)) mix tabOkSD gam302_ok rfl (rs := [.tmp 2]) rfl rfl [false, false, false] [] 1
  (vc := [(false = false), (false = false), (false = false)]) (by kernel_rfl)
  (aC rfl (aC rfl (aC rfl (AllP_nil))))

theorem bo16_body (w : World) (rw : List Nat) (β : Env) : Body Try.prog (tabOf tabSD) Try.f124 ⟨w, rw, 1, β⟩ [.o (.a (.p 0 0))] [some kb2] (fun ys K' => ys = [.a (.b true)] ∧ K' = [some kb2]) :=
 Body.lens (c := (Try.f124.body.getD .skip)) rfl fun h => bo16_body0  w rw β

theorem bo17_body0 (w : World) (rw : List Nat) (β : Env) : Body Try.prog (tabOf tabSD) Try.f125 ⟨w, rw, 1, β⟩ [.o (.a (.p 0 0))] [some kb2] (fun ys K' => ys = [.a (.b true)] ∧ K' = [some kb2]) :=
 Body.of_finK (Γ := gam302) (Λ := noLam) (Ψ := noPsi) (fuel := 1) (m := 116) (c := (Try.f125.body.getD .skip)) mix tabOkSD gam302_ok rfl (rs := [.tmp 2]) rfl rfl [false, false, false] [] 1
  (vc := [(false = false), (false = false), (false = false)]) (by kernel_rfl)
  (aC rfl (aC rfl (aC rfl (AllP_nil))))

theorem bo17_body (w : World) (rw : List Nat) (β : Env) : Body Try.prog (tabOf tabSD) Try.f125 ⟨w, rw, 1, β⟩ [.o (.a (.p 0 0))] [some kb2] (fun ys K' => ys = [.a (.b true)] ∧ K' = [some kb2]) :=
 Body.lens (c := (Try.f125.body.getD .skip)) rfl fun h => bo17_body0  w rw β

theorem bo18_body0 (w : World) (rw : List Nat) (β : Env) : Body Try.prog (tabOf tabSD) Try.f126 ⟨w, rw, 1, β⟩ [.o (.a (.p 0 0))] [some kb2] (fun ys K' => ys = [.a (.b true)] ∧ K' = [some kb2]) :=
 Body.of_finK (Γ := gam302) (Λ := noLam) (Ψ := noPsi) (fuel := 1) (m := 116) (c := (Try.f126.body.getD .skip)) mix tabOkSD gam302_ok rfl (rs := [.tmp 2]) rfl rfl [false, false, false] [] 1
  (vc := [(false = false), (false = false), (false = false)]) (by kernel_rfl)
  (aC rfl (aC rfl (aC rfl (AllP_nil))))

theorem bo18_body (w : World) (rw : List Nat) (β : Env) : Body Try.prog (tabOf tabSD) Try.f126 ⟨w, rw, 1, β⟩ [.o (.a (.p 0 0))] [some kb2] (fun ys K' => ys = [.a (.b true)] ∧ K' = [some kb2]) :=
 Body.lens (c := (Try.f126.body.getD .skip)) rfl fun h => bo18_body0  w rw β

theorem bo19_body0 (w : World) (rw : List Nat) (β : Env) : Body Try.prog (tabOf tabSD) Try.f127 ⟨w, rw, 1, β⟩ [.o (.a (.p 0 0))] [some kb2] (fun ys K' => ys = [.a (.b true)] ∧ K' = [some kb2]) :=
 Body.of_finK (Γ := gam302) (Λ := noLam) (Ψ := noPsi) (fuel := 1) (m := 116) (c := (Try.f127.body.getD .skip)) mix tabOkSD gam302_ok rfl (rs := [.tmp 2]) rfl rfl [false, false, false] [] 1
  (vc := [(false = false), (false = false), (false = false)]) (by kernel_rfl)
  (aC rfl (aC rfl (aC rfl (AllP_nil))))

theorem bo19_body (w : World) (rw : List Nat) (β : Env) : Body Try.prog (tabOf tabSD) Try.f127 ⟨w, rw, 1, β⟩ [.o (.a (.p 0 0))] [some kb2] (fun ys K' => ys = [.a (.b true)] ∧ K' = [some kb2]) :=
 Body.lens (c := (Try.f127.body.getD .skip)) rfl fun h => bo19_body0  w rw β

theorem bo20_body0 (w : World) (rw : List Nat) (β : Env) : Body Try.prog (tabOf tabSD) Try.f128 ⟨w, rw, 1, β⟩ [.o (.a (.p 0 0))] [some kb2] (fun ys K' => ys = [.a (.b true)] ∧ K' = [some kb2]) :=
 Body.of_finK (Γ := gam302) (Λ := noLam) (Ψ := noPsi) (fuel := 1) (m := 116) (c := (Try.f128.body.getD .skip)) mix tabOkSD gam302_ok rfl (rs := [.tmp 2]) rfl rfl [false, false, false] [] 1
  (vc := [(false = false), (false = false), (false = false)]) (by kernel_rfl)
  (aC rfl (aC rfl (aC rfl (AllP_nil))))

theorem bo20_body (w : World) (rw : List Nat) (β : Env) : Body Try.prog (tabOf tabSD) Try.f128 ⟨w, rw, 1, β⟩ [.o (.a (.p 0 0))] [some kb2] (fun ys K' => ys = [.a (.b true)] ∧ K' = [some kb2]) :=
 Body.lens (c := (Try.f128.body.getD .skip)) rfl fun h => bo20_body0  w rw β

theorem bo4_body0 (w : World) (rw : List Nat) (β : Env) : Body Try.prog (tabOf tabSD) Try.f112 ⟨w, rw, 1, β⟩ [.o (.a (.p 0 0))] [bF [nlA, .unk, nlA, nlA, nlA, nlA, nlA, nlA, nlA, nlA, nlA, nlA, nlA, nlA, nlA, nlA, nlA, nlA, nlA, nlA, nlA]] (fun ys K' => ys = [.a (.b true)] ∧ K' = [bF [nlA, .unk, nlA, nlA, nlA, nlA, nlA, nlA, nlA, nlA, nlA, nlA, nlA, nlA, nlA, nlA, nlA, nlA, nlA, nlA, nlA]]) :=
 Body.of_finK (Γ := gam302) (Λ := noLam) (Ψ := noPsi) (fuel := 1) (m := 113) (c := (Try.f112.body.getD .skip)) mix tabOkSD gam302_ok rfl (rs := [.tmp 2]) rfl rfl [false, false, false] [] 1
  (vc := [(false = false), (false = false), (false = false)]) (by kernel_rfl)
  (aC rfl (aC rfl (aC rfl (AllP_nil))))

theorem bo4_body (w : World) (rw : List Nat) (β : Env) : Body Try.prog (tabOf tabSD) Try.f112 ⟨w, rw, 1, β⟩ [.o (.a (.p 0 0))] [bF [nlA, .unk, nlA, nlA, nlA, nlA, nlA, nlA, nlA, nlA, nlA, nlA, nlA, nlA, nlA, nlA, nlA, nlA, nlA, nlA, nlA]] (fun ys K' => ys = [.a (.b true)] ∧ K' = [bF [nlA, .unk, nlA, nlA, nlA, nlA, nlA, nlA, nlA, nlA, nlA, nlA, nlA, nlA, nlA, nlA, nlA, nlA, nlA, nlA, nlA]]) :=
 Body.lens (c := (Try.f112.body.getD .skip)) rfl fun h => bo4_body0  w rw β

end Go.Proofs.Ytcpoldghkiiggaa.X

/- Printed by a tool of this session. -/
namespace Go.Proofs.Ytcpoldghkiiggaa.X
open Go Go.Proofs
set_option linter.unusedVariables false
set_option linter.unusedSimpArgs false
set_option maxRecDepth 100000
set_option maxHeartbeats 8000000
theorem teSB_81 : TEOk Try.prog 81 ⟨.slice 3, 1, 24, [.raw (.slice none 0 0)], false⟩ :=
 TEOk.of Try.underlying81 (i := Try.t81) (by kernel_rfl) rfl rfl rfl (by kernel_rfl) (fun h => by cases h) (by kernel_rfl)
noncomputable def tabSB : List (Nat × TE) := [(3, ⟨.int .i64, 1, 8, [.i .i64 0], false⟩), (27, ⟨.slice 81, 1, 24, [nlA], false⟩), (81, ⟨.slice 3, 1, 24, [nlA], false⟩), (97, ⟨Try.t96.desc, 21, 504, [nlA, nlA, nlA, nlA, nlA, nlA, nlA, nlA, nlA, nlA, nlA, nlA, nlA, nlA, nlA, nlA, nlA, nlA, nlA, nlA, nlA], false⟩)]
theorem tabOkSB : TabOk Try.prog (tabOf tabSB) := (tabOf_cons teQJ_3 (tabOf_cons teQJ_27 (tabOf_cons teSB_81 (tabOf_cons teSD_97 tabOf_nil))))

def biM0_mk (L0 L1 L2 L3 : List Int) (k : Nat) (s : Unit) : St := ⟨sparse 113 [(0, .o (.a (.p 0 0))), (2, .o (.a (.b false))), (3, .o (.a (.rs 1 0 4 1))), (4, .o (.a (.i .i64 0))), (5, .o (.a (.i .i64 (k : Int))))], [some kb3, some kb1, bT [.ints .i64 64 (mkQ L0 (0 : Int) k)], bT [.ints .i64 256 L1], bT [.ints .i64 64 L2], bT [.ints .i64 256 L3]]⟩

theorem biM0_round (L0 L1 L2 L3 : List Int) (hl2_0 : L0.length = 64) (hl3_0 : L1.length = 256) (hl4_0 : L2.length = 64) (hl5_0 : L3.length = 256) (w : World) (rw : List Nat) (β : Env) (k : Nat) (hk : k < 64) (s : Unit) : Run Try.prog ⟨w, rw, 6, β⟩ (loopB Try.f109 2) (biM0_mk L0 L1 L2 L3 k s) (To ⟨w, rw, 6, β⟩ .normal (biM0_mk L0 L1 L2 L3 (k + 1) (moL_step k s))) := by
 have e0 : (List.set (mkQ L0 (0 : Int) k) k (mkIn (0 : Int) ((k : Nat) : Int))) = (mkQ L0 (0 : Int) (k + (1 : Nat))) := (by first | exact wrap_succ (by omega) | exact mkQ_step (by first | omega | (rw [hl2_0])) (by omega) | exact mkQ_step hl2_0 (by omega))
 have e1 := wrap_succ (n := k) (by omega)
 have h := Run.of_outT (B := ⟨w, rw, 6, β⟩) (Λ := noLam) (Ψ := noPsi) (fuel := 0) (ora := [true]) (c := (loopB Try.f109 2)) (st := (biM0_mk L0 L1 L2 L3 k s)) (l := [.forget [0, 2, 3, 4, 5] 6]) (s' := ⟨sparse 113 [(0, .o (.a (.p 0 0))), (2, .o (.a (.b false))), (3, .o (.a (.rs 1 0 4 1))), (4, .o (.a (.i .i64 0))), (5, .o (.a (.i .i64 (IntKind.i64.wrap ((k : Int) + 1)))))], [some kb3, some kb1, bT [.ints .i64 64 (List.set (mkQ L0 (0 : Int) k) k (mkIn 0 (k : Int)))], bT [.ints .i64 256 L1], bT [.ints .i64 64 L2], bT [.ints .i64 256 L3]]⟩) (ex := .normal) mix tabOkSB gam302_ok
  (vc := [(k < 64), ((0 ≤ (k : Int)) ∧ ((k : Int) < 64)), (cI 0 4), ((decide ((k : Int) < 64)) = true), (cI 0 4)]) (by kernel_rfl)
  (aC (by omega) (aC ⟨(by omega), (by omega)⟩ (aC ⟨(by decide), (by decide)⟩ (aC (decide_eq_true (by omega)) (aC ⟨(by decide), (by decide)⟩ (AllP_nil))))))
 rw [e0, e1] at h
 exact h

theorem biM0_last (L0 L1 L2 L3 : List Int) (hl2_0 : L0.length = 64) (hl3_0 : L1.length = 256) (hl4_0 : L2.length = 64) (hl5_0 : L3.length = 256) (w : World) (rw : List Nat) (β : Env) (s : Unit) : Run Try.prog ⟨w, rw, 6, β⟩ (loopB Try.f109 2) (biM0_mk L0 L1 L2 L3 64 s) (To ⟨w, rw, 6, β⟩ (.exit 2) (biM0_mk L0 L1 L2 L3 64 s)) :=
 Run.of_outT (Λ := noLam) (Ψ := noPsi) (fuel := 0) (ora := [false]) (l := [.forget [0, 2, 3, 4, 5] 6]) mix tabOkSB gam302_ok
  (vc := [(false = false), (((0 : Int) ≤ 0) ∧ ((0 : Int) < 4))]) (by kernel_rfl)
  (aC rfl (aC ⟨(by decide), (by decide)⟩ (AllP_nil)))

theorem biM0_loop (L0 L1 L2 L3 : List Int) (hl2_0 : L0.length = 64) (hl3_0 : L1.length = 256) (hl4_0 : L2.length = 64) (hl5_0 : L3.length = 256) (w : World) (rw : List Nat) (β : Env) (s : Unit) : Run Try.prog ⟨w, rw, 6, β⟩ (.block 2 (.loop (loopB Try.f109 2))) (biM0_mk L0 L1 L2 L3 0 s) (To ⟨w, rw, 6, β⟩ .normal (biM0_mk L0 L1 L2 L3 64 (iter (moL_step) 64 s))) :=
 Run.count (fun k => biM0_mk L0 L1 L2 L3 k (iter (moL_step) k s)) 64 (fun k hk => biM0_round L0 L1 L2 L3 hl2_0 hl3_0 hl4_0 hl5_0 w rw β k hk _) (ex := (.exit 2)) (by simp) (biM0_last L0 L1 L2 L3 hl2_0 hl3_0 hl4_0 hl5_0 w rw β _)

def biM1_mk (L0 L1 L2 L3 : List Int) (k : Nat) (s : Unit) : St := ⟨sparse 113 [(0, .o (.a (.p 0 0))), (2, .o (.a (.b false))), (3, .o (.a (.rs 1 0 4 1))), (4, .o (.a (.i .i64 1))), (5, .o (.a (.i .i64 (k : Int))))], [some kb3, some kb1, bT [.ints .i64 64 (mkQ L0 (0 : Int) 64)], bT [.ints .i64 256 (mkQ L1 (1 : Int) k)], bT [.ints .i64 64 L2], bT [.ints .i64 256 L3]]⟩

theorem biM1_round (L0 L1 L2 L3 : List Int) (hl2_0 : L0.length = 64) (hl3_0 : L1.length = 256) (hl4_0 : L2.length = 64) (hl5_0 : L3.length = 256) (w : World) (rw : List Nat) (β : Env) (k : Nat) (hk : k < 256) (s : Unit) : Run Try.prog ⟨w, rw, 6, β⟩ (loopB Try.f109 2) (biM1_mk L0 L1 L2 L3 k s) (To ⟨w, rw, 6, β⟩ .normal (biM1_mk L0 L1 L2 L3 (k + 1) (moL_step k s))) := by
 have e0 : (List.set (mkQ L1 (1 : Int) k) k (mkIn (1 : Int) ((k : Nat) : Int))) = (mkQ L1 (1 : Int) (k + (1 : Nat))) := (by first | exact wrap_succ (by omega) | exact mkQ_step (by first | omega | (rw [hl3_0])) (by omega) | exact mkQ_step hl3_0 (by omega))
 have e1 := wrap_succ (n := k) (by omega)
 have h := Run.of_outT (B := ⟨w, rw, 6, β⟩) (Λ := noLam) (Ψ := noPsi) (fuel := 0) (ora := [true]) (c := (loopB Try.f109 2)) (st := (biM1_mk L0 L1 L2 L3 k s)) (l := [.forget [0, 2, 3, 4, 5] 6]) (s' := ⟨sparse 113 [(0, .o (.a (.p 0 0))), (2, .o (.a (.b false))), (3, .o (.a (.rs 1 0 4 1))), (4, .o (.a (.i .i64 1))), (5, .o (.a (.i .i64 (IntKind.i64.wrap ((k : Int) + 1)))))], [some kb3, some kb1, bT [.ints .i64 64 (mkQ L0 (0 : Int) 64)], bT [.ints .i64 256 (List.set (mkQ L1 (1 : Int) k) k (mkIn 1 (k : Int)))], bT [.ints .i64 64 L2], bT [.ints .i64 256 L3]]⟩) (ex := .normal) mix tabOkSB gam302_ok
  (vc := [(k < 256), ((0 ≤ (k : Int)) ∧ ((k : Int) < 256)), (cI 1 4), ((decide ((k : Int) < 256)) = true), (cI 1 4)]) (by kernel_rfl)
  (aC (by omega) (aC ⟨(by omega), (by omega)⟩ (aC ⟨(by decide), (by decide)⟩ (aC (decide_eq_true (by omega)) (aC ⟨(by decide), (by decide)⟩ (AllP_nil))))))
 rw [e0, e1] at h
 exact h

theorem biM1_last (L0 L1 L2 L3 : List Int) (hl2_0 : L0.length = 64) (hl3_0 : L1.length = 256) (hl4_0 : L2.length = 64) (hl5_0 : L3.length = 256) (w : World) (rw : List Nat) (β : Env) (s : Unit) : Run Try.prog ⟨w, rw, 6, β⟩ (loopB Try.f109 2) (biM1_mk L0 L1 L2 L3 256 s) (To ⟨w, rw, 6, β⟩ (.exit 2) (biM1_mk L0 L1 L2 L3 256 s)) :=
 Run.of_outT (Λ := noLam) (Ψ := noPsi) (fuel := 0) (ora := [false]) (l := [.forget [0, 2, 3, 4, 5] 6]) mix tabOkSB gam302_ok
  (vc := [(false = false), (((0 : Int) ≤ 1) ∧ ((1 : Int) < 4))]) (by kernel_rfl)
  (aC rfl (aC ⟨(by decide), (by decide)⟩ (AllP_nil)))

theorem biM1_loop (L0 L1 L2 L3 : List Int) (hl2_0 : L0.length = 64) (hl3_0 : L1.length = 256) (hl4_0 : L2.length = 64) (hl5_0 : L3.length = 256) (w : World) (rw : List Nat) (β : Env) (s : Unit) : Run Try.prog ⟨w, rw, 6, β⟩ (.block 2 (.loop (loopB Try.f109 2))) (biM1_mk L0 L1 L2 L3 0 s) (To ⟨w, rw, 6, β⟩ .normal (biM1_mk L0 L1 L2 L3 256 (iter (moL_step) 256 s))) :=
 Run.count (fun k => biM1_mk L0 L1 L2 L3 k (iter (moL_step) k s)) 256 (fun k hk => biM1_round L0 L1 L2 L3 hl2_0 hl3_0 hl4_0 hl5_0 w rw β k hk _) (ex := (.exit 2)) (by simp) (biM1_last L0 L1 L2 L3 hl2_0 hl3_0 hl4_0 hl5_0 w rw β _)

def biM2_mk (L0 L1 L2 L3 : List Int) (k : Nat) (s : Unit) : St := ⟨sparse 113 [(0, .o (.a (.p 0 0))), (2, .o (.a (.b false))), (3, .o (.a (.rs 1 0 4 1))), (4, .o (.a (.i .i64 2))), (5, .o (.a (.i .i64 (k : Int))))], [some kb3, some kb1, bT [.ints .i64 64 (mkQ L0 (0 : Int) 64)], bT [.ints .i64 256 (mkQ L1 (1 : Int) 256)], bT [.ints .i64 64 (mkQ L2 (2 : Int) k)], bT [.ints .i64 256 L3]]⟩

theorem biM2_round (L0 L1 L2 L3 : List Int) (hl2_0 : L0.length = 64) (hl3_0 : L1.length = 256) (hl4_0 : L2.length = 64) (hl5_0 : L3.length = 256) (w : World) (rw : List Nat) (β : Env) (k : Nat) (hk : k < 64) (s : Unit) : Run Try.prog ⟨w, rw, 6, β⟩ (loopB Try.f109 2) (biM2_mk L0 L1 L2 L3 k s) (To ⟨w, rw, 6, β⟩ .normal (biM2_mk L0 L1 L2 L3 (k + 1) (moL_step k s))) := by
 have e0 : (List.set (mkQ L2 (2 : Int) k) k (mkIn (2 : Int) ((k : Nat) : Int))) = (mkQ L2 (2 : Int) (k + (1 : Nat))) := (by first | exact wrap_succ (by omega) | exact mkQ_step (by first | omega | (rw [hl4_0])) (by omega) | exact mkQ_step hl4_0 (by omega))
 have e1 := wrap_succ (n := k) (by omega)
 have h := Run.of_outT (B := ⟨w, rw, 6, β⟩) (Λ := noLam) (Ψ := noPsi) (fuel := 0) (ora := [true]) (c := (loopB Try.f109 2)) (st := (biM2_mk L0 L1 L2 L3 k s)) (l := [.forget [0, 2, 3, 4, 5] 6]) (s' := ⟨sparse 113 [(0, .o (.a (.p 0 0))), (2, .o (.a (.b false))), (3, .o (.a (.rs 1 0 4 1))), (4, .o (.a (.i .i64 2))), (5, .o (.a (.i .i64 (IntKind.i64.wrap ((k : Int) + 1)))))], [some kb3, some kb1, bT [.ints .i64 64 (mkQ L0 (0 : Int) 64)], bT [.ints .i64 256 (mkQ L1 (1 : Int) 256)], bT [.ints .i64 64 (List.set (mkQ L2 (2 : Int) k) k (mkIn 2 (k : Int)))], bT [.ints .i64 256 L3]]⟩) (ex := .normal) mix tabOkSB gam302_ok
  (vc := [(k < 64), ((0 ≤ (k : Int)) ∧ ((k : Int) < 64)), (cI 2 4), ((decide ((k : Int) < 64)) = true), (cI 2 4)]) (by kernel_rfl)
  (aC (by omega) (aC ⟨(by omega), (by omega)⟩ (aC ⟨(by decide), (by decide)⟩ (aC (decide_eq_true (by omega)) (aC ⟨(by decide), (by decide)⟩ (AllP_nil))))))
 rw [e0, e1] at h
 exact h

theorem biM2_last (L0 L1 L2 L3 : List Int) (hl2_0 : L0.length = 64) (hl3_0 : L1.length = 256) (hl4_0 : L2.length = 64) (hl5_0 : L3.length = 256) (w : World) (rw : List Nat) (β : Env) (s : Unit) : Run Try.prog ⟨w, rw, 6, β⟩ (loopB Try.f109 2) (biM2_mk L0 L1 L2 L3 64 s) (To ⟨w, rw, 6, β⟩ (.exit 2) (biM2_mk L0 L1 L2 L3 64 s)) :=
 Run.of_outT (Λ := noLam) (Ψ := noPsi) (fuel := 0) (ora := [false]) (l := [.forget [0, 2, 3, 4, 5] 6]) mix tabOkSB gam302_ok
  (vc := [(false = false), (((0 : Int) ≤ 2) ∧ ((2 : Int) < 4))]) (by kernel_rfl)
  (aC rfl (aC ⟨(by decide), (by decide)⟩ (AllP_nil)))

theorem biM2_loop (L0 L1 L2 L3 : List Int) (hl2_0 : L0.length = 64) (hl3_0 : L1.length = 256) (hl4_0 : L2.length = 64) (hl5_0 : L3.length = 256) (w : World) (rw : List Nat) (β : Env) (s : Unit) : Run Try.prog ⟨w, rw, 6, β⟩ (.block 2 (.loop (loopB Try.f109 2))) (biM2_mk L0 L1 L2 L3 0 s) (To ⟨w, rw, 6, β⟩ .normal (biM2_mk L0 L1 L2 L3 64 (iter (moL_step) 64 s))) :=
 Run.count (fun k => biM2_mk L0 L1 L2 L3 k (iter (moL_step) k s)) 64 (fun k hk => biM2_round L0 L1 L2 L3 hl2_0 hl3_0 hl4_0 hl5_0 w rw β k hk _) (ex := (.exit 2)) (by simp) (biM2_last L0 L1 L2 L3 hl2_0 hl3_0 hl4_0 hl5_0 w rw β _)

def biM3_mk (L0 L1 L2 L3 : List Int) (k : Nat) (s : Unit) : St := ⟨sparse 113 [(0, .o (.a (.p 0 0))), (2, .o (.a (.b false))), (3, .o (.a (.rs 1 0 4 1))), (4, .o (.a (.i .i64 3))), (5, .o (.a (.i .i64 (k : Int))))], [some kb3, some kb1, bT [.ints .i64 64 (mkQ L0 (0 : Int) 64)], bT [.ints .i64 256 (mkQ L1 (1 : Int) 256)], bT [.ints .i64 64 (mkQ L2 (2 : Int) 64)], bT [.ints .i64 256 (mkQ L3 (3 : Int) k)]]⟩

theorem biM3_round (L0 L1 L2 L3 : List Int) (hl2_0 : L0.length = 64) (hl3_0 : L1.length = 256) (hl4_0 : L2.length = 64) (hl5_0 : L3.length = 256) (w : World) (rw : List Nat) (β : Env) (k : Nat) (hk : k < 256) (s : Unit) : Run Try.prog ⟨w, rw, 6, β⟩ (loopB Try.f109 2) (biM3_mk L0 L1 L2 L3 k s) (To ⟨w, rw, 6, β⟩ .normal (biM3_mk L0 L1 L2 L3 (k + 1) (moL_step k s))) := by
 have e0 : (List.set (mkQ L3 (3 : Int) k) k (mkIn (3 : Int) ((k : Nat) : Int))) = (mkQ L3 (3 : Int) (k + (1 : Nat))) := (by first | exact wrap_succ (by omega) | exact mkQ_step (by first | omega | (rw [hl5_0])) (by omega) | exact mkQ_step hl5_0 (by omega))
 have e1 := wrap_succ (n := k) (by omega)
 have h := Run.of_outT (B := ⟨w, rw, 6, β⟩) (Λ := noLam) (Ψ := noPsi) (fuel := 0) (ora := [true]) (c := (loopB Try.f109 2)) (st := (biM3_mk L0 L1 L2 L3 k s)) (l := [.forget [0, 2, 3, 4, 5] 6]) (s' := ⟨sparse 113 [(0, .o (.a (.p 0 0))), (2, .o (.a (.b false))), (3, .o (.a (.rs 1 0 4 1))), (4, .o (.a (.i .i64 3))), (5, .o (.a (.i .i64 (IntKind.i64.wrap ((k : Int) + 1)))))], [some kb3, some kb1, bT [.ints .i64 64 (mkQ L0 (0 : Int) 64)], bT [.ints .i64 256 (mkQ L1 (1 : Int) 256)], bT [.ints .i64 64 (mkQ L2 (2 : Int) 64)], bT [.ints .i64 256 (List.set (mkQ L3 (3 : Int) k) k (mkIn 3 (k : Int)))]]⟩) (ex := .normal) mix tabOkSB gam302_ok
  (vc := [(k < 256), ((0 ≤ (k : Int)) ∧ ((k : Int) < 256)), (cI 3 4), ((decide ((k : Int) < 256)) = true), (cI 3 4)]) (by kernel_rfl)
  (aC (by omega) (aC ⟨(by omega), (by omega)⟩ (aC ⟨(by decide), (by decide)⟩ (aC (decide_eq_true (by omega)) (aC ⟨(by decide), (by decide)⟩ (AllP_nil))))))
 rw [e0, e1] at h
 exact h

theorem biM3_last (L0 L1 L2 L3 : List Int) (hl2_0 : L0.length = 64) (hl3_0 : L1.length = 256) (hl4_0 : L2.length = 64) (hl5_0 : L3.length = 256) (w : World) (rw : List Nat) (β : Env) (s : Unit) : Run Try.prog ⟨w, rw, 6, β⟩ (loopB Try.f109 2) (biM3_mk L0 L1 L2 L3 256 s) (To ⟨w, rw, 6, β⟩ (.exit 2) (biM3_mk L0 L1 L2 L3 256 s)) :=
 Run.of_outT (Λ := noLam) (Ψ := noPsi) (fuel := 0) (ora := [false]) (l := [.forget [0, 2, 3, 4, 5] 6]) mix tabOkSB gam302_ok
  (vc := [(false = false), (((0 : Int) ≤ 3) ∧ ((3 : Int) < 4))]) (by kernel_rfl)
  (aC rfl (aC ⟨(by decide), (by decide)⟩ (AllP_nil)))

theorem biM3_loop (L0 L1 L2 L3 : List Int) (hl2_0 : L0.length = 64) (hl3_0 : L1.length = 256) (hl4_0 : L2.length = 64) (hl5_0 : L3.length = 256) (w : World) (rw : List Nat) (β : Env) (s : Unit) : Run Try.prog ⟨w, rw, 6, β⟩ (.block 2 (.loop (loopB Try.f109 2))) (biM3_mk L0 L1 L2 L3 0 s) (To ⟨w, rw, 6, β⟩ .normal (biM3_mk L0 L1 L2 L3 256 (iter (moL_step) 256 s))) :=
 Run.count (fun k => biM3_mk L0 L1 L2 L3 k (iter (moL_step) k s)) 256 (fun k hk => biM3_round L0 L1 L2 L3 hl2_0 hl3_0 hl4_0 hl5_0 w rw β k hk _) (ex := (.exit 2)) (by simp) (biM3_last L0 L1 L2 L3 hl2_0 hl3_0 hl4_0 hl5_0 w rw β _)

def biG0_mkA (L0 L1 L2 L3 : List Int) (cap : Nat) (J : List Value) (k : Nat) : St := ⟨sparse 113 [(0, .o (.a (.p 0 0))), (3, .o (.a (.rs 1 0 4 1))), (4, .o (.a (.i .i64 4))), (5, .o (.a (.i .i64 256))), (6, .o (.a nlA)), (7, .o (.a (.i .i64 0))), (8, .o (.a (.sl 2 0 (64 + k) cap))), (9, .o (.a (.i .i64 (k : Int))))], [some kb3, some kb1, bT [.ints .i64 (64 + k) (rwI 0 (64 + k)), .vals (cap - (64 + k)) (List.drop k J)], bT [.ints .i64 256 (rwI 1 256)], bT [.ints .i64 64 (rwI 2 64)], bT [.ints .i64 256 (rwI 3 256)]]⟩

def biG0_mkB (L0 L1 L2 L3 : List Int) (k : Nat) : St := ⟨sparse 113 [(0, .o (.a (.p 0 0))), (3, .o (.a (.rs 1 0 4 1))), (4, .o (.a (.i .i64 4))), (5, .o (.a (.i .i64 256))), (6, .o (.a nlA)), (7, .o (.a (.i .i64 0))), (8, .o (.a (.rs 6 0 (64 + k) 1))), (9, .o (.a (.i .i64 (k : Int))))], [some kb3, some kb1, bF [.ints .i64 64 (rwI 0 64)], bT [.ints .i64 256 (rwI 1 256)], bT [.ints .i64 64 (rwI 2 64)], bT [.ints .i64 256 (rwI 3 256)], bT [.ints .i64 (64 + k) (rwI 0 (64 + k))]]⟩

def biG0_mkF (L0 L1 L2 L3 : List Int) : St := ⟨sparse 113 [(0, .o (.a (.p 0 0))), (3, .o (.a (.rs 1 0 4 1))), (4, .o (.a (.i .i64 4))), (5, .o (.a (.i .i64 256))), (6, .o (.a nlA)), (7, .o (.a (.i .i64 0))), (8, .o (.a (.rs 6 0 104 1))), (9, .o (.a (.i .i64 40)))], [some kb3, some kb1, bF [.ints .i64 64 (rwI 0 64)], bT [.ints .i64 256 (rwI 1 256)], bT [.ints .i64 64 (rwI 2 64)], bT [.ints .i64 256 (rwI 3 256)], bF [.ints .i64 104 (rwI 0 104)]]⟩

def biG0_mk0 (L0 L1 L2 L3 : List Int) : St := ⟨sparse 113 [(0, .o (.a (.p 0 0))), (3, .o (.a (.rs 1 0 4 1))), (4, .o (.a (.i .i64 4))), (5, .o (.a (.i .i64 256))), (6, .o (.a nlA)), (7, .o (.a (.i .i64 0))), (8, .o (.a (.rs 2 0 64 1))), (9, .o (.a (.i .i64 0)))], [some kb3, some kb1, bT [.ints .i64 64 (rwI 0 64)], bT [.ints .i64 256 (rwI 1 256)], bT [.ints .i64 64 (rwI 2 64)], bT [.ints .i64 256 (rwI 3 256)]]⟩

theorem biG0_rA (L0 L1 L2 L3 : List Int) (hl2_0 : L0.length = 64) (hl3_0 : L1.length = 256) (hl4_0 : L2.length = 64) (hl5_0 : L3.length = 256) (w : World) (rw : List Nat) (β : Env) (cap : Nat) (J : List Value) (k : Nat) (hk : k < 40) (hc : (64 + (k + 1)) ≤ cap) : Run Try.prog ⟨w, rw, 6, β⟩ (loopB Try.f109 6) (biG0_mkA L0 L1 L2 L3 cap J k) (To ⟨w, rw, 6, β⟩ .normal (biG0_mkA L0 L1 L2 L3 cap J (k + 1))) := by
 have e0 : ((rwI 0 (64 + k)) ++ ([(mkIn 0 (((64 + k) : Nat) : Int))] : List Int)) = (rwI 0 (64 + (k + 1))) := (by first | rfl | exact wrap_succ (by omega) | omega | exact rwI_grow _ _ | exact rwI_more _ _ | exact List.drop_drop | (rw [List.drop_drop]; congr 1; omega))
 have e1 := wrap_succ (n := k) (by omega)
 have e2 : ((cap - (64 + k)) - 1) = (cap - (64 + (k + 1))) := (by omega)
 have e3 : (List.drop (1 : Nat) (List.drop k J)) = (List.drop (k + (1 : Nat)) J) := (by first | rfl | exact wrap_succ (by omega) | omega | exact rwI_grow _ _ | exact rwI_more _ _ | exact List.drop_drop | (rw [List.drop_drop]; congr 1; omega))
 have e4 : ((64 + k) + 1) = (64 + (k + 1)) := (by omega)
 have h := Run.of_outT (B := ⟨w, rw, 6, β⟩) (Λ := noLam) (Ψ := noPsi) (fuel := 0) (ora := [true, true]) (c := (loopB Try.f109 6)) (st := (biG0_mkA L0 L1 L2 L3 cap J k)) (l := [.forget [0, 3, 4, 5, 6, 7, 8, 9] 6]) (s' := ⟨sparse 113 [(0, .o (.a (.p 0 0))), (3, .o (.a (.rs 1 0 4 1))), (4, .o (.a (.i .i64 4))), (5, .o (.a (.i .i64 256))), (6, .o (.a nlA)), (7, .o (.a (.i .i64 0))), (8, .o (.a (.sl 2 0 ((64 + k) + 1) cap))), (9, .o (.a (.i .i64 (IntKind.i64.wrap ((k : Int) + 1)))))], [some kb3, some kb1, bT [.ints .i64 ((64 + k) + 1) ((rwI 0 (64 + k)) ++ ([(mkIn 0 (((64 + k) : Nat) : Int))] : List Int)), .vals ((cap - (64 + k)) - 1) (List.drop 1 (List.drop k J))], bT [.ints .i64 256 (rwI 1 256)], bT [.ints .i64 64 (rwI 2 64)], bT [.ints .i64 256 (rwI 3 256)]]⟩) (ex := .normal) mix tabOkSB gam302_ok
  (vc := [(((1 ≤ 1) ∧ (1 ≤ 1)) ∧ (okP (some (((0 + (64 + k)) = (64 + k)) ∧ (1 ≤ (cap - (64 + k)))))) ∧ (((64 + k) + 1) ≤ cap)), ((decide ((k : Int) < 40)) = true)]) (by kernel_rfl)
  (aC ⟨⟨(by decide), (by decide)⟩, (show (((0 + (64 + k)) = (64 + k)) ∧ (1 ≤ (cap - (64 + k)))) from ⟨(by omega), (by omega)⟩), (by omega)⟩ (aC (decide_eq_true (by omega)) (AllP_nil)))
 rw [e0, e1, e2, e3, e4] at h
 exact h

def biG0_mkX (L0 L1 L2 L3 : List Int) (cap : Nat) (J : List Value) (k : Nat) : St := ⟨sparse 113 [(0, .o (.a (.p 0 0))), (3, .o (.a (.rs 1 0 4 1))), (4, .o (.a (.i .i64 4))), (5, .o (.a (.i .i64 256))), (6, .o (.a nlA)), (7, .o (.a (.i .i64 0))), (8, .o (.a (.rs 6 0 (64 + (k + 1)) 1))), (9, .o (.a (.i .i64 (((k + 1) : Nat) : Int))))], [some kb3, some kb1, bT [.ints .i64 (64 + k) (rwI 0 (64 + k)), .vals (cap - (64 + k)) (List.drop k J)], bT [.ints .i64 256 (rwI 1 256)], bT [.ints .i64 64 (rwI 2 64)], bT [.ints .i64 256 (rwI 3 256)], bT [.ints .i64 (64 + (k + 1)) (rwI 0 (64 + (k + 1)))]]⟩

theorem biG0_rX (L0 L1 L2 L3 : List Int) (hl2_0 : L0.length = 64) (hl3_0 : L1.length = 256) (hl4_0 : L2.length = 64) (hl5_0 : L3.length = 256) (w : World) (rw : List Nat) (β : Env) (cap : Nat) (J : List Value) (k : Nat) (hk : k < 40) (hc : cap < (64 + (k + 1))) : Run Try.prog ⟨w, rw, 6, β⟩ (loopB Try.f109 6) (biG0_mkA L0 L1 L2 L3 cap J k) (To ⟨w, rw, 6, β⟩ .normal (biG0_mkX L0 L1 L2 L3 cap J k)) := by
 have e0 : ((sub (rwI 0 (64 + k)) 0 (64 + k)) ++ ([(mkIn 0 (((64 + k) : Nat) : Int))] : List Int)) = (rwI 0 (64 + (k + 1))) := (by first | rfl | exact wrap_succ (by omega) | omega | exact rwI_grow _ _ | exact rwI_more _ _ | exact List.drop_drop | (rw [List.drop_drop]; congr 1; omega))
 have e1 := wrap_succ (n := k) (by omega)
 have e2 : ((64 + k) + 1) = (64 + (k + 1)) := (by omega)
 have h := Run.of_outT (B := ⟨w, rw, 6, β⟩) (Λ := noLam) (Ψ := noPsi) (fuel := 0) (ora := [true, false]) (c := (loopB Try.f109 6)) (st := (biG0_mkA L0 L1 L2 L3 cap J k)) (l := [.swap 6 7, .forget [0, 3, 4, 5, 6, 7, 8, 9] 7]) (s' := ⟨sparse 113 [(0, .o (.a (.p 0 0))), (3, .o (.a (.rs 1 0 4 1))), (4, .o (.a (.i .i64 4))), (5, .o (.a (.i .i64 256))), (6, .o (.a nlA)), (7, .o (.a (.i .i64 0))), (8, .o (.a (.rs 6 0 ((64 + k) + 1) 1))), (9, .o (.a (.i .i64 (IntKind.i64.wrap ((k : Int) + 1)))))], [some kb3, some kb1, bT [.ints .i64 (64 + k) (rwI 0 (64 + k)), .vals (cap - (64 + k)) (List.drop k J)], bT [.ints .i64 256 (rwI 1 256)], bT [.ints .i64 64 (rwI 2 64)], bT [.ints .i64 256 (rwI 3 256)], bT [.ints .i64 ((64 + k) + 1) ((sub (rwI 0 (64 + k)) 0 (64 + k)) ++ ([(mkIn 0 (((64 + k) : Nat) : Int))] : List Int))]]⟩) (ex := .normal) mix tabOkSB gam302_ok
  (vc := [(((0 + (64 + k)) ≤ (64 + k)) ∧ ((1 ≤ 1) ∧ (1 ≤ 1)) ∧ (cap < ((64 + k) + 1)) ∧ ((((64 + k) + 1) * 8) ≤ 140737488355328)), ((decide ((k : Int) < 40)) = true)]) (by kernel_rfl)
  (aC ⟨(by omega), ⟨(by decide), (by decide)⟩, (by omega), (by omega)⟩ (aC (decide_eq_true (by omega)) (AllP_nil)))
 rw [e0, e1, e2] at h
 exact h

theorem biG0_rB (L0 L1 L2 L3 : List Int) (hl2_0 : L0.length = 64) (hl3_0 : L1.length = 256) (hl4_0 : L2.length = 64) (hl5_0 : L3.length = 256) (w : World) (rw : List Nat) (β : Env) (k : Nat) (hk : k < 40) : Run Try.prog ⟨w, rw, 6, β⟩ (loopB Try.f109 6) (biG0_mkB L0 L1 L2 L3 k) (To ⟨w, rw, 6, β⟩ .normal (biG0_mkB L0 L1 L2 L3 (k + 1))) := by
 have e0 : ((sub (rwI 0 (64 + k)) 0 (64 + k)) ++ ([(mkIn 0 (((64 + k) : Nat) : Int))] : List Int)) = (rwI 0 (64 + (k + 1))) := (by first | rfl | exact wrap_succ (by omega) | omega | exact rwI_grow _ _ | exact rwI_more _ _ | exact List.drop_drop | (rw [List.drop_drop]; congr 1; omega))
 have e1 := wrap_succ (n := k) (by omega)
 have e2 : ((64 + k) + 1) = (64 + (k + 1)) := (by omega)
 have h := Run.of_outT (B := ⟨w, rw, 6, β⟩) (Λ := noLam) (Ψ := noPsi) (fuel := 0) (ora := [true, false]) (c := (loopB Try.f109 6)) (st := (biG0_mkB L0 L1 L2 L3 k)) (l := [.swap 6 8, .forget [0, 3, 4, 5, 6, 7, 8, 9] 7]) (s' := ⟨sparse 113 [(0, .o (.a (.p 0 0))), (3, .o (.a (.rs 1 0 4 1))), (4, .o (.a (.i .i64 4))), (5, .o (.a (.i .i64 256))), (6, .o (.a nlA)), (7, .o (.a (.i .i64 0))), (8, .o (.a (.rs 6 0 ((64 + k) + 1) 1))), (9, .o (.a (.i .i64 (IntKind.i64.wrap ((k : Int) + 1)))))], [some kb3, some kb1, bF [.ints .i64 64 (rwI 0 64)], bT [.ints .i64 256 (rwI 1 256)], bT [.ints .i64 64 (rwI 2 64)], bT [.ints .i64 256 (rwI 3 256)], bT [.ints .i64 ((64 + k) + 1) ((sub (rwI 0 (64 + k)) 0 (64 + k)) ++ ([(mkIn 0 (((64 + k) : Nat) : Int))] : List Int))]]⟩) (ex := .normal) mix tabOkSB gam302_ok
  (vc := [(((0 + (64 + k)) ≤ (64 + k)) ∧ ((1 ≤ 1) ∧ (1 ≤ 1)) ∧ ((((64 + k) + 1) * 8) ≤ 140737488355328)), ((decide ((k : Int) < 40)) = true)]) (by kernel_rfl)
  (aC ⟨(by omega), ⟨(by decide), (by decide)⟩, (by omega)⟩ (aC (decide_eq_true (by omega)) (AllP_nil)))
 rw [e0, e1, e2] at h
 exact h

theorem biG0_lA (L0 L1 L2 L3 : List Int) (hl2_0 : L0.length = 64) (hl3_0 : L1.length = 256) (hl4_0 : L2.length = 64) (hl5_0 : L3.length = 256) (w : World) (rw : List Nat) (β : Env) (cap : Nat) (J : List Value) : Run Try.prog ⟨w, rw, 6, β⟩ (loopB Try.f109 6) (biG0_mkA L0 L1 L2 L3 cap J 40) (To ⟨w, rw, 6, β⟩ (.exit 6) (biG0_mkA L0 L1 L2 L3 cap J 40)) := by
 have h := Run.of_outT (B := ⟨w, rw, 6, β⟩) (Λ := noLam) (Ψ := noPsi) (fuel := 0) (ora := [false]) (c := (loopB Try.f109 6)) (st := (biG0_mkA L0 L1 L2 L3 cap J 40)) (l := [.forget [0, 3, 4, 5, 6, 7, 8, 9] 6]) (s' := ⟨sparse 113 [(0, .o (.a (.p 0 0))), (3, .o (.a (.rs 1 0 4 1))), (4, .o (.a (.i .i64 4))), (5, .o (.a (.i .i64 256))), (6, .o (.a nlA)), (7, .o (.a (.i .i64 0))), (8, .o (.a (.sl 2 0 104 cap))), (9, .o (.a (.i .i64 40)))], [some kb3, some kb1, bT [.ints .i64 104 (rwI 0 104), .vals (cap - 104) (List.drop 40 J)], bT [.ints .i64 256 (rwI 1 256)], bT [.ints .i64 64 (rwI 2 64)], bT [.ints .i64 256 (rwI 3 256)]]⟩) (ex := (.exit 6)) mix tabOkSB gam302_ok
  (vc := [(false = false)]) (by kernel_rfl)
  (aC rfl (AllP_nil))
 exact h

theorem biG0_lB (L0 L1 L2 L3 : List Int) (hl2_0 : L0.length = 64) (hl3_0 : L1.length = 256) (hl4_0 : L2.length = 64) (hl5_0 : L3.length = 256) (w : World) (rw : List Nat) (β : Env) : Run Try.prog ⟨w, rw, 6, β⟩ (loopB Try.f109 6) (biG0_mkB L0 L1 L2 L3 40) (To ⟨w, rw, 6, β⟩ (.exit 6) (biG0_mkB L0 L1 L2 L3 40)) := by
 have h := Run.of_outT (B := ⟨w, rw, 6, β⟩) (Λ := noLam) (Ψ := noPsi) (fuel := 0) (ora := [false]) (c := (loopB Try.f109 6)) (st := (biG0_mkB L0 L1 L2 L3 40)) (l := [.forget [0, 3, 4, 5, 6, 7, 8, 9] 7]) (s' := ⟨sparse 113 [(0, .o (.a (.p 0 0))), (3, .o (.a (.rs 1 0 4 1))), (4, .o (.a (.i .i64 4))), (5, .o (.a (.i .i64 256))), (6, .o (.a nlA)), (7, .o (.a (.i .i64 0))), (8, .o (.a (.rs 6 0 104 1))), (9, .o (.a (.i .i64 40)))], [some kb3, some kb1, bF [.ints .i64 64 (rwI 0 64)], bT [.ints .i64 256 (rwI 1 256)], bT [.ints .i64 64 (rwI 2 64)], bT [.ints .i64 256 (rwI 3 256)], bT [.ints .i64 104 (rwI 0 104)]]⟩) (ex := (.exit 6)) mix tabOkSB gam302_ok
  (vc := [(false = false)]) (by kernel_rfl)
  (aC rfl (AllP_nil))
 exact h

theorem biG0_loop (L0 L1 L2 L3 : List Int) (hl2_0 : L0.length = 64) (hl3_0 : L1.length = 256) (hl4_0 : L2.length = 64) (hl5_0 : L3.length = 256) (w : World) (rw : List Nat) (β : Env) : Run Try.prog ⟨w, rw, 6, β⟩ (.block 6 (.loop (loopB Try.f109 6))) (biG0_mk0 L0 L1 L2 L3) (To ⟨w, rw, 6, β⟩ .normal (biG0_mkF L0 L1 L2 L3)) := by
 intro b1 a1 w1 hR Q hq
 obtain ⟨cap, J, hc, hJ, hR⟩ := hR.opened1 (t := 8) (j := 2) (c := 0) (len := 64) (by rfl) (cells := [.ints .i64 64 (rwI (0 : Int) 64)]) (by rfl) (by simp [sizes, Atom.size])
 have hR := hR.cast (s' := biG0_mkA L0 L1 L2 L3 cap J 0) (by kernel_rfl)
 have hX : biG0_mkA L0 L1 L2 L3 cap J 0 = (fun k => if (64 + k) ≤ cap then biG0_mkA L0 L1 L2 L3 cap J k else biG0_mkB L0 L1 L2 L3 k) 0 := by
  show _ = if 64 ≤ cap then _ else _
  rw [if_pos hc]
 rw [hX] at hR
 refine Run.count (fun k => if (64 + k) ≤ cap then biG0_mkA L0 L1 L2 L3 cap J k else biG0_mkB L0 L1 L2 L3 k) 40 (ex := .exit 6) (post := (biG0_mkF L0 L1 L2 L3)) (fun k hk => ?_) (by simp) ?_ b1 a1 w1 hR Q ?_
 ·show Run _ _ _ (if (64 + k) ≤ cap then _ else _) (To _ _ (if (64 + (k + 1)) ≤ cap then _ else _))
  by_cases hgA : (64 + (k + 1)) ≤ cap
  ·rw [if_pos hgA, if_pos (by omega)]
   exact biG0_rA L0 L1 L2 L3 hl2_0 hl3_0 hl4_0 hl5_0 w rw β cap J k hk hgA
  ·rw [if_neg hgA]
   by_cases hgB : (64 + k) ≤ cap
   ·rw [if_pos hgB]
    exact (biG0_rX L0 L1 L2 L3 hl2_0 hl3_0 hl4_0 hl5_0 w rw β cap J k hk (by omega)).to_weak fun b1 a1 w1 h => ⟨b1, (Rel.stilled (j := 2) h (by rfl) (c1 := [.ints .i64 64 (rwI 0 64)]) (Pre.pref (rwI_pref 0 64 _) (rwI_len 0 64) _)).cast (by kernel_rfl)⟩
   ·rw [if_neg hgB]
    exact biG0_rB L0 L1 L2 L3 hl2_0 hl3_0 hl4_0 hl5_0 w rw β k hk
 ·show Run _ _ _ (if 104 ≤ cap then _ else _) _
  by_cases hgA : 104 ≤ cap
  ·rw [if_pos hgA]
   exact (biG0_lA L0 L1 L2 L3 hl2_0 hl3_0 hl4_0 hl5_0 w rw β cap J).to_weak fun b1 a1 w1 h => ⟨_, (Rel.twin (t := 8) (j := 2) (c := 0) (len := 104) (cap := cap) (z := 1) h (by kernel_rfl) (by kernel_rfl) (by rfl) (by rfl) (by simp only [sizes, Atom.size, List.map_cons, List.map_nil, List.sum_cons, List.sum_nil]; omega) (c1 := [.ints .i64 64 (rwI 0 64)]) (c2 := [.ints .i64 104 (rwI 0 104)]) (Pre.pref (rwI_pref 0 64 _) (rwI_len 0 64) _) (Pre.all _) (by rfl) (by rfl)).cast (by kernel_rfl)⟩
  ·rw [if_neg hgA]
   exact (biG0_lB L0 L1 L2 L3 hl2_0 hl3_0 hl4_0 hl5_0 w rw β).to_weak fun b1 a1 w1 h => ⟨b1, (Rel.stilled (j := 6) h (by rfl) (c1 := [.ints .i64 104 (rwI (0 : Int) 104)]) (Pre.all _)).cast (by kernel_rfl)⟩
 ·exact hq

def biG1_mkA (L0 L1 L2 L3 : List Int) (cap : Nat) (J : List Value) (k : Nat) : St := ⟨sparse 113 [(0, .o (.a (.p 0 0))), (3, .o (.a (.rs 1 0 4 1))), (4, .o (.a (.i .i64 4))), (5, .o (.a (.i .i64 256))), (6, .o (.a (.rs 8 0 1 1))), (7, .o (.a (.i .i64 1))), (8, .o (.a (.sl 3 0 (256 + k) cap))), (9, .o (.a (.i .i64 (k : Int))))], [some kb3, some kb1, bF [.ints .i64 64 (rwI 0 64)], bT [.ints .i64 (256 + k) (rwI 1 (256 + k)), .vals (cap - (256 + k)) (List.drop k J)], bT [.ints .i64 64 (rwI 2 64)], bT [.ints .i64 256 (rwI 3 256)], bF [.ints .i64 104 (rwI 0 104)], bT [.rs 6 0 104 1], bT [.rs 6 0 104 1]]⟩

def biG1_mkB (L0 L1 L2 L3 : List Int) (k : Nat) : St := ⟨sparse 113 [(0, .o (.a (.p 0 0))), (3, .o (.a (.rs 1 0 4 1))), (4, .o (.a (.i .i64 4))), (5, .o (.a (.i .i64 256))), (6, .o (.a (.rs 8 0 1 1))), (7, .o (.a (.i .i64 1))), (8, .o (.a (.rs 9 0 (256 + k) 1))), (9, .o (.a (.i .i64 (k : Int))))], [some kb3, some kb1, bF [.ints .i64 64 (rwI 0 64)], bF [.ints .i64 256 (rwI 1 256)], bT [.ints .i64 64 (rwI 2 64)], bT [.ints .i64 256 (rwI 3 256)], bF [.ints .i64 104 (rwI 0 104)], bT [.rs 6 0 104 1], bT [.rs 6 0 104 1], bT [.ints .i64 (256 + k) (rwI 1 (256 + k))]]⟩

def biG1_mkF (L0 L1 L2 L3 : List Int) : St := ⟨sparse 113 [(0, .o (.a (.p 0 0))), (3, .o (.a (.rs 1 0 4 1))), (4, .o (.a (.i .i64 4))), (5, .o (.a (.i .i64 256))), (6, .o (.a (.rs 8 0 1 1))), (7, .o (.a (.i .i64 1))), (8, .o (.a (.rs 9 0 296 1))), (9, .o (.a (.i .i64 40)))], [some kb3, some kb1, bF [.ints .i64 64 (rwI 0 64)], bF [.ints .i64 256 (rwI 1 256)], bT [.ints .i64 64 (rwI 2 64)], bT [.ints .i64 256 (rwI 3 256)], bF [.ints .i64 104 (rwI 0 104)], bT [.rs 6 0 104 1], bT [.rs 6 0 104 1], bF [.ints .i64 296 (rwI 1 296)]]⟩

def biG1_mk0 (L0 L1 L2 L3 : List Int) : St := ⟨sparse 113 [(0, .o (.a (.p 0 0))), (3, .o (.a (.rs 1 0 4 1))), (4, .o (.a (.i .i64 4))), (5, .o (.a (.i .i64 256))), (6, .o (.a (.rs 8 0 1 1))), (7, .o (.a (.i .i64 1))), (8, .o (.a (.rs 3 0 256 1))), (9, .o (.a (.i .i64 0)))], [some kb3, some kb1, bF [.ints .i64 64 (rwI 0 64)], bT [.ints .i64 256 (rwI 1 256)], bT [.ints .i64 64 (rwI 2 64)], bT [.ints .i64 256 (rwI 3 256)], bF [.ints .i64 104 (rwI 0 104)], bT [.rs 6 0 104 1], bT [.rs 6 0 104 1]]⟩

theorem biG1_rA (L0 L1 L2 L3 : List Int) (hl2_0 : L0.length = 64) (hl3_0 : L1.length = 256) (hl4_0 : L2.length = 64) (hl5_0 : L3.length = 256) (w : World) (rw : List Nat) (β : Env) (cap : Nat) (J : List Value) (k : Nat) (hk : k < 40) (hc : (256 + (k + 1)) ≤ cap) : Run Try.prog ⟨w, rw, 6, β⟩ (loopB Try.f109 6) (biG1_mkA L0 L1 L2 L3 cap J k) (To ⟨w, rw, 6, β⟩ .normal (biG1_mkA L0 L1 L2 L3 cap J (k + 1))) := by
 have e0 : ((rwI 1 (256 + k)) ++ ([(mkIn 1 (((256 + k) : Nat) : Int))] : List Int)) = (rwI 1 (256 + (k + 1))) := (by first | rfl | exact wrap_succ (by omega) | omega | exact rwI_grow _ _ | exact rwI_more _ _ | exact List.drop_drop | (rw [List.drop_drop]; congr 1; omega))
 have e1 := wrap_succ (n := k) (by omega)
 have e2 : ((cap - (256 + k)) - 1) = (cap - (256 + (k + 1))) := (by omega)
 have e3 : (List.drop (1 : Nat) (List.drop k J)) = (List.drop (k + (1 : Nat)) J) := (by first | rfl | exact wrap_succ (by omega) | omega | exact rwI_grow _ _ | exact rwI_more _ _ | exact List.drop_drop | (rw [List.drop_drop]; congr 1; omega))
 have e4 : ((256 + k) + 1) = (256 + (k + 1)) := (by omega)
 have h := Run.of_outT (B := ⟨w, rw, 6, β⟩) (Λ := noLam) (Ψ := noPsi) (fuel := 0) (ora := [true, true]) (c := (loopB Try.f109 6)) (st := (biG1_mkA L0 L1 L2 L3 cap J k)) (l := [.forget [0, 3, 4, 5, 6, 7, 8, 9] 9]) (s' := ⟨sparse 113 [(0, .o (.a (.p 0 0))), (3, .o (.a (.rs 1 0 4 1))), (4, .o (.a (.i .i64 4))), (5, .o (.a (.i .i64 256))), (6, .o (.a (.rs 8 0 1 1))), (7, .o (.a (.i .i64 1))), (8, .o (.a (.sl 3 0 ((256 + k) + 1) cap))), (9, .o (.a (.i .i64 (IntKind.i64.wrap ((k : Int) + 1)))))], [some kb3, some kb1, bF [.ints .i64 64 (rwI 0 64)], bT [.ints .i64 ((256 + k) + 1) ((rwI 1 (256 + k)) ++ ([(mkIn 1 (((256 + k) : Nat) : Int))] : List Int)), .vals ((cap - (256 + k)) - 1) (List.drop 1 (List.drop k J))], bT [.ints .i64 64 (rwI 2 64)], bT [.ints .i64 256 (rwI 3 256)], bF [.ints .i64 104 (rwI 0 104)], bT [.rs 6 0 104 1], bT [.rs 6 0 104 1]]⟩) (ex := .normal) mix tabOkSB gam302_ok
  (vc := [(((1 ≤ 1) ∧ (1 ≤ 1)) ∧ (okP (some (((0 + (256 + k)) = (256 + k)) ∧ (1 ≤ (cap - (256 + k)))))) ∧ (((256 + k) + 1) ≤ cap)), ((decide ((k : Int) < 40)) = true)]) (by kernel_rfl)
  (aC ⟨⟨(by decide), (by decide)⟩, (show (((0 + (256 + k)) = (256 + k)) ∧ (1 ≤ (cap - (256 + k)))) from ⟨(by omega), (by omega)⟩), (by omega)⟩ (aC (decide_eq_true (by omega)) (AllP_nil)))
 rw [e0, e1, e2, e3, e4] at h
 exact h

def biG1_mkX (L0 L1 L2 L3 : List Int) (cap : Nat) (J : List Value) (k : Nat) : St := ⟨sparse 113 [(0, .o (.a (.p 0 0))), (3, .o (.a (.rs 1 0 4 1))), (4, .o (.a (.i .i64 4))), (5, .o (.a (.i .i64 256))), (6, .o (.a (.rs 8 0 1 1))), (7, .o (.a (.i .i64 1))), (8, .o (.a (.rs 9 0 (256 + (k + 1)) 1))), (9, .o (.a (.i .i64 (((k + 1) : Nat) : Int))))], [some kb3, some kb1, bF [.ints .i64 64 (rwI 0 64)], bT [.ints .i64 (256 + k) (rwI 1 (256 + k)), .vals (cap - (256 + k)) (List.drop k J)], bT [.ints .i64 64 (rwI 2 64)], bT [.ints .i64 256 (rwI 3 256)], bF [.ints .i64 104 (rwI 0 104)], bT [.rs 6 0 104 1], bT [.rs 6 0 104 1], bT [.ints .i64 (256 + (k + 1)) (rwI 1 (256 + (k + 1)))]]⟩

theorem biG1_rX (L0 L1 L2 L3 : List Int) (hl2_0 : L0.length = 64) (hl3_0 : L1.length = 256) (hl4_0 : L2.length = 64) (hl5_0 : L3.length = 256) (w : World) (rw : List Nat) (β : Env) (cap : Nat) (J : List Value) (k : Nat) (hk : k < 40) (hc : cap < (256 + (k + 1))) : Run Try.prog ⟨w, rw, 6, β⟩ (loopB Try.f109 6) (biG1_mkA L0 L1 L2 L3 cap J k) (To ⟨w, rw, 6, β⟩ .normal (biG1_mkX L0 L1 L2 L3 cap J k)) := by
 have e0 : ((sub (rwI 1 (256 + k)) 0 (256 + k)) ++ ([(mkIn 1 (((256 + k) : Nat) : Int))] : List Int)) = (rwI 1 (256 + (k + 1))) := (by first | rfl | exact wrap_succ (by omega) | omega | exact rwI_grow _ _ | exact rwI_more _ _ | exact List.drop_drop | (rw [List.drop_drop]; congr 1; omega))
 have e1 := wrap_succ (n := k) (by omega)
 have e2 : ((256 + k) + 1) = (256 + (k + 1)) := (by omega)
 have h := Run.of_outT (B := ⟨w, rw, 6, β⟩) (Λ := noLam) (Ψ := noPsi) (fuel := 0) (ora := [true, false]) (c := (loopB Try.f109 6)) (st := (biG1_mkA L0 L1 L2 L3 cap J k)) (l := [.swap 9 10, .forget [0, 3, 4, 5, 6, 7, 8, 9] 10]) (s' := ⟨sparse 113 [(0, .o (.a (.p 0 0))), (3, .o (.a (.rs 1 0 4 1))), (4, .o (.a (.i .i64 4))), (5, .o (.a (.i .i64 256))), (6, .o (.a (.rs 8 0 1 1))), (7, .o (.a (.i .i64 1))), (8, .o (.a (.rs 9 0 ((256 + k) + 1) 1))), (9, .o (.a (.i .i64 (IntKind.i64.wrap ((k : Int) + 1)))))], [some kb3, some kb1, bF [.ints .i64 64 (rwI 0 64)], bT [.ints .i64 (256 + k) (rwI 1 (256 + k)), .vals (cap - (256 + k)) (List.drop k J)], bT [.ints .i64 64 (rwI 2 64)], bT [.ints .i64 256 (rwI 3 256)], bF [.ints .i64 104 (rwI 0 104)], bT [.rs 6 0 104 1], bT [.rs 6 0 104 1], bT [.ints .i64 ((256 + k) + 1) ((sub (rwI 1 (256 + k)) 0 (256 + k)) ++ ([(mkIn 1 (((256 + k) : Nat) : Int))] : List Int))]]⟩) (ex := .normal) mix tabOkSB gam302_ok
  (vc := [(((0 + (256 + k)) ≤ (256 + k)) ∧ ((1 ≤ 1) ∧ (1 ≤ 1)) ∧ (cap < ((256 + k) + 1)) ∧ ((((256 + k) + 1) * 8) ≤ 140737488355328)), ((decide ((k : Int) < 40)) = true)]) (by kernel_rfl)
  (aC ⟨(by omega), ⟨(by decide), (by decide)⟩, (by omega), (by omega)⟩ (aC (decide_eq_true (by omega)) (AllP_nil)))
 rw [e0, e1, e2] at h
 exact h

theorem biG1_rB (L0 L1 L2 L3 : List Int) (hl2_0 : L0.length = 64) (hl3_0 : L1.length = 256) (hl4_0 : L2.length = 64) (hl5_0 : L3.length = 256) (w : World) (rw : List Nat) (β : Env) (k : Nat) (hk : k < 40) : Run Try.prog ⟨w, rw, 6, β⟩ (loopB Try.f109 6) (biG1_mkB L0 L1 L2 L3 k) (To ⟨w, rw, 6, β⟩ .normal (biG1_mkB L0 L1 L2 L3 (k + 1))) := by
 have e0 : ((sub (rwI 1 (256 + k)) 0 (256 + k)) ++ ([(mkIn 1 (((256 + k) : Nat) : Int))] : List Int)) = (rwI 1 (256 + (k + 1))) := (by first | rfl | exact wrap_succ (by omega) | omega | exact rwI_grow _ _ | exact rwI_more _ _ | exact List.drop_drop | (rw [List.drop_drop]; congr 1; omega))
 have e1 := wrap_succ (n := k) (by omega)
 have e2 : ((256 + k) + 1) = (256 + (k + 1)) := (by omega)
 have h := Run.of_outT (B := ⟨w, rw, 6, β⟩) (Λ := noLam) (Ψ := noPsi) (fuel := 0) (ora := [true, false]) (c := (loopB Try.f109 6)) (st := (biG1_mkB L0 L1 L2 L3 k)) (l := [.swap 9 11, .forget [0, 3, 4, 5, 6, 7, 8, 9] 10]) (s' := ⟨sparse 113 [(0, .o (.a (.p 0 0))), (3, .o (.a (.rs 1 0 4 1))), (4, .o (.a (.i .i64 4))), (5, .o (.a (.i .i64 256))), (6, .o (.a (.rs 8 0 1 1))), (7, .o (.a (.i .i64 1))), (8, .o (.a (.rs 9 0 ((256 + k) + 1) 1))), (9, .o (.a (.i .i64 (IntKind.i64.wrap ((k : Int) + 1)))))], [some kb3, some kb1, bF [.ints .i64 64 (rwI 0 64)], bF [.ints .i64 256 (rwI 1 256)], bT [.ints .i64 64 (rwI 2 64)], bT [.ints .i64 256 (rwI 3 256)], bF [.ints .i64 104 (rwI 0 104)], bT [.rs 6 0 104 1], bT [.rs 6 0 104 1], bT [.ints .i64 ((256 + k) + 1) ((sub (rwI 1 (256 + k)) 0 (256 + k)) ++ ([(mkIn 1 (((256 + k) : Nat) : Int))] : List Int))]]⟩) (ex := .normal) mix tabOkSB gam302_ok
  (vc := [(((0 + (256 + k)) ≤ (256 + k)) ∧ ((1 ≤ 1) ∧ (1 ≤ 1)) ∧ ((((256 + k) + 1) * 8) ≤ 140737488355328)), ((decide ((k : Int) < 40)) = true)]) (by kernel_rfl)
  (aC ⟨(by omega), ⟨(by decide), (by decide)⟩, (by omega)⟩ (aC (decide_eq_true (by omega)) (AllP_nil)))
 rw [e0, e1, e2] at h
 exact h

theorem biG1_lA (L0 L1 L2 L3 : List Int) (hl2_0 : L0.length = 64) (hl3_0 : L1.length = 256) (hl4_0 : L2.length = 64) (hl5_0 : L3.length = 256) (w : World) (rw : List Nat) (β : Env) (cap : Nat) (J : List Value) : Run Try.prog ⟨w, rw, 6, β⟩ (loopB Try.f109 6) (biG1_mkA L0 L1 L2 L3 cap J 40) (To ⟨w, rw, 6, β⟩ (.exit 6) (biG1_mkA L0 L1 L2 L3 cap J 40)) := by
 have h := Run.of_outT (B := ⟨w, rw, 6, β⟩) (Λ := noLam) (Ψ := noPsi) (fuel := 0) (ora := [false]) (c := (loopB Try.f109 6)) (st := (biG1_mkA L0 L1 L2 L3 cap J 40)) (l := [.forget [0, 3, 4, 5, 6, 7, 8, 9] 9]) (s' := ⟨sparse 113 [(0, .o (.a (.p 0 0))), (3, .o (.a (.rs 1 0 4 1))), (4, .o (.a (.i .i64 4))), (5, .o (.a (.i .i64 256))), (6, .o (.a (.rs 8 0 1 1))), (7, .o (.a (.i .i64 1))), (8, .o (.a (.sl 3 0 296 cap))), (9, .o (.a (.i .i64 40)))], [some kb3, some kb1, bF [.ints .i64 64 (rwI 0 64)], bT [.ints .i64 296 (rwI 1 296), .vals (cap - 296) (List.drop 40 J)], bT [.ints .i64 64 (rwI 2 64)], bT [.ints .i64 256 (rwI 3 256)], bF [.ints .i64 104 (rwI 0 104)], bT [.rs 6 0 104 1], bT [.rs 6 0 104 1]]⟩) (ex := (.exit 6)) mix tabOkSB gam302_ok
  (vc := [(false = false)]) (by kernel_rfl)
  (aC rfl (AllP_nil))
 exact h

theorem biG1_lB (L0 L1 L2 L3 : List Int) (hl2_0 : L0.length = 64) (hl3_0 : L1.length = 256) (hl4_0 : L2.length = 64) (hl5_0 : L3.length = 256) (w : World) (rw : List Nat) (β : Env) : Run Try.prog ⟨w, rw, 6, β⟩ (loopB Try.f109 6) (biG1_mkB L0 L1 L2 L3 40) (To ⟨w, rw, 6, β⟩ (.exit 6) (biG1_mkB L0 L1 L2 L3 40)) := by
 have h := Run.of_outT (B := ⟨w, rw, 6, β⟩) (Λ := noLam) (Ψ := noPsi) (fuel := 0) (ora := [false]) (c := (loopB Try.f109 6)) (st := (biG1_mkB L0 L1 L2 L3 40)) (l := [.forget [0, 3, 4, 5, 6, 7, 8, 9] 10]) (s' := ⟨sparse 113 [(0, .o (.a (.p 0 0))), (3, .o (.a (.rs 1 0 4 1))), (4, .o (.a (.i .i64 4))), (5, .o (.a (.i .i64 256))), (6, .o (.a (.rs 8 0 1 1))), (7, .o (.a (.i .i64 1))), (8, .o (.a (.rs 9 0 296 1))), (9, .o (.a (.i .i64 40)))], [some kb3, some kb1, bF [.ints .i64 64 (rwI 0 64)], bF [.ints .i64 256 (rwI 1 256)], bT [.ints .i64 64 (rwI 2 64)], bT [.ints .i64 256 (rwI 3 256)], bF [.ints .i64 104 (rwI 0 104)], bT [.rs 6 0 104 1], bT [.rs 6 0 104 1], bT [.ints .i64 296 (rwI 1 296)]]⟩) (ex := (.exit 6)) mix tabOkSB gam302_ok
  (vc := [(false = false)]) (by kernel_rfl)
  (aC rfl (AllP_nil))
 exact h

theorem biG1_loop (L0 L1 L2 L3 : List Int) (hl2_0 : L0.length = 64) (hl3_0 : L1.length = 256) (hl4_0 : L2.length = 64) (hl5_0 : L3.length = 256) (w : World) (rw : List Nat) (β : Env) : Run Try.prog ⟨w, rw, 6, β⟩ (.block 6 (.loop (loopB Try.f109 6))) (biG1_mk0 L0 L1 L2 L3) (To ⟨w, rw, 6, β⟩ .normal (biG1_mkF L0 L1 L2 L3)) := by
 intro b1 a1 w1 hR Q hq
 obtain ⟨cap, J, hc, hJ, hR⟩ := hR.opened1 (t := 8) (j := 3) (c := 0) (len := 256) (by rfl) (cells := [.ints .i64 256 (rwI (1 : Int) 256)]) (by rfl) (by simp [sizes, Atom.size])
 have hR := hR.cast (s' := biG1_mkA L0 L1 L2 L3 cap J 0) (by kernel_rfl)
 have hX : biG1_mkA L0 L1 L2 L3 cap J 0 = (fun k => if (256 + k) ≤ cap then biG1_mkA L0 L1 L2 L3 cap J k else biG1_mkB L0 L1 L2 L3 k) 0 := by
  show _ = if 256 ≤ cap then _ else _
  rw [if_pos hc]
 rw [hX] at hR
 refine Run.count (fun k => if (256 + k) ≤ cap then biG1_mkA L0 L1 L2 L3 cap J k else biG1_mkB L0 L1 L2 L3 k) 40 (ex := .exit 6) (post := (biG1_mkF L0 L1 L2 L3)) (fun k hk => ?_) (by simp) ?_ b1 a1 w1 hR Q ?_
 ·show Run _ _ _ (if (256 + k) ≤ cap then _ else _) (To _ _ (if (256 + (k + 1)) ≤ cap then _ else _))
  by_cases hgA : (256 + (k + 1)) ≤ cap
  ·rw [if_pos hgA, if_pos (by omega)]
   exact biG1_rA L0 L1 L2 L3 hl2_0 hl3_0 hl4_0 hl5_0 w rw β cap J k hk hgA
  ·rw [if_neg hgA]
   by_cases hgB : (256 + k) ≤ cap
   ·rw [if_pos hgB]
    exact (biG1_rX L0 L1 L2 L3 hl2_0 hl3_0 hl4_0 hl5_0 w rw β cap J k hk (by omega)).to_weak fun b1 a1 w1 h => ⟨b1, (Rel.stilled (j := 3) h (by rfl) (c1 := [.ints .i64 256 (rwI 1 256)]) (Pre.pref (rwI_pref 1 256 _) (rwI_len 1 256) _)).cast (by kernel_rfl)⟩
   ·rw [if_neg hgB]
    exact biG1_rB L0 L1 L2 L3 hl2_0 hl3_0 hl4_0 hl5_0 w rw β k hk
 ·show Run _ _ _ (if 296 ≤ cap then _ else _) _
  by_cases hgA : 296 ≤ cap
  ·rw [if_pos hgA]
   exact (biG1_lA L0 L1 L2 L3 hl2_0 hl3_0 hl4_0 hl5_0 w rw β cap J).to_weak fun b1 a1 w1 h => ⟨_, (Rel.twin (t := 8) (j := 3) (c := 0) (len := 296) (cap := cap) (z := 1) h (by kernel_rfl) (by kernel_rfl) (by rfl) (by rfl) (by simp only [sizes, Atom.size, List.map_cons, List.map_nil, List.sum_cons, List.sum_nil]; omega) (c1 := [.ints .i64 256 (rwI 1 256)]) (c2 := [.ints .i64 296 (rwI 1 296)]) (Pre.pref (rwI_pref 1 256 _) (rwI_len 1 256) _) (Pre.all _) (by rfl) (by rfl)).cast (by kernel_rfl)⟩
  ·rw [if_neg hgA]
   exact (biG1_lB L0 L1 L2 L3 hl2_0 hl3_0 hl4_0 hl5_0 w rw β).to_weak fun b1 a1 w1 h => ⟨b1, (Rel.stilled (j := 9) h (by rfl) (c1 := [.ints .i64 296 (rwI (1 : Int) 296)]) (Pre.all _)).cast (by kernel_rfl)⟩
 ·exact hq

def biG2_mkA (L0 L1 L2 L3 : List Int) (cap : Nat) (J : List Value) (k : Nat) : St := ⟨sparse 113 [(0, .o (.a (.p 0 0))), (3, .o (.a (.rs 1 0 4 1))), (4, .o (.a (.i .i64 4))), (5, .o (.a (.i .i64 256))), (6, .o (.a (.rs 11 0 2 1))), (7, .o (.a (.i .i64 2))), (8, .o (.a (.sl 4 0 (64 + k) cap))), (9, .o (.a (.i .i64 (k : Int))))], [some kb3, some kb1, bF [.ints .i64 64 (rwI 0 64)], bF [.ints .i64 256 (rwI 1 256)], bT [.ints .i64 (64 + k) (rwI 2 (64 + k)), .vals (cap - (64 + k)) (List.drop k J)], bT [.ints .i64 256 (rwI 3 256)], bF [.ints .i64 104 (rwI 0 104)], bT [.rs 6 0 104 1], none, bF [.ints .i64 296 (rwI 1 296)], bT [.rs 9 0 296 1], bT [.rs 6 0 104 1, .rs 9 0 296 1]]⟩

def biG2_mkB (L0 L1 L2 L3 : List Int) (k : Nat) : St := ⟨sparse 113 [(0, .o (.a (.p 0 0))), (3, .o (.a (.rs 1 0 4 1))), (4, .o (.a (.i .i64 4))), (5, .o (.a (.i .i64 256))), (6, .o (.a (.rs 11 0 2 1))), (7, .o (.a (.i .i64 2))), (8, .o (.a (.rs 12 0 (64 + k) 1))), (9, .o (.a (.i .i64 (k : Int))))], [some kb3, some kb1, bF [.ints .i64 64 (rwI 0 64)], bF [.ints .i64 256 (rwI 1 256)], bF [.ints .i64 64 (rwI 2 64)], bT [.ints .i64 256 (rwI 3 256)], bF [.ints .i64 104 (rwI 0 104)], bT [.rs 6 0 104 1], none, bF [.ints .i64 296 (rwI 1 296)], bT [.rs 9 0 296 1], bT [.rs 6 0 104 1, .rs 9 0 296 1], bT [.ints .i64 (64 + k) (rwI 2 (64 + k))]]⟩

def biG2_mkF (L0 L1 L2 L3 : List Int) : St := ⟨sparse 113 [(0, .o (.a (.p 0 0))), (3, .o (.a (.rs 1 0 4 1))), (4, .o (.a (.i .i64 4))), (5, .o (.a (.i .i64 256))), (6, .o (.a (.rs 11 0 2 1))), (7, .o (.a (.i .i64 2))), (8, .o (.a (.rs 12 0 104 1))), (9, .o (.a (.i .i64 40)))], [some kb3, some kb1, bF [.ints .i64 64 (rwI 0 64)], bF [.ints .i64 256 (rwI 1 256)], bF [.ints .i64 64 (rwI 2 64)], bT [.ints .i64 256 (rwI 3 256)], bF [.ints .i64 104 (rwI 0 104)], bT [.rs 6 0 104 1], none, bF [.ints .i64 296 (rwI 1 296)], bT [.rs 9 0 296 1], bT [.rs 6 0 104 1, .rs 9 0 296 1], bF [.ints .i64 104 (rwI 2 104)]]⟩

def biG2_mk0 (L0 L1 L2 L3 : List Int) : St := ⟨sparse 113 [(0, .o (.a (.p 0 0))), (3, .o (.a (.rs 1 0 4 1))), (4, .o (.a (.i .i64 4))), (5, .o (.a (.i .i64 256))), (6, .o (.a (.rs 11 0 2 1))), (7, .o (.a (.i .i64 2))), (8, .o (.a (.rs 4 0 64 1))), (9, .o (.a (.i .i64 0)))], [some kb3, some kb1, bF [.ints .i64 64 (rwI 0 64)], bF [.ints .i64 256 (rwI 1 256)], bT [.ints .i64 64 (rwI 2 64)], bT [.ints .i64 256 (rwI 3 256)], bF [.ints .i64 104 (rwI 0 104)], bT [.rs 6 0 104 1], none, bF [.ints .i64 296 (rwI 1 296)], bT [.rs 9 0 296 1], bT [.rs 6 0 104 1, .rs 9 0 296 1]]⟩

theorem biG2_rA (L0 L1 L2 L3 : List Int) (hl2_0 : L0.length = 64) (hl3_0 : L1.length = 256) (hl4_0 : L2.length = 64) (hl5_0 : L3.length = 256) (w : World) (rw : List Nat) (β : Env) (cap : Nat) (J : List Value) (k : Nat) (hk : k < 40) (hc : (64 + (k + 1)) ≤ cap) : Run Try.prog ⟨w, rw, 6, β⟩ (loopB Try.f109 6) (biG2_mkA L0 L1 L2 L3 cap J k) (To ⟨w, rw, 6, β⟩ .normal (biG2_mkA L0 L1 L2 L3 cap J (k + 1))) := by
 have e0 : ((rwI 2 (64 + k)) ++ ([(mkIn 2 (((64 + k) : Nat) : Int))] : List Int)) = (rwI 2 (64 + (k + 1))) := (by first | rfl | exact wrap_succ (by omega) | omega | exact rwI_grow _ _ | exact rwI_more _ _ | exact List.drop_drop | (rw [List.drop_drop]; congr 1; omega))
 have e1 := wrap_succ (n := k) (by omega)
 have e2 : ((cap - (64 + k)) - 1) = (cap - (64 + (k + 1))) := (by omega)
 have e3 : (List.drop (1 : Nat) (List.drop k J)) = (List.drop (k + (1 : Nat)) J) := (by first | rfl | exact wrap_succ (by omega) | omega | exact rwI_grow _ _ | exact rwI_more _ _ | exact List.drop_drop | (rw [List.drop_drop]; congr 1; omega))
 have e4 : ((64 + k) + 1) = (64 + (k + 1)) := (by omega)
 have h := Run.of_outT (B := ⟨w, rw, 6, β⟩) (Λ := noLam) (Ψ := noPsi) (fuel := 0) (ora := [true, true]) (c := (loopB Try.f109 6)) (st := (biG2_mkA L0 L1 L2 L3 cap J k)) (l := [.forget [0, 3, 4, 5, 6, 7, 8, 9] 12]) (s' := ⟨sparse 113 [(0, .o (.a (.p 0 0))), (3, .o (.a (.rs 1 0 4 1))), (4, .o (.a (.i .i64 4))), (5, .o (.a (.i .i64 256))), (6, .o (.a (.rs 11 0 2 1))), (7, .o (.a (.i .i64 2))), (8, .o (.a (.sl 4 0 ((64 + k) + 1) cap))), (9, .o (.a (.i .i64 (IntKind.i64.wrap ((k : Int) + 1)))))], [some kb3, some kb1, bF [.ints .i64 64 (rwI 0 64)], bF [.ints .i64 256 (rwI 1 256)], bT [.ints .i64 ((64 + k) + 1) ((rwI 2 (64 + k)) ++ ([(mkIn 2 (((64 + k) : Nat) : Int))] : List Int)), .vals ((cap - (64 + k)) - 1) (List.drop 1 (List.drop k J))], bT [.ints .i64 256 (rwI 3 256)], bF [.ints .i64 104 (rwI 0 104)], bT [.rs 6 0 104 1], none, bF [.ints .i64 296 (rwI 1 296)], bT [.rs 9 0 296 1], bT [.rs 6 0 104 1, .rs 9 0 296 1]]⟩) (ex := .normal) mix tabOkSB gam302_ok
  (vc := [(((1 ≤ 1) ∧ (1 ≤ 1)) ∧ (okP (some (((0 + (64 + k)) = (64 + k)) ∧ (1 ≤ (cap - (64 + k)))))) ∧ (((64 + k) + 1) ≤ cap)), ((decide ((k : Int) < 40)) = true)]) (by kernel_rfl)
  (aC ⟨⟨(by decide), (by decide)⟩, (show (((0 + (64 + k)) = (64 + k)) ∧ (1 ≤ (cap - (64 + k)))) from ⟨(by omega), (by omega)⟩), (by omega)⟩ (aC (decide_eq_true (by omega)) (AllP_nil)))
 rw [e0, e1, e2, e3, e4] at h
 exact h

def biG2_mkX (L0 L1 L2 L3 : List Int) (cap : Nat) (J : List Value) (k : Nat) : St := ⟨sparse 113 [(0, .o (.a (.p 0 0))), (3, .o (.a (.rs 1 0 4 1))), (4, .o (.a (.i .i64 4))), (5, .o (.a (.i .i64 256))), (6, .o (.a (.rs 11 0 2 1))), (7, .o (.a (.i .i64 2))), (8, .o (.a (.rs 12 0 (64 + (k + 1)) 1))), (9, .o (.a (.i .i64 (((k + 1) : Nat) : Int))))], [some kb3, some kb1, bF [.ints .i64 64 (rwI 0 64)], bF [.ints .i64 256 (rwI 1 256)], bT [.ints .i64 (64 + k) (rwI 2 (64 + k)), .vals (cap - (64 + k)) (List.drop k J)], bT [.ints .i64 256 (rwI 3 256)], bF [.ints .i64 104 (rwI 0 104)], bT [.rs 6 0 104 1], none, bF [.ints .i64 296 (rwI 1 296)], bT [.rs 9 0 296 1], bT [.rs 6 0 104 1, .rs 9 0 296 1], bT [.ints .i64 (64 + (k + 1)) (rwI 2 (64 + (k + 1)))]]⟩

theorem biG2_rX (L0 L1 L2 L3 : List Int) (hl2_0 : L0.length = 64) (hl3_0 : L1.length = 256) (hl4_0 : L2.length = 64) (hl5_0 : L3.length = 256) (w : World) (rw : List Nat) (β : Env) (cap : Nat) (J : List Value) (k : Nat) (hk : k < 40) (hc : cap < (64 + (k + 1))) : Run Try.prog ⟨w, rw, 6, β⟩ (loopB Try.f109 6) (biG2_mkA L0 L1 L2 L3 cap J k) (To ⟨w, rw, 6, β⟩ .normal (biG2_mkX L0 L1 L2 L3 cap J k)) := by
 have e0 : ((sub (rwI 2 (64 + k)) 0 (64 + k)) ++ ([(mkIn 2 (((64 + k) : Nat) : Int))] : List Int)) = (rwI 2 (64 + (k + 1))) := (by first | rfl | exact wrap_succ (by omega) | omega | exact rwI_grow _ _ | exact rwI_more _ _ | exact List.drop_drop | (rw [List.drop_drop]; congr 1; omega))
 have e1 := wrap_succ (n := k) (by omega)
 have e2 : ((64 + k) + 1) = (64 + (k + 1)) := (by omega)
 have h := Run.of_outT (B := ⟨w, rw, 6, β⟩) (Λ := noLam) (Ψ := noPsi) (fuel := 0) (ora := [true, false]) (c := (loopB Try.f109 6)) (st := (biG2_mkA L0 L1 L2 L3 cap J k)) (l := [.swap 12 13, .forget [0, 3, 4, 5, 6, 7, 8, 9] 13]) (s' := ⟨sparse 113 [(0, .o (.a (.p 0 0))), (3, .o (.a (.rs 1 0 4 1))), (4, .o (.a (.i .i64 4))), (5, .o (.a (.i .i64 256))), (6, .o (.a (.rs 11 0 2 1))), (7, .o (.a (.i .i64 2))), (8, .o (.a (.rs 12 0 ((64 + k) + 1) 1))), (9, .o (.a (.i .i64 (IntKind.i64.wrap ((k : Int) + 1)))))], [some kb3, some kb1, bF [.ints .i64 64 (rwI 0 64)], bF [.ints .i64 256 (rwI 1 256)], bT [.ints .i64 (64 + k) (rwI 2 (64 + k)), .vals (cap - (64 + k)) (List.drop k J)], bT [.ints .i64 256 (rwI 3 256)], bF [.ints .i64 104 (rwI 0 104)], bT [.rs 6 0 104 1], none, bF [.ints .i64 296 (rwI 1 296)], bT [.rs 9 0 296 1], bT [.rs 6 0 104 1, .rs 9 0 296 1], bT [.ints .i64 ((64 + k) + 1) ((sub (rwI 2 (64 + k)) 0 (64 + k)) ++ ([(mkIn 2 (((64 + k) : Nat) : Int))] : List Int))]]⟩) (ex := .normal) mix tabOkSB gam302_ok
  (vc := [(((0 + (64 + k)) ≤ (64 + k)) ∧ ((1 ≤ 1) ∧ (1 ≤ 1)) ∧ (cap < ((64 + k) + 1)) ∧ ((((64 + k) + 1) * 8) ≤ 140737488355328)), ((decide ((k : Int) < 40)) = true)]) (by kernel_rfl)
  (aC ⟨(by omega), ⟨(by decide), (by decide)⟩, (by omega), (by omega)⟩ (aC (decide_eq_true (by omega)) (AllP_nil)))
 rw [e0, e1, e2] at h
 exact h

theorem biG2_rB (L0 L1 L2 L3 : List Int) (hl2_0 : L0.length = 64) (hl3_0 : L1.length = 256) (hl4_0 : L2.length = 64) (hl5_0 : L3.length = 256) (w : World) (rw : List Nat) (β : Env) (k : Nat) (hk : k < 40) : Run Try.prog ⟨w, rw, 6, β⟩ (loopB Try.f109 6) (biG2_mkB L0 L1 L2 L3 k) (To ⟨w, rw, 6, β⟩ .normal (biG2_mkB L0 L1 L2 L3 (k + 1))) := by
 have e0 : ((sub (rwI 2 (64 + k)) 0 (64 + k)) ++ ([(mkIn 2 (((64 + k) : Nat) : Int))] : List Int)) = (rwI 2 (64 + (k + 1))) := (by first | rfl | exact wrap_succ (by omega) | omega | exact rwI_grow _ _ | exact rwI_more _ _ | exact List.drop_drop | (rw [List.drop_drop]; congr 1; omega))
 have e1 := wrap_succ (n := k) (by omega)
 have e2 : ((64 + k) + 1) = (64 + (k + 1)) := (by omega)
 have h := Run.of_outT (B := ⟨w, rw, 6, β⟩) (Λ := noLam) (Ψ := noPsi) (fuel := 0) (ora := [true, false]) (c := (loopB Try.f109 6)) (st := (biG2_mkB L0 L1 L2 L3 k)) (l := [.swap 12 14, .forget [0, 3, 4, 5, 6, 7, 8, 9] 13]) (s' := ⟨sparse 113 [(0, .o (.a (.p 0 0))), (3, .o (.a (.rs 1 0 4 1))), (4, .o (.a (.i .i64 4))), (5, .o (.a (.i .i64 256))), (6, .o (.a (.rs 11 0 2 1))), (7, .o (.a (.i .i64 2))), (8, .o (.a (.rs 12 0 ((64 + k) + 1) 1))), (9, .o (.a (.i .i64 (IntKind.i64.wrap ((k : Int) + 1)))))], [some kb3, some kb1, bF [.ints .i64 64 (rwI 0 64)], bF [.ints .i64 256 (rwI 1 256)], bF [.ints .i64 64 (rwI 2 64)], bT [.ints .i64 256 (rwI 3 256)], bF [.ints .i64 104 (rwI 0 104)], bT [.rs 6 0 104 1], none, bF [.ints .i64 296 (rwI 1 296)], bT [.rs 9 0 296 1], bT [.rs 6 0 104 1, .rs 9 0 296 1], bT [.ints .i64 ((64 + k) + 1) ((sub (rwI 2 (64 + k)) 0 (64 + k)) ++ ([(mkIn 2 (((64 + k) : Nat) : Int))] : List Int))]]⟩) (ex := .normal) mix tabOkSB gam302_ok
  (vc := [(((0 + (64 + k)) ≤ (64 + k)) ∧ ((1 ≤ 1) ∧ (1 ≤ 1)) ∧ ((((64 + k) + 1) * 8) ≤ 140737488355328)), ((decide ((k : Int) < 40)) = true)]) (by kernel_rfl)
  (aC ⟨(by omega), ⟨(by decide), (by decide)⟩, (by omega)⟩ (aC (decide_eq_true (by omega)) (AllP_nil)))
 rw [e0, e1, e2] at h
 exact h

theorem biG2_lA (L0 L1 L2 L3 : List Int) (hl2_0 : L0.length = 64) (hl3_0 : L1.length = 256) (hl4_0 : L2.length = 64) (hl5_0 : L3.length = 256) (w : World) (rw : List Nat) (β : Env) (cap : Nat) (J : List Value) : Run Try.prog ⟨w, rw, 6, β⟩ (loopB Try.f109 6) (biG2_mkA L0 L1 L2 L3 cap J 40) (To ⟨w, rw, 6, β⟩ (.exit 6) (biG2_mkA L0 L1 L2 L3 cap J 40)) := by
 have h := Run.of_outT (B := ⟨w, rw, 6, β⟩) (Λ := noLam) (Ψ := noPsi) (fuel := 0) (ora := [false]) (c := (loopB Try.f109 6)) (st := (biG2_mkA L0 L1 L2 L3 cap J 40)) (l := [.forget [0, 3, 4, 5, 6, 7, 8, 9] 12]) (s' := ⟨sparse 113 [(0, .o (.a (.p 0 0))), (3, .o (.a (.rs 1 0 4 1))), (4, .o (.a (.i .i64 4))), (5, .o (.a (.i .i64 256))), (6, .o (.a (.rs 11 0 2 1))), (7, .o (.a (.i .i64 2))), (8, .o (.a (.sl 4 0 104 cap))), (9, .o (.a (.i .i64 40)))], [some kb3, some kb1, bF [.ints .i64 64 (rwI 0 64)], bF [.ints .i64 256 (rwI 1 256)], bT [.ints .i64 104 (rwI 2 104), .vals (cap - 104) (List.drop 40 J)], bT [.ints .i64 256 (rwI 3 256)], bF [.ints .i64 104 (rwI 0 104)], bT [.rs 6 0 104 1], none, bF [.ints .i64 296 (rwI 1 296)], bT [.rs 9 0 296 1], bT [.rs 6 0 104 1, .rs 9 0 296 1]]⟩) (ex := (.exit 6)) mix tabOkSB gam302_ok
  (vc := [(false = false)]) (by kernel_rfl)
  (aC rfl (AllP_nil))
 exact h

theorem biG2_lB (L0 L1 L2 L3 : List Int) (hl2_0 : L0.length = 64) (hl3_0 : L1.length = 256) (hl4_0 : L2.length = 64) (hl5_0 : L3.length = 256) (w : World) (rw : List Nat) (β : Env) : Run Try.prog ⟨w, rw, 6, β⟩ (loopB Try.f109 6) (biG2_mkB L0 L1 L2 L3 40) (To ⟨w, rw, 6, β⟩ (.exit 6) (biG2_mkB L0 L1 L2 L3 40)) := by
 have h := Run.of_outT (B := ⟨w, rw, 6, β⟩) (Λ := noLam) (Ψ := noPsi) (fuel := 0) (ora := [false]) (c := (loopB Try.f109 6)) (st := (biG2_mkB L0 L1 L2 L3 40)) (l := [.forget [0, 3, 4, 5, 6, 7, 8, 9] 13]) (s' := ⟨sparse 113 [(0, .o (.a (.p 0 0))), (3, .o (.a (.rs 1 0 4 1))), (4, .o (.a (.i .i64 4))), (5, .o (.a (.i .i64 256))), (6, .o (.a (.rs 11 0 2 1))), (7, .o (.a (.i .i64 2))), (8, .o (.a (.rs 12 0 104 1))), (9, .o (.a (.i .i64 40)))], [some kb3, some kb1, bF [.ints .i64 64 (rwI 0 64)], bF [.ints .i64 256 (rwI 1 256)], bF [.ints .i64 64 (rwI 2 64)], bT [.ints .i64 256 (rwI 3 256)], bF [.ints .i64 104 (rwI 0 104)], bT [.rs 6 0 104 1], none, bF [.ints .i64 296 (rwI 1 296)], bT [.rs 9 0 296 1], bT [.rs 6 0 104 1, .rs 9 0 296 1], bT [.ints .i64 104 (rwI 2 104)]]⟩) (ex := (.exit 6)) mix tabOkSB gam302_ok
  (vc := [(false = false)]) (by kernel_rfl)
  (aC rfl (AllP_nil))
 exact h

theorem biG2_loop (L0 L1 L2 L3 : List Int) (hl2_0 : L0.length = 64) (hl3_0 : L1.length = 256) (hl4_0 : L2.length = 64) (hl5_0 : L3.length = 256) (w : World) (rw : List Nat) (β : Env) : Run Try.prog ⟨w, rw, 6, β⟩ (.block 6 (.loop (loopB Try.f109 6))) (biG2_mk0 L0 L1 L2 L3) (To ⟨w, rw, 6, β⟩ .normal (biG2_mkF L0 L1 L2 L3)) := by
 intro b1 a1 w1 hR Q hq
 obtain ⟨cap, J, hc, hJ, hR⟩ := hR.opened1 (t := 8) (j := 4) (c := 0) (len := 64) (by rfl) (cells := [.ints .i64 64 (rwI (2 : Int) 64)]) (by rfl) (by simp [sizes, Atom.size])
 have hR := hR.cast (s' := biG2_mkA L0 L1 L2 L3 cap J 0) (by kernel_rfl)
 have hX : biG2_mkA L0 L1 L2 L3 cap J 0 = (fun k => if (64 + k) ≤ cap then biG2_mkA L0 L1 L2 L3 cap J k else biG2_mkB L0 L1 L2 L3 k) 0 := by
  show _ = if 64 ≤ cap then _ else _
  rw [if_pos hc]
 rw [hX] at hR
 refine Run.count (fun k => if (64 + k) ≤ cap then biG2_mkA L0 L1 L2 L3 cap J k else biG2_mkB L0 L1 L2 L3 k) 40 (ex := .exit 6) (post := (biG2_mkF L0 L1 L2 L3)) (fun k hk => ?_) (by simp) ?_ b1 a1 w1 hR Q ?_
 ·show Run _ _ _ (if (64 + k) ≤ cap then _ else _) (To _ _ (if (64 + (k + 1)) ≤ cap then _ else _))
  by_cases hgA : (64 + (k + 1)) ≤ cap
  ·rw [if_pos hgA, if_pos (by omega)]
   exact biG2_rA L0 L1 L2 L3 hl2_0 hl3_0 hl4_0 hl5_0 w rw β cap J k hk hgA
  ·rw [if_neg hgA]
   by_cases hgB : (64 + k) ≤ cap
   ·rw [if_pos hgB]
    exact (biG2_rX L0 L1 L2 L3 hl2_0 hl3_0 hl4_0 hl5_0 w rw β cap J k hk (by omega)).to_weak fun b1 a1 w1 h => ⟨b1, (Rel.stilled (j := 4) h (by rfl) (c1 := [.ints .i64 64 (rwI 2 64)]) (Pre.pref (rwI_pref 2 64 _) (rwI_len 2 64) _)).cast (by kernel_rfl)⟩
   ·rw [if_neg hgB]
    exact biG2_rB L0 L1 L2 L3 hl2_0 hl3_0 hl4_0 hl5_0 w rw β k hk
 ·show Run _ _ _ (if 104 ≤ cap then _ else _) _
  by_cases hgA : 104 ≤ cap
  ·rw [if_pos hgA]
   exact (biG2_lA L0 L1 L2 L3 hl2_0 hl3_0 hl4_0 hl5_0 w rw β cap J).to_weak fun b1 a1 w1 h => ⟨_, (Rel.twin (t := 8) (j := 4) (c := 0) (len := 104) (cap := cap) (z := 1) h (by kernel_rfl) (by kernel_rfl) (by rfl) (by rfl) (by simp only [sizes, Atom.size, List.map_cons, List.map_nil, List.sum_cons, List.sum_nil]; omega) (c1 := [.ints .i64 64 (rwI 2 64)]) (c2 := [.ints .i64 104 (rwI 2 104)]) (Pre.pref (rwI_pref 2 64 _) (rwI_len 2 64) _) (Pre.all _) (by rfl) (by rfl)).cast (by kernel_rfl)⟩
  ·rw [if_neg hgA]
   exact (biG2_lB L0 L1 L2 L3 hl2_0 hl3_0 hl4_0 hl5_0 w rw β).to_weak fun b1 a1 w1 h => ⟨b1, (Rel.stilled (j := 12) h (by rfl) (c1 := [.ints .i64 104 (rwI (2 : Int) 104)]) (Pre.all _)).cast (by kernel_rfl)⟩
 ·exact hq

def biG3_mkA (L0 L1 L2 L3 : List Int) (cap : Nat) (J : List Value) (k : Nat) : St := ⟨sparse 113 [(0, .o (.a (.p 0 0))), (3, .o (.a (.rs 1 0 4 1))), (4, .o (.a (.i .i64 4))), (5, .o (.a (.i .i64 256))), (6, .o (.a (.rs 14 0 3 1))), (7, .o (.a (.i .i64 3))), (8, .o (.a (.sl 5 0 (256 + k) cap))), (9, .o (.a (.i .i64 (k : Int))))], [some kb3, some kb1, bF [.ints .i64 64 (rwI 0 64)], bF [.ints .i64 256 (rwI 1 256)], bF [.ints .i64 64 (rwI 2 64)], bT [.ints .i64 (256 + k) (rwI 3 (256 + k)), .vals (cap - (256 + k)) (List.drop k J)], bF [.ints .i64 104 (rwI 0 104)], bT [.rs 6 0 104 1], none, bF [.ints .i64 296 (rwI 1 296)], bT [.rs 9 0 296 1], none, bF [.ints .i64 104 (rwI 2 104)], bT [.rs 12 0 104 1], some kb9]⟩

def biG3_mkB (L0 L1 L2 L3 : List Int) (k : Nat) : St := ⟨sparse 113 [(0, .o (.a (.p 0 0))), (3, .o (.a (.rs 1 0 4 1))), (4, .o (.a (.i .i64 4))), (5, .o (.a (.i .i64 256))), (6, .o (.a (.rs 14 0 3 1))), (7, .o (.a (.i .i64 3))), (8, .o (.a (.rs 15 0 (256 + k) 1))), (9, .o (.a (.i .i64 (k : Int))))], [some kb3, some kb1, bF [.ints .i64 64 (rwI 0 64)], bF [.ints .i64 256 (rwI 1 256)], bF [.ints .i64 64 (rwI 2 64)], bF [.ints .i64 256 (rwI 3 256)], bF [.ints .i64 104 (rwI 0 104)], bT [.rs 6 0 104 1], none, bF [.ints .i64 296 (rwI 1 296)], bT [.rs 9 0 296 1], none, bF [.ints .i64 104 (rwI 2 104)], bT [.rs 12 0 104 1], some kb9, bT [.ints .i64 (256 + k) (rwI 3 (256 + k))]]⟩

def biG3_mkF (L0 L1 L2 L3 : List Int) : St := ⟨sparse 113 [(0, .o (.a (.p 0 0))), (3, .o (.a (.rs 1 0 4 1))), (4, .o (.a (.i .i64 4))), (5, .o (.a (.i .i64 256))), (6, .o (.a (.rs 14 0 3 1))), (7, .o (.a (.i .i64 3))), (8, .o (.a (.rs 15 0 296 1))), (9, .o (.a (.i .i64 40)))], [some kb3, some kb1, bF [.ints .i64 64 (rwI 0 64)], bF [.ints .i64 256 (rwI 1 256)], bF [.ints .i64 64 (rwI 2 64)], bF [.ints .i64 256 (rwI 3 256)], bF [.ints .i64 104 (rwI 0 104)], bT [.rs 6 0 104 1], none, bF [.ints .i64 296 (rwI 1 296)], bT [.rs 9 0 296 1], none, bF [.ints .i64 104 (rwI 2 104)], bT [.rs 12 0 104 1], some kb9, bF [.ints .i64 296 (rwI 3 296)]]⟩

def biG3_mk0 (L0 L1 L2 L3 : List Int) : St := ⟨sparse 113 [(0, .o (.a (.p 0 0))), (3, .o (.a (.rs 1 0 4 1))), (4, .o (.a (.i .i64 4))), (5, .o (.a (.i .i64 256))), (6, .o (.a (.rs 14 0 3 1))), (7, .o (.a (.i .i64 3))), (8, .o (.a (.rs 5 0 256 1))), (9, .o (.a (.i .i64 0)))], [some kb3, some kb1, bF [.ints .i64 64 (rwI 0 64)], bF [.ints .i64 256 (rwI 1 256)], bF [.ints .i64 64 (rwI 2 64)], bT [.ints .i64 256 (rwI 3 256)], bF [.ints .i64 104 (rwI 0 104)], bT [.rs 6 0 104 1], none, bF [.ints .i64 296 (rwI 1 296)], bT [.rs 9 0 296 1], none, bF [.ints .i64 104 (rwI 2 104)], bT [.rs 12 0 104 1], some kb9]⟩

theorem biG3_rA (L0 L1 L2 L3 : List Int) (hl2_0 : L0.length = 64) (hl3_0 : L1.length = 256) (hl4_0 : L2.length = 64) (hl5_0 : L3.length = 256) (w : World) (rw : List Nat) (β : Env) (cap : Nat) (J : List Value) (k : Nat) (hk : k < 40) (hc : (256 + (k + 1)) ≤ cap) : Run Try.prog ⟨w, rw, 6, β⟩ (loopB Try.f109 6) (biG3_mkA L0 L1 L2 L3 cap J k) (To ⟨w, rw, 6, β⟩ .normal (biG3_mkA L0 L1 L2 L3 cap J (k + 1))) := by
 have e0 : ((rwI 3 (256 + k)) ++ ([(mkIn 3 (((256 + k) : Nat) : Int))] : List Int)) = (rwI 3 (256 + (k + 1))) := (by first | rfl | exact wrap_succ (by omega) | omega | exact rwI_grow _ _ | exact rwI_more _ _ | exact List.drop_drop | (rw [List.drop_drop]; congr 1; omega))
 have e1 := wrap_succ (n := k) (by omega)
 have e2 : ((cap - (256 + k)) - 1) = (cap - (256 + (k + 1))) := (by omega)
 have e3 : (List.drop (1 : Nat) (List.drop k J)) = (List.drop (k + (1 : Nat)) J) := (by first | rfl | exact wrap_succ (by omega) | omega | exact rwI_grow _ _ | exact rwI_more _ _ | exact List.drop_drop | (rw [List.drop_drop]; congr 1; omega))
 have e4 : ((256 + k) + 1) = (256 + (k + 1)) := (by omega)
 have h := Run.of_outT (B := ⟨w, rw, 6, β⟩) (Λ := noLam) (Ψ := noPsi) (fuel := 0) (ora := [true, true]) (c := (loopB Try.f109 6)) (st := (biG3_mkA L0 L1 L2 L3 cap J k)) (l := [.forget [0, 3, 4, 5, 6, 7, 8, 9] 15]) (s' := ⟨sparse 113 [(0, .o (.a (.p 0 0))), (3, .o (.a (.rs 1 0 4 1))), (4, .o (.a (.i .i64 4))), (5, .o (.a (.i .i64 256))), (6, .o (.a (.rs 14 0 3 1))), (7, .o (.a (.i .i64 3))), (8, .o (.a (.sl 5 0 ((256 + k) + 1) cap))), (9, .o (.a (.i .i64 (IntKind.i64.wrap ((k : Int) + 1)))))], [some kb3, some kb1, bF [.ints .i64 64 (rwI 0 64)], bF [.ints .i64 256 (rwI 1 256)], bF [.ints .i64 64 (rwI 2 64)], bT [.ints .i64 ((256 + k) + 1) ((rwI 3 (256 + k)) ++ ([(mkIn 3 (((256 + k) : Nat) : Int))] : List Int)), .vals ((cap - (256 + k)) - 1) (List.drop 1 (List.drop k J))], bF [.ints .i64 104 (rwI 0 104)], bT [.rs 6 0 104 1], none, bF [.ints .i64 296 (rwI 1 296)], bT [.rs 9 0 296 1], none, bF [.ints .i64 104 (rwI 2 104)], bT [.rs 12 0 104 1], some kb9]⟩) (ex := .normal) mix tabOkSB gam302_ok
  (vc := [(((1 ≤ 1) ∧ (1 ≤ 1)) ∧ (okP (some (((0 + (256 + k)) = (256 + k)) ∧ (1 ≤ (cap - (256 + k)))))) ∧ (((256 + k) + 1) ≤ cap)), ((decide ((k : Int) < 40)) = true)]) (by kernel_rfl)
  (aC ⟨⟨(by decide), (by decide)⟩, (show (((0 + (256 + k)) = (256 + k)) ∧ (1 ≤ (cap - (256 + k)))) from ⟨(by omega), (by omega)⟩), (by omega)⟩ (aC (decide_eq_true (by omega)) (AllP_nil)))
 rw [e0, e1, e2, e3, e4] at h
 exact h

def biG3_mkX (L0 L1 L2 L3 : List Int) (cap : Nat) (J : List Value) (k : Nat) : St := ⟨sparse 113 [(0, .o (.a (.p 0 0))), (3, .o (.a (.rs 1 0 4 1))), (4, .o (.a (.i .i64 4))), (5, .o (.a (.i .i64 256))), (6, .o (.a (.rs 14 0 3 1))), (7, .o (.a (.i .i64 3))), (8, .o (.a (.rs 15 0 (256 + (k + 1)) 1))), (9, .o (.a (.i .i64 (((k + 1) : Nat) : Int))))], [some kb3, some kb1, bF [.ints .i64 64 (rwI 0 64)], bF [.ints .i64 256 (rwI 1 256)], bF [.ints .i64 64 (rwI 2 64)], bT [.ints .i64 (256 + k) (rwI 3 (256 + k)), .vals (cap - (256 + k)) (List.drop k J)], bF [.ints .i64 104 (rwI 0 104)], bT [.rs 6 0 104 1], none, bF [.ints .i64 296 (rwI 1 296)], bT [.rs 9 0 296 1], none, bF [.ints .i64 104 (rwI 2 104)], bT [.rs 12 0 104 1], some kb9, bT [.ints .i64 (256 + (k + 1)) (rwI 3 (256 + (k + 1)))]]⟩

theorem biG3_rX (L0 L1 L2 L3 : List Int) (hl2_0 : L0.length = 64) (hl3_0 : L1.length = 256) (hl4_0 : L2.length = 64) (hl5_0 : L3.length = 256) (w : World) (rw : List Nat) (β : Env) (cap : Nat) (J : List Value) (k : Nat) (hk : k < 40) (hc : cap < (256 + (k + 1))) : Run Try.prog ⟨w, rw, 6, β⟩ (loopB Try.f109 6) (biG3_mkA L0 L1 L2 L3 cap J k) (To ⟨w, rw, 6, β⟩ .normal (biG3_mkX L0 L1 L2 L3 cap J k)) := by
 have e0 : ((sub (rwI 3 (256 + k)) 0 (256 + k)) ++ ([(mkIn 3 (((256 + k) : Nat) : Int))] : List Int)) = (rwI 3 (256 + (k + 1))) := (by first | rfl | exact wrap_succ (by omega) | omega | exact rwI_grow _ _ | exact rwI_more _ _ | exact List.drop_drop | (rw [List.drop_drop]; congr 1; omega))
 have e1 := wrap_succ (n := k) (by omega)
 have e2 : ((256 + k) + 1) = (256 + (k + 1)) := (by omega)
 have h := Run.of_outT (B := ⟨w, rw, 6, β⟩) (Λ := noLam) (Ψ := noPsi) (fuel := 0) (ora := [true, false]) (c := (loopB Try.f109 6)) (st := (biG3_mkA L0 L1 L2 L3 cap J k)) (l := [.swap 15 16, .forget [0, 3, 4, 5, 6, 7, 8, 9] 16]) (s' := ⟨sparse 113 [(0, .o (.a (.p 0 0))), (3, .o (.a (.rs 1 0 4 1))), (4, .o (.a (.i .i64 4))), (5, .o (.a (.i .i64 256))), (6, .o (.a (.rs 14 0 3 1))), (7, .o (.a (.i .i64 3))), (8, .o (.a (.rs 15 0 ((256 + k) + 1) 1))), (9, .o (.a (.i .i64 (IntKind.i64.wrap ((k : Int) + 1)))))], [some kb3, some kb1, bF [.ints .i64 64 (rwI 0 64)], bF [.ints .i64 256 (rwI 1 256)], bF [.ints .i64 64 (rwI 2 64)], bT [.ints .i64 (256 + k) (rwI 3 (256 + k)), .vals (cap - (256 + k)) (List.drop k J)], bF [.ints .i64 104 (rwI 0 104)], bT [.rs 6 0 104 1], none, bF [.ints .i64 296 (rwI 1 296)], bT [.rs 9 0 296 1], none, bF [.ints .i64 104 (rwI 2 104)], bT [.rs 12 0 104 1], some kb9, bT [.ints .i64 ((256 + k) + 1) ((sub (rwI 3 (256 + k)) 0 (256 + k)) ++ ([(mkIn 3 (((256 + k) : Nat) : Int))] : List Int))]]⟩) (ex := .normal) mix tabOkSB gam302_ok
  (vc := [(((0 + (256 + k)) ≤ (256 + k)) ∧ ((1 ≤ 1) ∧ (1 ≤ 1)) ∧ (cap < ((256 + k) + 1)) ∧ ((((256 + k) + 1) * 8) ≤ 140737488355328)), ((decide ((k : Int) < 40)) = true)]) (by kernel_rfl)
  (aC ⟨(by omega), ⟨(by decide), (by decide)⟩, (by omega), (by omega)⟩ (aC (decide_eq_true (by omega)) (AllP_nil)))
 rw [e0, e1, e2] at h
 exact h

theorem biG3_rB (L0 L1 L2 L3 : List Int) (hl2_0 : L0.length = 64) (hl3_0 : L1.length = 256) (hl4_0 : L2.length = 64) (hl5_0 : L3.length = 256) (w : World) (rw : List Nat) (β : Env) (k : Nat) (hk : k < 40) : Run Try.prog ⟨w, rw, 6, β⟩ (loopB Try.f109 6) (biG3_mkB L0 L1 L2 L3 k) (To ⟨w, rw, 6, β⟩ .normal (biG3_mkB L0 L1 L2 L3 (k + 1))) := by
 have e0 : ((sub (rwI 3 (256 + k)) 0 (256 + k)) ++ ([(mkIn 3 (((256 + k) : Nat) : Int))] : List Int)) = (rwI 3 (256 + (k + 1))) := (by first | rfl | exact wrap_succ (by omega) | omega | exact rwI_grow _ _ | exact rwI_more _ _ | exact List.drop_drop | (rw [List.drop_drop]; congr 1; omega))
 have e1 := wrap_succ (n := k) (by omega)
 have e2 : ((256 + k) + 1) = (256 + (k + 1)) := (by omega)
 have h := Run.of_outT (B := ⟨w, rw, 6, β⟩) (Λ := noLam) (Ψ := noPsi) (fuel := 0) (ora := [true, false]) (c := (loopB Try.f109 6)) (st := (biG3_mkB L0 L1 L2 L3 k)) (l := [.swap 15 17, .forget [0, 3, 4, 5, 6, 7, 8, 9] 16]) (s' := ⟨sparse 113 [(0, .o (.a (.p 0 0))), (3, .o (.a (.rs 1 0 4 1))), (4, .o (.a (.i .i64 4))), (5, .o (.a (.i .i64 256))), (6, .o (.a (.rs 14 0 3 1))), (7, .o (.a (.i .i64 3))), (8, .o (.a (.rs 15 0 ((256 + k) + 1) 1))), (9, .o (.a (.i .i64 (IntKind.i64.wrap ((k : Int) + 1)))))], [some kb3, some kb1, bF [.ints .i64 64 (rwI 0 64)], bF [.ints .i64 256 (rwI 1 256)], bF [.ints .i64 64 (rwI 2 64)], bF [.ints .i64 256 (rwI 3 256)], bF [.ints .i64 104 (rwI 0 104)], bT [.rs 6 0 104 1], none, bF [.ints .i64 296 (rwI 1 296)], bT [.rs 9 0 296 1], none, bF [.ints .i64 104 (rwI 2 104)], bT [.rs 12 0 104 1], some kb9, bT [.ints .i64 ((256 + k) + 1) ((sub (rwI 3 (256 + k)) 0 (256 + k)) ++ ([(mkIn 3 (((256 + k) : Nat) : Int))] : List Int))]]⟩) (ex := .normal) mix tabOkSB gam302_ok
  (vc := [(((0 + (256 + k)) ≤ (256 + k)) ∧ ((1 ≤ 1) ∧ (1 ≤ 1)) ∧ ((((256 + k) + 1) * 8) ≤ 140737488355328)), ((decide ((k : Int) < 40)) = true)]) (by kernel_rfl)
  (aC ⟨(by omega), ⟨(by decide), (by decide)⟩, (by omega)⟩ (aC (decide_eq_true (by omega)) (AllP_nil)))
 rw [e0, e1, e2] at h
 exact h

theorem biG3_lA (L0 L1 L2 L3 : List Int) (hl2_0 : L0.length = 64) (hl3_0 : L1.length = 256) (hl4_0 : L2.length = 64) (hl5_0 : L3.length = 256) (w : World) (rw : List Nat) (β : Env) (cap : Nat) (J : List Value) : Run Try.prog ⟨w, rw, 6, β⟩ (loopB Try.f109 6) (biG3_mkA L0 L1 L2 L3 cap J 40) (To ⟨w, rw, 6, β⟩ (.exit 6) (biG3_mkA L0 L1 L2 L3 cap J 40)) := by
 have h := Run.of_outT (B := ⟨w, rw, 6, β⟩) (Λ := noLam) (Ψ := noPsi) (fuel := 0) (ora := [false]) (c := (loopB Try.f109 6)) (st := (biG3_mkA L0 L1 L2 L3 cap J 40)) (l := [.forget [0, 3, 4, 5, 6, 7, 8, 9] 15]) (s' := ⟨sparse 113 [(0, .o (.a (.p 0 0))), (3, .o (.a (.rs 1 0 4 1))), (4, .o (.a (.i .i64 4))), (5, .o (.a (.i .i64 256))), (6, .o (.a (.rs 14 0 3 1))), (7, .o (.a (.i .i64 3))), (8, .o (.a (.sl 5 0 296 cap))), (9, .o (.a (.i .i64 40)))], [some kb3, some kb1, bF [.ints .i64 64 (rwI 0 64)], bF [.ints .i64 256 (rwI 1 256)], bF [.ints .i64 64 (rwI 2 64)], bT [.ints .i64 296 (rwI 3 296), .vals (cap - 296) (List.drop 40 J)], bF [.ints .i64 104 (rwI 0 104)], bT [.rs 6 0 104 1], none, bF [.ints .i64 296 (rwI 1 296)], bT [.rs 9 0 296 1], none, bF [.ints .i64 104 (rwI 2 104)], bT [.rs 12 0 104 1], some kb9]⟩) (ex := (.exit 6)) mix tabOkSB gam302_ok
  (vc := [(false = false)]) (by kernel_rfl)
  (aC rfl (AllP_nil))
 exact h

theorem biG3_lB (L0 L1 L2 L3 : List Int) (hl2_0 : L0.length = 64) (hl3_0 : L1.length = 256) (hl4_0 : L2.length = 64) (hl5_0 : L3.length = 256) (w : World) (rw : List Nat) (β : Env) : Run Try.prog ⟨w, rw, 6, β⟩ (loopB Try.f109 6) (biG3_mkB L0 L1 L2 L3 40) (To ⟨w, rw, 6, β⟩ (.exit 6) (biG3_mkB L0 L1 L2 L3 40)) := by
 have h := Run.of_outT (B := ⟨w, rw, 6, β⟩) (Λ := noLam) (Ψ := noPsi) (fuel := 0) (ora := [false]) (c := (loopB Try.f109 6)) (st := (biG3_mkB L0 L1 L2 L3 40)) (l := [.forget [0, 3, 4, 5, 6, 7, 8, 9] 16]) (s' := ⟨sparse 113 [(0, .o (.a (.p 0 0))), (3, .o (.a (.rs 1 0 4 1))), (4, .o (.a (.i .i64 4))), (5, .o (.a (.i .i64 256))), (6, .o (.a (.rs 14 0 3 1))), (7, .o (.a (.i .i64 3))), (8, .o (.a (.rs 15 0 296 1))), (9, .o (.a (.i .i64 40)))], [some kb3, some kb1, bF [.ints .i64 64 (rwI 0 64)], bF [.ints .i64 256 (rwI 1 256)], bF [.ints .i64 64 (rwI 2 64)], bF [.ints .i64 256 (rwI 3 256)], bF [.ints .i64 104 (rwI 0 104)], bT [.rs 6 0 104 1], none, bF [.ints .i64 296 (rwI 1 296)], bT [.rs 9 0 296 1], none, bF [.ints .i64 104 (rwI 2 104)], bT [.rs 12 0 104 1], some kb9, bT [.ints .i64 296 (rwI 3 296)]]⟩) (ex := (.exit 6)) mix tabOkSB gam302_ok
  (vc := [(false = false)]) (by kernel_rfl)
  (aC rfl (AllP_nil))
 exact h

theorem biG3_loop (L0 L1 L2 L3 : List Int) (hl2_0 : L0.length = 64) (hl3_0 : L1.length = 256) (hl4_0 : L2.length = 64) (hl5_0 : L3.length = 256) (w : World) (rw : List Nat) (β : Env) : Run Try.prog ⟨w, rw, 6, β⟩ (.block 6 (.loop (loopB Try.f109 6))) (biG3_mk0 L0 L1 L2 L3) (To ⟨w, rw, 6, β⟩ .normal (biG3_mkF L0 L1 L2 L3)) := by
 intro b1 a1 w1 hR Q hq
 obtain ⟨cap, J, hc, hJ, hR⟩ := hR.opened1 (t := 8) (j := 5) (c := 0) (len := 256) (by rfl) (cells := [.ints .i64 256 (rwI (3 : Int) 256)]) (by rfl) (by simp [sizes, Atom.size])
 have hR := hR.cast (s' := biG3_mkA L0 L1 L2 L3 cap J 0) (by kernel_rfl)
 have hX : biG3_mkA L0 L1 L2 L3 cap J 0 = (fun k => if (256 + k) ≤ cap then biG3_mkA L0 L1 L2 L3 cap J k else biG3_mkB L0 L1 L2 L3 k) 0 := by
  show _ = if 256 ≤ cap then _ else _
  rw [if_pos hc]
 rw [hX] at hR
 refine Run.count (fun k => if (256 + k) ≤ cap then biG3_mkA L0 L1 L2 L3 cap J k else biG3_mkB L0 L1 L2 L3 k) 40 (ex := .exit 6) (post := (biG3_mkF L0 L1 L2 L3)) (fun k hk => ?_) (by simp) ?_ b1 a1 w1 hR Q ?_
 ·show Run _ _ _ (if (256 + k) ≤ cap then _ else _) (To _ _ (if (256 + (k + 1)) ≤ cap then _ else _))
  by_cases hgA : (256 + (k + 1)) ≤ cap
  ·rw [if_pos hgA, if_pos (by omega)]
   exact biG3_rA L0 L1 L2 L3 hl2_0 hl3_0 hl4_0 hl5_0 w rw β cap J k hk hgA
  ·rw [if_neg hgA]
   by_cases hgB : (256 + k) ≤ cap
   ·rw [if_pos hgB]
    exact (biG3_rX L0 L1 L2 L3 hl2_0 hl3_0 hl4_0 hl5_0 w rw β cap J k hk (by omega)).to_weak fun b1 a1 w1 h => ⟨b1, (Rel.stilled (j := 5) h (by rfl) (c1 := [.ints .i64 256 (rwI 3 256)]) (Pre.pref (rwI_pref 3 256 _) (rwI_len 3 256) _)).cast (by kernel_rfl)⟩
   ·rw [if_neg hgB]
    exact biG3_rB L0 L1 L2 L3 hl2_0 hl3_0 hl4_0 hl5_0 w rw β k hk
 ·show Run _ _ _ (if 296 ≤ cap then _ else _) _
  by_cases hgA : 296 ≤ cap
  ·rw [if_pos hgA]
   exact (biG3_lA L0 L1 L2 L3 hl2_0 hl3_0 hl4_0 hl5_0 w rw β cap J).to_weak fun b1 a1 w1 h => ⟨_, (Rel.twin (t := 8) (j := 5) (c := 0) (len := 296) (cap := cap) (z := 1) h (by kernel_rfl) (by kernel_rfl) (by rfl) (by rfl) (by simp only [sizes, Atom.size, List.map_cons, List.map_nil, List.sum_cons, List.sum_nil]; omega) (c1 := [.ints .i64 256 (rwI 3 256)]) (c2 := [.ints .i64 296 (rwI 3 296)]) (Pre.pref (rwI_pref 3 256 _) (rwI_len 3 256) _) (Pre.all _) (by rfl) (by rfl)).cast (by kernel_rfl)⟩
  ·rw [if_neg hgA]
   exact (biG3_lB L0 L1 L2 L3 hl2_0 hl3_0 hl4_0 hl5_0 w rw β).to_weak fun b1 a1 w1 h => ⟨b1, (Rel.stilled (j := 15) h (by rfl) (c1 := [.ints .i64 296 (rwI (3 : Int) 296)]) (Pre.all _)).cast (by kernel_rfl)⟩
 ·exact hq

def biC0_mk (L0 L1 L2 L3 : List Int) (k : Nat) (s : Unit) : St := ⟨sparse 113 [(0, .o (.a (.p 0 0))), (3, .o (.a (.rs 1 0 4 1))), (4, .o (.a (.i .i64 4))), (5, .o (.a (.i .i64 256))), (6, .o (.a (.rs 17 0 4 1))), (7, .o (.a (.i .i64 4))), (8, .o (.a (.rs 15 0 296 1))), (9, .o (.a (.i .i64 40))), (10, .o (.a (.i .i64 0))), (11, .o (.a (.i .i64 (k : Int))))], [some kb3, some kb1, bF [.ints .i64 64 (rwI 0 64)], bF [.ints .i64 256 (rwI 1 256)], bF [.ints .i64 64 (rwI 2 64)], bF [.ints .i64 256 (rwI 3 256)], bF [.ints .i64 104 (rwI 0 104)], bT [.rs 6 0 104 1], none, bF [.ints .i64 296 (rwI 1 296)], bT [.rs 9 0 296 1], none, bF [.ints .i64 104 (rwI 2 104)], bT [.rs 12 0 104 1], none, bF [.ints .i64 296 (rwI 3 296)], bT [.rs 15 0 296 1], some kb8]⟩

theorem biC0_round_0 (L0 L1 L2 L3 : List Int) (hl2_0 : L0.length = 64) (hl3_0 : L1.length = 256) (hl4_0 : L2.length = 64) (hl5_0 : L3.length = 256) (w : World) (rw : List Nat) (β : Env) (k : Nat) (hk : k < 104) (s : Unit) (ha : k < 64) : Run Try.prog ⟨w, rw, 6, β⟩ (loopB Try.f109 10) (biC0_mk L0 L1 L2 L3 k s) (To ⟨w, rw, 6, β⟩ .normal (biC0_mk L0 L1 L2 L3 (k + 1) (moL_step k s))) := by
 have e0 := wrap_succ (n := k) (by omega)
 have h := Run.of_outT (B := ⟨w, rw, 6, β⟩) (Λ := noLam) (Ψ := noPsi) (fuel := 0) (ora := [true, true, true, true, true, true, true, true, true, true, true, true, true, true, true, true, true, true, true, true, false, false]) (c := (loopB Try.f109 10)) (st := (biC0_mk L0 L1 L2 L3 k s)) (l := [.forget [0, 3, 4, 5, 6, 7, 8, 9, 10, 11] 18]) (s' := ⟨sparse 113 [(0, .o (.a (.p 0 0))), (3, .o (.a (.rs 1 0 4 1))), (4, .o (.a (.i .i64 4))), (5, .o (.a (.i .i64 256))), (6, .o (.a (.rs 17 0 4 1))), (7, .o (.a (.i .i64 4))), (8, .o (.a (.rs 15 0 296 1))), (9, .o (.a (.i .i64 40))), (10, .o (.a (.i .i64 0))), (11, .o (.a (.i .i64 (IntKind.i64.wrap ((k : Int) + 1)))))], [some kb3, some kb1, bF [.ints .i64 64 (rwI 0 64)], bF [.ints .i64 256 (rwI 1 256)], bF [.ints .i64 64 (rwI 2 64)], bF [.ints .i64 256 (rwI 3 256)], bF [.ints .i64 104 (rwI 0 104)], bT [.rs 6 0 104 1], none, bF [.ints .i64 296 (rwI 1 296)], bT [.rs 9 0 296 1], none, bF [.ints .i64 104 (rwI 2 104)], bT [.rs 12 0 104 1], none, bF [.ints .i64 296 (rwI 3 296)], bT [.rs 15 0 296 1], some kb8]⟩) (ex := .normal) mix tabOkSB gam302_ok
  (vc := (let q0 : Prop := (((List.getD (rwI 0 104) k 0) != (mkIn 0 (k : Int))) = false); let p0_ : Prop := ((decide ((k : Int) < 64)) = true); [(((List.getD (rwI 0 64) k 0) != (mkIn 0 (k : Int))) = false), q0, p0_, q0, p0_, p0_, (k < 64), p0_, ((0 ≤ (k : Int)) ∧ ((k : Int) < 64)), p0_, p0_, p0_, (cI 0 4), p0_, p0_, p0_, q0, q0, q0, q0, (cI 0 4), q0, q0, q0, q0, (k < 104), ((0 ≤ (k : Int)) ∧ ((k : Int) < 104)), (cI 0 4), ((decide ((k : Int) < 104)) = true), (cI 0 4)])) (by kernel_rfl)
  (aC (bne_eq_false_iff_eq.2 (rwI_get (by omega))) (aC (bne_eq_false_iff_eq.2 (rwI_get (by omega))) (aC (dt (by omega)) (aC (bne_eq_false_iff_eq.2 (rwI_get (by omega))) (aC (dt (by omega)) (aC (dt (by omega)) (aC (by omega) (aC (dt (by omega)) (aC ⟨(by omega), (by omega)⟩ (aC (dt (by omega)) (aC (dt (by omega)) (aC (dt (by omega)) (aC (dd rfl) (aC (dt (by omega)) (aC (dt (by omega)) (aC (dt (by omega)) (aC (bne_eq_false_iff_eq.2 (rwI_get (by omega))) (aC (bne_eq_false_iff_eq.2 (rwI_get (by omega))) (aC (bne_eq_false_iff_eq.2 (rwI_get (by omega))) (aC (bne_eq_false_iff_eq.2 (rwI_get (by omega))) (aC (dd rfl) (aC (bne_eq_false_iff_eq.2 (rwI_get (by omega))) (aC (bne_eq_false_iff_eq.2 (rwI_get (by omega))) (aC (bne_eq_false_iff_eq.2 (rwI_get (by omega))) (aC (bne_eq_false_iff_eq.2 (rwI_get (by omega))) (aC (by omega) (aC ⟨(by omega), (by omega)⟩ (aC (dd rfl) (aC (dt (by omega)) (aC (dd rfl) (AllP_nil)))))))))))))))))))))))))))))))
 rw [e0] at h
 exact h

theorem biC0_round_1 (L0 L1 L2 L3 : List Int) (hl2_0 : L0.length = 64) (hl3_0 : L1.length = 256) (hl4_0 : L2.length = 64) (hl5_0 : L3.length = 256) (w : World) (rw : List Nat) (β : Env) (k : Nat) (hk : k < 104) (s : Unit) (ha : ¬ k < 64) : Run Try.prog ⟨w, rw, 6, β⟩ (loopB Try.f109 10) (biC0_mk L0 L1 L2 L3 k s) (To ⟨w, rw, 6, β⟩ .normal (biC0_mk L0 L1 L2 L3 (k + 1) (moL_step k s))) := by
 have e0 := wrap_succ (n := k) (by omega)
 have h := Run.of_outT (B := ⟨w, rw, 6, β⟩) (Λ := noLam) (Ψ := noPsi) (fuel := 0) (ora := [true, true, true, true, true, true, true, true, true, false, false, false, false, false, false, false, false, false, true, false, false, false]) (c := (loopB Try.f109 10)) (st := (biC0_mk L0 L1 L2 L3 k s)) (l := [.forget [0, 3, 4, 5, 6, 7, 8, 9, 10, 11] 18]) (s' := ⟨sparse 113 [(0, .o (.a (.p 0 0))), (3, .o (.a (.rs 1 0 4 1))), (4, .o (.a (.i .i64 4))), (5, .o (.a (.i .i64 256))), (6, .o (.a (.rs 17 0 4 1))), (7, .o (.a (.i .i64 4))), (8, .o (.a (.rs 15 0 296 1))), (9, .o (.a (.i .i64 40))), (10, .o (.a (.i .i64 0))), (11, .o (.a (.i .i64 (IntKind.i64.wrap ((k : Int) + 1)))))], [some kb3, some kb1, bF [.ints .i64 64 (rwI 0 64)], bF [.ints .i64 256 (rwI 1 256)], bF [.ints .i64 64 (rwI 2 64)], bF [.ints .i64 256 (rwI 3 256)], bF [.ints .i64 104 (rwI 0 104)], bT [.rs 6 0 104 1], none, bF [.ints .i64 296 (rwI 1 296)], bT [.rs 9 0 296 1], none, bF [.ints .i64 104 (rwI 2 104)], bT [.rs 12 0 104 1], none, bF [.ints .i64 296 (rwI 3 296)], bT [.rs 15 0 296 1], some kb8]⟩) (ex := .normal) mix tabOkSB gam302_ok
  (vc := (let q0 : Prop := (((List.getD (rwI 0 104) k 0) != (mkIn 0 (k : Int))) = false); let p0_ : Prop := ((decide ((k : Int) < 64)) = false); [(false = false), q0, p0_, q0, p0_, p0_, p0_, p0_, p0_, p0_, p0_, p0_, p0_, q0, q0, q0, q0, (cI 0 4), q0, q0, q0, q0, (k < 104), ((0 ≤ (k : Int)) ∧ ((k : Int) < 104)), (cI 0 4), ((decide ((k : Int) < 104)) = true), (cI 0 4)])) (by kernel_rfl)
  (aC rfl (aC (bne_eq_false_iff_eq.2 (rwI_get (by omega))) (aC (df (by omega)) (aC (bne_eq_false_iff_eq.2 (rwI_get (by omega))) (aC (df (by omega)) (aC (df (by omega)) (aC (df (by omega)) (aC (df (by omega)) (aC (df (by omega)) (aC (df (by omega)) (aC (df (by omega)) (aC (df (by omega)) (aC (df (by omega)) (aC (bne_eq_false_iff_eq.2 (rwI_get (by omega))) (aC (bne_eq_false_iff_eq.2 (rwI_get (by omega))) (aC (bne_eq_false_iff_eq.2 (rwI_get (by omega))) (aC (bne_eq_false_iff_eq.2 (rwI_get (by omega))) (aC (dd rfl) (aC (bne_eq_false_iff_eq.2 (rwI_get (by omega))) (aC (bne_eq_false_iff_eq.2 (rwI_get (by omega))) (aC (bne_eq_false_iff_eq.2 (rwI_get (by omega))) (aC (bne_eq_false_iff_eq.2 (rwI_get (by omega))) (aC (by omega) (aC ⟨(by omega), (by omega)⟩ (aC (dd rfl) (aC (dt (by omega)) (aC (dd rfl) (AllP_nil))))))))))))))))))))))))))))
 rw [e0] at h
 exact h

theorem biC0_round (L0 L1 L2 L3 : List Int) (hl2_0 : L0.length = 64) (hl3_0 : L1.length = 256) (hl4_0 : L2.length = 64) (hl5_0 : L3.length = 256) (w : World) (rw : List Nat) (β : Env) (k : Nat) (hk : k < 104) (s : Unit) : Run Try.prog ⟨w, rw, 6, β⟩ (loopB Try.f109 10) (biC0_mk L0 L1 L2 L3 k s) (To ⟨w, rw, 6, β⟩ .normal (biC0_mk L0 L1 L2 L3 (k + 1) (moL_step k s))) := by
 by_cases ha : k < 64
 ·exact biC0_round_0 L0 L1 L2 L3 hl2_0 hl3_0 hl4_0 hl5_0 w rw β k hk s ha
 ·exact biC0_round_1 L0 L1 L2 L3 hl2_0 hl3_0 hl4_0 hl5_0 w rw β k hk s ha

theorem biC0_last (L0 L1 L2 L3 : List Int) (hl2_0 : L0.length = 64) (hl3_0 : L1.length = 256) (hl4_0 : L2.length = 64) (hl5_0 : L3.length = 256) (w : World) (rw : List Nat) (β : Env) (s : Unit) : Run Try.prog ⟨w, rw, 6, β⟩ (loopB Try.f109 10) (biC0_mk L0 L1 L2 L3 104 s) (To ⟨w, rw, 6, β⟩ (.exit 10) (biC0_mk L0 L1 L2 L3 104 s)) :=
 Run.of_outT (Λ := noLam) (Ψ := noPsi) (fuel := 0) (ora := [false]) (l := [.forget [0, 3, 4, 5, 6, 7, 8, 9, 10, 11] 18]) mix tabOkSB gam302_ok
  (vc := [(false = false), (((0 : Int) ≤ 0) ∧ ((0 : Int) < 4))]) (by kernel_rfl)
  (aC rfl (aC ⟨(by decide), (by decide)⟩ (AllP_nil)))

theorem biC0_loop (L0 L1 L2 L3 : List Int) (hl2_0 : L0.length = 64) (hl3_0 : L1.length = 256) (hl4_0 : L2.length = 64) (hl5_0 : L3.length = 256) (w : World) (rw : List Nat) (β : Env) (s : Unit) : Run Try.prog ⟨w, rw, 6, β⟩ (.block 10 (.loop (loopB Try.f109 10))) (biC0_mk L0 L1 L2 L3 0 s) (To ⟨w, rw, 6, β⟩ .normal (biC0_mk L0 L1 L2 L3 104 (iter (moL_step) 104 s))) :=
 Run.count (fun k => biC0_mk L0 L1 L2 L3 k (iter (moL_step) k s)) 104 (fun k hk => biC0_round L0 L1 L2 L3 hl2_0 hl3_0 hl4_0 hl5_0 w rw β k hk _) (ex := (.exit 10)) (by simp) (biC0_last L0 L1 L2 L3 hl2_0 hl3_0 hl4_0 hl5_0 w rw β _)

def biC1_mk (L0 L1 L2 L3 : List Int) (k : Nat) (s : Unit) : St := ⟨sparse 113 [(0, .o (.a (.p 0 0))), (3, .o (.a (.rs 1 0 4 1))), (4, .o (.a (.i .i64 4))), (5, .o (.a (.i .i64 256))), (6, .o (.a (.rs 17 0 4 1))), (7, .o (.a (.i .i64 4))), (8, .o (.a (.rs 15 0 296 1))), (9, .o (.a (.i .i64 40))), (10, .o (.a (.i .i64 1))), (11, .o (.a (.i .i64 (k : Int))))], [some kb3, some kb1, bF [.ints .i64 64 (rwI 0 64)], bF [.ints .i64 256 (rwI 1 256)], bF [.ints .i64 64 (rwI 2 64)], bF [.ints .i64 256 (rwI 3 256)], bF [.ints .i64 104 (rwI 0 104)], bT [.rs 6 0 104 1], none, bF [.ints .i64 296 (rwI 1 296)], bT [.rs 9 0 296 1], none, bF [.ints .i64 104 (rwI 2 104)], bT [.rs 12 0 104 1], none, bF [.ints .i64 296 (rwI 3 296)], bT [.rs 15 0 296 1], some kb8]⟩

theorem biC1_round_0 (L0 L1 L2 L3 : List Int) (hl2_0 : L0.length = 64) (hl3_0 : L1.length = 256) (hl4_0 : L2.length = 64) (hl5_0 : L3.length = 256) (w : World) (rw : List Nat) (β : Env) (k : Nat) (hk : k < 296) (s : Unit) (ha : k < 256) : Run Try.prog ⟨w, rw, 6, β⟩ (loopB Try.f109 10) (biC1_mk L0 L1 L2 L3 k s) (To ⟨w, rw, 6, β⟩ .normal (biC1_mk L0 L1 L2 L3 (k + 1) (moL_step k s))) := by
 have e0 := wrap_succ (n := k) (by omega)
 have h := Run.of_outT (B := ⟨w, rw, 6, β⟩) (Λ := noLam) (Ψ := noPsi) (fuel := 0) (ora := [true, true, true, true, true, true, true, true, true, true, true, true, true, true, true, true, true, true, true, true, false, false]) (c := (loopB Try.f109 10)) (st := (biC1_mk L0 L1 L2 L3 k s)) (l := [.forget [0, 3, 4, 5, 6, 7, 8, 9, 10, 11] 18]) (s' := ⟨sparse 113 [(0, .o (.a (.p 0 0))), (3, .o (.a (.rs 1 0 4 1))), (4, .o (.a (.i .i64 4))), (5, .o (.a (.i .i64 256))), (6, .o (.a (.rs 17 0 4 1))), (7, .o (.a (.i .i64 4))), (8, .o (.a (.rs 15 0 296 1))), (9, .o (.a (.i .i64 40))), (10, .o (.a (.i .i64 1))), (11, .o (.a (.i .i64 (IntKind.i64.wrap ((k : Int) + 1)))))], [some kb3, some kb1, bF [.ints .i64 64 (rwI 0 64)], bF [.ints .i64 256 (rwI 1 256)], bF [.ints .i64 64 (rwI 2 64)], bF [.ints .i64 256 (rwI 3 256)], bF [.ints .i64 104 (rwI 0 104)], bT [.rs 6 0 104 1], none, bF [.ints .i64 296 (rwI 1 296)], bT [.rs 9 0 296 1], none, bF [.ints .i64 104 (rwI 2 104)], bT [.rs 12 0 104 1], none, bF [.ints .i64 296 (rwI 3 296)], bT [.rs 15 0 296 1], some kb8]⟩) (ex := .normal) mix tabOkSB gam302_ok
  (vc := (let q0 : Prop := (((List.getD (rwI 1 296) k 0) != (mkIn 1 (k : Int))) = false); let p0_ : Prop := ((decide ((k : Int) < 256)) = true); [(((List.getD (rwI 1 256) k 0) != (mkIn 1 (k : Int))) = false), q0, p0_, q0, p0_, p0_, (k < 256), p0_, ((0 ≤ (k : Int)) ∧ ((k : Int) < 256)), p0_, p0_, p0_, (cI 1 4), p0_, p0_, p0_, q0, q0, q0, q0, (cI 1 4), q0, q0, q0, q0, (k < 296), ((0 ≤ (k : Int)) ∧ ((k : Int) < 296)), (cI 1 4), ((decide ((k : Int) < 296)) = true), (cI 1 4)])) (by kernel_rfl)
  (aC (bne_eq_false_iff_eq.2 (rwI_get (by omega))) (aC (bne_eq_false_iff_eq.2 (rwI_get (by omega))) (aC (dt (by omega)) (aC (bne_eq_false_iff_eq.2 (rwI_get (by omega))) (aC (dt (by omega)) (aC (dt (by omega)) (aC (by omega) (aC (dt (by omega)) (aC ⟨(by omega), (by omega)⟩ (aC (dt (by omega)) (aC (dt (by omega)) (aC (dt (by omega)) (aC (dd rfl) (aC (dt (by omega)) (aC (dt (by omega)) (aC (dt (by omega)) (aC (bne_eq_false_iff_eq.2 (rwI_get (by omega))) (aC (bne_eq_false_iff_eq.2 (rwI_get (by omega))) (aC (bne_eq_false_iff_eq.2 (rwI_get (by omega))) (aC (bne_eq_false_iff_eq.2 (rwI_get (by omega))) (aC (dd rfl) (aC (bne_eq_false_iff_eq.2 (rwI_get (by omega))) (aC (bne_eq_false_iff_eq.2 (rwI_get (by omega))) (aC (bne_eq_false_iff_eq.2 (rwI_get (by omega))) (aC (bne_eq_false_iff_eq.2 (rwI_get (by omega))) (aC (by omega) (aC ⟨(by omega), (by omega)⟩ (aC (dd rfl) (aC (dt (by omega)) (aC (dd rfl) (AllP_nil)))))))))))))))))))))))))))))))
 rw [e0] at h
 exact h

theorem biC1_round_1 (L0 L1 L2 L3 : List Int) (hl2_0 : L0.length = 64) (hl3_0 : L1.length = 256) (hl4_0 : L2.length = 64) (hl5_0 : L3.length = 256) (w : World) (rw : List Nat) (β : Env) (k : Nat) (hk : k < 296) (s : Unit) (ha : ¬ k < 256) : Run Try.prog ⟨w, rw, 6, β⟩ (loopB Try.f109 10) (biC1_mk L0 L1 L2 L3 k s) (To ⟨w, rw, 6, β⟩ .normal (biC1_mk L0 L1 L2 L3 (k + 1) (moL_step k s))) := by
 have e0 := wrap_succ (n := k) (by omega)
 have h := Run.of_outT (B := ⟨w, rw, 6, β⟩) (Λ := noLam) (Ψ := noPsi) (fuel := 0) (ora := [true, true, true, true, true, true, true, true, true, false, false, false, false, false, false, false, false, false, true, false, false, false]) (c := (loopB Try.f109 10)) (st := (biC1_mk L0 L1 L2 L3 k s)) (l := [.forget [0, 3, 4, 5, 6, 7, 8, 9, 10, 11] 18]) (s' := ⟨sparse 113 [(0, .o (.a (.p 0 0))), (3, .o (.a (.rs 1 0 4 1))), (4, .o (.a (.i .i64 4))), (5, .o (.a (.i .i64 256))), (6, .o (.a (.rs 17 0 4 1))), (7, .o (.a (.i .i64 4))), (8, .o (.a (.rs 15 0 296 1))), (9, .o (.a (.i .i64 40))), (10, .o (.a (.i .i64 1))), (11, .o (.a (.i .i64 (IntKind.i64.wrap ((k : Int) + 1)))))], [some kb3, some kb1, bF [.ints .i64 64 (rwI 0 64)], bF [.ints .i64 256 (rwI 1 256)], bF [.ints .i64 64 (rwI 2 64)], bF [.ints .i64 256 (rwI 3 256)], bF [.ints .i64 104 (rwI 0 104)], bT [.rs 6 0 104 1], none, bF [.ints .i64 296 (rwI 1 296)], bT [.rs 9 0 296 1], none, bF [.ints .i64 104 (rwI 2 104)], bT [.rs 12 0 104 1], none, bF [.ints .i64 296 (rwI 3 296)], bT [.rs 15 0 296 1], some kb8]⟩) (ex := .normal) mix tabOkSB gam302_ok
  (vc := (let q0 : Prop := (((List.getD (rwI 1 296) k 0) != (mkIn 1 (k : Int))) = false); let p0_ : Prop := ((decide ((k : Int) < 256)) = false); [(false = false), q0, p0_, q0, p0_, p0_, p0_, p0_, p0_, p0_, p0_, p0_, p0_, q0, q0, q0, q0, (cI 1 4), q0, q0, q0, q0, (k < 296), ((0 ≤ (k : Int)) ∧ ((k : Int) < 296)), (cI 1 4), ((decide ((k : Int) < 296)) = true), (cI 1 4)])) (by kernel_rfl)
  (aC rfl (aC (bne_eq_false_iff_eq.2 (rwI_get (by omega))) (aC (df (by omega)) (aC (bne_eq_false_iff_eq.2 (rwI_get (by omega))) (aC (df (by omega)) (aC (df (by omega)) (aC (df (by omega)) (aC (df (by omega)) (aC (df (by omega)) (aC (df (by omega)) (aC (df (by omega)) (aC (df (by omega)) (aC (df (by omega)) (aC (bne_eq_false_iff_eq.2 (rwI_get (by omega))) (aC (bne_eq_false_iff_eq.2 (rwI_get (by omega))) (aC (bne_eq_false_iff_eq.2 (rwI_get (by omega))) (aC (bne_eq_false_iff_eq.2 (rwI_get (by omega))) (aC (dd rfl) (aC (bne_eq_false_iff_eq.2 (rwI_get (by omega))) (aC (bne_eq_false_iff_eq.2 (rwI_get (by omega))) (aC (bne_eq_false_iff_eq.2 (rwI_get (by omega))) (aC (bne_eq_false_iff_eq.2 (rwI_get (by omega))) (aC (by omega) (aC ⟨(by omega), (by omega)⟩ (aC (dd rfl) (aC (dt (by omega)) (aC (dd rfl) (AllP_nil))))))))))))))))))))))))))))
 rw [e0] at h
 exact h

theorem biC1_round (L0 L1 L2 L3 : List Int) (hl2_0 : L0.length = 64) (hl3_0 : L1.length = 256) (hl4_0 : L2.length = 64) (hl5_0 : L3.length = 256) (w : World) (rw : List Nat) (β : Env) (k : Nat) (hk : k < 296) (s : Unit) : Run Try.prog ⟨w, rw, 6, β⟩ (loopB Try.f109 10) (biC1_mk L0 L1 L2 L3 k s) (To ⟨w, rw, 6, β⟩ .normal (biC1_mk L0 L1 L2 L3 (k + 1) (moL_step k s))) := by
 by_cases ha : k < 256
 ·exact biC1_round_0 L0 L1 L2 L3 hl2_0 hl3_0 hl4_0 hl5_0 w rw β k hk s ha
 ·exact biC1_round_1 L0 L1 L2 L3 hl2_0 hl3_0 hl4_0 hl5_0 w rw β k hk s ha

theorem biC1_last (L0 L1 L2 L3 : List Int) (hl2_0 : L0.length = 64) (hl3_0 : L1.length = 256) (hl4_0 : L2.length = 64) (hl5_0 : L3.length = 256) (w : World) (rw : List Nat) (β : Env) (s : Unit) : Run Try.prog ⟨w, rw, 6, β⟩ (loopB Try.f109 10) (biC1_mk L0 L1 L2 L3 296 s) (To ⟨w, rw, 6, β⟩ (.exit 10) (biC1_mk L0 L1 L2 L3 296 s)) :=
 Run.of_outT (Λ := noLam) (Ψ := noPsi) (fuel := 0) (ora := [false]) (l := [.forget [0, 3, 4, 5, 6, 7, 8, 9, 10, 11] 18]) mix tabOkSB gam302_ok
  (vc := [(false = false), (((0 : Int) ≤ 1) ∧ ((1 : Int) < 4))]) (by kernel_rfl)
  (aC rfl (aC ⟨(by decide), (by decide)⟩ (AllP_nil)))

theorem biC1_loop (L0 L1 L2 L3 : List Int) (hl2_0 : L0.length = 64) (hl3_0 : L1.length = 256) (hl4_0 : L2.length = 64) (hl5_0 : L3.length = 256) (w : World) (rw : List Nat) (β : Env) (s : Unit) : Run Try.prog ⟨w, rw, 6, β⟩ (.block 10 (.loop (loopB Try.f109 10))) (biC1_mk L0 L1 L2 L3 0 s) (To ⟨w, rw, 6, β⟩ .normal (biC1_mk L0 L1 L2 L3 296 (iter (moL_step) 296 s))) :=
 Run.count (fun k => biC1_mk L0 L1 L2 L3 k (iter (moL_step) k s)) 296 (fun k hk => biC1_round L0 L1 L2 L3 hl2_0 hl3_0 hl4_0 hl5_0 w rw β k hk _) (ex := (.exit 10)) (by simp) (biC1_last L0 L1 L2 L3 hl2_0 hl3_0 hl4_0 hl5_0 w rw β _)

def biC2_mk (L0 L1 L2 L3 : List Int) (k : Nat) (s : Unit) : St := ⟨sparse 113 [(0, .o (.a (.p 0 0))), (3, .o (.a (.rs 1 0 4 1))), (4, .o (.a (.i .i64 4))), (5, .o (.a (.i .i64 256))), (6, .o (.a (.rs 17 0 4 1))), (7, .o (.a (.i .i64 4))), (8, .o (.a (.rs 15 0 296 1))), (9, .o (.a (.i .i64 40))), (10, .o (.a (.i .i64 2))), (11, .o (.a (.i .i64 (k : Int))))], [some kb3, some kb1, bF [.ints .i64 64 (rwI 0 64)], bF [.ints .i64 256 (rwI 1 256)], bF [.ints .i64 64 (rwI 2 64)], bF [.ints .i64 256 (rwI 3 256)], bF [.ints .i64 104 (rwI 0 104)], bT [.rs 6 0 104 1], none, bF [.ints .i64 296 (rwI 1 296)], bT [.rs 9 0 296 1], none, bF [.ints .i64 104 (rwI 2 104)], bT [.rs 12 0 104 1], none, bF [.ints .i64 296 (rwI 3 296)], bT [.rs 15 0 296 1], some kb8]⟩

theorem biC2_round_0 (L0 L1 L2 L3 : List Int) (hl2_0 : L0.length = 64) (hl3_0 : L1.length = 256) (hl4_0 : L2.length = 64) (hl5_0 : L3.length = 256) (w : World) (rw : List Nat) (β : Env) (k : Nat) (hk : k < 104) (s : Unit) (ha : k < 64) : Run Try.prog ⟨w, rw, 6, β⟩ (loopB Try.f109 10) (biC2_mk L0 L1 L2 L3 k s) (To ⟨w, rw, 6, β⟩ .normal (biC2_mk L0 L1 L2 L3 (k + 1) (moL_step k s))) := by
 have e0 := wrap_succ (n := k) (by omega)
 have h := Run.of_outT (B := ⟨w, rw, 6, β⟩) (Λ := noLam) (Ψ := noPsi) (fuel := 0) (ora := [true, true, true, true, true, true, true, true, true, true, true, true, true, true, true, true, true, true, true, true, false, false]) (c := (loopB Try.f109 10)) (st := (biC2_mk L0 L1 L2 L3 k s)) (l := [.forget [0, 3, 4, 5, 6, 7, 8, 9, 10, 11] 18]) (s' := ⟨sparse 113 [(0, .o (.a (.p 0 0))), (3, .o (.a (.rs 1 0 4 1))), (4, .o (.a (.i .i64 4))), (5, .o (.a (.i .i64 256))), (6, .o (.a (.rs 17 0 4 1))), (7, .o (.a (.i .i64 4))), (8, .o (.a (.rs 15 0 296 1))), (9, .o (.a (.i .i64 40))), (10, .o (.a (.i .i64 2))), (11, .o (.a (.i .i64 (IntKind.i64.wrap ((k : Int) + 1)))))], [some kb3, some kb1, bF [.ints .i64 64 (rwI 0 64)], bF [.ints .i64 256 (rwI 1 256)], bF [.ints .i64 64 (rwI 2 64)], bF [.ints .i64 256 (rwI 3 256)], bF [.ints .i64 104 (rwI 0 104)], bT [.rs 6 0 104 1], none, bF [.ints .i64 296 (rwI 1 296)], bT [.rs 9 0 296 1], none, bF [.ints .i64 104 (rwI 2 104)], bT [.rs 12 0 104 1], none, bF [.ints .i64 296 (rwI 3 296)], bT [.rs 15 0 296 1], some kb8]⟩) (ex := .normal) mix tabOkSB gam302_ok
  (vc := (let q0 : Prop := (((List.getD (rwI 2 104) k 0) != (mkIn 2 (k : Int))) = false); let p0_ : Prop := ((decide ((k : Int) < 64)) = true); [(((List.getD (rwI 2 64) k 0) != (mkIn 2 (k : Int))) = false), q0, p0_, q0, p0_, p0_, (k < 64), p0_, ((0 ≤ (k : Int)) ∧ ((k : Int) < 64)), p0_, p0_, p0_, (cI 2 4), p0_, p0_, p0_, q0, q0, q0, q0, (cI 2 4), q0, q0, q0, q0, (k < 104), ((0 ≤ (k : Int)) ∧ ((k : Int) < 104)), (cI 2 4), ((decide ((k : Int) < 104)) = true), (cI 2 4)])) (by kernel_rfl)
  (aC (bne_eq_false_iff_eq.2 (rwI_get (by omega))) (aC (bne_eq_false_iff_eq.2 (rwI_get (by omega))) (aC (dt (by omega)) (aC (bne_eq_false_iff_eq.2 (rwI_get (by omega))) (aC (dt (by omega)) (aC (dt (by omega)) (aC (by omega) (aC (dt (by omega)) (aC ⟨(by omega), (by omega)⟩ (aC (dt (by omega)) (aC (dt (by omega)) (aC (dt (by omega)) (aC (dd rfl) (aC (dt (by omega)) (aC (dt (by omega)) (aC (dt (by omega)) (aC (bne_eq_false_iff_eq.2 (rwI_get (by omega))) (aC (bne_eq_false_iff_eq.2 (rwI_get (by omega))) (aC (bne_eq_false_iff_eq.2 (rwI_get (by omega))) (aC (bne_eq_false_iff_eq.2 (rwI_get (by omega))) (aC (dd rfl) (aC (bne_eq_false_iff_eq.2 (rwI_get (by omega))) (aC (bne_eq_false_iff_eq.2 (rwI_get (by omega))) (aC (bne_eq_false_iff_eq.2 (rwI_get (by omega))) (aC (bne_eq_false_iff_eq.2 (rwI_get (by omega))) (aC (by omega) (aC ⟨(by omega), (by omega)⟩ (aC (dd rfl) (aC (dt (by omega)) (aC (dd rfl) (AllP_nil)))))))))))))))))))))))))))))))
 rw [e0] at h
 exact h

theorem biC2_round_1 (L0 L1 L2 L3 : List Int) (hl2_0 : L0.length = 64) (hl3_0 : L1.length = 256) (hl4_0 : L2.length = 64) (hl5_0 : L3.length = 256) (w : World) (rw : List Nat) (β : Env) (k : Nat) (hk : k < 104) (s : Unit) (ha : ¬ k < 64) : Run Try.prog ⟨w, rw, 6, β⟩ (loopB Try.f109 10) (biC2_mk L0 L1 L2 L3 k s) (To ⟨w, rw, 6, β⟩ .normal (biC2_mk L0 L1 L2 L3 (k + 1) (moL_step k s))) := by
 have e0 := wrap_succ (n := k) (by omega)
 have h := Run.of_outT (B := ⟨w, rw, 6, β⟩) (Λ := noLam) (Ψ := noPsi) (fuel := 0) (ora := [true, true, true, true, true, true, true, true, true, false, false, false, false, false, false, false, false, false, true, false, false, false]) (c := (loopB Try.f109 10)) (st := (biC2_mk L0 L1 L2 L3 k s)) (l := [.forget [0, 3, 4, 5, 6, 7, 8, 9, 10, 11] 18]) (s' := ⟨sparse 113 [(0, .o (.a (.p 0 0))), (3, .o (.a (.rs 1 0 4 1))), (4, .o (.a (.i .i64 4))), (5, .o (.a (.i .i64 256))), (6, .o (.a (.rs 17 0 4 1))), (7, .o (.a (.i .i64 4))), (8, .o (.a (.rs 15 0 296 1))), (9, .o (.a (.i .i64 40))), (10, .o (.a (.i .i64 2))), (11, .o (.a (.i .i64 (IntKind.i64.wrap ((k : Int) + 1)))))], [some kb3, some kb1, bF [.ints .i64 64 (rwI 0 64)], bF [.ints .i64 256 (rwI 1 256)], bF [.ints .i64 64 (rwI 2 64)], bF [.ints .i64 256 (rwI 3 256)], bF [.ints .i64 104 (rwI 0 104)], bT [.rs 6 0 104 1], none, bF [.ints .i64 296 (rwI 1 296)], bT [.rs 9 0 296 1], none, bF [.ints .i64 104 (rwI 2 104)], bT [.rs 12 0 104 1], none, bF [.ints .i64 296 (rwI 3 296)], bT [.rs 15 0 296 1], some kb8]⟩) (ex := .normal) mix tabOkSB gam302_ok
  (vc := (let q0 : Prop := (((List.getD (rwI 2 104) k 0) != (mkIn 2 (k : Int))) = false); let p0_ : Prop := ((decide ((k : Int) < 64)) = false); [(false = false), q0, p0_, q0, p0_, p0_, p0_, p0_, p0_, p0_, p0_, p0_, p0_, q0, q0, q0, q0, (cI 2 4), q0, q0, q0, q0, (k < 104), ((0 ≤ (k : Int)) ∧ ((k : Int) < 104)), (cI 2 4), ((decide ((k : Int) < 104)) = true), (cI 2 4)])) (by kernel_rfl)
  (aC rfl (aC (bne_eq_false_iff_eq.2 (rwI_get (by omega))) (aC (df (by omega)) (aC (bne_eq_false_iff_eq.2 (rwI_get (by omega))) (aC (df (by omega)) (aC (df (by omega)) (aC (df (by omega)) (aC (df (by omega)) (aC (df (by omega)) (aC (df (by omega)) (aC (df (by omega)) (aC (df (by omega)) (aC (df (by omega)) (aC (bne_eq_false_iff_eq.2 (rwI_get (by omega))) (aC (bne_eq_false_iff_eq.2 (rwI_get (by omega))) (aC (bne_eq_false_iff_eq.2 (rwI_get (by omega))) (aC (bne_eq_false_iff_eq.2 (rwI_get (by omega))) (aC (dd rfl) (aC (bne_eq_false_iff_eq.2 (rwI_get (by omega))) (aC (bne_eq_false_iff_eq.2 (rwI_get (by omega))) (aC (bne_eq_false_iff_eq.2 (rwI_get (by omega))) (aC (bne_eq_false_iff_eq.2 (rwI_get (by omega))) (aC (by omega) (aC ⟨(by omega), (by omega)⟩ (aC (dd rfl) (aC (dt (by omega)) (aC (dd rfl) (AllP_nil))))))))))))))))))))))))))))
 rw [e0] at h
 exact h

theorem biC2_round (L0 L1 L2 L3 : List Int) (hl2_0 : L0.length = 64) (hl3_0 : L1.length = 256) (hl4_0 : L2.length = 64) (hl5_0 : L3.length = 256) (w : World) (rw : List Nat) (β : Env) (k : Nat) (hk : k < 104) (s : Unit) : Run Try.prog ⟨w, rw, 6, β⟩ (loopB Try.f109 10) (biC2_mk L0 L1 L2 L3 k s) (To ⟨w, rw, 6, β⟩ .normal (biC2_mk L0 L1 L2 L3 (k + 1) (moL_step k s))) := by
 by_cases ha : k < 64
 ·exact biC2_round_0 L0 L1 L2 L3 hl2_0 hl3_0 hl4_0 hl5_0 w rw β k hk s ha
 ·exact biC2_round_1 L0 L1 L2 L3 hl2_0 hl3_0 hl4_0 hl5_0 w rw β k hk s ha

theorem biC2_last (L0 L1 L2 L3 : List Int) (hl2_0 : L0.length = 64) (hl3_0 : L1.length = 256) (hl4_0 : L2.length = 64) (hl5_0 : L3.length = 256) (w : World) (rw : List Nat) (β : Env) (s : Unit) : Run Try.prog ⟨w, rw, 6, β⟩ (loopB Try.f109 10) (biC2_mk L0 L1 L2 L3 104 s) (To ⟨w, rw, 6, β⟩ (.exit 10) (biC2_mk L0 L1 L2 L3 104 s)) :=
 Run.of_outT (Λ := noLam) (Ψ := noPsi) (fuel := 0) (ora := [false]) (l := [.forget [0, 3, 4, 5, 6, 7, 8, 9, 10, 11] 18]) mix tabOkSB gam302_ok
  (vc := [(false = false), (((0 : Int) ≤ 2) ∧ ((2 : Int) < 4))]) (by kernel_rfl)
  (aC rfl (aC ⟨(by decide), (by decide)⟩ (AllP_nil)))

theorem biC2_loop (L0 L1 L2 L3 : List Int) (hl2_0 : L0.length = 64) (hl3_0 : L1.length = 256) (hl4_0 : L2.length = 64) (hl5_0 : L3.length = 256) (w : World) (rw : List Nat) (β : Env) (s : Unit) : Run Try.prog ⟨w, rw, 6, β⟩ (.block 10 (.loop (loopB Try.f109 10))) (biC2_mk L0 L1 L2 L3 0 s) (To ⟨w, rw, 6, β⟩ .normal (biC2_mk L0 L1 L2 L3 104 (iter (moL_step) 104 s))) :=
 Run.count (fun k => biC2_mk L0 L1 L2 L3 k (iter (moL_step) k s)) 104 (fun k hk => biC2_round L0 L1 L2 L3 hl2_0 hl3_0 hl4_0 hl5_0 w rw β k hk _) (ex := (.exit 10)) (by simp) (biC2_last L0 L1 L2 L3 hl2_0 hl3_0 hl4_0 hl5_0 w rw β _)

def biC3_mk (L0 L1 L2 L3 : List Int) (k : Nat) (s : Unit) : St := ⟨sparse 113 [(0, .o (.a (.p 0 0))), (3, .o (.a (.rs 1 0 4 1))), (4, .o (.a (.i .i64 4))), (5, .o (.a (.i .i64 256))), (6, .o (.a (.rs 17 0 4 1))), (7, .o (.a (.i .i64 4))), (8, .o (.a (.rs 15 0 296 1))), (9, .o (.a (.i .i64 40))), (10, .o (.a (.i .i64 3))), (11, .o (.a (.i .i64 (k : Int))))], [some kb3, some kb1, bF [.ints .i64 64 (rwI 0 64)], bF [.ints .i64 256 (rwI 1 256)], bF [.ints .i64 64 (rwI 2 64)], bF [.ints .i64 256 (rwI 3 256)], bF [.ints .i64 104 (rwI 0 104)], bT [.rs 6 0 104 1], none, bF [.ints .i64 296 (rwI 1 296)], bT [.rs 9 0 296 1], none, bF [.ints .i64 104 (rwI 2 104)], bT [.rs 12 0 104 1], none, bF [.ints .i64 296 (rwI 3 296)], bT [.rs 15 0 296 1], some kb8]⟩

theorem biC3_round_0 (L0 L1 L2 L3 : List Int) (hl2_0 : L0.length = 64) (hl3_0 : L1.length = 256) (hl4_0 : L2.length = 64) (hl5_0 : L3.length = 256) (w : World) (rw : List Nat) (β : Env) (k : Nat) (hk : k < 296) (s : Unit) (ha : k < 256) : Run Try.prog ⟨w, rw, 6, β⟩ (loopB Try.f109 10) (biC3_mk L0 L1 L2 L3 k s) (To ⟨w, rw, 6, β⟩ .normal (biC3_mk L0 L1 L2 L3 (k + 1) (moL_step k s))) := by
 have e0 := wrap_succ (n := k) (by omega)
 have h := Run.of_outT (B := ⟨w, rw, 6, β⟩) (Λ := noLam) (Ψ := noPsi) (fuel := 0) (ora := [true, true, true, true, true, true, true, true, true, true, true, true, true, true, true, true, true, true, true, true, false, false]) (c := (loopB Try.f109 10)) (st := (biC3_mk L0 L1 L2 L3 k s)) (l := [.forget [0, 3, 4, 5, 6, 7, 8, 9, 10, 11] 18]) (s' := ⟨sparse 113 [(0, .o (.a (.p 0 0))), (3, .o (.a (.rs 1 0 4 1))), (4, .o (.a (.i .i64 4))), (5, .o (.a (.i .i64 256))), (6, .o (.a (.rs 17 0 4 1))), (7, .o (.a (.i .i64 4))), (8, .o (.a (.rs 15 0 296 1))), (9, .o (.a (.i .i64 40))), (10, .o (.a (.i .i64 3))), (11, .o (.a (.i .i64 (IntKind.i64.wrap ((k : Int) + 1)))))], [some kb3, some kb1, bF [.ints .i64 64 (rwI 0 64)], bF [.ints .i64 256 (rwI 1 256)], bF [.ints .i64 64 (rwI 2 64)], bF [.ints .i64 256 (rwI 3 256)], bF [.ints .i64 104 (rwI 0 104)], bT [.rs 6 0 104 1], none, bF [.ints .i64 296 (rwI 1 296)], bT [.rs 9 0 296 1], none, bF [.ints .i64 104 (rwI 2 104)], bT [.rs 12 0 104 1], none, bF [.ints .i64 296 (rwI 3 296)], bT [.rs 15 0 296 1], some kb8]⟩) (ex := .normal) mix tabOkSB gam302_ok
  (vc := (let q0 : Prop := (((List.getD (rwI 3 296) k 0) != (mkIn 3 (k : Int))) = false); let p0_ : Prop := ((decide ((k : Int) < 256)) = true); [(((List.getD (rwI 3 256) k 0) != (mkIn 3 (k : Int))) = false), q0, p0_, q0, p0_, p0_, (k < 256), p0_, ((0 ≤ (k : Int)) ∧ ((k : Int) < 256)), p0_, p0_, p0_, (cI 3 4), p0_, p0_, p0_, q0, q0, q0, q0, (cI 3 4), q0, q0, q0, q0, (k < 296), ((0 ≤ (k : Int)) ∧ ((k : Int) < 296)), (cI 3 4), ((decide ((k : Int) < 296)) = true), (cI 3 4)])) (by kernel_rfl)
  (aC (bne_eq_false_iff_eq.2 (rwI_get (by omega))) (aC (bne_eq_false_iff_eq.2 (rwI_get (by omega))) (aC (dt (by omega)) (aC (bne_eq_false_iff_eq.2 (rwI_get (by omega))) (aC (dt (by omega)) (aC (dt (by omega)) (aC (by omega) (aC (dt (by omega)) (aC ⟨(by omega), (by omega)⟩ (aC (dt (by omega)) (aC (dt (by omega)) (aC (dt (by omega)) (aC (dd rfl) (aC (dt (by omega)) (aC (dt (by omega)) (aC (dt (by omega)) (aC (bne_eq_false_iff_eq.2 (rwI_get (by omega))) (aC (bne_eq_false_iff_eq.2 (rwI_get (by omega))) (aC (bne_eq_false_iff_eq.2 (rwI_get (by omega))) (aC (bne_eq_false_iff_eq.2 (rwI_get (by omega))) (aC (dd rfl) (aC (bne_eq_false_iff_eq.2 (rwI_get (by omega))) (aC (bne_eq_false_iff_eq.2 (rwI_get (by omega))) (aC (bne_eq_false_iff_eq.2 (rwI_get (by omega))) (aC (bne_eq_false_iff_eq.2 (rwI_get (by omega))) (aC (by omega) (aC ⟨(by omega), (by omega)⟩ (aC (dd rfl) (aC (dt (by omega)) (aC (dd rfl) (AllP_nil)))))))))))))))))))))))))))))))
 rw [e0] at h
 exact h

theorem biC3_round_1 (L0 L1 L2 L3 : List Int) (hl2_0 : L0.length = 64) (hl3_0 : L1.length = 256) (hl4_0 : L2.length = 64) (hl5_0 : L3.length = 256) (w : World) (rw : List Nat) (β : Env) (k : Nat) (hk : k < 296) (s : Unit) (ha : ¬ k < 256) : Run Try.prog ⟨w, rw, 6, β⟩ (loopB Try.f109 10) (biC3_mk L0 L1 L2 L3 k s) (To ⟨w, rw, 6, β⟩ .normal (biC3_mk L0 L1 L2 L3 (k + 1) (moL_step k s))) := by
 have e0 := wrap_succ (n := k) (by omega)
 have h := Run.of_outT (B := ⟨w, rw, 6, β⟩) (Λ := noLam) (Ψ := noPsi) (fuel := 0) (ora := [true, true, true, true, true, true, true, true, true, false, false, false, false, false, false, false, false, false, true, false, false, false]) (c := (loopB Try.f109 10)) (st := (biC3_mk L0 L1 L2 L3 k s)) (l := [.forget [0, 3, 4, 5, 6, 7, 8, 9, 10, 11] 18]) (s' := ⟨sparse 113 [(0, .o (.a (.p 0 0))), (3, .o (.a (.rs 1 0 4 1))), (4, .o (.a (.i .i64 4))), (5, .o (.a (.i .i64 256))), (6, .o (.a (.rs 17 0 4 1))), (7, .o (.a (.i .i64 4))), (8, .o (.a (.rs 15 0 296 1))), (9, .o (.a (.i .i64 40))), (10, .o (.a (.i .i64 3))), (11, .o (.a (.i .i64 (IntKind.i64.wrap ((k : Int) + 1)))))], [some kb3, some kb1, bF [.ints .i64 64 (rwI 0 64)], bF [.ints .i64 256 (rwI 1 256)], bF [.ints .i64 64 (rwI 2 64)], bF [.ints .i64 256 (rwI 3 256)], bF [.ints .i64 104 (rwI 0 104)], bT [.rs 6 0 104 1], none, bF [.ints .i64 296 (rwI 1 296)], bT [.rs 9 0 296 1], none, bF [.ints .i64 104 (rwI 2 104)], bT [.rs 12 0 104 1], none, bF [.ints .i64 296 (rwI 3 296)], bT [.rs 15 0 296 1], some kb8]⟩) (ex := .normal) mix tabOkSB gam302_ok
  (vc := (let q0 : Prop := (((List.getD (rwI 3 296) k 0) != (mkIn 3 (k : Int))) = false); let p0_ : Prop := ((decide ((k : Int) < 256)) = false); [(false = false), q0, p0_, q0, p0_, p0_, p0_, p0_, p0_, p0_, p0_, p0_, p0_, q0, q0, q0, q0, (cI 3 4), q0, q0, q0, q0, (k < 296), ((0 ≤ (k : Int)) ∧ ((k : Int) < 296)), (cI 3 4), ((decide ((k : Int) < 296)) = true), (cI 3 4)])) (by kernel_rfl)
  (aC rfl (aC (bne_eq_false_iff_eq.2 (rwI_get (by omega))) (aC (df (by omega)) (aC (bne_eq_false_iff_eq.2 (rwI_get (by omega))) (aC (df (by omega)) (aC (df (by omega)) (aC (df (by omega)) (aC (df (by omega)) (aC (df (by omega)) (aC (df (by omega)) (aC (df (by omega)) (aC (df (by omega)) (aC (df (by omega)) (aC (bne_eq_false_iff_eq.2 (rwI_get (by omega))) (aC (bne_eq_false_iff_eq.2 (rwI_get (by omega))) (aC (bne_eq_false_iff_eq.2 (rwI_get (by omega))) (aC (bne_eq_false_iff_eq.2 (rwI_get (by omega))) (aC (dd rfl) (aC (bne_eq_false_iff_eq.2 (rwI_get (by omega))) (aC (bne_eq_false_iff_eq.2 (rwI_get (by omega))) (aC (bne_eq_false_iff_eq.2 (rwI_get (by omega))) (aC (bne_eq_false_iff_eq.2 (rwI_get (by omega))) (aC (by omega) (aC ⟨(by omega), (by omega)⟩ (aC (dd rfl) (aC (dt (by omega)) (aC (dd rfl) (AllP_nil))))))))))))))))))))))))))))
 rw [e0] at h
 exact h

theorem biC3_round (L0 L1 L2 L3 : List Int) (hl2_0 : L0.length = 64) (hl3_0 : L1.length = 256) (hl4_0 : L2.length = 64) (hl5_0 : L3.length = 256) (w : World) (rw : List Nat) (β : Env) (k : Nat) (hk : k < 296) (s : Unit) : Run Try.prog ⟨w, rw, 6, β⟩ (loopB Try.f109 10) (biC3_mk L0 L1 L2 L3 k s) (To ⟨w, rw, 6, β⟩ .normal (biC3_mk L0 L1 L2 L3 (k + 1) (moL_step k s))) := by
 by_cases ha : k < 256
 ·exact biC3_round_0 L0 L1 L2 L3 hl2_0 hl3_0 hl4_0 hl5_0 w rw β k hk s ha
 ·exact biC3_round_1 L0 L1 L2 L3 hl2_0 hl3_0 hl4_0 hl5_0 w rw β k hk s ha

theorem biC3_last (L0 L1 L2 L3 : List Int) (hl2_0 : L0.length = 64) (hl3_0 : L1.length = 256) (hl4_0 : L2.length = 64) (hl5_0 : L3.length = 256) (w : World) (rw : List Nat) (β : Env) (s : Unit) : Run Try.prog ⟨w, rw, 6, β⟩ (loopB Try.f109 10) (biC3_mk L0 L1 L2 L3 296 s) (To ⟨w, rw, 6, β⟩ (.exit 10) (biC3_mk L0 L1 L2 L3 296 s)) :=
 Run.of_outT (Λ := noLam) (Ψ := noPsi) (fuel := 0) (ora := [false]) (l := [.forget [0, 3, 4, 5, 6, 7, 8, 9, 10, 11] 18]) mix tabOkSB gam302_ok
  (vc := [(false = false), (((0 : Int) ≤ 3) ∧ ((3 : Int) < 4))]) (by kernel_rfl)
  (aC rfl (aC ⟨(by decide), (by decide)⟩ (AllP_nil)))

theorem biC3_loop (L0 L1 L2 L3 : List Int) (hl2_0 : L0.length = 64) (hl3_0 : L1.length = 256) (hl4_0 : L2.length = 64) (hl5_0 : L3.length = 256) (w : World) (rw : List Nat) (β : Env) (s : Unit) : Run Try.prog ⟨w, rw, 6, β⟩ (.block 10 (.loop (loopB Try.f109 10))) (biC3_mk L0 L1 L2 L3 0 s) (To ⟨w, rw, 6, β⟩ .normal (biC3_mk L0 L1 L2 L3 296 (iter (moL_step) 296 s))) :=
 Run.count (fun k => biC3_mk L0 L1 L2 L3 k (iter (moL_step) k s)) 296 (fun k hk => biC3_round L0 L1 L2 L3 hl2_0 hl3_0 hl4_0 hl5_0 w rw β k hk _) (ex := (.exit 10)) (by simp) (biC3_last L0 L1 L2 L3 hl2_0 hl3_0 hl4_0 hl5_0 w rw β _)

def biBk : List Int :=
 (rwI (0 : Int) 64)

def biBk_1 : List Int :=
 (rwI (1 : Int) 256)

def biBk_2 : List Int :=
 (rwI (2 : Int) 64)

def biBk_3 : List Int :=
 (rwI (3 : Int) 256)

theorem biBk_body0 (L0 L1 L2 L3 : List Int) (hl2_0 : L0.length = 64) (hl3_0 : L1.length = 256) (hl4_0 : L2.length = 64) (hl5_0 : L3.length = 256) (w : World) (rw : List Nat) (β : Env) : Body Try.prog (tabOf tabSB) Try.f109 ⟨w, rw, 6, β⟩ [.o (.a (.p 0 0))] [some kb3, some kb1, bT [.ints .i64 64 L0], bT [.ints .i64 256 L1], bT [.ints .i64 64 L2], bT [.ints .i64 256 L3]] (fun ys K' => ys = [.a (.b true)] ∧ K' = [some kb3, some kb1, bF [.ints .i64 64 (biBk)], bF [.ints .i64 256 (biBk_1)], bF [.ints .i64 64 (biBk_2)], bF [.ints .i64 256 (biBk_3)]]) :=
 Body.of_finK (Γ := gam302) (Λ := lamIf [(2, some (4, 0), ⟨[.forget [0, 2, 3, 4, 5] 6], .normal, (biM0_mk L0 L1 L2 L3 64 (iter (moL_step) 64 ()))⟩), (2, some (4, 1), ⟨[.forget [0, 2, 3, 4, 5] 6], .normal, (biM1_mk L0 L1 L2 L3 256 (iter (moL_step) 256 ()))⟩), (2, some (4, 2), ⟨[.forget [0, 2, 3, 4, 5] 6], .normal, (biM2_mk L0 L1 L2 L3 64 (iter (moL_step) 64 ()))⟩), (2, some (4, 3), ⟨[.forget [0, 2, 3, 4, 5] 6], .normal, (biM3_mk L0 L1 L2 L3 256 (iter (moL_step) 256 ()))⟩), (6, some (7, 0), ⟨[.forget [0, 3, 4, 5, 6, 7, 8, 9] 6], .normal, (biG0_mkF L0 L1 L2 L3)⟩), (6, some (7, 1), ⟨[.forget [0, 3, 4, 5, 6, 7, 8, 9] 9], .normal, (biG1_mkF L0 L1 L2 L3)⟩), (6, some (7, 2), ⟨[.forget [0, 3, 4, 5, 6, 7, 8, 9] 12], .normal, (biG2_mkF L0 L1 L2 L3)⟩), (6, some (7, 3), ⟨[.forget [0, 3, 4, 5, 6, 7, 8, 9] 15], .normal, (biG3_mkF L0 L1 L2 L3)⟩), (10, some (10, 0), ⟨[.forget [0, 3, 4, 5, 6, 7, 8, 9, 10, 11] 18], .normal, (biC0_mk L0 L1 L2 L3 104 (iter (moL_step) 104 ()))⟩), (10, some (10, 1), ⟨[.forget [0, 3, 4, 5, 6, 7, 8, 9, 10, 11] 18], .normal, (biC1_mk L0 L1 L2 L3 296 (iter (moL_step) 296 ()))⟩), (10, some (10, 2), ⟨[.forget [0, 3, 4, 5, 6, 7, 8, 9, 10, 11] 18], .normal, (biC2_mk L0 L1 L2 L3 104 (iter (moL_step) 104 ()))⟩), (10, some (10, 3), ⟨[.forget [0, 3, 4, 5, 6, 7, 8, 9, 10, 11] 18], .normal, (biC3_mk L0 L1 L2 L3 296 (iter (moL_step) 296 ()))⟩)]) (Ψ := psiOf [(9, [.eqB 2 (⟨true, [.ints .i64 64 (rwI 0 64)]⟩), .eqB 3 (⟨true, [.ints .i64 256 (rwI 1 256)]⟩), .eqB 4 (⟨true, [.ints .i64 64 (rwI 2 64)]⟩), .eqB 5 (⟨true, [.ints .i64 256 (rwI 3 256)]⟩)])]) (fuel := 7) (m := 113) (c := (Try.f109.body.getD .skip)) mix tabOkSB gam302_ok rfl (rs := [.tmp 2]) rfl rfl [true, true, true, true, false, true, false, true, false, true, false, true, false, false, true, true, true, true, false] [] 6
  (vc := [(false = false), (Run Try.prog ⟨w, rw, 6, β⟩ (.block 10 (.loop (loopB Try.f109 10))) (biC3_mk L0 L1 L2 L3 0 ()) (To ⟨w, rw, 6, β⟩ .normal (biC3_mk L0 L1 L2 L3 296 (iter (moL_step) 296 ())))), cT, (Run Try.prog ⟨w, rw, 6, β⟩ (.block 10 (.loop (loopB Try.f109 10))) (biC2_mk L0 L1 L2 L3 0 ()) (To ⟨w, rw, 6, β⟩ .normal (biC2_mk L0 L1 L2 L3 104 (iter (moL_step) 104 ())))), cT, (Run Try.prog ⟨w, rw, 6, β⟩ (.block 10 (.loop (loopB Try.f109 10))) (biC1_mk L0 L1 L2 L3 0 ()) (To ⟨w, rw, 6, β⟩ .normal (biC1_mk L0 L1 L2 L3 296 (iter (moL_step) 296 ())))), cT, (Run Try.prog ⟨w, rw, 6, β⟩ (.block 10 (.loop (loopB Try.f109 10))) (biC0_mk L0 L1 L2 L3 0 ()) (To ⟨w, rw, 6, β⟩ .normal (biC0_mk L0 L1 L2 L3 104 (iter (moL_step) 104 ())))), cT, (false = false), (True ∧ ((1 ≤ 1) ∧ True) ∧ (96 ≤ 140737488355328)), (Run Try.prog ⟨w, rw, 6, β⟩ (.block 6 (.loop (loopB Try.f109 6))) (biG3_mk0 L0 L1 L2 L3) (To ⟨w, rw, 6, β⟩ .normal (biG3_mkF L0 L1 L2 L3))), (cI 3 4), cT, (True ∧ ((1 ≤ 1) ∧ True) ∧ (72 ≤ 140737488355328)), (Run Try.prog ⟨w, rw, 6, β⟩ (.block 6 (.loop (loopB Try.f109 6))) (biG2_mk0 L0 L1 L2 L3) (To ⟨w, rw, 6, β⟩ .normal (biG2_mkF L0 L1 L2 L3))), (cI 2 4), cT, (True ∧ ((1 ≤ 1) ∧ True) ∧ (48 ≤ 140737488355328)), (Run Try.prog ⟨w, rw, 6, β⟩ (.block 6 (.loop (loopB Try.f109 6))) (biG1_mk0 L0 L1 L2 L3) (To ⟨w, rw, 6, β⟩ .normal (biG1_mkF L0 L1 L2 L3))), (cI 1 4), cT, (((1 ≤ 1) ∧ True) ∧ (24 ≤ 140737488355328)), (Run Try.prog ⟨w, rw, 6, β⟩ (.block 6 (.loop (loopB Try.f109 6))) (biG0_mk0 L0 L1 L2 L3) (To ⟨w, rw, 6, β⟩ .normal (biG0_mkF L0 L1 L2 L3))), (cI 0 4), cT, ((bT [.ints .i64 256 (mkQ L3 (3 : Int) 256)] : Option Blk) = bT [.ints .i64 256 (rwI 3 256)]), ((bT [.ints .i64 64 (mkQ L2 (2 : Int) 64)] : Option Blk) = bT [.ints .i64 64 (rwI 2 64)]), ((bT [.ints .i64 256 (mkQ L1 (1 : Int) 256)] : Option Blk) = bT [.ints .i64 256 (rwI 1 256)]), ((bT [.ints .i64 64 (mkQ L0 (0 : Int) 64)] : Option Blk) = bT [.ints .i64 64 (rwI 0 64)]), (false = false), (Run Try.prog ⟨w, rw, 6, β⟩ (.block 2 (.loop (loopB Try.f109 2))) (biM3_mk L0 L1 L2 L3 0 ()) (To ⟨w, rw, 6, β⟩ .normal (biM3_mk L0 L1 L2 L3 256 (iter (moL_step) 256 ())))), cT, (Run Try.prog ⟨w, rw, 6, β⟩ (.block 2 (.loop (loopB Try.f109 2))) (biM2_mk L0 L1 L2 L3 0 ()) (To ⟨w, rw, 6, β⟩ .normal (biM2_mk L0 L1 L2 L3 64 (iter (moL_step) 64 ())))), cT, (Run Try.prog ⟨w, rw, 6, β⟩ (.block 2 (.loop (loopB Try.f109 2))) (biM1_mk L0 L1 L2 L3 0 ()) (To ⟨w, rw, 6, β⟩ .normal (biM1_mk L0 L1 L2 L3 256 (iter (moL_step) 256 ())))), cT, (Run Try.prog ⟨w, rw, 6, β⟩ (.block 2 (.loop (loopB Try.f109 2))) (biM0_mk L0 L1 L2 L3 0 ()) (To ⟨w, rw, 6, β⟩ .normal (biM0_mk L0 L1 L2 L3 64 (iter (moL_step) 64 ())))), cT]) (by kernel_rfl)
  (aC rfl (aC (biC3_loop L0 L1 L2 L3 hl2_0 hl3_0 hl4_0 hl5_0 w rw β ()) (aC rfl (aC (biC2_loop L0 L1 L2 L3 hl2_0 hl3_0 hl4_0 hl5_0 w rw β ()) (aC rfl (aC (biC1_loop L0 L1 L2 L3 hl2_0 hl3_0 hl4_0 hl5_0 w rw β ()) (aC rfl (aC (biC0_loop L0 L1 L2 L3 hl2_0 hl3_0 hl4_0 hl5_0 w rw β ()) (aC rfl (aC rfl (aC ⟨trivial, ⟨(dd rfl), trivial⟩, (dd rfl)⟩ (aC (biG3_loop L0 L1 L2 L3 hl2_0 hl3_0 hl4_0 hl5_0 w rw β) (aC (dd rfl) (aC rfl (aC ⟨trivial, ⟨(dd rfl), trivial⟩, (dd rfl)⟩ (aC (biG2_loop L0 L1 L2 L3 hl2_0 hl3_0 hl4_0 hl5_0 w rw β) (aC (dd rfl) (aC rfl (aC ⟨trivial, ⟨(dd rfl), trivial⟩, (dd rfl)⟩ (aC (biG1_loop L0 L1 L2 L3 hl2_0 hl3_0 hl4_0 hl5_0 w rw β) (aC (dd rfl) (aC rfl (aC ⟨⟨(dd rfl), trivial⟩, (dd rfl)⟩ (aC (biG0_loop L0 L1 L2 L3 hl2_0 hl3_0 hl4_0 hl5_0 w rw β) (aC (dd rfl) (aC rfl (aC ((by rw [mkQ_all hl5_0])) (aC ((by rw [mkQ_all hl4_0])) (aC ((by rw [mkQ_all hl3_0])) (aC ((by rw [mkQ_all hl2_0])) (aC rfl (aC (biM3_loop L0 L1 L2 L3 hl2_0 hl3_0 hl4_0 hl5_0 w rw β ()) (aC rfl (aC (biM2_loop L0 L1 L2 L3 hl2_0 hl3_0 hl4_0 hl5_0 w rw β ()) (aC rfl (aC (biM1_loop L0 L1 L2 L3 hl2_0 hl3_0 hl4_0 hl5_0 w rw β ()) (aC rfl (aC (biM0_loop L0 L1 L2 L3 hl2_0 hl3_0 hl4_0 hl5_0 w rw β ()) (aC rfl (AllP_nil))))))))))))))))))))))))))))))))))))))))

theorem biBk_body (L0 L1 L2 L3 : List Int) (w : World) (rw : List Nat) (β : Env) : Body Try.prog (tabOf tabSB) Try.f109 ⟨w, rw, 6, β⟩ [.o (.a (.p 0 0))] [some kb3, some kb1, bT [.ints .i64 64 L0], bT [.ints .i64 256 L1], bT [.ints .i64 64 L2], bT [.ints .i64 256 L3]] (fun ys K' => ys = [.a (.b true)] ∧ K' = [some kb3, some kb1, bF [.ints .i64 64 (biBk)], bF [.ints .i64 256 (biBk_1)], bF [.ints .i64 64 (biBk_2)], bF [.ints .i64 256 (biBk_3)]]) :=
 Body.lens (c := (Try.f109.body.getD .skip)) rfl fun h => biBk_body0 L0 L1 L2 L3 (h.lens 2 _ .i64 64 L0 rfl (by simp)) (h.lens 3 _ .i64 256 L1 rfl (by simp)) (h.lens 4 _ .i64 64 L2 rfl (by simp)) (h.lens 5 _ .i64 256 L3 rfl (by simp)) w rw β

end Go.Proofs.Ytcpoldghkiiggaa.X

