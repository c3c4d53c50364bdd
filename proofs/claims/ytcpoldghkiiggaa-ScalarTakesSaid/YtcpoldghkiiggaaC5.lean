/- The core, part 5 of 5: blocks of memory known by number, and an evaluator over loaded code, shown sound. -/
import Derived.Test.YtcpoldghkiiggaaC4
import Derived.WalkKit
import Derived.ProofKit
import Derived.OpenShut
import Derived.JoinedCond
import Derived.Carry
import Derived.KernelRfl
/- Rows: a law that answers true and leaves what was there as it was: from its body to its post; arguments opened. -/
namespace Go.Proofs.Ytcpoldghkiiggaa.R
open Go Go.Proofs Go.ChangeShapes Go.WideShapes Go.ChangeAt Go.RowKit Go.Proofs.Ytcpoldghkiiggaa.X
set_option linter.unusedVariables false

theorem below {W W' : World} (g : Grow W W') : Below W.heap.size W W' := ⟨g.os, g.tape, g.output, g.size, g.old⟩

section post
variable {H : Type} {enc : TypeId × Value → H} {P : Program}

/-- types that read again -/
def Reads (P : Program) (ts : List TypeId) : Bool := laidOutB P && ts.all fun t => P.readableRec t && decide (t < P.types.size)

theorem trodAll_grow (hl : laidOutB P = true) {W W' : World} (g : Grow W W') {sp : Nat → Bool} : ∀ {ts : List TypeId} {vs : List Value} {ds : List (DataW H)} {ps : List MemPlace}, (ts.all fun t => P.readableRec t && decide (t < P.types.size)) = true →
    DataW.TrodAll enc P W 0 (fun _ => true) true ts vs ds ps → (∀ p ∈ ps, p.block < W.heap.size) → (∀ p ∈ ps, sp p.block = true) → DataW.TrodAll enc P W' 0 sp true ts vs ds ps
  | [], [], [], ps, _, h, _, _ => h
  | [], _ :: _, _, _, _, h, _, _ => h.elim
  | [], [], _ :: _, _, _, h, _, _ => h.elim
  | _ :: _, [], _, _, _, h, _, _ => h.elim
  | _ :: _, _ :: _, [], _, _, h, _, _ => h.elim
  | t :: ts, v :: vs, d :: ds, ps, ht, h, hlt, hsp => by
    obtain ⟨p, q, hd, hr, rfl⟩ := h
    simp only [List.all_cons, Bool.and_eq_true, decide_eq_true_eq] at ht
    exact ⟨p, q, WideElems.Trod_stays hl ht.1.1 ht.1.2 hd (fun x hx => (below g).same (hlt x (by simp [hx]))) (fun x hx => hsp x (by simp [hx])),
      trodAll_grow hl g ht.2 hr (fun x hx => hlt x (by simp [hx])) (fun x hx => hsp x (by simp [hx])), rfl⟩

theorem post_true {f : Func} {s : ChangeSpec} {W W' : World} {args : Array Value} {ds : List (DataW H)} {before : List MemPlace} {tb : TypeId}
    (hreads : Reads P f.params.toList = true) (hvars : s.vars = []) (hfn : s.fn H ds = { results := [.lit (.bool true)], args := ds }) (hrt : f.resultTypes = #[tb]) (htb : P.underlying tb = some .bool)
    (hW : DataW.Whole enc P f.params.toList s.vars false W args.toList ds [] before) (g : Grow W W') : s.post enc P f false true false false W args (.bool true) W' := by
  unfold Reads at hreads
  rw [Bool.and_eq_true] at hreads
  have hW0 := hW
  obtain ⟨p, q, hA, hV, rfl, hfz, hnd⟩ := hW
  rw [hvars] at hV
  obtain ⟨_, rfl⟩ := trodVars_none hV
  have hlt : ∀ x ∈ p ++ [], x.block < W.heap.size := fun x hx => by simpa using hW0.lt x hx
  have hfn' : s.fn H (ds ++ []) = { results := [.lit (.bool true)], args := ds } := by rw [List.append_nil]; exact hfn
  refine ⟨ds, [], p ++ [], [], p ++ [], [], hW0, ?_, ?_, ?_, (below g).frame _, fun h => by cases h⟩
  · rw [hfn', hrt]; exact trodAll_cons_mk (shut_bool htb _) trodAll_mk0
  · rw [hfn']
    rw [List.append_nil] at hlt ⊢
    exact trodAll_grow hreads.1 g hreads.2 hA hlt (fun x hx => by simpa using hlt x hx)
  · rw [hfn', hvars]; exact rfl
end post

/-- what a list of arguments is, abstractly, with blocks from the i-th on -/
def Opened (W : World) (i : Nat) (vs : List Value) (avs : List AV) (K : Know) : Prop :=
  ∃ ρ : List (Option Ref), ρ.length = K.length ∧ ∀ β : Env, (∀ j, j < ρ.length → β (i + j) = (ρ[j]?).join) →
    (∀ j b, K.at j = some b → b.own = false ∧ b.holds β W (i + j) ∧ ∀ r, β (i + j) = some r → r.blk < W.heap.size) ∧ allC β avs vs

theorem Opened.nil {W : World} {i : Nat} : Opened W i [] [] [] := ⟨[], rfl, fun β _ => ⟨fun j b h => by simp [Know.at] at h, rfl⟩⟩

theorem allC_app {β : Env} : ∀ {a b : List AV} {x y : List Value}, allC β a x → allC β b y → allC β (a ++ b) (x ++ y)
  | [], _, _, _, h, h' => by cases h; exact h'
  | _ :: _, _, _, _, ⟨v, r, hv, hc, hr⟩, h' => by subst hv; exact ⟨v, _, rfl, hc, allC_app hr h'⟩

theorem Opened.app {W : World} {i : Nat} {vs vs' : List Value} {avs avs' : List AV} {K K' : Know} (h : Opened W i vs avs K) (h' : Opened W (i + K.length) vs' avs' K') : Opened W i (vs ++ vs') (avs ++ avs') (K ++ K') := by
  obtain ⟨ρ, hl, hρ⟩ := h
  obtain ⟨ρ', hl', hρ'⟩ := h'
  refine ⟨ρ ++ ρ', by simp [hl, hl'], fun β hβ => ?_⟩
  obtain ⟨h1, h2⟩ := hρ β fun j hj => by rw [hβ j (by simp; omega), List.getElem?_append_left hj]
  obtain ⟨h3, h4⟩ := hρ' β fun j hj => by
    rw [Nat.add_assoc, hβ (K.length + j) (by simp; omega), List.getElem?_append_right (by omega)]
    congr 2; omega
  refine ⟨fun j b hb => ?_, allC_app h2 h4⟩
  by_cases hj : j < K.length
  · refine h1 j b ?_
    unfold Know.at at hb ⊢; rwa [List.getElem?_append_left hj] at hb
  · have := h3 (j - K.length) b (by unfold Know.at at hb ⊢; rwa [List.getElem?_append_right (by omega)] at hb)
    rw [show i + K.length + (j - K.length) = i + j from by omega] at this
    exact this

theorem Opened.rel {W : World} {vs : List Value} {avs : List AV} {K : Know} (h : Opened W 0 vs avs K) : ∃ β : Env, RelW W [] β K W ∧ allC β avs vs := by
  obtain ⟨ρ, hl, hρ⟩ := h
  obtain ⟨h1, h2⟩ := hρ (fun j => (ρ[j]?).join) fun j hj => by rw [Nat.zero_add]
  refine ⟨_, RelW.ofRead fun j b hj => ?_, h2⟩
  have := h1 j b hj
  rw [Nat.zero_add] at this; exact this

/-- a value without places -/
theorem Opened.val {W : World} {i : Nat} {v : Value} {x : V1} (h : ∀ β : Env, x.con β v) : Opened W i [v] [.o x] [] :=
  ⟨[], rfl, fun β _ => ⟨fun j b hb => by simp [Know.at] at hb, ⟨v, [], rfl, h β, rfl⟩⟩⟩

/-- a slice of integers -/
theorem Opened.sl {W : World} {i : Nat} {k : IntKind} {a0 : Option Addr} {len cap : Nat} {L : List Int} (hL : L.length = len) (hlc : len ≤ cap)
    (hc : 0 < cap → ∃ b off arr ty fr, a0 = some ⟨b, off, none⟩ ∧ W.heap[b]? = some (.cells arr ty fr) ∧ off + len ≤ arr.size ∧ ∀ i x, L[i]? = some x → arr[off + i]? = some (.int k x)) :
    Opened W i [.slice a0 len cap] [.o (.a (.sl i 0 len cap))] [some ⟨false, [.ints k len L]⟩] := by
  have hbk : ∀ j (bk : Blk), Know.at [some ⟨false, [.ints k len L]⟩] j = some bk → j = 0 ∧ bk = ⟨false, [.ints k len L]⟩ := by
    intro j bk hj
    match j, hj with
    | 0, hj => exact ⟨rfl, (Option.some.inj hj).symm⟩
    | j + 1, hj => simp [Know.at] at hj
  by_cases h0 : 0 < cap
  · obtain ⟨b, off, arr, ty, fr, rfl, hh, hs, hx⟩ := hc h0
    have hlt : b < W.heap.size := (Array.getElem?_eq_some_iff.1 hh).1
    refine ⟨[some ⟨b, off, arr.size⟩], rfl, fun β hβ => ?_⟩
    have hb := hβ 0 (by simp)
    rw [Nat.add_zero] at hb
    have hb : β i = some ⟨b, off, arr.size⟩ := hb
    refine ⟨fun j bk hj => ?_, _, [], rfl, ⟨_, rfl, hlc, fun _ => ⟨_, hb, rfl⟩⟩, rfl⟩
    obtain ⟨rfl, rfl⟩ := hbk j bk hj
    rw [Nat.add_zero]
    refine ⟨rfl, ⟨L.map (Value.int k), ⟨_, [], by simp, ⟨hL, rfl⟩, rfl⟩, .inr ⟨_, arr, ty, fr, hb, hh, rfl, by simp; omega, ?_, fun h => by cases h⟩⟩, fun r hr => by rw [hb] at hr; cases hr; exact hlt⟩
    intro i v hv
    rw [List.getElem?_map, Option.map_eq_some_iff] at hv
    obtain ⟨x, hx', rfl⟩ := hv
    exact hx i x hx'
  · have hn : L = [] := List.length_eq_zero_iff.1 (by omega)
    subst hn
    have hl0 : len = 0 := by omega
    subst hl0
    refine ⟨[none], rfl, fun β hβ => ?_⟩
    have hb : β i = none := hβ 0 (by simp)
    refine ⟨fun j bk hj => ?_, _, [], rfl, ⟨_, rfl, hlc, fun h => absurd h h0⟩, rfl⟩
    obtain ⟨rfl, rfl⟩ := hbk j bk hj
    rw [Nat.add_zero]
    exact ⟨rfl, ⟨[], ⟨[], [], rfl, ⟨rfl, rfl⟩, rfl⟩, .inl ⟨rfl, .inl rfl⟩⟩, fun r hr => by rw [hb] at hr; cases hr⟩

section args
variable {H : Type} {enc : TypeId × Value → H} {P : Program} {W : World} {base : Nat} {sp : Nat → Bool}

/-- an argument []int, opened -/
theorem ints_arg {t e : TypeId} {k : IntKind} {v : Value} {d : DataW H} {p : List MemPlace} (ht : P.underlying t = some (.slice e)) (he : P.underlying e = some (.int k)) (hc : P.cellsOf e = 1)
    (hval : Value.okWide P W .any base t v) (h : DataW.Trod enc P W 0 (fun _ => true) true t v d p) :
    ∃ (len cap : Nat) (L : List Int), L.length = len ∧ len ≤ cap ∧ (∀ n ∈ L, (Lit.int k n).wf = true) ∧ (∀ i, Opened W i [v] [.o (.a (.sl i 0 len cap))] [some ⟨false, [.ints k len L]⟩]) ∧
      ((d = .nil ∧ len = 0) ∨ ∃ s, d = .slice (lits k L) s) := by
  obtain ⟨a0, len, cap, rfl⟩ := okWide_slice ht hval
  obtain ⟨fuel, hf⟩ := h
  rcases open_ints ht he hc hf with ⟨hcs, hx⟩ | ⟨a, len', cap', zs, hcs, _, hl, hm, hz, hx, hcell, hwz⟩
  · simp [Value.cells] at hcs
    obtain ⟨rfl, rfl, rfl⟩ := hcs
    simp only [Prod.mk.injEq] at hx
    exact ⟨0, 0, [], rfl, Nat.le_refl _, by simp, fun i => Opened.sl rfl (Nat.le_refl _) (fun h => absurd h (by omega)), .inl ⟨hx.1, rfl⟩⟩
  · simp [Value.cells] at hcs
    obtain ⟨rfl, rfl, rfl⟩ := hcs
    simp only [Prod.mk.injEq] at hx
    simp only [if_true] at hz
    refine ⟨len, cap, zs.take len, by simp; omega, hl, fun n hn => hwz n (List.mem_of_mem_take hn), fun i => Opened.sl (by simp; omega) hl fun hpos => ?_, .inr ⟨_, hx.1⟩⟩
    obtain ⟨b, off, rfl, hcell2⟩ := ints_at hcell (by omega)
    have h00 := hcell2 0 (by omega)
    unfold World.cell? at h00
    split at h00
    · rename_i arr ty fr hh
      have hget : ∀ j, j < zs.length → arr[off + j]? = some (.int k (zs.getD j 0)) := by
        intro j hj
        have h1 := hcell2 j hj
        unfold World.cell? at h1
        rw [hh] at h1
        simpa using h1
      refine ⟨b, off, arr, ty, fr, rfl, hh, ?_, ?_⟩
      · have := (Array.getElem?_eq_some_iff.1 (hget (zs.length - 1) (by omega))).1
        omega
      · intro i x hix
        rw [List.getElem?_take] at hix
        split at hix
        · have hlt := (List.getElem?_eq_some_iff.1 hix).1
          rw [hget i hlt, List.getD_eq_getElem?_getD, hix]; rfl
        · cases hix
    · cases h00

/-- an argument int -/
theorem int_arg {t : TypeId} {k : IntKind} {v : Value} {d : DataW H} {p : List MemPlace} (ht : P.underlying t = some (.int k)) (hval : Value.okWide P W .any base t v) (h : DataW.Trod enc P W 0 (fun _ => true) true t v d p) :
    ∃ n : Int, (Lit.int k n).wf = true ∧ ∀ i, Opened W i [v] [.o (.a (.i k n))] [] := by
  obtain ⟨n, rfl, _, _, hw⟩ := open_int ht hval h
  exact ⟨n, hw, fun i => Opened.val fun β => rfl⟩

/-- an argument bool -/
theorem bool_arg {t : TypeId} {v : Value} {d : DataW H} {p : List MemPlace} (ht : P.underlying t = some .bool) (hval : Value.okWide P W .any base t v) :
    ∃ x : Bool, ∀ i, Opened W i [v] [.o (.a (.b x))] [] := by
  obtain ⟨n, rfl⟩ := okWide_bool ht hval
  exact ⟨n, fun i => Opened.val fun β => rfl⟩

/-- an argument [n]int -/
theorem arr_arg {t e : TypeId} {n : Nat} {k : IntKind} {v : Value} {d : DataW H} {p : List MemPlace} (ht : P.underlying t = some (.array n e)) (he : P.underlying e = some (.int k)) (hc : P.cellsOf e = 1) (hn : P.cellsOf t = n)
    (hval : Value.okWide P W .any base t v) (h : DataW.Trod enc P W 0 (fun _ => true) true t v d p) :
    ∃ S : List Int, S.length = n ∧ (∀ x ∈ S, (Lit.int k x).wf = true) ∧ ∀ i, Opened W i [v] [.o (.g [.ints k n S])] [] := by
  have hv : ∃ cs : Array Value, v = .agg cs ∧ cs.size = n := by
    unfold Value.okWide at hval
    rw [ht] at hval
    obtain ⟨cs, rfl, hsz, _⟩ := hval
    exact ⟨cs, rfl, hsz.trans hn⟩
  obtain ⟨cs, rfl, hsz⟩ := hv
  obtain ⟨fuel, hf⟩ := h
  obtain ⟨xs, m, rfl, _, hlen, hxl, hel⟩ := DataW.trod_array ht hf
  have hcells : (Value.agg cs).cells.toList = cs.toList := rfl
  rw [hcells] at hel
  have key : ∀ j, j < n → ∃ z : Int, cs.toList[j]? = some (.int k z) ∧ (Lit.int k z).wf = true := by
    intro j hj
    have h1 := hel j hj
    rw [hc, Nat.mul_one] at h1
    have hjx : j < xs.length := by omega
    rw [List.getElem?_eq_getElem hjx] at h1
    obtain ⟨z, hz, _, hw⟩ := DataW.trod_int he h1
    refine ⟨z, ?_, hw⟩
    have := congrArg (·[0]?) hz
    simpa [List.getElem?_take, List.getElem?_drop] using this
  have hS : ∃ S : List Int, S.length = n ∧ cs.toList = S.map (Value.int k) ∧ ∀ x ∈ S, (Lit.int k x).wf = true := by
    have hl : cs.toList.length = n := by simpa using hsz
    revert key hl
    generalize cs.toList = l
    clear hel hxl hlen hsz hf hcells hval hn ht
    intro key hl
    induction l generalizing n with
    | nil => exact ⟨[], hl, rfl, by simp⟩
    | cons a l ih =>
      cases n with
      | zero => cases hl
      | succ n =>
        obtain ⟨z, hz, hw⟩ := key 0 (by omega)
        obtain ⟨S, h1, h2, h3⟩ := ih (n := n) (fun j hj => by simpa using key (j + 1) (by omega)) (by simpa using hl)
        simp only [List.getElem?_cons_zero, Option.some.injEq] at hz
        exact ⟨z :: S, by simp [h1], by simp [hz, h2], by simpa using ⟨hw, h3⟩⟩
  obtain ⟨S, h1, h2, h3⟩ := hS
  refine ⟨S, h1, h3, fun i => Opened.val fun β => ⟨cs.toList, by simp, _, [], by simp, ⟨h1, h2⟩, rfl⟩⟩
end args

/-- a law whose body answers true -/
theorem calls_true {P : Program} {T : Tab} (hT : TabOk P T) {f : FuncId} {fn : Func} (hf : P.funcs[f]? = some fn) {W : World} {vs : List Value} {avs : List AV} {K : Know} (ho : Opened W 0 vs avs K)
    (h : ∀ β : Env, Body P T fn ⟨W, [], K.length, β⟩ avs K fun ys _ => ys = [.a (.b true)]) :
    Calls P f vs.toArray W fun e W' => e = .returned (.bool true) ∧ Grow W W' := by
  obtain ⟨β, hrel, hall⟩ := ho.rel
  refine Calls.mono (calls_of_body hT hf hall hrel (h β)) fun e W' h => ?_
  obtain ⟨xs, K, v, β', hx, rfl, hv, hr, _⟩ := h
  subst hx
  have hv : [v] = [Value.bool true] := hv
  simp only [List.cons.injEq, and_true] at hv
  subst hv
  exact ⟨rfl, hr.toGrow⟩
end Go.Proofs.Ytcpoldghkiiggaa.R

/- Arguments that are structs: opened cell by cell. -/
namespace Go.Proofs.Ytcpoldghkiiggaa.R
open Go Go.Proofs Go.ChangeShapes Go.WideShapes Go.ChangeAt Go.RowKit Go.Proofs.Ytcpoldghkiiggaa.X
set_option linter.unusedVariables false

/-- a row of cells, abstractly, with blocks from the i-th on -/
def OpenC (W : World) (i : Nat) (cs : List Value) (l : List Atom) (K : Know) : Prop :=
  ∃ ρ : List (Option Ref), ρ.length = K.length ∧ ∀ β : Env, (∀ j, j < ρ.length → β (i + j) = (ρ[j]?).join) →
    (∀ j b, K.at j = some b → b.own = false ∧ b.holds β W (i + j) ∧ ∀ r, β (i + j) = some r → r.blk < W.heap.size) ∧ cons β l cs

theorem OpenC.nil {W : World} {i : Nat} : OpenC W i [] [] [] := ⟨[], rfl, fun β _ => ⟨fun j b h => by simp [Know.at] at h, rfl⟩⟩

theorem cons_app {β : Env} : ∀ {a b : List Atom} {x y : List Value}, cons β a x → cons β b y → cons β (a ++ b) (x ++ y)
  | [], _, _, _, h, h' => by cases h; exact h'
  | _ :: _, _, _, _, ⟨v, r, hv, hc, hr⟩, h' => by subst hv; exact ⟨v, _, by rw [List.append_assoc], hc, cons_app hr h'⟩

theorem OpenC.app {W : World} {i : Nat} {vs vs' : List Value} {l l' : List Atom} {K K' : Know} (h : OpenC W i vs l K) (h' : OpenC W (i + K.length) vs' l' K') : OpenC W i (vs ++ vs') (l ++ l') (K ++ K') := by
  obtain ⟨ρ, hl, hρ⟩ := h
  obtain ⟨ρ', hl', hρ'⟩ := h'
  refine ⟨ρ ++ ρ', by simp [hl, hl'], fun β hβ => ?_⟩
  obtain ⟨h1, h2⟩ := hρ β fun j hj => by rw [hβ j (by simp; omega), List.getElem?_append_left hj]
  obtain ⟨h3, h4⟩ := hρ' β fun j hj => by
    rw [Nat.add_assoc, hβ (K.length + j) (by simp; omega), List.getElem?_append_right (by omega)]
    congr 2; omega
  refine ⟨fun j b hb => ?_, cons_app h2 h4⟩
  by_cases hj : j < K.length
  · refine h1 j b ?_
    unfold Know.at at hb ⊢; rwa [List.getElem?_append_left hj] at hb
  · have := h3 (j - K.length) b (by unfold Know.at at hb ⊢; rwa [List.getElem?_append_right (by omega)] at hb)
    rw [show i + K.length + (j - K.length) = i + j from by omega] at this
    exact this

theorem OpenC.agg {W : World} {i : Nat} {cs : Array Value} {l : List Atom} {K : Know} (h : OpenC W i cs.toList l K) : Opened W i [.agg cs] [.o (.g l)] K := by
  obtain ⟨ρ, hl, hρ⟩ := h
  refine ⟨ρ, hl, fun β hβ => ?_⟩
  obtain ⟨h1, h2⟩ := hρ β hβ
  exact ⟨h1, _, [], rfl, ⟨cs.toList, by simp, h2⟩, rfl⟩

theorem OpenC.one {W : World} {i : Nat} {v : Value} {x : Atom} {K : Know} (h : OpenC W i [v] [x] K) : Opened W i [v] [.o (.a x)] K := by
  obtain ⟨ρ, hl, hρ⟩ := h
  refine ⟨ρ, hl, fun β hβ => ?_⟩
  obtain ⟨h1, x, y, h2, h3, h4⟩ := hρ β hβ
  cases h4
  rw [List.append_nil] at h2
  subst h2
  exact ⟨h1, _, [], rfl, h3, rfl⟩

/-- cells without places -/
theorem OpenC.val {W : World} {i : Nat} {vs : List Value} {l : List Atom} (h : ∀ β : Env, cons β l vs) : OpenC W i vs l [] :=
  ⟨[], rfl, fun β _ => ⟨fun j b hb => by simp [Know.at] at hb, h β⟩⟩

/-- a slice of integers, as a row with all its room -/
theorem OpenC.row {W : World} {i : Nat} {k : IntKind} {a0 : Option Addr} {len cap : Nat} {L : List Int} (hL : L.length = len) (hlc : len ≤ cap)
    (hc : 0 < cap → ∃ b off arr ty fr, a0 = some ⟨b, off, none⟩ ∧ W.heap[b]? = some (.cells arr ty fr) ∧ off + cap ≤ arr.size ∧ ∀ i x, L[i]? = some x → arr[off + i]? = some (.int k x)) :
    OpenC W i [.slice a0 len cap] [.rs i 0 len 1] [some ⟨false, [.ints k len L]⟩] := by
  have hbk : ∀ j (bk : Blk), Know.at [some ⟨false, [.ints k len L]⟩] j = some bk → j = 0 ∧ bk = ⟨false, [.ints k len L]⟩ := by
    intro j bk hj
    match j, hj with
    | 0, hj => exact ⟨rfl, (Option.some.inj hj).symm⟩
    | j + 1, hj => simp [Know.at] at hj
  by_cases h0 : 0 < cap
  · obtain ⟨b, off, arr, ty, fr, rfl, hh, hs, hx⟩ := hc h0
    have hlt : b < W.heap.size := (Array.getElem?_eq_some_iff.1 hh).1
    refine ⟨[some ⟨b, off, arr.size⟩], rfl, fun β hβ => ?_⟩
    have hb := hβ 0 (by simp)
    rw [Nat.add_zero] at hb
    have hb : β i = some ⟨b, off, arr.size⟩ := hb
    refine ⟨fun j bk hj => ?_, [_], [], rfl, ⟨_, _, rfl, hlc, fun _ => ⟨_, hb, rfl, by simp; omega⟩⟩, rfl⟩
    obtain ⟨rfl, rfl⟩ := hbk j bk hj
    rw [Nat.add_zero]
    refine ⟨rfl, ⟨L.map (Value.int k), ⟨_, [], by simp, ⟨hL, rfl⟩, rfl⟩, .inr ⟨_, arr, ty, fr, hb, hh, rfl, by simp; omega, ?_, fun h => by cases h⟩⟩, fun r hr => by rw [hb] at hr; cases hr; exact hlt⟩
    intro i v hv
    rw [List.getElem?_map, Option.map_eq_some_iff] at hv
    obtain ⟨x, hx', rfl⟩ := hv
    exact hx i x hx'
  · have hn : L = [] := List.length_eq_zero_iff.1 (by omega)
    subst hn
    have hl0 : len = 0 := by omega
    subst hl0
    refine ⟨[none], rfl, fun β hβ => ?_⟩
    have hb : β i = none := hβ 0 (by simp)
    refine ⟨fun j bk hj => ?_, [_], [], rfl, ⟨_, _, rfl, hlc, fun h => absurd h h0⟩, rfl⟩
    obtain ⟨rfl, rfl⟩ := hbk j bk hj
    rw [Nat.add_zero]
    exact ⟨rfl, ⟨[], ⟨[], [], rfl, ⟨rfl, rfl⟩, rfl⟩, .inl ⟨rfl, .inl rfl⟩⟩, fun r hr => by rw [hb] at hr; cases hr⟩

section args
variable {H : Type} {enc : TypeId × Value → H} {P : Program} {W : World} {base : Nat} {sp : Nat → Bool}

/-- cells of []int -/
theorem ints_cells {t e : TypeId} {k : IntKind} {fuel : Nat} {cs : List Value} {x : DataW H × List MemPlace} (ht : P.underlying t = some (.slice e)) (he : P.underlying e = some (.int k)) (hc : P.cellsOf e = 1)
    (hf : DataW.trod enc P W 0 (fun _ => true) true fuel t cs = some x) :
    ∃ (len : Nat) (L : List Int), L.length = len ∧ (∀ n ∈ L, (Lit.int k n).wf = true) ∧ (∀ i, OpenC W i cs [.rs i 0 len 1] [some ⟨false, [.ints k len L]⟩]) ∧ ((x.1 = .nil ∧ len = 0) ∨ ∃ s, x.1 = .slice (lits k L) s) := by
  rcases open_ints ht he hc hf with ⟨rfl, rfl⟩ | ⟨a, len, cap, zs, rfl, _, hl, hm, hz, rfl, hcell, hwz⟩
  · exact ⟨0, [], rfl, by simp, fun i => OpenC.row rfl (Nat.le_refl _) (fun h => absurd h (by omega)), .inl ⟨rfl, rfl⟩⟩
  · simp only [if_true] at hz
    refine ⟨len, zs.take len, by simp; omega, fun n hn => hwz n (List.mem_of_mem_take hn), fun i => OpenC.row (by simp; omega) hl fun hpos => ?_, .inr ⟨_, rfl⟩⟩
    obtain ⟨b, off, rfl, hcell2⟩ := ints_at hcell (by omega)
    have h00 := hcell2 0 (by omega)
    unfold World.cell? at h00
    split at h00
    · rename_i arr ty fr hh
      have hget : ∀ j, j < zs.length → arr[off + j]? = some (.int k (zs.getD j 0)) := by
        intro j hj
        have h1 := hcell2 j hj
        unfold World.cell? at h1
        rw [hh] at h1
        simpa using h1
      refine ⟨b, off, arr, ty, fr, rfl, hh, ?_, ?_⟩
      · have := (Array.getElem?_eq_some_iff.1 (hget (zs.length - 1) (by omega))).1
        omega
      · intro i x hix
        rw [List.getElem?_take] at hix
        split at hix
        · have hlt := (List.getElem?_eq_some_iff.1 hix).1
          rw [hget i hlt, List.getD_eq_getElem?_getD, hix]; rfl
        · cases hix
    · cases h00

/-- cells of [n]int -/
theorem arr_cells {t e : TypeId} {n : Nat} {k : IntKind} {fuel : Nat} {cs : List Value} {x : DataW H × List MemPlace} (ht : P.underlying t = some (.array n e)) (he : P.underlying e = some (.int k)) (hc : P.cellsOf e = 1) (hn : P.cellsOf t = n)
    (hf : DataW.trod enc P W 0 (fun _ => true) true fuel t cs = some x) : ∃ S : List Int, S.length = n ∧ (∀ x ∈ S, (Lit.int k x).wf = true) ∧ cs = S.map (Value.int k) := by
  obtain ⟨xs, m, rfl, _, hlen, hxl, hel⟩ := DataW.trod_array ht hf
  rw [hn] at hlen
  have key : ∀ j, j < n → ∃ z : Int, cs[j]? = some (.int k z) ∧ (Lit.int k z).wf = true := by
    intro j hj
    have h1 := hel j hj
    rw [hc, Nat.mul_one] at h1
    have hjx : j < xs.length := by omega
    rw [List.getElem?_eq_getElem hjx] at h1
    obtain ⟨z, hz, _, hw⟩ := DataW.trod_int he h1
    refine ⟨z, ?_, hw⟩
    have := congrArg (·[0]?) hz
    simpa [List.getElem?_take, List.getElem?_drop] using this
  clear hel hxl hf hn ht
  induction cs generalizing n with
  | nil => exact ⟨[], hlen, by simp, rfl⟩
  | cons a l ih =>
    cases n with
    | zero => cases hlen
    | succ n =>
      obtain ⟨z, hz, hw⟩ := key 0 (by omega)
      obtain ⟨S, h1, h3, h2⟩ := ih (n := n) (by simpa using hlen) (fun j hj => by simpa using key (j + 1) (by omega))
      simp only [List.getElem?_cons_zero, Option.some.injEq] at hz
      exact ⟨z :: S, by simp [h1], by simpa using ⟨hw, h3⟩, by simp [hz, h2]⟩

theorem OpenC.ints {i : Nat} {k : IntKind} {n : Nat} {S : List Int} (h : S.length = n) : OpenC W i (S.map (Value.int k)) [.ints k n S] [] :=
  OpenC.val fun β => ⟨_, [], by simp, ⟨h, rfl⟩, rfl⟩

theorem OpenC.int {i : Nat} {k : IntKind} {n : Int} : OpenC W i [.int k n] [.i k n] [] := OpenC.val fun β => ⟨_, [], by simp, rfl, rfl⟩

/-- a struct of [n]int, []int, int -/
theorem mid_arg {t e0 e1 : TypeId} {f0 f1 f2 : Field} {n : Nat} {k0 k1 k2 : IntKind} {v : Value} {d : DataW H} {p : List MemPlace} (ht : P.underlying t = some (.struct #[f0, f1, f2]))
    (h0 : P.underlying f0.type = some (.array n e0)) (h0' : P.underlying e0 = some (.int k0)) (c0 : P.cellsOf e0 = 1) (c0' : P.cellsOf f0.type = n) (o0 : f0.offset = 0)
    (h1 : P.underlying f1.type = some (.slice e1)) (h1' : P.underlying e1 = some (.int k1)) (c1 : P.cellsOf e1 = 1) (c1' : P.cellsOf f1.type = 1) (o1 : f1.offset = n)
    (h2 : P.underlying f2.type = some (.int k2)) (c2 : P.cellsOf f2.type = 1) (o2 : f2.offset = n + 1) (ct : P.cellsOf t = n + 2)
    (hval : Value.okWide P W .any base t v) (h : DataW.Trod enc P W 0 (fun _ => true) true t v d p) :
    ∃ (S : List Int) (len : Nat) (L : List Int) (N : Int), S.length = n ∧ L.length = len ∧ (Lit.int k2 N).wf = true ∧
      (∀ i, Opened W i [v] [.o (.g [.ints k0 n S, .rs i 0 len 1, .i k2 N])] [some ⟨false, [.ints k1 len L]⟩]) ∧
      ∃ d0 d1 d2, d = .agg [d0, d1, d2] ∧ ((d1 = .nil ∧ len = 0) ∨ ∃ s, d1 = .slice (lits k1 L) s) := by
  obtain ⟨cs, rfl, hcs⟩ := okWide_struct ht hval
  obtain ⟨fuel, hf⟩ := h
  obtain ⟨xs, m, rfl, hx, hlen, hxl, hel⟩ := DataW.trod_struct ht hf
  have hcells : (Value.agg cs).cells.toList = cs.toList := rfl
  rw [hcells] at hel hlen
  rw [ct] at hlen
  obtain ⟨x0, x1, x2, rfl⟩ : ∃ x0 x1 x2, xs = [x0, x1, x2] := by
    match xs, hxl with
    | [x0, x1, x2], _ => exact ⟨x0, x1, x2, rfl⟩
  have e0' := hel 0 f0 rfl
  have e1' := hel 1 f1 rfl
  have e2' := hel 2 f2 rfl
  rw [o0, c0'] at e0'
  rw [o1, c1'] at e1'
  rw [o2, c2] at e2'
  obtain ⟨S, hS, hwS, s0⟩ := arr_cells h0 h0' c0 c0' e0'
  obtain ⟨len, L, hL, hwL, oL, hd⟩ := ints_cells h1 h1' c1 e1'
  obtain ⟨N, s2, _, hwN⟩ := DataW.trod_int h2 e2'
  simp only [Prod.mk.injEq] at hx
  refine ⟨S, len, L, N, hS, hL, hwN, fun i => ?_, _, _, _, hx.1, hd⟩
  refine OpenC.agg ?_
  have hsplit : cs.toList = S.map (Value.int k0) ++ ((cs.toList.drop n).take 1 ++ [.int k2 N]) := by
    rw [← s2, ← s0, List.drop_zero]
    conv => lhs; rw [← List.take_append_drop n cs.toList]
    congr 1
    conv => lhs; rw [← List.take_append_drop 1 (cs.toList.drop n)]
    rw [List.drop_drop, List.take_of_length_le (l := cs.toList.drop (n + 1)) (by simp; simp at hlen; omega)]
  rw [hsplit]
  exact (OpenC.ints hS).app ((oL _).app OpenC.int)
end args
end Go.Proofs.Ytcpoldghkiiggaa.R

