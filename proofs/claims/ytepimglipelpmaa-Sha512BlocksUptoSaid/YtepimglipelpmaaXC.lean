/- The operations, first part: moves, loads, stores, addresses, arithmetic. -/
import Derived.Test.YtepimglipelpmaaXB
namespace Go.Proofs.Ytepimglipelpmaa.X
open Go

/-- what must hold; none: nothing -/
def okP : Option Prop → Prop
  | none => True
  | some p => p

structure TE where
  d : TypeDesc
  size : Nat
  bytes : Nat
  zero : List Atom
  eqok : Bool

abbrev Tab := TypeId → Option TE

structure TEOk (P : Program) (t : TypeId) (e : TE) : Prop where
  und : P.underlying t = some e.d
  info : ∃ i z, P.info? t = some i ∧ i.size = e.size ∧ i.bytes = e.bytes ∧ i.zero = some z ∧ ∀ β, cons β e.zero z.cells.toList
  eqg : e.eqok = true → P.eqGuardType P.depth t = false
  zsz : sizes e.zero = e.size

def TabOk (P : Program) (T : Tab) : Prop := ∀ t e, T t = some e → TEOk P t e

structure Ox where
  vc : Option Prop
  val : AV
  ch : List (Nat × Option Blk)
  al : Bool

def app (K : Know) : List (Nat × Option Blk) → Know
  | [] => K
  | (j, b) :: r => app (K.set1 j b) r

abbrev Rho := Operand → AV

def AV.atom : AV → Option Atom
  | .o (.a x) => some x
  | _ => none

def V1.cells : V1 → List Atom
  | .a x => [x]
  | .g l => l

theorem V1.con_cells {β : Env} {x : V1} {v : Value} (h : x.con β v) : cons β x.cells v.cells.toList := by
  cases x with
  | a x =>
    have h1 := Atom.con_one h v (by simp)
    have : v.cells = #[v] := by cases v <;> simp_all [Value.cells, Value.oneCell']
    rw [this]; exact cons_single.2 h
  | g l => obtain ⟨cs, rfl, hc⟩ := h; simpa [Value.cells, V1.cells] using hc

def atomOf : Value → Atom
  | .int k n => .i k n
  | .bool x => .b x
  | v => .raw v

def intsOf (k : IntKind) : List Value → Option (List Int)
  | [] => some []
  | .int k' n :: r => if k' = k then (intsOf k r).map (n :: ·) else none
  | _ :: _ => none

theorem intsOf_spec {k : IntKind} : ∀ {l : List Value} {xs : List Int}, intsOf k l = some xs → l = xs.map (Value.int k)
  | [], xs, h => by simp [intsOf] at h; simp [h]
  | v :: r, xs, h => by
    cases v <;> simp only [intsOf] at h <;> try (simp at h; done)
    split at h
    · rename_i hk; subst hk
      simp only [Option.map_eq_some_iff] at h
      obtain ⟨ys, hy, rfl⟩ := h
      simp [← intsOf_spec hy]
    · simp at h

def packV (l : List Value) : List Atom :=
  match l with
  | .int k n :: r => (match intsOf k r with
    | some xs => [.ints k (xs.length + 1) (n :: xs)]
    | none => l.map atomOf)
  | _ => l.map atomOf

theorem atomOf_con {β : Env} {v : Value} (h : v.oneCell' = true) : (atomOf v).con β [v] := by
  cases v <;> simp_all [atomOf, Atom.con, Value.oneCell']

theorem cons_atomOf {β : Env} : ∀ {l : List Value}, l.all (·.oneCell') = true → cons β (l.map atomOf) l
  | [], _ => rfl
  | v :: r, h => by
    simp only [List.all_cons, Bool.and_eq_true] at h
    exact ⟨[v], r, rfl, atomOf_con h.1, cons_atomOf h.2⟩

theorem packV_con {β : Env} {l : List Value} (h : l.all (·.oneCell') = true) : cons β (packV l) l := by
  unfold packV
  split
  · rename_i k n r
    split
    · rename_i xs hxs
      rw [cons_single]
      have := intsOf_spec hxs
      exact ⟨by simp, by simp [this]⟩
    · exact cons_atomOf h
  · exact cons_atomOf h

def constAV : Value → AV
  | .int k n => .o (.a (.i k n))
  | .bool x => .o (.a (.b x))
  | .agg cs => if cs.toList.all (·.oneCell') then .o (.g (packV cs.toList)) else .u
  | .tuple _ => .u
  | v => .o (.a (.raw v))

theorem constAV_con {β : Env} (v : Value) : (constAV v).con β v := by
  cases v <;> simp only [constAV] <;> try (simp [AV.con, V1.con, Atom.con, Value.oneCell']; done)
  rename_i cs
  split
  · rename_i h; exact ⟨cs.toList, by simp, packV_con h⟩
  · trivial

def ev (slots : List AV) : Rho
  | .tmp t => slots.getD t .u
  | .const v => constAV v
  | .global g => .o (.a (.raw (.pointer (some ⟨g, 0, none⟩))))
  | .func f => .f f []

theorem ev_con {β : Env} {slots : List AV} {a : Act} (h : ∀ t, (slots.getD t .u).con β (a.tmps.getD t undef)) (x : Operand) : (ev slots x).con β (a.eval x) := by
  cases x with
  | tmp t => exact h t
  | const v => exact constAV_con v
  | global g => exact ⟨rfl, rfl⟩
  | func f => exact ⟨[], rfl, rfl⟩

def ptr : AV → Option (Nat × Nat × Bool)
  | .o (.a (.p j c)) => some (j, c, false)
  | .o (.a (.ps j c)) => some (j, c, true)
  | _ => none

theorem ptr_con {β : Env} {x : AV} {j c : Nat} {sym : Bool} {v : Value} (h : ptr x = some (j, c, sym)) (hc : x.con β v) : ∃ r, β j = some r ∧ v = .pointer (some ⟨r.blk, r.off + c, none⟩) := by
  unfold ptr at h
  split at h
  · simp only [Option.some.injEq, Prod.mk.injEq] at h; obtain ⟨rfl, rfl, rfl⟩ := h
    obtain ⟨r, hr, hv⟩ := hc; exact ⟨r, hr, by simpa using hv⟩
  · simp only [Option.some.injEq, Prod.mk.injEq] at h; obtain ⟨rfl, rfl, rfl⟩ := h
    obtain ⟨r, hr, hv⟩ := hc; exact ⟨r, hr, by simpa using hv⟩
  · simp at h

/-- cells c .. c + m; sym: the offset is not known in numbers -/
def rng (sym : Bool) (cells : List Atom) (c m : Nat) : Option (Option Prop × List Atom) :=
  match sym, cells, m with
  | true, [.ints k n l], 1 => some (some (c < n), [.i k (l.getD c 0)])
  | true, [.vals n l], 1 => some (some (c < n), [.raw (l.getD c undef)])
  | true, [.ints k n l], m => some (some (c + m ≤ n), [.ints k m (sub l c m)])
  | true, [.vals n l], m => some (some (c + m ≤ n), [.vals m (sub l c m)])
  | _, cells, m => (takeC cells c m).map (none, ·)

theorem sub_one {α : Type} (l : List α) (c : Nat) (d : α) (h : c < l.length) : sub l c 1 = [l.getD c d] := by
  have e : l.getD c d = l[c] := by simp [List.getD_eq_getElem?_getD, h]
  unfold sub
  rw [e, List.drop_eq_getElem_cons h, List.take_succ_cons, List.take_zero]

theorem rng_con {β : Env} {sym : Bool} {cells : List Atom} {c m : Nat} {vc : Option Prop} {out : List Atom} {cs : List Value} (h : rng sym cells c m = some (vc, out)) (hv : okP vc) (hm : 0 < m) (hc : cons β cells cs) :
    cons β out (sub cs c m) ∧ c + m ≤ cs.length := by
  unfold rng at h
  split at h
  · rename_i k n l
    simp only [Option.some.injEq, Prod.mk.injEq] at h; obtain ⟨rfl, rfl⟩ := h
    simp only [okP] at hv
    rw [cons_single] at hc; obtain ⟨hl, rfl⟩ := hc
    rw [cons_single]
    refine ⟨?_, by simp; omega⟩
    rw [← sub_map, sub_one l c 0 (by omega)]; rfl
  · rename_i n l
    simp only [Option.some.injEq, Prod.mk.injEq] at h; obtain ⟨rfl, rfl⟩ := h
    simp only [okP] at hv
    rw [cons_single] at hc; obtain ⟨hl, rfl, h1⟩ := hc
    rw [cons_single]
    refine ⟨?_, by omega⟩
    rw [sub_one _ c undef (by omega)]
    refine ⟨rfl, ?_⟩
    rw [List.getD_eq_getElem?_getD, List.getElem?_eq_getElem (by omega)]
    exact h1 _ (List.getElem_mem _)
  · rename_i k n l _ _
    simp only [Option.some.injEq, Prod.mk.injEq] at h; obtain ⟨rfl, rfl⟩ := h
    simp only [okP] at hv
    rw [cons_single] at hc; obtain ⟨hl, rfl⟩ := hc
    rw [cons_single]
    exact ⟨⟨sub_len _ _ _ (by omega), by rw [sub_map]⟩, by simp; omega⟩
  · rename_i n l _ _
    simp only [Option.some.injEq, Prod.mk.injEq] at h; obtain ⟨rfl, rfl⟩ := h
    simp only [okP] at hv
    rw [cons_single] at hc; obtain ⟨hl, rfl, h1⟩ := hc
    rw [cons_single]
    exact ⟨⟨sub_len _ _ _ (by omega), rfl, fun v hv => h1 v (List.mem_of_mem_drop (List.mem_of_mem_take hv))⟩, by omega⟩
  · simp only [Option.map_eq_some_iff, Prod.mk.injEq] at h
    obtain ⟨o, ho, rfl, rfl⟩ := h
    have := takeC_con ho hc
    exact ⟨this.1, this.2 hm⟩

/-- the value that cells make at a type -/
def mk1 (e : TE) (out : List Atom) : Option V1 :=
  if aggD e.d = true then some (.g out) else
  if e.size = 1 then
    match out with
    | [.ints k _ ys] => some (.a (.i k (ys.getD 0 0)))
    | [.vals _ ys] => some (.a (.raw (ys.getD 0 undef)))
    | [a] => some (.a a)
    | _ => none
  else none

def valOf (e : TE) (cs : List Value) : Value := if aggD e.d = true then .agg cs.toArray else cs.headD undef

theorem mk1_con {β : Env} {e : TE} {out : List Atom} {y : V1} {cs : List Value} (h : mk1 e out = some y) (hc : cons β out cs) (hl : cs.length = e.size) : y.con β (valOf e cs) ∧ (aggD e.d = false → cs.length = 1) := by
  unfold mk1 at h
  unfold valOf
  by_cases ha : aggD e.d = true
  · rw [if_pos ha] at h; cases h
    rw [if_pos ha]
    exact ⟨⟨cs, rfl, hc⟩, fun h => by rw [ha] at h; cases h⟩
  · rw [if_neg ha] at h
    rw [if_neg ha]
    split at h
    · rename_i h1
      rw [h1] at hl
      match cs, hl with
      | [v], _ =>
        refine ⟨?_, fun _ => rfl⟩
        split at h
        · cases h
          rw [cons_single] at hc; obtain ⟨hl, hv⟩ := hc
          rename_i k n ys
          cases ys with
          | nil => simp at hv
          | cons y ys => simp at hv; simp [V1.con, Atom.con, hv.1]
        · cases h
          rw [cons_single] at hc; obtain ⟨hl, hv, h1⟩ := hc
          subst hv
          simp [V1.con, Atom.con]
          simpa using h1
        · cases h
          exact cons_single.1 hc
        · simp at h
    · simp at h

def wrt (sym : Bool) (cells : List Atom) (c m : Nat) (new : List Atom) : Option (Option Prop × List Atom) :=
  match sym, cells, new with
  | true, [.ints k n l], [.i k' z] => if k = k' then some (some (c < n), [.ints k n (l.set c z)]) else none
  | true, [.ints k n l], [.ints k' m' ys] => if k = k' then some (some (c + m' ≤ n), [.ints k n (splice l c m' ys)]) else none
  | _, cells, new => (putC cells c m new).map (none, ·)

theorem wrt_con {β : Env} {sym : Bool} {cells new out : List Atom} {c m : Nat} {vc : Option Prop} {cs ds : List Value} (h : wrt sym cells c m new = some (vc, out)) (hv : okP vc) (hc : cons β cells cs) (hn : cons β new ds) (hm : ds.length = m) :
    cons β out (splice cs c m ds) ∧ c + m ≤ cs.length := by
  unfold wrt at h
  split at h
  · rename_i k n l k' z
    split at h
    · rename_i hk; subst hk
      simp only [Option.some.injEq, Prod.mk.injEq] at h; obtain ⟨rfl, rfl⟩ := h
      simp only [okP] at hv
      rw [cons_single] at hc hn; obtain ⟨hl, rfl⟩ := hc
      simp only [Atom.con] at hn; subst hn
      simp only [List.length_cons, List.length_nil] at hm; subst hm
      rw [cons_single, splice_one _ _ _ (by simp; omega)]
      exact ⟨⟨by simpa using hl, by simp⟩, by simp; omega⟩
    · simp at h
  · rename_i k n l k' m' ys
    split at h
    · rename_i hk; subst hk
      simp only [Option.some.injEq, Prod.mk.injEq] at h; obtain ⟨rfl, rfl⟩ := h
      simp only [okP] at hv
      rw [cons_single] at hc hn; obtain ⟨hl, rfl⟩ := hc
      obtain ⟨hy, rfl⟩ := hn
      simp only [List.length_map] at hm
      have : m = m' := by omega
      subst this
      rw [cons_single]
      exact ⟨⟨by rw [splice_len _ _ _ _ (by omega) hy]; exact hl, by rw [splice_map]⟩, by simp; omega⟩
    · simp at h
  · simp only [Option.map_eq_some_iff, Prod.mk.injEq] at h
    obtain ⟨o, ho, rfl, rfl⟩ := h
    exact putC_con ho hc hn hm

def mulz (a z : Nat) : Nat := match z with
  | 1 => a
  | z => a * z

theorem mulz_eq (a z : Nat) : mulz a z = a * z := by
  unfold mulz; split <;> simp

/-- c + s, where c is a number of the text -/
def addc (c s : Nat) : Nat := match c with
  | 0 => s
  | c => c + s

theorem addc_eq (c s : Nat) : addc c s = c + s := by
  unfold addc; split <;> simp

section ops
variable (T : Tab) (ρ : Rho) (K : Know) (n : Nat)

def opLoad (t : TypeId) (x : AV) : Option Ox :=
  match T t, ptr x with
  | some e, some (j, c, sym) =>
    (match K.at j with
     | none => none
     | some b =>
       if e.size = 0 then none else
       match rng sym b.cells c e.size with
       | some (vc, out) => (mk1 e out).map fun y => ⟨vc, .o y, [], false⟩
       | none => none)
  | _, _ => none

def opStore (t : TypeId) (x v : AV) : Option Ox :=
  match T t, ptr x, v with
  | some e, some (j, c, sym), .o y =>
    (match K.at j with
     | none => none
     | some b =>
       if b.own = true ∧ e.size ≠ 0 ∧ sizes y.cells = e.size then
         (match wrt sym b.cells c e.size y.cells with
          | some (vc, out) => some ⟨vc, .u, [(j, some ⟨true, out⟩)], false⟩
          | none => none)
       else none)
  | _, _, _ => none

def opFieldAddr (s : TypeId) (x : AV) (f : Nat) : Option Ox :=
  match T s with
  | some ⟨.struct fs, _, _, _, _⟩ =>
    (match fs[f]? with
     | none => none
     | some fd =>
       match T fd.type with
       | none => none
       | some e => if e.size = 0 then none else
         match x with
         | .o (.a (.p j c)) => some ⟨none, .o (.a (.p j (c + fd.offset))), [], false⟩
         | .o (.a (.ps j c)) => some ⟨none, .o (.a (.ps j (c + fd.offset))), [], false⟩
         | _ => none)
  | _ => none

/-- st: the index is a constant of the text -/
def opIndexAddr (t : TypeId) (st : Bool) (x ix : AV) : Option Ox :=
  match T t, x, ix with
  | some ⟨.array len el, _, _, _, _⟩, .o (.a (.p j c)), .o (.a (.i _ i)) =>
    (match T el with
     | none => none
     | some e =>
       if st = true then (if 0 ≤ i ∧ i < (len : Int) then some ⟨none, .o (.a (.p j (c + i.toNat * e.size))), [], false⟩ else none)
       else some ⟨some (0 ≤ i ∧ i < (len : Int)), .o (.a (.ps j (addc c (mulz i.toNat e.size)))), [], false⟩)
  | some ⟨.array len el, _, _, _, _⟩, .o (.a (.ps j c)), .o (.a (.i _ i)) =>
    (match T el with
     | none => none
     | some e => some ⟨some (0 ≤ i ∧ i < (len : Int)), .o (.a (.ps j (addc c (mulz i.toNat e.size)))), [], false⟩)
  | some ⟨.slice el, _, _, _, _⟩, .o (.a (.sl j c len _)), .o (.a (.i _ i)) =>
    (match T el with
     | none => none
     | some e => some ⟨some (0 ≤ i ∧ i < (len : Int)), .o (.a (.ps j (addc c (mulz i.toNat e.size)))), [], false⟩)
  | some ⟨.slice el, _, _, _, _⟩, .o (.a (.rs j c len _)), .o (.a (.i _ i)) =>
    (match T el with
     | none => none
     | some e => some ⟨some (0 ≤ i ∧ i < (len : Int)), .o (.a (.ps j (addc c (mulz i.toNat e.size)))), [], false⟩)
  | _, _, _ => none

def opField (t : TypeId) (x : AV) (f : Nat) : Option Ox :=
  match T t, x with
  | some ⟨.struct fs, _, _, _, _⟩, .o (.g l) =>
    (match fs[f]? with
     | none => none
     | some fd =>
       match T fd.type with
       | none => none
       | some e =>
         if e.size = 0 then none else
         match takeC l fd.offset e.size with
         | some out => (mk1 e out).map fun y => ⟨none, .o y, [], false⟩
         | none => none)
  | _, _ => none

def bits2 (op : BinOp) (k : IntKind) (x y : Int) : Int :=
  let a := BitVec.ofInt k.bits x
  let b := BitVec.ofInt k.bits y
  match op with
  | .and => k.wrap (a &&& b).toNat
  | .or => k.wrap (a ||| b).toNat
  | .xor => k.wrap (a ^^^ b).toNat
  | _ => k.wrap (a &&& ~~~b).toNat
def shl (k : IntKind) (x y : Int) : Int := k.wrap (x * 2 ^ (min y.toNat k.bits))
def shr (k : IntKind) (x y : Int) : Int := x.fdiv (2 ^ (min y.toNat k.bits))

def opBin (op : BinOp) (t : TypeId) (x y : AV) : Option Ox :=
  match op, x, y with
  | .shl, .o (.a (.i k a)), .o (.a (.i _ b)) => some ⟨some (0 ≤ b), .o (.a (.i k (shl k a b))), [], false⟩
  | .shr, .o (.a (.i k a)), .o (.a (.i _ b)) => some ⟨some (0 ≤ b), .o (.a (.i k (shr k a b))), [], false⟩
  | op, .o (.a (.i k a)), .o (.a (.i k' b)) =>
    if k ≠ k' then none else
    (match op with
     | .add => some ⟨none, .o (.a (.i k (k.wrap (a + b)))), [], false⟩
     | .sub => some ⟨none, .o (.a (.i k (k.wrap (a - b)))), [], false⟩
     | .mul => some ⟨none, .o (.a (.i k (k.wrap (a * b)))), [], false⟩
     | .quo => some ⟨some (b ≠ 0), .o (.a (.i k (k.wrap (a.tdiv b)))), [], false⟩
     | .rem => some ⟨some (b ≠ 0), .o (.a (.i k (a.tmod b))), [], false⟩
     | .and => some ⟨none, .o (.a (.i k (bits2 .and k a b))), [], false⟩
     | .or => some ⟨none, .o (.a (.i k (bits2 .or k a b))), [], false⟩
     | .xor => some ⟨none, .o (.a (.i k (bits2 .xor k a b))), [], false⟩
     | .andNot => some ⟨none, .o (.a (.i k (bits2 .andNot k a b))), [], false⟩
     | .eql => some ⟨none, .o (.a (.b (a == b))), [], false⟩
     | .neq => some ⟨none, .o (.a (.b (a != b))), [], false⟩
     | .lss => some ⟨none, .o (.a (.b (decide (a < b)))), [], false⟩
     | .leq => some ⟨none, .o (.a (.b (decide (a ≤ b)))), [], false⟩
     | .gtr => some ⟨none, .o (.a (.b (decide (a > b)))), [], false⟩
     | .geq => some ⟨none, .o (.a (.b (decide (a ≥ b)))), [], false⟩
     | _ => none)
  | op, .o (.a (.b a)), .o (.a (.b b)) =>
    (match T t, op with
     | some ⟨.bool, _, _, _, _⟩, .eql => some ⟨none, .o (.a (.b (a == b))), [], false⟩
     | some ⟨.bool, _, _, _, _⟩, .neq => some ⟨none, .o (.a (.b (!(a == b)))), [], false⟩
     | _, _ => none)
  | op, .o (.a (.raw (.pointer none))), .o (.a (.raw (.pointer none))) =>
    (match T t, op with
     | some ⟨.pointer _, _, _, _, _⟩, .eql => some ⟨none, .o (.a (.b true)), [], false⟩
     | some ⟨.pointer _, _, _, _, _⟩, .neq => some ⟨none, .o (.a (.b false)), [], false⟩
     | _, _ => none)
  | op, .o (.a (.p _ _)), .o (.a (.raw (.pointer none))) =>
    (match T t, op with
     | some ⟨.pointer _, _, _, _, _⟩, .eql => some ⟨none, .o (.a (.b false)), [], false⟩
     | some ⟨.pointer _, _, _, _, _⟩, .neq => some ⟨none, .o (.a (.b true)), [], false⟩
     | _, _ => none)
  | op, .o (.g [.ints k m xs]), .o (.g [.ints k' m' ys]) =>
    (match T t, op with
     | some ⟨.array len el, _, _, _, true⟩, .eql =>
       (match T el with
        | some ⟨.int _, 1, _, _, _⟩ => if k = k' ∧ m = len ∧ m' = len then some ⟨none, .o (.a (.b (decide (xs = ys)))), [], false⟩ else none
        | _ => none)
     | some ⟨.array len el, _, _, _, true⟩, .neq =>
       (match T el with
        | some ⟨.int _, 1, _, _, _⟩ => if k = k' ∧ m = len ∧ m' = len then some ⟨none, .o (.a (.b (!decide (xs = ys)))), [], false⟩ else none
        | _ => none)
     | _, _ => none)
  | _, _, _ => none

def opUn (op : UnOp) (x : AV) : Option Ox :=
  match op, x with
  | .neg, .o (.a (.i k a)) => some ⟨none, .o (.a (.i k (k.wrap (0 - a)))), [], false⟩
  | .xor, .o (.a (.i k a)) => some ⟨none, .o (.a (.i k (bits2 .xor k (if k.signed then -1 else k.max) a))), [], false⟩
  | .not, .o (.a (.b x)) => some ⟨none, .o (.a (.b (!x))), [], false⟩
  | _, _ => none

def opConvert (dst : TypeId) (x : AV) : Option Ox :=
  match T dst, x with
  | some ⟨.int k, _, _, _, _⟩, .o (.a (.i _ a)) => some ⟨none, .o (.a (.i k (k.wrap a))), [], false⟩
  | _, _ => none

def opExtract (x : AV) (i : Nat) : Option Ox :=
  match x with
  | .t l => (l[i]?).map fun v => ⟨none, .o v, [], false⟩
  | _ => none

def opAlloc (t : TypeId) : Option Ox :=
  match T t with
  | some e => if nomL n (n + 1) e.zero then some ⟨none, .o (.a (.p n 0)), [(n, some ⟨true, e.zero⟩)], true⟩ else none
  | none => none
def opBox (x : AV) : Option Ox :=
  match x with
  | .o y => if nomL n (n + 1) y.cells then some ⟨none, .o (.a (.p n 0)), [(n, some ⟨true, y.cells⟩)], true⟩ else none
  | _ => none
end ops

/- soundness -/
section sound
variable {P : Program} {T : Tab} {w0 : World} {rw : List Nat} {β : Env} {K : Know} {w : World}

def Goes (P : Program) (w0 : World) (rw : List Nat) (β : Env) (K : Know) (w : World) (n : Nat) (s : Sem Value) (x : Ox) : Prop :=
  ∃ β' v w', s.run P w = .ok v w' ∧ Agree n (n + cond x.al 1 0) β β' ∧ x.val.con β' v ∧ RelW w0 rw β' (app K x.ch) w'

theorem agree_refl (lo hi : Nat) (β : Env) : Agree lo hi β β := fun _ _ => rfl

theorem Goes.quiet {n : Nat} {s : Sem Value} {x : Ox} {v : Value} (hR : RelW w0 rw β K w) (h : s.run P w = .ok v w) (hv : x.val.con β v) (hx : x.ch = []) : Goes P w0 rw β K w n s x :=
  ⟨β, v, w, h, agree_refl _ _ _, hv, by rw [hx]; exact hR⟩

theorem run_load {t : TypeId} {e : TE} (hT : TEOk P t e) (a : Addr) (cs : List Value) (hl : cs.length = e.size) (h1 : aggD e.d = false → cs.length = 1) (hc : ∀ (i : Nat) (v : Value), cs[i]? = some v → w.cell? (a.add i) = some v) :
    (loadVar t a).run P w = .ok (valOf e cs) w := by
  obtain ⟨i, z, hi, hs, _⟩ := hT.info
  unfold valOf
  by_cases ha : aggD e.d = true
  · rw [if_pos ha]; exact run_load_agg w hT.und ha hi a cs (by omega) hc
  · have ha : aggD e.d = false := by simpa using ha
    rw [if_neg (by simp [ha])]
    match cs, h1 ha with
    | [v], _ =>
      have := hc 0 v rfl
      rw [show a.add 0 = a from rfl] at this
      exact run_load_one w hT.und ha a v this

theorem opLoad_ok (hT : TabOk P T) {n : Nat} {t : TypeId} {x : AV} {o : Ox} {v : Value} (h : opLoad T K t x = some o) (hvc : okP o.vc) (hx : x.con β v) (hR : RelW w0 rw β K w) :
    Goes P w0 rw β K w n (Instr.loadAt t v) o := by
  unfold opLoad at h
  split at h
  · rename_i e j c sym he hp
    obtain ⟨r, hr, rfl⟩ := ptr_con hp hx
    split at h
    · simp at h
    · rename_i b hb
      split at h
      · simp at h
      · rename_i hz
        split at h
        · rename_i vc out hrng
          simp only [Option.map_eq_some_iff] at h
          obtain ⟨y, hy, rfl⟩ := h
          obtain ⟨cs, hc, hd⟩ := Blk.cellsAt (hR.holds j b hb) hr
          obtain ⟨ho, hl⟩ := rng_con hrng hvc (by omega) hc
          obtain ⟨hy1, hy2⟩ := mk1_con hy ho (sub_len _ _ _ hl)
          refine Goes.quiet hR ?_ hy1 rfl
          show (loadVar t _).run P w = _
          refine run_load (hT t e he) _ _ (sub_len _ _ _ hl) hy2 ?_
          intro i v hv
          rw [addr_add, Nat.add_assoc]; exact hd _ _ (getElem?_sub _ _ _ _ _ hv)
        · simp at h
  · simp at h

theorem V1.cells_len {β : Env} {y : V1} {v : Value} (h : y.con β v) : v.cells.toList.length = sizes y.cells := cons_len (V1.con_cells h)

theorem opStore_ok (hT : TabOk P T) {t : TypeId} {x y : AV} {o : Ox} {v u : Value} (h : opStore T K t x y = some o) (hvc : okP o.vc) (hx : x.con β v) (hy : y.con β u) (hR : RelW w0 rw β K w) :
    ∃ w', (Instr.storeAt t v u).run P w = .ok () w' ∧ o.val = .u ∧ RelW w0 rw β (app K o.ch) w' := by
  unfold opStore at h
  split at h
  · rename_i e j c sym y he hp
    obtain ⟨r, hr, rfl⟩ := ptr_con hp hx
    split at h
    · simp at h
    · rename_i b hb
      split at h
      · rename_i hz
        obtain ⟨ho, hz, hsz⟩ := hz
        split at h
        · rename_i vc out hw
          simp only [Option.some.injEq] at h; subst h
          have hyc := V1.con_cells hy
          have hlen : u.cells.toList.length = e.size := by rw [cons_len hyc]; exact hsz
          obtain ⟨w', hrun, hrel⟩ := RelW.store P hR hb ho hr (fun cs hc => wrt_con hw hvc hc hyc hlen) hyc hlen (by omega)
          refine ⟨w', ?_, rfl, hrel⟩
          obtain ⟨i, z, hi, hs, _⟩ := (hT t e he).info
          have hl2 : u.cells.size = i.size := by rw [hs, ← hlen]; simp
          show (storeVar t _ u).run P w = _
          unfold storeVar
          simp only [Sem.run_bind, run_sizeOf' w hi, Result.andThen_ok, Sem.run_ite]
          rw [if_neg (by simp [hl2])]
          exact hrun
        · simp at h
      · simp at h
  · simp at h

theorem opFieldAddr_ok (hT : TabOk P T) {n : Nat} {s : TypeId} {f : Nat} {x : AV} {o : Ox} {v : Value} (h : opFieldAddr T s x f = some o) (hx : x.con β v) (hR : RelW w0 rw β K w) :
    Goes P w0 rw β K w n (Instr.fieldAt s v f) o := by
  unfold opFieldAddr at h
  split at h
  · rename_i fs sz by_ ze eo he
    split at h
    · simp at h
    · rename_i fd hf
      split at h
      · simp at h
      · rename_i e hfe
        split at h
        · simp at h
        · rename_i hz
          obtain ⟨i, z, hi, hs, _⟩ := (hT _ _ hfe).info
          have hu := (hT _ _ he).und
          have run : ∀ (bk c : Nat), (Instr.fieldAt s (.pointer (some ⟨bk, c, none⟩)) f).run P w = .ok (.pointer (some ⟨bk, c + fd.offset, none⟩)) w := by
            intro bk c
            unfold Instr.fieldAt
            simp only [Sem.run_bind, run_underlying hu, Result.andThen_ok, hf, Instr.sureAddr, Sem.run_pure, fieldPlace, run_sizeOf' w hi]
            rw [if_neg (by rw [hs]; exact hz)]
            simp [addr_add]
          split at h
          · simp only [Option.some.injEq] at h; subst h
            obtain ⟨r, hr, hv⟩ := hx
            simp only [List.cons.injEq, and_true] at hv; subst hv
            refine Goes.quiet hR (run _ _) ⟨r, hr, by simp [Nat.add_assoc]⟩ rfl
          · simp only [Option.some.injEq] at h; subst h
            obtain ⟨r, hr, hv⟩ := hx
            simp only [List.cons.injEq, and_true] at hv; subst hv
            refine Goes.quiet hR (run _ _) ⟨r, hr, by simp [Nat.add_assoc]⟩ rfl
          · simp at h
  · simp at h

theorem opIndexAddr_ok (hT : TabOk P T) {n : Nat} {t : TypeId} {st : Bool} {x ix : AV} {o : Ox} {v u : Value} (h : opIndexAddr T t st x ix = some o) (hvc : okP o.vc) (hx : x.con β v) (hi : ix.con β u) (hR : RelW w0 rw β K w) :
    Goes P w0 rw β K w n (Instr.indexAt t v u) o := by
  have arr : ∀ (len : Nat) (el : TypeId) (e : TE) (k : IntKind) (i : Int) (bk c : Nat), P.underlying t = some (.array len el) → T el = some e → 0 ≤ i → i < (len : Int) →
      (Instr.indexAt t (.pointer (some ⟨bk, c, none⟩)) (.int k i)).run P w = .ok (.pointer (some ⟨bk, c + i.toNat * e.size, none⟩)) w := by
    intro len el e k i bk c hu he h0 h1
    obtain ⟨ii, z, hii, hs, _⟩ := (hT _ _ he).info
    unfold Instr.indexAt
    simp only [asIntOf, pure_bind, Sem.run_bind, run_underlying hu, Result.andThen_ok, Instr.sureAddr, Sem.run_pure, Sem.run_ite, run_sizeOf' w hii]
    rw [if_pos ⟨h0, h1⟩, hs, addr_add]
  have slc : ∀ (len cap : Nat) (el : TypeId) (e : TE) (k : IntKind) (i : Int) (bk c : Nat), P.underlying t = some (.slice el) → T el = some e → 0 ≤ i → i < (len : Int) →
      (Instr.indexAt t (.slice (some ⟨bk, c, none⟩) len cap) (.int k i)).run P w = .ok (.pointer (some ⟨bk, c + i.toNat * e.size, none⟩)) w := by
    intro len cap el e k i bk c hu he h0 h1
    obtain ⟨ii, z, hii, hs, _⟩ := (hT _ _ he).info
    unfold Instr.indexAt
    simp only [asIntOf, pure_bind, Sem.run_bind, run_underlying hu, Result.andThen_ok, Instr.sureAddr, Sem.run_pure, Sem.run_ite, run_sizeOf' w hii]
    rw [if_pos ⟨h0, h1⟩, hs, addr_add]
  unfold opIndexAddr at h
  split at h
  · rename_i len el _ _ _ _ j c k i ht
    obtain ⟨r, hr, hv⟩ := hx
    simp only [List.cons.injEq, and_true] at hv; subst hv
    simp only [AV.con, V1.con, Atom.con, List.cons.injEq, and_true] at hi; subst hi
    split at h
    · simp at h
    · rename_i e he
      split at h
      · split at h
        · rename_i hb
          simp only [Option.some.injEq] at h; subst h
          exact Goes.quiet hR (arr len el e _ _ _ _ (hT _ _ ht).und he hb.1 hb.2) ⟨r, hr, by simp [Nat.add_assoc]⟩ rfl
        · simp at h
      · simp only [Option.some.injEq] at h; subst h
        exact Goes.quiet hR (arr len el e _ _ _ _ (hT _ _ ht).und he hvc.1 hvc.2) ⟨r, hr, by simp [Nat.add_assoc, addc_eq, mulz_eq]⟩ rfl
  · rename_i len el _ _ _ _ j c k i ht
    obtain ⟨r, hr, hv⟩ := hx
    simp only [List.cons.injEq, and_true] at hv; subst hv
    simp only [AV.con, V1.con, Atom.con, List.cons.injEq, and_true] at hi; subst hi
    split at h
    · simp at h
    · rename_i e he
      simp only [Option.some.injEq] at h; subst h
      exact Goes.quiet hR (arr len el e _ _ _ _ (hT _ _ ht).und he hvc.1 hvc.2) ⟨r, hr, by simp [Nat.add_assoc, addc_eq, mulz_eq]⟩ rfl
  · rename_i el _ _ _ _ j c len cap k i ht
    obtain ⟨base, hv, hlc, hb⟩ := hx
    simp only [List.cons.injEq, and_true] at hv; subst hv
    simp only [AV.con, V1.con, Atom.con, List.cons.injEq, and_true] at hi; subst hi
    split at h
    · simp at h
    · rename_i e he
      simp only [Option.some.injEq] at h; subst h
      have hvc' : 0 ≤ i ∧ i < (len : Int) := hvc
      obtain ⟨r, hr, rfl⟩ := hb (by omega)
      exact Goes.quiet hR (slc len _ el e _ _ _ _ (hT _ _ ht).und he hvc.1 hvc.2) ⟨r, hr, by simp [Nat.add_assoc, addc_eq, mulz_eq]⟩ rfl
  · rename_i el _ _ _ _ j c len z k i ht
    obtain ⟨base, cap, hv, hlc, hb⟩ := hx
    simp only [List.cons.injEq, and_true] at hv; subst hv
    simp only [AV.con, V1.con, Atom.con, List.cons.injEq, and_true] at hi; subst hi
    split at h
    · simp at h
    · rename_i e he
      simp only [Option.some.injEq] at h; subst h
      have hvc' : 0 ≤ i ∧ i < (len : Int) := hvc
      obtain ⟨r, hr, rfl, _⟩ := hb (by omega)
      exact Goes.quiet hR (slc len _ el e _ _ _ _ (hT _ _ ht).und he hvc.1 hvc.2) ⟨r, hr, by simp [Nat.add_assoc, addc_eq, mulz_eq]⟩ rfl
  · simp at h
end sound
end Go.Proofs.Ytepimglipelpmaa.X
