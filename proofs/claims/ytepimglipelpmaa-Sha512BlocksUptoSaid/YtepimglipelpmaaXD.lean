/- The operations, second part: the rest of the plain ones are sound. -/
import Derived.Test.YtepimglipelpmaaXC
import Derived.ChangeKeysEq
import Derived.Laws.StructEq
import Derived.Laws.Small
import Derived.Laws.Pointers
namespace Go.Proofs.Ytepimglipelpmaa.X
open Go

section sound
variable {P : Program} {T : Tab} {w0 : World} {rw : List Nat} {β : Env} {K : Know} {w : World}

theorem run_part {t : TypeId} {e : TE} (hT : TEOk P t e) (cs : Array Value) (off : Nat) (ds : List Value) (hl : ds.length = e.size) (h1 : aggD e.d = false → ds.length = 1) (hd : ds = sub cs.toList off e.size) :
    (part t cs off).run P w = .ok (valOf e ds) w := by
  obtain ⟨i, z, hi, hs, _⟩ := hT.info
  unfold part valOf
  rw [Sem.run_bind, run_isAgg w hT.und]
  by_cases ha : aggD e.d = true
  · rw [if_pos ha]
    simp only [ha, Result.andThen_ok, if_true, Sem.run_bind, run_sizeOf' w hi, Sem.run_pure, hs]
    congr 2
    apply Array.toList_inj.1
    simp [hd, sub]
  · rw [if_neg ha]
    have ha : aggD e.d = false := by simpa using ha
    have h1 := h1 ha
    rw [ha]
    simp only [Result.andThen_ok, Bool.false_eq_true, if_false]
    have : cs[off]? = some (ds.headD undef) := by
      match ds, h1 with
      | [v], _ =>
        have := getElem?_sub cs.toList off e.size 0 v (by rw [← hd]; rfl)
        simpa using this
    rw [this]; rfl

theorem opField_ok (hT : TabOk P T) {n : Nat} {t : TypeId} {f : Nat} {x : AV} {o : Ox} {v : Value} (h : opField T t x f = some o) (hx : x.con β v) (hR : RelW w0 rw β K w) :
    Goes P w0 rw β K w n (Instr.field t v f) o := by
  unfold opField at h
  split at h
  · rename_i fs _ _ _ _ l ht
    split at h
    · simp at h
    · rename_i fd hf
      split at h
      · simp at h
      · rename_i e he
        split at h
        · simp at h
        · rename_i hz
          split at h
          · rename_i out hout
            simp only [Option.map_eq_some_iff] at h
            obtain ⟨y, hy, rfl⟩ := h
            obtain ⟨cs, rfl, hc⟩ := hx
            obtain ⟨ho, hl⟩ := takeC_con hout hc
            have hl := hl (by omega)
            obtain ⟨hy1, hy2⟩ := mk1_con hy ho (sub_len _ _ _ hl)
            refine Goes.quiet hR (v := valOf e (sub cs fd.offset e.size)) ?_ hy1 rfl
            unfold Instr.field
            simp only [Sem.run_bind, run_underlying (hT _ _ ht).und, Result.andThen_ok, hf, asAgg, Sem.run_pure]
            exact run_part (hT _ _ he) _ _ _ (sub_len _ _ _ hl) hy2 (by simp)
          · simp at h
  · simp at h

theorem opUn_ok {n : Nat} {op : UnOp} {x : AV} {o : Ox} {v : Value} (h : opUn op x = some o) (hx : x.con β v) (hR : RelW w0 rw β K w) : Goes P w0 rw β K w n (Op.unary op v) o := by
  unfold opUn at h
  split at h <;> simp only [Option.some.injEq, reduceCtorEq] at h <;> subst h <;>
    simp only [AV.con, V1.con, Atom.con, List.cons.injEq, and_true] at hx <;> subst hx
  · exact Goes.quiet hR (v := .int _ _) rfl rfl rfl
  · exact Goes.quiet hR (v := .int _ _) rfl rfl rfl
  · exact Goes.quiet hR (v := .bool _) rfl rfl rfl

theorem opConvert_ok (hT : TabOk P T) {n : Nat} {src dst : TypeId} {d : TypeDesc} (hs : P.underlying src = some d) {x : AV} {o : Ox} {v : Value} (h : opConvert T dst x = some o) (hx : x.con β v) (hR : RelW w0 rw β K w) :
    Goes P w0 rw β K w n (convert src dst v) o := by
  unfold opConvert at h
  split at h
  · rename_i k _ _ _ _ k' a ht
    simp only [Option.some.injEq] at h; subst h
    simp only [AV.con, V1.con, Atom.con, List.cons.injEq, and_true] at hx; subst hx
    refine Goes.quiet hR (v := .int k (k.wrap a)) ?_ rfl rfl
    unfold convert
    simp only [Sem.run_bind, run_underlying hs, run_underlying (hT _ _ ht).und, Result.andThen_ok]
    rfl
  · simp at h

theorem opExtract_ok {n : Nat} {x : AV} {i : Nat} {o : Ox} {v : Value} (h : opExtract x i = some o) (hx : x.con β v) (hR : RelW w0 rw β K w) : Goes P w0 rw β K w n (Instr.extract v i) o := by
  unfold opExtract at h
  split at h
  · rename_i l
    simp only [Option.map_eq_some_iff] at h
    obtain ⟨y, hy, rfl⟩ := h
    obtain ⟨vs, rfl, hc⟩ := hx
    have key : ∀ (l : List V1) (vs : List Value) (i : Nat), all2 β l vs → l[i]? = some y → ∃ u, vs[i]? = some u ∧ y.con β u := by
      intro l
      induction l with
      | nil => intro vs i _ h; simp at h
      | cons a r ih =>
        rintro vs i ⟨u, rest, rfl, hu, hr⟩ h
        cases i with
        | zero => simp at h; subst h; exact ⟨u, rfl, hu⟩
        | succ i => simp at h; simpa using ih rest i hr h
    obtain ⟨u, hu, hcon⟩ := key l vs i hc hy
    refine Goes.quiet hR (v := u) ?_ hcon rfl
    unfold Instr.extract
    simp [hu]
  · simp at h

theorem run_items {e : TypeId} {k0 : IntKind} {bb : Nat} {zz : List Atom} {eo : Bool} (hT : TEOk P e ⟨.int k0, 1, bb, zz, eo⟩) (d : Nat) (k : IntKind) (xs ys : List Int) : ∀ (is : List Nat), (∀ i ∈ is, i < xs.length ∧ i < ys.length) →
    (Op.eqItems (d + 1) e 1 (xs.map (Value.int k)).toArray (ys.map (Value.int k)).toArray is).run P w = .ok (is.all fun i => xs.getD i 0 == ys.getD i 0) w
  | [], _ => rfl
  | i :: is, h => by
    have hi := h i (by simp)
    have p : ∀ (l : List Int), i < l.length → (part e (l.map (Value.int k)).toArray (i * 1)).run P w = .ok (.int k (l.getD i 0)) w := by
      intro l hl
      have := run_part (w := w) hT (l.map (Value.int k)).toArray (i * 1) [.int k (l.getD i 0)] rfl (fun _ => rfl) (by
        simp only [Nat.mul_one]
        rw [← sub_map, sub_one l i 0 hl]; rfl)
      exact this
    unfold Op.eqItems
    rw [Sem.run_bind, p xs hi.1, Result.andThen_ok, Sem.run_bind, p ys hi.2, Result.andThen_ok, Sem.run_bind, run_equalIn_int w d e k k0 _ _ hT.und, Result.andThen_ok]
    have ih := run_items hT d k xs ys is (fun j hj => h j (by simp [hj]))
    simp only [List.all_cons]
    cases hb : (xs.getD i 0 == ys.getD i 0)
    · simp
    · simpa using ih

theorem all_range_eq (xs ys : List Int) (n : Nat) (hx : xs.length = n) (hy : ys.length = n) : (List.range n).all (fun i => xs.getD i 0 == ys.getD i 0) = decide (xs = ys) := by
  rw [Bool.eq_iff_iff, decide_eq_true_eq, List.all_eq_true]
  constructor
  · intro h
    apply List.ext_getElem (by omega)
    intro i h1 h2
    have := h i (by simp; omega)
    simpa [List.getD_eq_getElem?_getD, h1, h2] using this
  · rintro rfl i _; simp

theorem run_eq_ints {t el : TypeId} {len s1 b1 bb : Nat} {z1 zz : List Atom} {eo1 eo : Bool} {k0 : IntKind} (hT : TEOk P t ⟨.array len el, s1, b1, z1, eo1⟩) (he : TEOk P el ⟨.int k0, 1, bb, zz, eo⟩) (k : IntKind) (xs ys : List Int) (hx : xs.length = len) (hy : ys.length = len) :
    (Op.equal t (.agg (xs.map (Value.int k)).toArray) (.agg (ys.map (Value.int k)).toArray)).run P w = .ok (decide (xs = ys)) w := by
  obtain ⟨i, z, hi, hs, _⟩ := he.info
  have hc : P.cellsOf el = 1 := by unfold Program.cellsOf; rw [hi]; exact hs
  unfold Op.equal
  rw [show Op.maxDepth = 9998 + 1 + 1 from rfl, run_equalIn_array w 9999 _ _ hT.und hi, hc, run_items he 9998 k xs ys _ (fun j hj => by simp at hj; omega), all_range_eq xs ys len hx hy]

theorem run_eq_ptr_nil {t el : TypeId} {s1 b1 : Nat} {z1 : List Atom} {eo1 : Bool} (hT : TEOk P t ⟨.pointer el, s1, b1, z1, eo1⟩) (x : Option Addr) : (Op.equal t (.pointer x) (.pointer none)).run P w = .ok x.isNone w := by
  exact run_equal_pointer_nil w t x (by rw [hT.und]; simp [Program.pointee, hT.und])

def binRun (P : Program) (op : BinOp) (t : TypeId) (x y : Operand) (u v : Value) (w : World) : Result Value :=
  (do eqGuard op t x y u v; binOp op t u v : Sem Value).run P w

theorem guard_agg {t : TypeId} {e : TE} (hT : TEOk P t e) (he : e.eqok = true) (op : BinOp) (x y : Operand) (xs ys : Array Value) : (eqGuard op t x y (.agg xs) (.agg ys)).run P w = .ok () w := run_eqGuard_agg w op t x y xs ys (hT.eqg he)

theorem guard_none (op : BinOp) (t : TypeId) (x y : Operand) (u v : Value) (h : (match u, v with | .nilIface, .nilIface => false | .agg _, .agg _ => false | _, _ => true) = true) : (eqGuard op t x y u v).run P w = .ok () w := by
  unfold eqGuard
  cases op <;> first | rfl | (cases u <;> cases v <;> first | rfl | (simp at h))

theorem opBin_ok (hT : TabOk P T) {n : Nat} {op : BinOp} {t : TypeId} {X Y : Operand} {x y : AV} {o : Ox} {u v : Value} (h : opBin T op t x y = some o) (hvc : okP o.vc) (hx : x.con β u) (hy : y.con β v) (hR : RelW w0 rw β K w) :
    Goes P w0 rw β K w n (do eqGuard op t X Y u v; binOp op t u v) o := by
  unfold opBin at h
  split at h
  · simp only [Option.some.injEq] at h; subst h
    simp only [AV.con, V1.con, Atom.con, List.cons.injEq, and_true] at hx hy; subst hx; subst hy
    rename_i k a k' b
    refine Goes.quiet hR (v := .int k (shl k a b)) ?_ rfl rfl
    rw [Sem.run_bind, guard_none _ _ _ _ _ _ rfl, Result.andThen_ok]
    have hvc : 0 ≤ b := hvc
    simp only [binOp, Op.shift, Sem.run_ite]
    rw [if_neg (by omega)]; rfl
  · simp only [Option.some.injEq] at h; subst h
    simp only [AV.con, V1.con, Atom.con, List.cons.injEq, and_true] at hx hy; subst hx; subst hy
    rename_i k a k' b
    refine Goes.quiet hR (v := .int k (shr k a b)) ?_ rfl rfl
    rw [Sem.run_bind, guard_none _ _ _ _ _ _ rfl, Result.andThen_ok]
    have hvc : 0 ≤ b := hvc
    simp only [binOp, Op.shift, Sem.run_ite]
    rw [if_neg (by omega)]; rfl
  · rename_i k a k' b h1 h2
    simp only [AV.con, V1.con, Atom.con, List.cons.injEq, and_true] at hx hy; subst hx; subst hy
    split at h
    · simp at h
    · rename_i hk
      simp only [ne_eq, Decidable.not_not] at hk; subst hk
      split at h <;> simp only [Option.some.injEq, reduceCtorEq] at h <;> subst h <;>
        (refine Goes.quiet hR ?_ rfl rfl; rw [Sem.run_bind, guard_none _ _ _ _ _ _ rfl, Result.andThen_ok]; try (simp [binOp, Op.intArith, Op.intCmp, Op.intBits, bits2]; done))
      · have hvc : b ≠ 0 := hvc
        simp [binOp, Op.intDiv, hvc]
      · have hvc : b ≠ 0 := hvc
        simp [binOp, Op.intDiv, hvc]
  · rename_i a b
    simp only [AV.con, V1.con, Atom.con, List.cons.injEq, and_true] at hx hy; subst hx; subst hy
    split at h <;> simp only [Option.some.injEq, reduceCtorEq] at h <;> subst h <;> rename_i ht <;>
      (refine Goes.quiet hR ?_ rfl rfl; rw [Sem.run_bind, guard_none _ _ _ _ _ _ rfl, Result.andThen_ok]
       simp [binOp, run_equal_bool w t _ _ (hT _ _ ht).und])
  · simp only [AV.con, V1.con, Atom.con, List.cons.injEq, and_true] at hx hy; obtain ⟨rfl, _⟩ := hx; obtain ⟨rfl, _⟩ := hy
    split at h <;> simp only [Option.some.injEq, reduceCtorEq] at h <;> subst h <;> rename_i ht <;>
      (refine Goes.quiet hR ?_ rfl rfl; rw [Sem.run_bind, guard_none _ _ _ _ _ _ rfl, Result.andThen_ok]
       simp only [binOp, Sem.run_bind, run_eq_ptr_nil (hT _ _ ht) _, Result.andThen_ok]; rfl)
  · simp only [AV.con, V1.con, Atom.con, List.cons.injEq, and_true] at hx hy; obtain ⟨r, _, rfl⟩ := hx; obtain ⟨rfl, _⟩ := hy
    split at h <;> simp only [Option.some.injEq, reduceCtorEq] at h <;> subst h <;> rename_i ht <;>
      (refine Goes.quiet hR ?_ rfl rfl; rw [Sem.run_bind, guard_none _ _ _ _ _ _ rfl, Result.andThen_ok]
       simp only [binOp, Sem.run_bind, run_eq_ptr_nil (hT _ _ ht) _, Result.andThen_ok]; rfl)
  · rename_i k m xs k' m' ys
    obtain ⟨cs, rfl, hcx⟩ := hx
    obtain ⟨ds, rfl, hcy⟩ := hy
    rw [cons_single] at hcx hcy
    obtain ⟨hlx, rfl⟩ := hcx
    obtain ⟨hly, rfl⟩ := hcy
    split at h
    · rename_i len el _ _ _ ht
      split at h
      · rename_i k0 bb zz eo he
        split at h
        · rename_i hk; obtain ⟨rfl, rfl, rfl⟩ := hk
          simp only [Option.some.injEq] at h; subst h
          refine Goes.quiet hR ?_ rfl rfl
          rw [Sem.run_bind, guard_agg (hT _ _ ht) rfl, Result.andThen_ok]
          simp only [binOp, Sem.run_bind, run_eq_ints (hT _ _ ht) (hT _ _ he) k xs ys hlx hly, Result.andThen_ok]
          rfl
        · simp at h
      · simp at h
    · rename_i len el _ _ _ ht
      split at h
      · rename_i k0 bb zz eo he
        split at h
        · rename_i hk; obtain ⟨rfl, rfl, rfl⟩ := hk
          simp only [Option.some.injEq] at h; subst h
          refine Goes.quiet hR ?_ rfl rfl
          rw [Sem.run_bind, guard_agg (hT _ _ ht) rfl, Result.andThen_ok]
          simp only [binOp, Sem.run_bind, run_eq_ints (hT _ _ ht) (hT _ _ he) k xs ys hlx hly, Result.andThen_ok]
          rfl
        · simp at h
      · simp at h
    · simp at h
  · simp at h

theorem opAlloc_ok (hT : TabOk P T) {n : Nat} {t : TypeId} {o : Ox} (h : opAlloc T n t = some o) (hn : K.at n = none) (hK : K.nom n (n + 1) = true) (hR : RelW w0 rw β K w) :
    Goes P w0 rw β K w n (Instr.alloc t true (.tuple #[])) o := by
  unfold opAlloc at h
  split at h
  · rename_i e he
    split at h
    · rename_i hnm
      simp only [Option.some.injEq] at h; subst h
      obtain ⟨i, z, hi, hs, hb, hz, hc⟩ := (hT _ _ he).info
      have := RelW.new hR n hn hK (hc β) hnm z.cells.toList t (fun _ _ h => h) (Nat.le_refl _)
      refine ⟨_, .pointer (some ⟨w.heap.size, 0, none⟩), _, ?_, Env.agree_upd _ _ _, ?_, this⟩
      · simp only [Instr.alloc, Sem.run_bind, zeroValue, typeInfo, run_program, Result.andThen_ok, hi, Sem.run_pure, hz, newVar, newRow, run_newObj]
      · exact ⟨_, by unfold Env.upd; rw [if_pos rfl], by simp⟩
    · simp at h
  · simp at h

theorem opBox_ok {n : Nat} {t : TypeId} {x : AV} {o : Ox} {v : Value} (h : opBox n x = some o) (hx : x.con β v) (hn : K.at n = none) (hK : K.nom n (n + 1) = true) (hR : RelW w0 rw β K w) :
    Goes P w0 rw β K w n (Instr.box t v) o := by
  unfold opBox at h
  split at h
  · rename_i y
    split at h
    · rename_i hnm
      simp only [Option.some.injEq] at h; subst h
      have := RelW.new hR n hn hK (V1.con_cells hx) hnm v.cells.toList t (fun _ _ h => h) (Nat.le_refl _)
      refine ⟨_, .pointer (some ⟨w.heap.size, 0, none⟩), _, ?_, Env.agree_upd _ _ _, ?_, this⟩
      · simp only [Instr.box, Sem.run_bind, Result.andThen_ok, Sem.run_pure, newVar, newRow, run_newObj]
      · exact ⟨_, by unfold Env.upd; rw [if_pos rfl], by simp⟩
    · simp at h
  · simp at h
end sound
end Go.Proofs.Ytepimglipelpmaa.X
