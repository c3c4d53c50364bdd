/- The operations, fourth part: slice expressions, copy, append. -/
import Derived.Test.YtepimglipelpmaaXE
namespace Go.Proofs.Ytepimglipelpmaa.X
open Go

section sound
variable {P : Program} {T : Tab} {w0 : World} {rw : List Nat} {β : Env} {K : Know} {w : World}

theorem intAV_con {x : AV} {i : Int} {v : Value} (h : intAV x = some i) (hc : x.con β v) : ∃ k, v = .int k i := by
  unfold intAV at h
  split at h
  · simp only [Option.some.injEq] at h; subst h
    rename_i k i
    exact ⟨k, by simpa [AV.con, V1.con, Atom.con] using hc⟩
  · simp at h

theorem run_bound (k : IntKind) (i : Int) (y : Nat) (code : BoundsCode) (h0 : 0 ≤ i) (h1 : i ≤ (y : Int)) : (Instr.sliceBound (.int k i) y code).run P w = .ok i.toNat w := by
  unfold Instr.sliceBound
  simp only [asIntOf, pure_bind, Sem.run_ite, Sem.run_pure]
  rw [if_pos ⟨h0, h1⟩]

def loRun (lo : Option Value) : Int := match lo with | some (.int _ i) => i | _ => 0
def loOk (lo : Option Value) : Prop := lo = none ∨ ∃ k i, lo = some (.int k i)

theorem bounds_nn (s : Bool) (len cap : Nat) (lo : Option Value) (hlo : loOk lo) (h0 : 0 ≤ loRun lo) (h1 : loRun lo ≤ (len : Int)) : (Instr.sliceBounds s len cap lo none none).run P w = .ok ((loRun lo).toNat, len, cap) w := by
  unfold Instr.sliceBounds
  rcases hlo with rfl | ⟨k, i, rfl⟩
  · simp [loRun]
  · simp only [loRun] at h0 h1
    simp [run_bound k i len _ h0 h1, loRun]

theorem bounds_sn (s : Bool) (len cap : Nat) (lo : Option Value) (k : IntKind) (h : Int) (hlo : loOk lo) (h0 : 0 ≤ loRun lo) (h1 : loRun lo ≤ h) (h2 : h ≤ (cap : Int)) :
    (Instr.sliceBounds s len cap lo (some (.int k h)) none).run P w = .ok ((loRun lo).toNat, h.toNat, cap) w := by
  unfold Instr.sliceBounds
  have hh : 0 ≤ h := by omega
  rcases hlo with rfl | ⟨k', i, rfl⟩
  · simp [loRun, run_bound k h cap _ hh h2]
  · simp only [loRun] at h0 h1
    simp [run_bound k h cap _ hh h2, run_bound k' i h.toNat _ h0 (by omega), loRun]

theorem bounds_ss (len cap : Nat) (lo : Option Value) (k km : IntKind) (h m : Int) (hlo : loOk lo) (h0 : 0 ≤ loRun lo) (h1 : loRun lo ≤ h) (h2 : h ≤ m) (h3 : m ≤ (cap : Int)) :
    (Instr.sliceBounds true len cap lo (some (.int k h)) (some (.int km m))).run P w = .ok ((loRun lo).toNat, h.toNat, m.toNat) w := by
  unfold Instr.sliceBounds
  have hh : 0 ≤ h := by omega
  have hm : 0 ≤ m := by omega
  rcases hlo with rfl | ⟨k', i, rfl⟩
  · simp [loRun, run_bound km m cap _ hm h3, run_bound k h m.toNat _ hh (by omega)]
  · simp only [loRun] at h0 h1
    simp [run_bound km m cap _ hm h3, run_bound k h m.toNat _ hh (by omega), run_bound k' i h.toNat _ h0 (by omega), loRun]

theorem lo_con {ρ : Rho} {ev : Operand → Value} (hρ : ∀ x, (ρ x).con β (ev x)) (lo : Option Operand) {l : Int} (h : (match lo.map ρ with | none => some 0 | some a => intAV a) = some l) :
    loOk (lo.map ev) ∧ loRun (lo.map ev) = l := by
  cases lo with
  | none => simp at h; exact ⟨.inl rfl, by simp [loRun, h]⟩
  | some x =>
    simp only [Option.map_some] at h
    obtain ⟨k, hk⟩ := intAV_con h (hρ x)
    exact ⟨.inr ⟨k, l, by simp [hk]⟩, by simp [loRun, hk]⟩

theorem opSlice_ok (hT : TabOk P T) {n : Nat} {ρ : Rho} {ev : Operand → Value} (hρ : ∀ x, (ρ x).con β (ev x)) {t : TypeId} {x : Operand} {lo hi mx : Option Operand} {o : Ox}
    (h : opSlice T t (ρ x) (lo.map ρ) (hi.map ρ) (mx.map ρ) = some o) (hvc : okP o.vc) (hR : RelW w0 rw β K w) :
    Goes P w0 rw β K w n (Instr.sliceAt t (ev x) (lo.map ev) (hi.map ev) (mx.map ev)) o := by
  have hx := hρ x
  unfold opSlice at h
  simp only at h
  split at h
  · rename_i len el _ _ _ _ j c l ht hxe hl
    rw [hxe] at hx
    obtain ⟨r, hr, hv⟩ := hx
    simp only [List.cons.injEq, and_true] at hv
    obtain ⟨hlo, hlr⟩ := lo_con hρ lo hl
    split at h
    · rename_i e he hmx
      have hmx : mx = none := by cases mx <;> simp_all
      subst hmx
      obtain ⟨i, z, hi', hs, _⟩ := (hT _ _ he).info
      have fin : ∀ (hh mm : Nat), (Instr.sliceBounds false len len (lo.map ev) (hi.map ev) none).run P w = .ok (l.toNat, hh, mm) w →
          (Instr.sliceAt t (ev x) (lo.map ev) (hi.map ev) (Option.map ev none)).run P w = .ok (.slice (some (if mm = l.toNat then ⟨r.blk, r.off + c, none⟩ else (⟨r.blk, r.off + c, none⟩ : Addr).add (l.toNat * e.size))) (hh - l.toNat) (mm - l.toNat)) w := by
        intro hh mm hb
        unfold Instr.sliceAt
        simp only [hv, Option.map_none, Sem.run_bind, run_underlying (hT _ _ ht).und, Result.andThen_ok, Instr.sureAddr, Sem.run_pure, hb, run_sizeOf' w hi', hs]
      have con : ∀ (hh mm : Nat), hh ≤ mm → (AV.o (.a (.sl j (c + mulz l.toNat e.size) (hh - l.toNat) (mm - l.toNat)))).con β (.slice (some (if mm = l.toNat then ⟨r.blk, r.off + c, none⟩ else (⟨r.blk, r.off + c, none⟩ : Addr).add (l.toNat * e.size))) (hh - l.toNat) (mm - l.toNat)) := by
        intro hh mm hle
        refine ⟨_, rfl, by omega, fun hpos => ⟨r, hr, ?_⟩⟩
        rw [if_neg (by omega), addr_add, mulz_eq, Nat.add_assoc]
      split at h
      · rename_i hhi
        have hhi : hi = none := by cases hi <;> simp_all
        subst hhi
        simp only [Option.some.injEq] at h; subst h
        have hvc : 0 ≤ l ∧ l ≤ (len : Int) := hvc
        have hb := bounds_nn (P := P) (w := w) false len len (lo.map ev) hlo (by omega) (by omega)
        rw [hlr] at hb
        exact Goes.quiet hR (fin _ _ hb) (con _ _ (Nat.le_refl _)) rfl
      · rename_i hh hhi
        split at h
        · rename_i h' hh'
          simp only [Option.some.injEq] at h; subst h
          cases hi with
          | none => simp at hhi
          | some hx' =>
            simp only [Option.map_some, Option.some.injEq] at hhi
            obtain ⟨k, hk⟩ := intAV_con hh' (hhi ▸ hρ hx')
            have hvc : 0 ≤ l ∧ l ≤ h' ∧ h' ≤ (len : Int) := hvc
            have hb := bounds_sn (P := P) (w := w) false len len (lo.map ev) k h' hlo (by omega) (by omega) hvc.2.2
            rw [hlr, ← hk] at hb
            exact Goes.quiet hR (fin _ _ hb) (con _ _ (by omega)) rfl
        · simp at h
    · simp at h
  · rename_i el _ _ _ _ j c len cap l ht hxe hl
    rw [hxe] at hx
    obtain ⟨base, hv, hlc, hbase⟩ := hx
    simp only [List.cons.injEq, and_true] at hv
    obtain ⟨hlo, hlr⟩ := lo_con hρ lo hl
    have fin : ∀ (e : TE) (hh mm : Nat), T el = some e → (Instr.sliceBounds true len cap (lo.map ev) (hi.map ev) (mx.map ev)).run P w = .ok (l.toNat, hh, mm) w →
        (Instr.sliceAt t (ev x) (lo.map ev) (hi.map ev) (mx.map ev)).run P w = .ok (.slice (if mm = l.toNat then base else base.map (·.add (l.toNat * e.size))) (hh - l.toNat) (mm - l.toNat)) w := by
      intro e hh mm he hb
      obtain ⟨i, z, hi', hs, _⟩ := (hT _ _ he).info
      unfold Instr.sliceAt
      simp only [hv, Sem.run_bind, run_underlying (hT _ _ ht).und, Result.andThen_ok]
      unfold Instr.slice
      simp only [Sem.run_bind, run_underlying (hT _ _ ht).und, Result.andThen_ok, hb, run_sizeOf' w hi', hs, Sem.run_pure]
    have con : ∀ (e : TE) (hh mm : Nat), hh ≤ mm → mm ≤ cap → (AV.o (.a (.sl j (c + mulz l.toNat e.size) (hh - l.toNat) (mm - l.toNat)))).con β (.slice (if mm = l.toNat then base else base.map (·.add (l.toNat * e.size))) (hh - l.toNat) (mm - l.toNat)) := by
      intro e hh mm hle hle2
      refine ⟨_, rfl, by omega, fun hpos => ?_⟩
      obtain ⟨r, hr, hb⟩ := hbase (by omega)
      refine ⟨r, hr, ?_⟩
      rw [if_neg (by omega), hb, Option.map_some, addr_add, mulz_eq, Nat.add_assoc]
    split at h
    · rename_i e he hhi hmx
      have hhi : hi = none := by cases hi <;> simp_all
      have hmx : mx = none := by cases mx <;> simp_all
      subst hhi; subst hmx
      simp only [Option.some.injEq] at h; subst h
      have hvc : 0 ≤ l ∧ l ≤ (len : Int) := hvc
      have hb := bounds_nn (P := P) (w := w) true len cap (lo.map ev) hlo (by omega) (by omega)
      rw [hlr] at hb
      exact Goes.quiet hR (fin e _ _ he hb) (con e _ _ hlc (Nat.le_refl _)) rfl
    · rename_i e hh he hhi hmx
      have hmx : mx = none := by cases mx <;> simp_all
      subst hmx
      split at h
      · rename_i h' hh'
        simp only [Option.some.injEq] at h; subst h
        cases hi with
        | none => simp at hhi
        | some hx' =>
          simp only [Option.map_some, Option.some.injEq] at hhi
          obtain ⟨k, hk⟩ := intAV_con hh' (hhi ▸ hρ hx')
          have hvc : 0 ≤ l ∧ l ≤ h' ∧ h' ≤ (cap : Int) := hvc
          have hb := bounds_sn (P := P) (w := w) true len cap (lo.map ev) k h' hlo (by omega) (by omega) hvc.2.2
          rw [hlr, ← hk] at hb
          exact Goes.quiet hR (fin e _ _ he hb) (con e _ _ (by omega) (Nat.le_refl _)) rfl
      · simp at h
    · rename_i e hh mm he hhi hmx
      split at h
      · rename_i h' m' hh' hm'
        simp only [Option.some.injEq] at h; subst h
        cases hi with
        | none => simp at hhi
        | some hx' =>
          cases mx with
          | none => simp at hmx
          | some mx' =>
            simp only [Option.map_some, Option.some.injEq] at hhi hmx
            obtain ⟨k, hk⟩ := intAV_con hh' (hhi ▸ hρ hx')
            obtain ⟨km, hkm⟩ := intAV_con hm' (hmx ▸ hρ mx')
            have hvc : 0 ≤ l ∧ l ≤ h' ∧ h' ≤ m' ∧ m' ≤ (cap : Int) := hvc
            have hb := bounds_ss (P := P) (w := w) len cap (lo.map ev) k km h' m' hlo (by omega) (by omega) hvc.2.2.1 hvc.2.2.2
            rw [hlr, ← hk, ← hkm] at hb
            exact Goes.quiet hR (fin e _ _ he hb) (con e _ _ (by omega) (by omega)) rfl
      · simp at h
    · simp at h
  · rename_i el _ _ _ _ j c len z l ht hxe hl
    rw [hxe] at hx
    obtain ⟨base, cap, hv, hlc, hbase⟩ := hx
    simp only [List.cons.injEq, and_true] at hv
    obtain ⟨hlo, hlr⟩ := lo_con hρ lo hl
    have fin : ∀ (e : TE) (hh mm : Nat), T el = some e → (Instr.sliceBounds true len cap (lo.map ev) (hi.map ev) (mx.map ev)).run P w = .ok (l.toNat, hh, mm) w →
        (Instr.sliceAt t (ev x) (lo.map ev) (hi.map ev) (mx.map ev)).run P w = .ok (.slice (if mm = l.toNat then base else base.map (·.add (l.toNat * e.size))) (hh - l.toNat) (mm - l.toNat)) w := by
      intro e hh mm he hb
      obtain ⟨i, z, hi', hs, _⟩ := (hT _ _ he).info
      unfold Instr.sliceAt
      simp only [hv, Sem.run_bind, run_underlying (hT _ _ ht).und, Result.andThen_ok]
      unfold Instr.slice
      simp only [Sem.run_bind, run_underlying (hT _ _ ht).und, Result.andThen_ok, hb, run_sizeOf' w hi', hs, Sem.run_pure]
    have con : ∀ (e : TE) (hh mm : Nat), hh ≤ mm → mm ≤ cap → (AV.o (.a (.sl j (c + mulz l.toNat e.size) (hh - l.toNat) (mm - l.toNat)))).con β (.slice (if mm = l.toNat then base else base.map (·.add (l.toNat * e.size))) (hh - l.toNat) (mm - l.toNat)) := by
      intro e hh mm hle hle2
      refine ⟨_, rfl, by omega, fun hpos => ?_⟩
      obtain ⟨r, hr, hb, _⟩ := hbase (by omega)
      refine ⟨r, hr, ?_⟩
      rw [if_neg (by omega), hb, Option.map_some, addr_add, mulz_eq, Nat.add_assoc]
    have conr : ∀ (e : TE) (hh : Nat), e.size = z → hh ≤ len → l.toNat ≤ hh → (AV.o (.a (.rs j (c + mulz l.toNat e.size) (hh - l.toNat) z))).con β (.slice (if cap = l.toNat then base else base.map (·.add (l.toNat * e.size))) (hh - l.toNat) (cap - l.toNat)) := by
      intro e hh hz hle hl2
      refine ⟨_, _, rfl, by omega, fun hpos => ?_⟩
      obtain ⟨r, hr, hb, hin⟩ := hbase (by omega)
      refine ⟨r, hr, ?_, ?_⟩
      · rw [if_neg (by omega), hb, Option.map_some, addr_add, mulz_eq, Nat.add_assoc]
      · rw [mulz_eq, hz]
        have : l.toNat * z + (cap - l.toNat) * z = cap * z := by rw [← Nat.add_mul]; congr 1; omega
        omega
    split at h
    · rename_i e he hhi hmx
      have hhi : hi = none := by cases hi <;> simp_all
      have hmx : mx = none := by cases mx <;> simp_all
      subst hhi; subst hmx
      split at h
      · rename_i hz
        simp only [Option.some.injEq] at h; subst h
        have hvc : 0 ≤ l ∧ l ≤ (len : Int) := hvc
        have hb := bounds_nn (P := P) (w := w) true len cap (lo.map ev) hlo (by omega) (by omega)
        rw [hlr] at hb
        exact Goes.quiet hR (fin e _ _ he hb) (conr e _ hz (Nat.le_refl _) (by omega)) rfl
      · simp at h
    · rename_i e hh he hhi hmx
      have hmx : mx = none := by cases mx <;> simp_all
      subst hmx
      split at h
      · rename_i hz
        split at h
        · rename_i h' hh'
          simp only [Option.some.injEq] at h; subst h
          cases hi with
          | none => simp at hhi
          | some hx' =>
            simp only [Option.map_some, Option.some.injEq] at hhi
            obtain ⟨k, hk⟩ := intAV_con hh' (hhi ▸ hρ hx')
            have hvc : 0 ≤ l ∧ l ≤ h' ∧ h' ≤ (len : Int) := hvc
            have hb := bounds_sn (P := P) (w := w) true len cap (lo.map ev) k h' hlo (by omega) (by omega) (by omega)
            rw [hlr, ← hk] at hb
            exact Goes.quiet hR (fin e _ _ he hb) (conr e _ hz (by omega) (by omega)) rfl
        · simp at h
      · simp at h
    · rename_i e hh mm he hhi hmx
      split at h
      · rename_i h' m' hh' hm'
        simp only [Option.some.injEq] at h; subst h
        cases hi with
        | none => simp at hhi
        | some hx' =>
          cases mx with
          | none => simp at hmx
          | some mx' =>
            simp only [Option.map_some, Option.some.injEq] at hhi hmx
            obtain ⟨k, hk⟩ := intAV_con hh' (hhi ▸ hρ hx')
            obtain ⟨km, hkm⟩ := intAV_con hm' (hmx ▸ hρ mx')
            have hvc : 0 ≤ l ∧ l ≤ h' ∧ h' ≤ m' ∧ m' ≤ (len : Int) := hvc
            have hb := bounds_ss (P := P) (w := w) len cap (lo.map ev) k km h' m' hlo (by omega) (by omega) hvc.2.2.1 (by omega)
            rw [hlr, ← hk, ← hkm] at hb
            exact Goes.quiet hR (fin e _ _ he hb) (con e _ _ (by omega) (by omega)) rfl
      · simp at h
    · simp at h
  · simp at h

theorem opS2A_ok (hT : TabOk P T) {n : Nat} {arr : TypeId} {x : AV} {o : Ox} {v : Value} (h : opS2A T arr x = some o) (hvc : okP o.vc) (hx : x.con β v) (hR : RelW w0 rw β K w) :
    Goes P w0 rw β K w n (Instr.arrayAt arr v) o := by
  unfold opS2A at h
  split at h
  · rename_i m el _ _ _ _ j c len cap ht
    obtain ⟨base, hv, hlc, hb⟩ := hx
    simp only [List.cons.injEq, and_true] at hv; subst hv
    split at h
    · rename_i hm
      simp only [Option.some.injEq] at h; subst h
      have hvc : m ≤ len := hvc
      obtain ⟨r, hr, rfl⟩ := hb (by omega)
      refine Goes.quiet hR (v := .pointer (some ⟨r.blk, r.off + c, none⟩)) ?_ ⟨r, hr, rfl⟩ rfl
      unfold Instr.arrayAt
      simp only [Sem.run_bind, run_underlying (hT _ _ ht).und, Result.andThen_ok, Sem.run_ite]
      rw [if_neg (by omega)]; rfl
    · simp at h
  · rename_i m el _ _ _ _ j c len z ht
    obtain ⟨base, cap, hv, hlc, hb⟩ := hx
    simp only [List.cons.injEq, and_true] at hv; subst hv
    split at h
    · rename_i hm
      simp only [Option.some.injEq] at h; subst h
      have hvc : m ≤ len := hvc
      obtain ⟨r, hr, rfl, _⟩ := hb (by omega)
      refine Goes.quiet hR (v := .pointer (some ⟨r.blk, r.off + c, none⟩)) ?_ ⟨r, hr, rfl⟩ rfl
      unfold Instr.arrayAt
      simp only [Sem.run_bind, run_underlying (hT _ _ ht).und, Result.andThen_ok, Sem.run_ite]
      rw [if_neg (by omega)]; rfl
    · simp at h
  · simp at h
end sound
end Go.Proofs.Ytepimglipelpmaa.X
