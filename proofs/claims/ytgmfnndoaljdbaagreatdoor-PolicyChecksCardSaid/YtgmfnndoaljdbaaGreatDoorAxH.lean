/- Slices, indexes, lengths. -/
import Derived.Test.YtgmfnndoaljdbaaGreatDoorAxG
set_option linter.all false
namespace Go.Ax
open Go
set_option maxRecDepth 20000

section
variable {P : Program} {o : Oper} {ι : Env} {tm : LTm} {hp : AHeap} {n : Nat} {a : Act} {w : World} {lo : LOp} {v : AV}

theorem asBound_run {v : AV} {k y : Nat} {code : BoundsCode} (h : asBound v = some k) (hle : k ≤ y) : (Instr.sliceBound (v.conc ι) y code).run P w = .ok k w := by
  unfold asBound at h
  split at h
  · rename_i kd z
    split at h
    · rename_i hz
      simp only [Option.some.injEq] at h; subst h
      simp only [AV.conc, Instr.sliceBound, asIntOf, Sem.run_bind, Sem.run_pure, Result.andThen_ok]
      rw [if_pos ⟨hz, by omega⟩]
      rfl
    · cases h
  · cases h

theorem atLeast_val {c : ACap} {v : Nat} (h : c.atLeast v = true) : v ≤ c.val ι := by
  cases c <;> simp [ACap.atLeast, ACap.val] at h ⊢ <;> omega

theorem bounds_sound {isSlice : Bool} {len : Nat} {cap : ACap} {lo hi mx : Option AV} {l h : Nat} {m : ACap} (hb : boundsAV len cap lo hi mx = some (l, h, m)) :
    (Instr.sliceBounds isSlice len (cap.val ι) (lo.map (AV.conc ι)) (hi.map (AV.conc ι)) (mx.map (AV.conc ι))).run P w = .ok (l, h, m.val ι) w := by
  unfold boundsAV at hb
  simp only at hb
  split at hb
  · cases hb
  · rename_i m' hm
    have hM : (match mx.map (AV.conc ι) with
        | some v => Instr.sliceBound v (cap.val ι) (if isSlice then .slice3Acap else .slice3Alen)
        | none => pure (cap.val ι) : Sem Nat).run P w = .ok (m'.val ι) w := by
      cases mx with
      | none => simp only [Option.some.injEq] at hm; subst hm; rfl
      | some v =>
        simp only at hm
        split at hm
        · rename_i k hk
          split at hm
          · rename_i hc
            simp only [Option.some.injEq] at hm; subst hm
            exact asBound_run hk (atLeast_val hc)
          · cases hm
        · cases hm
    split at hb
    · cases hb
    · rename_i h' hh
      have hH : (match hi.map (AV.conc ι), mx.map (AV.conc ι) with
          | some v, some _ => Instr.sliceBound v (m'.val ι) .slice3B
          | some v, none => Instr.sliceBound v (m'.val ι) (if isSlice then .sliceAcap else .sliceAlen)
          | none, none => pure len
          | none, some _ => stuck "Slice: max without high" : Sem Nat).run P w = .ok h' w := by
        cases hi with
        | none =>
          cases mx with
          | none => simp only [Option.some.injEq] at hh; subst hh; rfl
          | some v => simp at hh
        | some v =>
          simp only at hh
          split at hh
          · rename_i k hk
            split at hh
            · rename_i hc
              simp only [Option.some.injEq] at hh; subst hh
              cases mx <;> exact asBound_run hk (atLeast_val hc)
            · cases hh
          · cases hh
      have hL : ∀ code, (match lo.map (AV.conc ι) with
          | some v => Instr.sliceBound v h' code
          | none => pure 0 : Sem Nat).run P w = .ok l w ∧ h = h' ∧ m = m' := by
        intro code
        cases lo with
        | none => simp only [Option.some.injEq, Prod.mk.injEq] at hb; obtain ⟨rfl, rfl, rfl⟩ := hb; exact ⟨rfl, rfl, rfl⟩
        | some v =>
          simp only at hb
          split at hb
          · rename_i k hk
            split at hb
            · rename_i hc
              simp only [Option.some.injEq, Prod.mk.injEq] at hb; obtain ⟨rfl, rfl, rfl⟩ := hb
              exact ⟨asBound_run hk hc, rfl, rfl⟩
            · cases hb
          · cases hb
      obtain ⟨_, rfl, rfl⟩ := hL .index
      have e1 := fun c => (hL c).1
      unfold Instr.sliceBounds
      cases mx <;> cases hi <;> cases lo <;> simp only [Option.map_some, Option.map_none] at hM hH e1 ⊢
      all_goals (try simp only [Sem.run_pure, Result.ok.injEq, and_true] at hM)
      all_goals (try simp only [Sem.run_pure, Result.ok.injEq, and_true] at hH)
      all_goals (try (have e0 := e1 .index; simp only [Sem.run_pure, Result.ok.injEq, and_true] at e0; subst e0; clear e1))
      all_goals first
        | (simp only [Sem.run_bind, hM, hH, e1, Result.andThen_ok, Sem.run_pure]; done)
        | (simp only [Sem.run_bind, hM, hH, Result.andThen_ok, Sem.run_pure]; done)
        | (simp at hh; done)

theorem cut_conc {i off es l h : Nat} {m : ACap} {v : AV} (hc : cutAV i off es (some (l, h, m)) = some v) :
    v.conc ι = .slice (some (if m.val ι = l then ⟨ι.blk i, off, none⟩ else (⟨ι.blk i, off, none⟩ : Addr).add (l * es))) (h - l) (m.val ι - l) := by
  cases m with
  | exact c =>
    simp only [cutAV, Option.some.injEq] at hc; subst hc
    simp only [AV.conc, ACap.val, add_none]
    split <;> rfl
  | var x k =>
    simp only [cutAV] at hc
    split at hc
    · rename_i hl
      simp only [Option.some.injEq] at hc; subst hc
      simp only [AV.conc, ACap.val, add_none]
      rw [if_neg (by omega)]
      congr 1
      omega
    · split at hc
      · rename_i h0
        subst h0
        simp only [Option.some.injEq] at hc; subst hc
        simp only [AV.conc, ACap.val, add_none, Nat.zero_mul, Nat.add_zero, Nat.sub_zero]
        split <;> rfl
      · cases hc
theorem boundsAV_cap {len : Nat} {cap : ACap} {lo hi mx : Option AV} {l h : Nat} {m : ACap} (hb : boundsAV len cap lo hi mx = some (l, h, m)) (hl : cap.lt n = true) : m.lt n = true := by
  unfold boundsAV at hb
  simp only at hb
  split at hb
  · cases hb
  · rename_i m' hm
    have h1 : m'.lt n = true := by
      cases mx with
      | none => simp only [Option.some.injEq] at hm; subst hm; exact hl
      | some v =>
        simp only at hm
        split at hm
        · split at hm
          · simp only [Option.some.injEq] at hm; subst hm; rfl
          · cases hm
        · cases hm
    split at hb
    · cases hb
    · cases lo with
      | none => simp only [Option.some.injEq, Prod.mk.injEq] at hb; obtain ⟨_, _, rfl⟩ := hb; exact h1
      | some v =>
        simp only at hb
        split at hb
        · split at hb
          · simp only [Option.some.injEq, Prod.mk.injEq] at hb; obtain ⟨_, _, rfl⟩ := hb; exact h1
          · cases hb
        · cases hb
theorem cut_lt {i off es l h : Nat} {m : ACap} {v : AV} (hc : cutAV i off es (some (l, h, m)) = some v) (hi : i < n) (hm : m.lt n = true) : v.lt n = true := by
  cases m with
  | exact c => simp only [cutAV, Option.some.injEq] at hc; subst hc; simp [AV.lt, ACap.lt, hi]
  | var x k =>
    simp only [ACap.lt, decide_eq_true_eq] at hm
    simp only [cutAV] at hc
    split at hc
    · simp only [Option.some.injEq] at hc; subst hc; simp [AV.lt, ACap.lt, hi, hm]
    · split at hc
      · simp only [Option.some.injEq] at hc; subst hc; simp [AV.lt, ACap.lt, hi, hm]
      · cases hc

theorem boundsAV_zero {lo hi mx : Option AV} {l h : Nat} {m : ACap} (hb : boundsAV 0 (.exact 0) lo hi mx = some (l, h, m)) : h = 0 ∧ m = .exact 0 := by
  unfold boundsAV at hb
  simp only at hb
  split at hb
  · cases hb
  · rename_i m' hm
    have h1 : m' = .exact 0 := by
      cases mx with
      | none => simp only [Option.some.injEq] at hm; exact hm.symm
      | some v =>
        simp only at hm
        split at hm
        · split at hm
          · rename_i hc
            simp only [Option.some.injEq] at hm; subst hm
            simp only [ACap.atLeast, decide_eq_true_eq] at hc
            congr 1; omega
          · cases hm
        · cases hm
    subst h1
    split at hb
    · cases hb
    · rename_i h' hh
      have h2 : h' = 0 := by
        cases hi with
        | none =>
          cases mx with
          | none => simp only [Option.some.injEq] at hh; exact hh.symm
          | some v => simp at hh
        | some v =>
          simp only at hh
          split at hh
          · split at hh
            · rename_i hc
              simp only [Option.some.injEq] at hh; subst hh
              simp only [ACap.atLeast, decide_eq_true_eq] at hc
              omega
            · cases hh
          · cases hh
      subst h2
      cases lo with
      | none => simp only [Option.some.injEq, Prod.mk.injEq] at hb; exact ⟨hb.2.1.symm, hb.2.2.symm⟩
      | some v =>
        simp only at hb
        split at hb
        · split at hb
          · simp only [Option.some.injEq, Prod.mk.injEq] at hb; exact ⟨hb.2.1.symm, hb.2.2.symm⟩
          · cases hb
        · cases hb

theorem opdO_val (ht : TmR ι tm a) {x : Option Operand} {lx : Option LOpd} {v : Option AV} (h1 : opdO x = some lx) (h2 : LOpd.optval tm lx = some v) : x.map a.eval = v.map (AV.conc ι) := by
  cases x with
  | none =>
    simp only [opdO, Option.some.injEq] at h1; subst h1
    simp only [LOpd.optval, Option.some.injEq] at h2; subst h2; rfl
  | some x =>
    simp only [opdO, Option.map_eq_some_iff] at h1
    obtain ⟨l, hl, rfl⟩ := h1
    simp only [LOpd.optval, Option.map_eq_some_iff] at h2
    obtain ⟨u, hu, rfl⟩ := h2
    simp [ht.opd hl hu]

theorem s_slice {t : TypeId} {x : Operand} {l0 h0 m0 : Option Operand} (ht : TmR ι tm a) (htl : tm.lt n = true) (ho : o.op = .slice t x l0 h0 m0) (hres : resolveOp P o = some lo) (hv : lo.pv tm hp = some v) : PureOK P o ι n a w v := by
  simp only [resolveOp, ho, Option.bind_eq_bind, Option.bind_eq_some_iff] at hres
  obtain ⟨lx, hx, llo, hlo, lhi, hhi, lmx, hmx, hres⟩ := hres
  split at hres
  · rename_i k e hu
    simp only [Option.bind_eq_some_iff, Option.pure_def, Option.some.injEq] at hres
    obtain ⟨inf, hi, rfl⟩ := hres
    simp only [LOp.pv] at hv
    split at hv
    · rename_i i off vlo vhi vmx h1 h2 h3 h4
      have e1 := ht.opd hx h1
      have l1 := opd_lt htl hx h1
      simp only [AV.lt, decide_eq_true_eq] at l1
      cases hb : boundsAV k (.exact k) vlo vhi vmx with
      | none => rw [hb] at hv; simp [cutAV] at hv
      | some p =>
        obtain ⟨l, h, m⟩ := p
        rw [hb] at hv
        have hbs : (Instr.sliceBounds false k k (vlo.map (AV.conc ι)) (vhi.map (AV.conc ι)) (vmx.map (AV.conc ι))).run P w = .ok (l, h, m.val ι) w := bounds_sound (ι := ι) hb
        refine ⟨?_, cut_lt hv l1 (boundsAV_cap hb rfl)⟩
        have hc := cut_conc (ι := ι) hv
        simp only [execOp, ho, Instr.sliceAt, e1, AV.conc, Sem.run_bind, run_underlying hu, Result.andThen_ok, Instr.sureAddr, Sem.run_pure, opdO_val ht hlo h2, opdO_val ht hhi h3, opdO_val ht hmx h4, hbs, run_sizeOf' hi, hc]
    · cases hv
  · rename_i e hu
    simp only [Option.bind_eq_some_iff, Option.pure_def, Option.some.injEq] at hres
    obtain ⟨inf, hi, rfl⟩ := hres
    simp only [LOp.pv] at hv
    split at hv
    · rename_i i off len cap vlo vhi vmx h1 h2 h3 h4
      have e1 := ht.opd hx h1
      have l1 := opd_lt htl hx h1
      simp only [AV.lt, Bool.and_eq_true, decide_eq_true_eq] at l1
      cases hb : boundsAV len cap vlo vhi vmx with
      | none => rw [hb] at hv; simp [cutAV] at hv
      | some p =>
        obtain ⟨l, h, m⟩ := p
        rw [hb] at hv
        have hbs := bounds_sound (P := P) (ι := ι) (w := w) (isSlice := true) hb
        refine ⟨?_, cut_lt hv l1.1 (boundsAV_cap hb l1.2)⟩
        have hc := cut_conc (ι := ι) hv
        simp only [execOp, ho, Instr.sliceAt, Instr.slice, e1, AV.conc, Sem.run_bind, run_underlying hu, Result.andThen_ok, Sem.run_pure, opdO_val ht hlo h2, opdO_val ht hhi h3, opdO_val ht hmx h4, hbs, run_sizeOf' hi, hc]
        congr 3
        split <;> simp [*]
    · rename_i vlo vhi vmx h1 h2 h3 h4
      have e1 := ht.opd hx h1
      split at hv
      · rename_i p hb
        obtain ⟨l, h, m⟩ := p
        simp only [Option.some.injEq] at hv; subst hv
        have hbs : (Instr.sliceBounds true 0 0 (vlo.map (AV.conc ι)) (vhi.map (AV.conc ι)) (vmx.map (AV.conc ι))).run P w = .ok (l, h, m.val ι) w := bounds_sound (ι := ι) hb
        refine ⟨?_, rfl⟩
        have hz : h = 0 ∧ m.val ι = 0 := by
          obtain ⟨e1, e2⟩ := boundsAV_zero hb
          exact ⟨e1, by rw [e2]; rfl⟩
        simp only [execOp, ho, Instr.sliceAt, Instr.slice, e1, AV.conc, Sem.run_bind, run_underlying hu, Result.andThen_ok, Sem.run_pure, opdO_val ht hlo h2, opdO_val ht hhi h3, opdO_val ht hmx h4, hbs, run_sizeOf' hi]
        simp [hz.1, hz.2]
      · cases hv
    · cases hv
  · rename_i hu
    split at hres
    · rename_i hmn
      simp only [Option.pure_def, Option.some.injEq] at hres; subst hres
      simp only [LOp.pv] at hv
      split at hv
      · rename_i s vlo vhi h1 h2 h3
        have e1 := ht.opd hx h1
        split at hv
        · rename_i l h m hb
          simp only [Option.some.injEq] at hv; subst hv
          have hbs : (Instr.sliceBounds false s.length s.length (vlo.map (AV.conc ι)) (vhi.map (AV.conc ι)) none).run P w = .ok (l, h, m.val ι) w := bounds_sound (ι := ι) hb
          have hm0 : m0 = none := by
            cases m0 with
            | none => rfl
            | some y =>
              simp only [opdO, Option.map_eq_some_iff] at hmx
              obtain ⟨z, _, rfl⟩ := hmx
              simp at hmn
          subst hm0
          refine ⟨?_, rfl⟩
          simp only [execOp, ho, Instr.sliceAt, Instr.slice, e1, AV.conc, Sem.run_bind, run_underlying hu, Result.andThen_ok, Sem.run_pure, opdO_val ht hlo h2, opdO_val ht hhi h3, size_str, hbs, Option.map_none, Option.isSome_none, Bool.false_eq_true, if_false]
          congr 3
          apply ByteArray.ext
          simp [List.drop_take]
        · cases hv
      · cases hv
    · cases hres
  · cases hres
end
end Go.Ax
