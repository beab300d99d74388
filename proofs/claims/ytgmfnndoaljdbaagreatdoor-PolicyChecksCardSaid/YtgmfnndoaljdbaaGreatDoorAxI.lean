/- Indexes, lengths. -/
import Derived.Test.YtgmfnndoaljdbaaGreatDoorAxH
set_option linter.all false
namespace Go.Ax
open Go
set_option maxRecDepth 20000

section
variable {P : Program} {o : Oper} {ι : Env} {tm : LTm} {hp : AHeap} {n : Nat} {a : Act} {w : World} {lo : LOp} {v : AV}

theorem s_indexAddr {t : TypeId} {x i : Operand} (ht : TmR ι tm a) (htl : tm.lt n = true) (ho : o.op = .indexAddr t x i) (hres : resolveOp P o = some lo) (hv : lo.pv tm hp = some v) : PureOK P o ι n a w v := by
  simp only [resolveOp, ho, Option.bind_eq_bind, Option.bind_eq_some_iff] at hres
  obtain ⟨lx, hx, li, hi, hres⟩ := hres
  split at hres
  · rename_i k e hu
    simp only [Option.bind_eq_some_iff, Option.pure_def, Option.some.injEq] at hres
    obtain ⟨inf, hin, rfl⟩ := hres
    simp only [LOp.pv] at hv
    split at hv
    · rename_i j off kd z h1 h2
      split at hv
      · rename_i hz
        have e1 := ht.opd hx h1
        have e2 := ht.opd hi h2
        have l1 := opd_lt htl hx h1
        simp only [Option.some.injEq] at hv; subst hv
        refine ⟨?_, l1⟩
        simp only [execOp, ho, e1, e2, AV.conc, Instr.indexAt, asIntOf, Sem.run_bind, Sem.run_pure, Result.andThen_ok, run_underlying hu, Instr.sureAddr]
        rw [if_pos hz]
        simp only [Sem.run_bind, run_sizeOf' hin, Result.andThen_ok, Sem.run_pure, add_none]
      · cases hv
    · rename_i g off kd z h1 h2
      split at hv
      · rename_i hz
        have e1 := ht.opd hx h1
        have e2 := ht.opd hi h2
        simp only [Option.some.injEq] at hv; subst hv
        refine ⟨?_, rfl⟩
        simp only [execOp, ho, e1, e2, AV.conc, Instr.indexAt, asIntOf, Sem.run_bind, Sem.run_pure, Result.andThen_ok, run_underlying hu, Instr.sureAddr]
        rw [if_pos hz]
        simp only [Sem.run_bind, run_sizeOf' hin, Result.andThen_ok, Sem.run_pure, add_none]
      · cases hv
    · cases hv
  · rename_i e hu
    simp only [Option.bind_eq_some_iff, Option.pure_def, Option.some.injEq] at hres
    obtain ⟨inf, hin, rfl⟩ := hres
    simp only [LOp.pv] at hv
    split at hv
    · rename_i j off len c kd z h1 h2
      split at hv
      · rename_i hz
        have e1 := ht.opd hx h1
        have e2 := ht.opd hi h2
        have l1 := opd_lt htl hx h1
        simp only [AV.lt, Bool.and_eq_true] at l1
        simp only [Option.some.injEq] at hv; subst hv
        refine ⟨?_, l1.1⟩
        simp only [execOp, ho, e1, e2, AV.conc, Instr.indexAt, asIntOf, Sem.run_bind, Sem.run_pure, Result.andThen_ok, run_underlying hu]
        rw [if_pos hz]
        simp only [Sem.run_bind, run_sizeOf' hin, Result.andThen_ok, Sem.run_pure, add_none]
      · cases hv
    · cases hv
  · cases hres

theorem run_part_one {t : TypeId} {l : List AV} {off : Nat} {v : AV} (hag : aggT P t = some false) (hv : l[off]? = some v) : (part t (concL ι l).toArray off).run P w = .ok (v.conc ι) w := by
  have hg : (concL ι l).toArray[off]? = some (v.conc ι) := by rw [List.getElem?_toArray, concL_getElem?, hv]; rfl
  unfold aggT at hag
  split at hag
  · simp at hag
  · simp at hag
  · rename_i d hns hna hud
    cases d <;> first
      | (exact (hns _ rfl).elim)
      | (exact (hna _ _ rfl).elim)
      | (simp only [part, isAgg, Sem.run_bind, run_underlying hud, Result.andThen_ok, Sem.run_pure, Bool.false_eq_true, if_false, hg])
  · cases hag

theorem s_index {t : TypeId} {x i : Operand} (ht : TmR ι tm a) (htl : tm.lt n = true) (ho : o.op = .index t x i) (hres : resolveOp P o = some lo) (hv : lo.pv tm hp = some v) : PureOK P o ι n a w v := by
  simp only [resolveOp, ho, Option.bind_eq_bind, Option.bind_eq_some_iff] at hres
  obtain ⟨lx, hx, li, hi, hres⟩ := hres
  split at hres
  · rename_i k e hu
    simp only [Option.bind_eq_some_iff, Option.pure_def, Option.some.injEq] at hres
    obtain ⟨inf, hin, ag, hag, rfl⟩ := hres
    simp only [LOp.pv] at hv
    split at hv
    · rename_i l kd z h1 h2
      split at hv
      · rename_i hz
        have e1 := ht.opd hx h1
        have e2 := ht.opd hi h2
        have l1 := opd_lt htl hx h1
        simp only [AV.lt] at l1
        cases ag
        · simp only [Bool.false_eq_true, if_false] at hv
          refine ⟨?_, ltL_get l1 hv⟩
          simp only [execOp, ho, e1, e2, AV.conc, Instr.index, asIntOf, Sem.run_bind, Sem.run_pure, Result.andThen_ok, run_underlying hu]
          rw [if_pos hz]
          simp only [Sem.run_bind, run_sizeOf' hin, Result.andThen_ok, run_part_one hag hv]
        · simp only [if_true, Option.some.injEq] at hv; subst hv
          refine ⟨?_, by simp only [AV.lt]; exact ltL_take (ltL_drop l1 _) _⟩
          simp only [execOp, ho, e1, e2, AV.conc, Instr.index, asIntOf, Sem.run_bind, Sem.run_pure, Result.andThen_ok, run_underlying hu]
          rw [if_pos hz]
          simp only [Sem.run_bind, run_sizeOf' hin, Result.andThen_ok, run_part_agg hag hin]
      · cases hv
    · cases hv
  · rename_i hu
    simp only [Option.pure_def, Option.some.injEq] at hres; subst hres
    simp only [LOp.pv] at hv
    split at hv
    · rename_i s kd z h1 h2
      split at hv
      · rename_i hz
        have e1 := ht.opd hx h1
        have e2 := ht.opd hi h2
        simp only [Option.map_eq_some_iff] at hv
        obtain ⟨b, hb, rfl⟩ := hv
        refine ⟨?_, rfl⟩
        have hg : (⟨s.toArray⟩ : ByteArray)[z.toNat]? = some b := by
          have hlt : z.toNat < s.length := (List.getElem?_eq_some_iff.1 hb).1
          rw [getElem?_pos (⟨s.toArray⟩ : ByteArray) z.toNat (by rw [size_str]; exact hlt)]
          have := (List.getElem?_eq_some_iff.1 hb).2
          congr 1
        simp only [execOp, ho, e1, e2, AV.conc, Instr.index, asIntOf, Sem.run_bind, Sem.run_pure, Result.andThen_ok, run_underlying hu, hz, if_true, hg]
      · cases hv
    · cases hv
  · cases hres

theorem s_len {x : Operand} {t : TypeId} {c : Call} (ht : TmR ι tm a) (ho : o.op = .call c) (hc : c.callee = .builtin .len) (ha : c.args.toList = [x]) (hts : c.argTypes.toList = [t])
    (hres : resolveBuiltin P .len [x] [t] = some lo) (hv : lo.pv tm hp = some v) : PureOK P o ι n a w v := by
  have ha' : c.args = #[x] := by apply Array.toList_inj.1; simpa using ha
  have ht' : c.argTypes = #[t] := by apply Array.toList_inj.1; simpa using hts
  simp only [resolveBuiltin, Option.bind_eq_bind, Option.bind_eq_some_iff] at hres
  obtain ⟨lx, hx, hres⟩ := hres
  split at hres
  · rename_i hu
    simp only [Option.pure_def, Option.some.injEq] at hres; subst hres
    simp only [LOp.pv] at hv
    split at hv
    · rename_i s h1
      have e1 := ht.opd hx h1
      simp only [Option.some.injEq] at hv; subst hv
      exact ⟨by simp [execOp, ho, resolve, hc, ha', ht', invoke, builtin, e1, AV.conc, Builtin.len_, run_underlying hu, goInt, size_str], rfl⟩
    · cases hv
  · rename_i e hu
    simp only [Option.pure_def, Option.some.injEq] at hres; subst hres
    simp only [LOp.pv] at hv
    split at hv
    · rename_i i off len c h1
      have e1 := ht.opd hx h1
      simp only [Option.some.injEq] at hv; subst hv
      exact ⟨by simp [execOp, ho, resolve, hc, ha', ht', invoke, builtin, e1, AV.conc, Builtin.len_, run_underlying hu, goInt], rfl⟩
    · rename_i h1
      have e1 := ht.opd hx h1
      simp only [Option.some.injEq] at hv; subst hv
      exact ⟨by simp [execOp, ho, resolve, hc, ha', ht', invoke, builtin, e1, AV.conc, Builtin.len_, run_underlying hu, goInt], rfl⟩
    · cases hv
  · rename_i k e hu
    simp only [Option.pure_def, Option.some.injEq] at hres; subst hres
    simp only [LOp.pv, Option.some.injEq] at hv; subst hv
    exact ⟨by simp [execOp, ho, resolve, hc, ha', ht', invoke, builtin, AV.conc, Builtin.len_, run_underlying hu, goInt], rfl⟩
  · cases hres
end
end Go.Ax
