/- All resolved operations together. -/
import Derived.Test.YtgmfnndoaljdbaaGreatDoorAxL
set_option linter.all false
namespace Go.Ax
open Go
set_option maxRecDepth 20000

section
variable {P : Program} {o : Oper} {ι : Env} {tm : LTm} {hp hp' : AHeap} {n n' : Nat} {a : Act} {w : World} {lo : LOp} {v : AV}

def LOp.isPure : LOp → Bool
  | .new _ _ | .buildS _ _ _ _ | .store _ _ _ | .mkS _ _ _ _ _ _ | .app _ _ _ _ _ => false
  | _ => true
theorem eval_pure (h : lo.isPure = true) (hev : lo.eval tm hp n = some (v, hp', n')) : lo.pv tm hp = some v ∧ hp' = hp ∧ n' = n := by
  have : lo.eval tm hp n = (lo.pv tm hp).map fun v => (v, hp, n) := by cases lo <;> first | rfl | (simp [LOp.isPure] at h)
  rw [this, Option.map_eq_some_iff] at hev
  obtain ⟨u, hu, he⟩ := hev
  simp only [Prod.mk.injEq] at he
  obtain ⟨rfl, rfl, rfl⟩ := he
  exact ⟨hu, rfl, rfl⟩

theorem eq_pure {neg : Bool} {t : TypeId} {x y : Operand} {lx ly : LOpd} (h : resolveEq P neg t x y lx ly = some lo) : lo.isPure = true := by
  unfold resolveEq at h
  split at h <;> first
    | (simp only [Option.some.injEq] at h; subst h; rfl)
    | (split at h <;> first | (simp only [Option.some.injEq] at h; subst h; rfl) | (cases h; done) | (split at h <;> first | (simp only [Option.some.injEq] at h; subst h; rfl) | (cases h; done)))
    | (cases h; done)

theorem eval_sound (hres : resolveOp P o = some lo) (ht : TmR ι tm a) (htl : tm.lt n = true) (hr : HR ι hp w) (hl : hp.lt n = true) (hev : lo.eval tm hp n = some (v, hp', n')) : OpOK P o ι hp n a w v hp' n' := by
  have pure : lo.isPure = true → (lo.pv tm hp = some v → PureOK P o ι n a w v) → OpOK P o ι hp n a w v hp' n' := by
    intro hpu hf
    obtain ⟨h1, rfl, rfl⟩ := eval_pure hpu hev
    exact (hf h1).op hr hl
  cases hop : o.op with
  | move x =>
    refine pure ?_ (s_move ht htl (.inl hop) hres)
    simp only [resolveOp, hop, Option.map_eq_some_iff] at hres
    obtain ⟨_, _, rfl⟩ := hres; rfl
  | assign x =>
    refine pure ?_ (s_move ht htl (.inr hop) hres)
    simp only [resolveOp, hop, Option.map_eq_some_iff] at hres
    obtain ⟨_, _, rfl⟩ := hres; rfl
  | pick c x y =>
    refine pure ?_ (s_pick ht htl hop hres)
    simp only [resolveOp, hop, Option.bind_eq_bind, Option.bind_eq_some_iff, Option.pure_def, Option.some.injEq] at hres
    obtain ⟨_, _, _, _, _, _, rfl⟩ := hres; rfl
  | alloc e => exact s_alloc hr hl hop hres hev
  | box e x => exact s_box ht htl hr hl hop hres hev
  | build t parts =>
    refine pure ?_ (s_build ht htl hop hres)
    simp only [resolveOp, hop, Option.bind_eq_bind, Option.bind_eq_some_iff] at hres
    obtain ⟨z, _, hres⟩ := hres
    split at hres
    · split at hres
      · simp only [Option.bind_eq_some_iff, Option.pure_def, Option.some.injEq] at hres
        obtain ⟨_, _, rfl⟩ := hres; rfl
      · cases hres
    · simp only [Option.bind_eq_some_iff, Option.pure_def, Option.some.injEq] at hres
      obtain ⟨_, _, _, _, rfl⟩ := hres; rfl
    · cases hres
  | buildSlice t len parts => exact s_buildSlice ht htl hr hl hop hres hev
  | load t x =>
    refine pure ?_ (s_load ht hr hl hop hres)
    simp only [resolveOp, hop, Option.bind_eq_bind, Option.bind_eq_some_iff] at hres
    obtain ⟨_, _, hres⟩ := hres
    split at hres <;> first | (simp only [Option.pure_def, Option.some.injEq] at hres; subst hres; rfl) | cases hres
  | store t x y => exact s_store ht htl hr hl hop hres hev
  | nilCheck x =>
    refine pure ?_ (s_nilchk ht htl hop hres)
    simp only [resolveOp, hop, Option.map_eq_some_iff] at hres
    obtain ⟨_, _, rfl⟩ := hres; rfl
  | binOp op t x y yt =>
    refine pure ?_ (s_binOp ht hop hres)
    simp only [resolveOp, hop, Option.bind_eq_bind, Option.bind_eq_some_iff] at hres
    obtain ⟨_, _, _, _, hres⟩ := hres
    split at hres
    · exact eq_pure hres
    · exact eq_pure hres
    · simp only [Option.pure_def, Option.some.injEq] at hres; subst hres; rfl
  | unOp op t x =>
    refine pure ?_ (s_unOp ht hop hres)
    simp only [resolveOp, hop, Option.map_eq_some_iff] at hres
    obtain ⟨_, _, rfl⟩ := hres; rfl
  | convert s d x =>
    refine pure ?_ (s_convert ht hop hres)
    simp only [resolveOp, hop, Option.bind_eq_bind, Option.bind_eq_some_iff] at hres
    obtain ⟨_, _, hres⟩ := hres
    split at hres <;> first | (simp only [Option.pure_def, Option.some.injEq] at hres; subst hres; rfl) | cases hres
  | makeInterface t x =>
    refine pure ?_ (s_mkI ht htl hop hres)
    simp only [resolveOp, hop, Option.bind_eq_bind, Option.bind_eq_some_iff] at hres
    obtain ⟨_, _, hres⟩ := hres
    split at hres <;> first | (simp only [Option.pure_def, Option.some.injEq] at hres; subst hres; rfl) | cases hres
  | makeFunc f first caps =>
    refine pure ?_ (s_mkF ht htl hop hres)
    simp only [resolveOp, hop, Option.bind_eq_bind, Option.bind_eq_some_iff, Option.pure_def, Option.some.injEq] at hres
    obtain ⟨_, _, _, _, rfl⟩ := hres; rfl
  | makeSlice t l c => exact s_makeSlice ht hr hl hop hres hev
  | slice t x l h m =>
    refine pure ?_ (s_slice ht htl hop hres)
    simp only [resolveOp, hop, Option.bind_eq_bind, Option.bind_eq_some_iff] at hres
    obtain ⟨_, _, _, _, _, _, _, _, hres⟩ := hres
    split at hres
    · simp only [Option.bind_eq_some_iff, Option.pure_def, Option.some.injEq] at hres
      obtain ⟨_, _, rfl⟩ := hres; rfl
    · simp only [Option.bind_eq_some_iff, Option.pure_def, Option.some.injEq] at hres
      obtain ⟨_, _, rfl⟩ := hres; rfl
    · split at hres <;> first | (simp only [Option.pure_def, Option.some.injEq] at hres; subst hres; rfl) | cases hres
    · cases hres
  | fieldAddr t x f =>
    refine pure ?_ (s_fadd ht htl hop hres)
    simp only [resolveOp, hop, Option.bind_eq_bind, Option.bind_eq_some_iff] at hres
    obtain ⟨_, _, hres⟩ := hres
    split at hres
    · simp only [Option.bind_eq_some_iff] at hres
      obtain ⟨_, _, _, _, hres⟩ := hres
      split at hres <;> first | (simp only [Option.pure_def, Option.some.injEq] at hres; subst hres; rfl) | cases hres
    · cases hres
  | field t x f =>
    refine pure ?_ (s_fld ht htl hop hres)
    simp only [resolveOp, hop, Option.bind_eq_bind, Option.bind_eq_some_iff] at hres
    obtain ⟨_, _, hres⟩ := hres
    split at hres
    · simp only [Option.bind_eq_some_iff, Option.pure_def, Option.some.injEq] at hres
      obtain ⟨_, _, _, _, _, _, rfl⟩ := hres; rfl
    · cases hres
  | indexAddr t x i =>
    refine pure ?_ (s_indexAddr ht htl hop hres)
    simp only [resolveOp, hop, Option.bind_eq_bind, Option.bind_eq_some_iff] at hres
    obtain ⟨_, _, _, _, hres⟩ := hres
    split at hres <;> first
      | (simp only [Option.bind_eq_some_iff, Option.pure_def, Option.some.injEq] at hres; obtain ⟨_, _, rfl⟩ := hres; rfl)
      | cases hres
  | index t x i =>
    refine pure ?_ (s_index ht htl hop hres)
    simp only [resolveOp, hop, Option.bind_eq_bind, Option.bind_eq_some_iff] at hres
    obtain ⟨_, _, _, _, hres⟩ := hres
    split at hres <;> first
      | (simp only [Option.bind_eq_some_iff, Option.pure_def, Option.some.injEq] at hres; obtain ⟨_, _, _, _, rfl⟩ := hres; rfl)
      | (simp only [Option.pure_def, Option.some.injEq] at hres; subst hres; rfl)
      | cases hres
  | extract x k =>
    refine pure ?_ (s_extract ht htl hop hres)
    simp only [resolveOp, hop, Option.map_eq_some_iff] at hres
    obtain ⟨_, _, rfl⟩ := hres; rfl
  | call c =>
    simp only [resolveOp, hop, resolveCall] at hres
    split at hres
    · rename_i b hb
      unfold resolveBuiltin at hres
      split at hres
      · rename_i x t ha hts
        have hres' : resolveBuiltin P .len [x] [t] = some lo := by unfold resolveBuiltin; exact hres
        refine pure ?_ (s_len ht hop hb ha hts hres')
        simp only [Option.bind_eq_bind, Option.bind_eq_some_iff] at hres
        obtain ⟨_, _, hres⟩ := hres
        split at hres <;> first | (simp only [Option.pure_def, Option.some.injEq] at hres; subst hres; rfl) | cases hres
      · rename_i s x t t' ha hts
        simp only [Option.bind_eq_bind, Option.bind_eq_some_iff] at hres
        obtain ⟨ls, hls, lx, hlx, hres⟩ := hres
        split at hres
        · rename_i e hu
          simp only [Option.bind_eq_some_iff] at hres
          obtain ⟨inf, hi, z, hz, hres⟩ := hres
          split at hres
          · rename_i hc
            obtain ⟨hk, hc1, hc2, hc3⟩ := hc
            simp only [Option.pure_def, Option.some.injEq] at hres
            subst hres
            obtain ⟨inf', zv, hi', hzv, hzc, hzl⟩ := zero_of (ι := ι) (n := n) hz
            have : inf' = inf := by rw [hi] at hi'; injection hi' with h; exact h.symm
            subst this
            have hd : ∃ d', P.underlying t' = some d' ∧ ((∃ e, d' = .slice e) ∨ d' = .string) := by
              unfold appendable at hk
              split at hk
              · rename_i e' hu'; exact ⟨_, hu', .inl ⟨e', rfl⟩⟩
              · rename_i hu'; exact ⟨_, hu', .inr rfl⟩
              · cases hk
            obtain ⟨d', hu', hd'⟩ := hd
            simp only [LOp.eval] at hev
            split at hev
            · rename_i sv xv h1 h2
              split at hev
              · rename_i m news hs
                split at hev
                · rename_i hone
                  have e1 := ht.opd hls h1
                  have e2 := ht.opd hlx h2
                  have l1 := opd_lt htl hls h1
                  obtain ⟨ι', w', hrun, g1, g2, g3, g4⟩ := app_sound (P := P) (t := t) (t' := t') (ty := o.type) (bytes := inf'.bytes) hu hu' hd' hi hzv rfl rfl (by rw [hzc, AV.conc_cells]; simp [hc1]) hc2 hc3 hr hl l1 hs hone hev
                  refine ⟨ι', w', _, ?_, .inl rfl, g1, g2, g3, g4⟩
                  have ha' : c.args = #[s, x] := by apply Array.toList_inj.1; simpa using ha
                  have ht' : c.argTypes = #[t, t'] := by apply Array.toList_inj.1; simpa using hts
                  simp only [execOp, hop, resolve, hb, ha', ht', Sem.run_bind, Sem.run_pure, Result.andThen_ok, invoke, builtin]
                  simp only [List.map_toArray, List.map_cons, List.map_nil, e1, e2, hrun, Result.andThen_ok]
                · cases hev
              · cases hev
            · cases hev
          · cases hres
        · cases hres
      · cases hres
    · cases hres
  | _ => simp [resolveOp, hop] at hres
theorem pure_sound (hpu : lo.isPure = true) (hres : resolveOp P o = some lo) (ht : TmR ι tm a) (htl : tm.lt n = true) (hr : HR ι hp w) (hl : hp.lt n = true) (hv : lo.pv tm hp = some v) : PureOK P o ι n a w v := by
  cases hop : o.op with
  | move x => exact s_move ht htl (.inl hop) hres hv
  | assign x => exact s_move ht htl (.inr hop) hres hv
  | pick c x y => exact s_pick ht htl hop hres hv
  | alloc e =>
    simp only [resolveOp, hop, Option.map_eq_some_iff] at hres
    obtain ⟨_, _, rfl⟩ := hres; simp [LOp.isPure] at hpu
  | box e x =>
    simp only [resolveOp, hop, Option.map_eq_some_iff] at hres
    obtain ⟨_, _, rfl⟩ := hres; simp [LOp.isPure] at hpu
  | build t parts => exact s_build ht htl hop hres hv
  | buildSlice t len parts =>
    simp only [resolveOp, hop] at hres
    split at hres
    · simp only [Option.bind_eq_bind, Option.bind_eq_some_iff] at hres
      obtain ⟨_, _, _, _, hres⟩ := hres
      split at hres
      · simp only [Option.bind_eq_some_iff, Option.pure_def, Option.some.injEq] at hres
        obtain ⟨_, _, rfl⟩ := hres; simp [LOp.isPure] at hpu
      · cases hres
    · cases hres
  | load t x => exact s_load ht hr hl hop hres hv
  | store t x y =>
    simp only [resolveOp, hop, Option.bind_eq_bind, Option.bind_eq_some_iff, Option.pure_def, Option.some.injEq] at hres
    obtain ⟨_, _, _, _, _, _, rfl⟩ := hres; simp [LOp.isPure] at hpu
  | nilCheck x => exact s_nilchk ht htl hop hres hv
  | binOp op t x y yt => exact s_binOp ht hop hres hv
  | unOp op t x => exact s_unOp ht hop hres hv
  | convert s d x => exact s_convert ht hop hres hv
  | makeInterface t x => exact s_mkI ht htl hop hres hv
  | makeFunc f first caps => exact s_mkF ht htl hop hres hv
  | makeSlice t l c =>
    simp only [resolveOp, hop] at hres
    split at hres
    · simp only [Option.bind_eq_bind, Option.bind_eq_some_iff] at hres
      obtain ⟨_, _, _, _, hres⟩ := hres
      split at hres
      · simp only [Option.bind_eq_some_iff, Option.pure_def, Option.some.injEq] at hres
        obtain ⟨_, _, _, _, rfl⟩ := hres; simp [LOp.isPure] at hpu
      · cases hres
    · cases hres
  | slice t x l h m => exact s_slice ht htl hop hres hv
  | fieldAddr t x f => exact s_fadd ht htl hop hres hv
  | field t x f => exact s_fld ht htl hop hres hv
  | indexAddr t x i => exact s_indexAddr ht htl hop hres hv
  | index t x i => exact s_index ht htl hop hres hv
  | extract x k => exact s_extract ht htl hop hres hv
  | call c =>
    simp only [resolveOp, hop, resolveCall] at hres
    split at hres
    · rename_i b hb
      unfold resolveBuiltin at hres
      split at hres
      · rename_i x t ha hts
        have hres' : resolveBuiltin P .len [x] [t] = some lo := by unfold resolveBuiltin; exact hres
        exact s_len ht hop hb ha hts hres' hv
      · rename_i s x t t' ha hts
        simp only [Option.bind_eq_bind, Option.bind_eq_some_iff] at hres
        obtain ⟨ls, hls, lx, hlx, hres⟩ := hres
        split at hres
        · rename_i e hu
          simp only [Option.bind_eq_some_iff] at hres
          obtain ⟨inf, hi, z, hz, hres⟩ := hres
          split at hres
          · simp only [Option.pure_def, Option.some.injEq] at hres
            subst hres; simp [LOp.isPure] at hpu
          · cases hres
        · cases hres
      · cases hres
    · cases hres
  | _ => simp [resolveOp, hop] at hres
end
end Go.Ax
