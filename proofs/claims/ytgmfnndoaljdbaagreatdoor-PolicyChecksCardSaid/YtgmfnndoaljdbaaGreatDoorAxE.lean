/- Operations that leave the memory alone, one lemma each. -/
import Derived.Test.YtgmfnndoaljdbaaGreatDoorAxD
set_option linter.all false
namespace Go.Ax
open Go
set_option maxRecDepth 20000

section
variable {P : Program} {o : Oper} {ι : Env} {tm : LTm} {hp : AHeap} {n : Nat} {a : Act} {w : World} {lo : LOp} {v : AV}

def PureOK (P : Program) (o : Oper) (ι : Env) (n : Nat) (a : Act) (w : World) (v : AV) : Prop :=
  (execOp a.eval o).run P w = .ok (.value (v.conc ι)) w ∧ v.lt n = true

theorem s_move {x : Operand} (ht : TmR ι tm a) (htl : tm.lt n = true) (ho : o.op = .move x ∨ o.op = .assign x) (hres : resolveOp P o = some lo) (hv : lo.pv tm hp = some v) : PureOK P o ι n a w v := by
  rcases ho with ho | ho <;>
  · simp only [resolveOp, ho, Option.map_eq_some_iff] at hres
    obtain ⟨lx, hx, rfl⟩ := hres
    simp only [LOp.pv] at hv
    exact ⟨by simp [execOp, ho, ht.opd hx hv], opd_lt htl hx hv⟩

theorem s_pick {c x y : Operand} (ht : TmR ι tm a) (htl : tm.lt n = true) (ho : o.op = .pick c x y) (hres : resolveOp P o = some lo) (hv : lo.pv tm hp = some v) : PureOK P o ι n a w v := by
  simp only [resolveOp, ho, Option.bind_eq_bind, Option.bind_eq_some_iff, Option.pure_def, Option.some.injEq] at hres
  obtain ⟨lc, hc, lx, hx, ly, hy, rfl⟩ := hres
  simp only [LOp.pv] at hv
  split at hv
  · rename_i t hct
    have h1 := ht.opd hc hct
    cases t
    · simp only [Bool.false_eq_true, if_false] at hv
      exact ⟨by simp [execOp, ho, h1, AV.conc, asBool, ht.opd hy hv], opd_lt htl hy hv⟩
    · simp only [if_true] at hv
      exact ⟨by simp [execOp, ho, h1, AV.conc, asBool, ht.opd hx hv], opd_lt htl hx hv⟩
  · cases hv

theorem zero_of {t : TypeId} {z : AV} (h : zeroAV P t = some z) : ∃ (i : TypeInfo) (zv : Value), P.info? t = some i ∧ i.zero = some zv ∧ zv = z.conc ι ∧ z.lt n = true := by
  unfold zeroAV at h
  split at h
  · rename_i i hi
    split at h
    · rename_i zv hz
      exact ⟨i, zv, hi, hz, (toAV_conc ι 4 zv z h).symm, toAV_lt n 4 zv z h⟩
    · cases h
  · cases h
theorem run_zeroValue {t : TypeId} {i : TypeInfo} {zv : Value} (hi : P.info? t = some i) (hz : i.zero = some zv) : (zeroValue t).run P w = .ok zv w := by
  simp [zeroValue, typeInfo, hi, hz]
theorem run_sizeOf' {t : TypeId} {i : TypeInfo} (hi : P.info? t = some i) : (sizeOf t).run P w = .ok i.size w := by
  simp [sizeOf, typeInfo, hi]

theorem parts_sound {place : Nat → Option (Nat × Nat)} (ht : TmR ι tm a) : ∀ (ps : List (Nat × Operand)) (lp : List (Nat × Nat × LOpd)) (qs : List (Nat × Nat × List AV)),
    partsOf place ps = some lp → partVals tm lp = some qs →
    (ps.map fun (p : Nat × Operand) => (p.1, a.eval p.2)).length = qs.length ∧
    (∀ (j : Nat) (p : Nat × Value) (q : Nat × Nat × List AV), (ps.map fun (p : Nat × Operand) => (p.1, a.eval p.2))[j]? = some p → qs[j]? = some q → place p.1 = some (q.1, q.2.1) ∧ p.2.cells = (concL ι q.2.2).toArray) ∧
    (∀ p ∈ lp, ∃ X, opd X = some p.2.2)
  | [], lp, qs, h1, h2 => by
    simp only [partsOf, Option.some.injEq] at h1; subst h1
    simp only [partVals, Option.some.injEq] at h2; subst h2
    simp
  | (i, x) :: ps, lp, qs, h1, h2 => by
    simp only [partsOf] at h1
    split at h1
    · rename_i off sz lx r hpl hx hr
      simp only [Option.some.injEq] at h1; subst h1
      simp only [partVals] at h2
      split at h2
      · rename_i v vs hv hvs
        simp only [Option.some.injEq] at h2; subst h2
        obtain ⟨g1, g2, g3⟩ := parts_sound ht ps r vs hr hvs
        refine ⟨by simpa using g1, fun j p q hp hq => ?_, fun p hp => ?_⟩
        · cases j with
          | zero =>
            simp only [List.map_cons, List.getElem?_cons_zero, Option.some.injEq] at hp hq
            subst hp; subst hq
            exact ⟨hpl, by rw [ht.opd hx hv, AV.conc_cells]⟩
          | succ j => exact g2 j p q (by simpa using hp) (by simpa using hq)
        · rcases List.mem_cons.1 hp with rfl | hp
          · exact ⟨x, hx⟩
          · exact g3 p hp
      · cases h2
    · cases h1

theorem mapM_places (fs : List Field) (h : ∀ f ∈ fs, (P.info? f.type).isSome = true) :
    (fs.mapM fun f => do pure (f.offset, ← sizeOf f.type) : Sem (List (Nat × Nat))).run P w = .ok (fs.map fun f => (f.offset, ((P.info? f.type).map (·.size)).getD 0)) w := by
  induction fs with
  | nil => simp
  | cons f fs ih =>
    obtain ⟨i, hi⟩ := Option.isSome_iff_exists.1 (h f (by simp))
    simp only [List.mapM_cons, Sem.run_bind, run_sizeOf' hi, Result.andThen_ok, Sem.run_pure, ih (fun g hg => h g (by simp [hg])), List.map_cons, hi, Option.map_some, Option.getD_some]

theorem s_build {t : TypeId} {parts : Array (Nat × Operand)} (ht : TmR ι tm a) (htl : tm.lt n = true) (ho : o.op = .build t parts) (hres : resolveOp P o = some lo) (hv : lo.pv tm hp = some v) : PureOK P o ι n a w v := by
  simp only [resolveOp, ho, Option.bind_eq_bind, Option.bind_eq_some_iff] at hres
  obtain ⟨z, hz, hres⟩ := hres
  obtain ⟨inf, zv, hi, hzv, hzc, hzl⟩ := zero_of (ι := ι) (n := n) hz
  have hcells : zv.cells = (concL ι z.cells).toArray := by rw [hzc, AV.conc_cells]
  split at hres
  · rename_i fs hu
    split at hres
    · rename_i hk
      simp only [Option.bind_eq_some_iff, Option.pure_def, Option.some.injEq] at hres
      obtain ⟨lp, hlp, rfl⟩ := hres
      simp only [LOp.pv] at hv
      split at hv
      · rename_i qs hqs
        simp only [Option.map_eq_some_iff] at hv
        obtain ⟨r, hr, rfl⟩ := hv
        obtain ⟨g1, g2, g3⟩ := parts_sound ht parts.toList lp qs hlp hqs
        have hf := fill_sound (ι := ι) (parts.toList.map fun (p : Nat × Operand) => (p.1, a.eval p.2)) qs (fieldPlace' P fs) z.cells r g1 g2 hr
        have hmap := mapM_places (P := P) (w := w) fs.toList (fun f hf => by
          have := (List.all_eq_true.1 hk) f hf; exact this)
        have hplace : (fun i => ((fs.toList.map fun f => (f.offset, ((P.info? f.type).map (·.size)).getD 0)).toArray[i]? : Option (Nat × Nat))) = fieldPlace' P fs := by
          funext i
          simp only [List.getElem?_toArray, List.getElem?_map, fieldPlace', Array.getElem?_toList]
          cases hfi : fs[i]? with
          | none => rfl
          | some f =>
            have hm : f ∈ fs.toList := by
              rw [← Array.getElem?_toList] at hfi
              exact List.mem_of_getElem? hfi
            obtain ⟨j, hj⟩ := Option.isSome_iff_exists.1 ((List.all_eq_true.1 hk) f hm)
            simp [hj]
        refine ⟨?_, by simp only [AV.lt]; exact fillL_lt qs z.cells r hr (AV.cells_lt hzl) (partVals_lt htl lp qs g3 hqs)⟩
        simp only [execOp, ho, Instr.build, Sem.run_bind, run_zeroValue hi hzv, Result.andThen_ok, run_underlying hu]
        rw [Array.mapM_eq_mapM_toList]
        simp only [Sem.run_map, hmap, Result.andThen_ok, hplace, hcells, Array.toList_map]
        rw [hf]
        simp [AV.conc]
      · cases hv
    · cases hres
  · rename_i k e hu
    simp only [Option.bind_eq_some_iff, Option.pure_def, Option.some.injEq] at hres
    obtain ⟨inf2, hi2, lp, hlp, rfl⟩ := hres
    simp only [LOp.pv] at hv
    split at hv
    · rename_i qs hqs
      simp only [Option.map_eq_some_iff] at hv
      obtain ⟨r, hr, rfl⟩ := hv
      obtain ⟨g1, g2, g3⟩ := parts_sound ht parts.toList lp qs hlp hqs
      have hf := fill_sound (ι := ι) (parts.toList.map fun (p : Nat × Operand) => (p.1, a.eval p.2)) qs (fun i => some (i * inf2.size, inf2.size)) z.cells r g1 g2 hr
      refine ⟨?_, by simp only [AV.lt]; exact fillL_lt qs z.cells r hr (AV.cells_lt hzl) (partVals_lt htl lp qs g3 hqs)⟩
      simp only [execOp, ho, Instr.build, Sem.run_bind, run_zeroValue hi hzv, Result.andThen_ok, run_underlying hu, run_sizeOf' hi2, hcells, Array.toList_map]
      rw [hf]
      simp [AV.conc]
    · cases hv
  · cases hres

theorem run_loadVar_agg {t : TypeId} {inf : TypeInfo} {i off : Nat} {l : List AV} (hr : HR ι hp w) (hag : aggT P t = some true) (hi : P.info? t = some inf) (hc : hp.cells? i off inf.size = some l) :
    (loadVar t ⟨ι.blk i, off, none⟩).run P w = .ok (.agg (concL ι l).toArray) w := by
  unfold aggT at hag
  have hlc := hr.loadCells (P := P) hc
  split at hag
  · rename_i fs hu; simp [loadVar, isAgg, run_underlying hu, run_sizeOf' hi, hlc]
  · rename_i k e hu; simp [loadVar, isAgg, run_underlying hu, run_sizeOf' hi, hlc]
  · simp at hag
  · cases hag
theorem run_loadVar_one {t : TypeId} {i off : Nat} {v : AV} (hr : HR ι hp w) (hag : aggT P t = some false) (hc : hp.cells? i off 1 = some [v]) :
    (loadVar t ⟨ι.blk i, off, none⟩).run P w = .ok (v.conc ι) w := by
  obtain ⟨_, hcell⟩ := hr.cells hc
  have h0 := hcell 0 v rfl
  unfold aggT at hag
  split at hag
  · simp at hag
  · simp at hag
  · rename_i d hns hna hu
    cases d <;> first
      | (exact (hns _ rfl).elim)
      | (exact (hna _ _ rfl).elim)
      | (simp only [Nat.add_zero] at h0; simp [loadVar, isAgg, run_underlying hu, h0])
  · cases hag

theorem s_load {t : TypeId} {x : Operand} (ht : TmR ι tm a) (hr : HR ι hp w) (hl : hp.lt n = true) (ho : o.op = .load t x) (hres : resolveOp P o = some lo) (hv : lo.pv tm hp = some v) : PureOK P o ι n a w v := by
  simp only [resolveOp, ho, Option.bind_eq_bind, Option.bind_eq_some_iff] at hres
  obtain ⟨lx, hx, hres⟩ := hres
  split at hres
  · rename_i inf hag hi
    simp only [Option.pure_def, Option.some.injEq] at hres; subst hres
    simp only [LOp.pv] at hv
    split at hv
    · rename_i i off hxv
      simp only [Option.map_eq_some_iff] at hv
      obtain ⟨l, hc, rfl⟩ := hv
      have h1 := ht.opd hx hxv
      refine ⟨?_, by simp only [AV.lt]; exact AHeap.cells?_lt hl hc⟩
      simp [execOp, ho, h1, AV.conc, Instr.loadAt, Instr.sureAddr, run_loadVar_agg hr hag hi hc]
    · rename_i g off hxv
      simp only [Option.map_eq_some_iff] at hv
      obtain ⟨l, hc, rfl⟩ := hv
      obtain ⟨i, _, hb, hc⟩ := hr.gcells hc
      have h1 := ht.opd hx hxv
      refine ⟨?_, by simp only [AV.lt]; exact AHeap.cells?_lt hl hc⟩
      have := run_loadVar_agg (P := P) hr hag hi hc
      rw [hb] at this
      simp [execOp, ho, h1, AV.conc, Instr.loadAt, Instr.sureAddr, this]
    · cases hv
  · rename_i hag
    simp only [Option.pure_def, Option.some.injEq] at hres; subst hres
    simp only [LOp.pv] at hv
    split at hv
    · rename_i i off hxv
      split at hv
      · rename_i u hc
        simp only [Option.some.injEq] at hv; subst hv
        have h1 := ht.opd hx hxv
        have hlt := AHeap.cells?_lt hl hc
        simp only [ltL, Bool.and_true] at hlt
        refine ⟨?_, hlt⟩
        simp [execOp, ho, h1, AV.conc, Instr.loadAt, Instr.sureAddr, run_loadVar_one hr hag hc]
      · cases hv
    · rename_i g off hxv
      split at hv
      · rename_i u hc
        simp only [Option.some.injEq] at hv; subst hv
        obtain ⟨i, _, hb, hc⟩ := hr.gcells hc
        have h1 := ht.opd hx hxv
        have hlt := AHeap.cells?_lt hl hc
        simp only [ltL, Bool.and_true] at hlt
        refine ⟨?_, hlt⟩
        have := run_loadVar_one (P := P) hr hag hc
        rw [hb] at this
        simp [execOp, ho, h1, AV.conc, Instr.loadAt, Instr.sureAddr, this]
      · cases hv
    · cases hv
  · cases hres

theorem s_nilchk {x : Operand} (ht : TmR ι tm a) (htl : tm.lt n = true) (ho : o.op = .nilCheck x) (hres : resolveOp P o = some lo) (hv : lo.pv tm hp = some v) : PureOK P o ι n a w v := by
  simp only [resolveOp, ho, Option.map_eq_some_iff] at hres
  obtain ⟨lx, hx, rfl⟩ := hres
  simp only [LOp.pv] at hv
  split at hv <;> first
    | (rename_i hxv
       have h1 := ht.opd hx hxv
       have h2 := opd_lt htl hx hxv
       simp only [Option.some.injEq] at hv; subst hv
       exact ⟨by simp [execOp, ho, h1, AV.conc], h2⟩)
    | cases hv
end
end Go.Ax
