/- Operations that make or write memory. -/
import Derived.Test.YtgmfnndoaljdbaaGreatDoorAxI
set_option linter.all false
namespace Go.Ax
open Go
set_option maxRecDepth 20000

section
variable {P : Program} {o : Oper} {ι : Env} {tm : LTm} {hp hp' : AHeap} {n n' : Nat} {a : Act} {w : World} {lo : LOp} {v : AV}

def NxIs (ι : Env) (v : AV) (nx : Next) : Prop := nx = .value (v.conc ι) ∨ (nx = .skip ∧ v = .tuple [])

def OpOK (P : Program) (o : Oper) (ι : Env) (hp : AHeap) (n : Nat) (a : Act) (w : World) (v : AV) (hp' : AHeap) (n' : Nat) : Prop :=
  ∃ ι' w' nx, (execOp a.eval o).run P w = .ok nx w' ∧ NxIs ι' v nx ∧ HR ι' hp' w' ∧ hp'.lt n' = true ∧ v.lt n' = true ∧ StepR n ι hp w n' ι' hp' w'

theorem PureOK.op (h : PureOK P o ι n a w v) (hr : HR ι hp w) (hl : hp.lt n = true) : OpOK P o ι hp n a w v hp n :=
  ⟨ι, w, _, h.1, .inl rfl, hr, hl, h.2, .refl _ _ _ _⟩

theorem cons_lt (hl : hp.lt n = true) {o : AObj} (ho : o.lt (n + 1) = true) : AHeap.lt (n + 1) ((n, o) :: hp) = true := by
  have := AHeap.lt_mono (Nat.le_succ n) hl
  simp only [AHeap.lt, List.all_cons, Bool.and_eq_true, decide_eq_true_eq] at this ⊢
  exact ⟨⟨by omega, ho⟩, this⟩

/- a new row -/
theorem new_row (hr : HR ι hp w) (hl : hp.lt n = true) {cs : List AV} (hc : ltL n cs = true) (elem : TypeId) :
    HR (ι.ext n w.heap.size 0) ((n, .own cs elem none (0, 0)) :: hp) (w.alloc (.cells (concL ι cs).toArray elem)) ∧
    AHeap.lt (n + 1) ((n, .own cs elem none (0, 0)) :: hp) = true ∧
    StepR n ι hp w (n + 1) (ι.ext n w.heap.size 0) ((n, .own cs elem none (0, 0)) :: hp) (w.alloc (.cells (concL ι cs).toArray elem)) := by
  have h := hr.new hl (.cells (concL ι cs).toArray elem) (.own cs elem none (0, 0)) 0 (by
    simp only [AObj.fits, concL_agree (Env.ext_agree ι n w.heap.size 0) cs hc])
  exact ⟨h.1, cons_lt hl (by simp only [AObj.lt, Bool.and_true]; exact ltL_mono (Nat.le_succ n) cs hc), h.2⟩

theorem run_newRow' (elem : TypeId) (cs : Array Value) : (newRow elem cs).run P w = .ok ⟨w.heap.size, 0, none⟩ (w.alloc (.cells cs elem)) := rfl

theorem ext_blk (c : Nat) : (ι.ext n w.heap.size c).blk n = w.heap.size := by simp [Env.ext]
theorem ext_cap (b c : Nat) : (ι.ext n b c).cap n = c := by simp [Env.ext]

theorem s_new {elem : TypeId} {lx : LOpd} {u : AV} {V : Value} (hr : HR ι hp w) (hl : hp.lt n = true) (hlo : lo = .new elem lx) (hu : lx.val tm = some u) (hult : u.lt n = true) (hV : V = u.conc ι)
    (hrun : (execOp a.eval o).run P w = ((newVar elem V).run P w).andThen fun r w' => .ok (.value (.pointer (some r))) w') (hev : lo.eval tm hp n = some (v, hp', n')) : OpOK P o ι hp n a w v hp' n' := by
  subst hlo; subst hV
  simp only [LOp.eval, hu, Option.some.injEq, Prod.mk.injEq] at hev
  obtain ⟨rfl, rfl, rfl⟩ := hev
  obtain ⟨h1, h2, h3⟩ := new_row hr hl (AV.cells_lt hult) elem
  refine ⟨_, _, _, ?_, .inl rfl, h1, h2, by simp [AV.lt], h3⟩
  rw [hrun]
  simp only [newVar, AV.conc_cells, run_newRow', Result.andThen_ok, AV.conc, ext_blk]

theorem s_alloc {e : TypeId} (hr : HR ι hp w) (hl : hp.lt n = true) (ho : o.op = .alloc e) (hres : resolveOp P o = some lo) (hev : lo.eval tm hp n = some (v, hp', n')) : OpOK P o ι hp n a w v hp' n' := by
  simp only [resolveOp, ho, Option.map_eq_some_iff] at hres
  obtain ⟨z, hz, rfl⟩ := hres
  obtain ⟨inf, zv, hi, hzv, hzc, hzl⟩ := zero_of (ι := ι) (n := n) hz
  refine s_new hr hl rfl (u := z) rfl hzl hzc ?_ hev
  simp only [execOp, ho, Instr.alloc, Sem.run_bind, run_zeroValue hi hzv, Result.andThen_ok, newVar, run_newRow', Sem.run_pure]

theorem s_box {e : TypeId} {x : Operand} (ht : TmR ι tm a) (htl : tm.lt n = true) (hr : HR ι hp w) (hl : hp.lt n = true) (ho : o.op = .box e x) (hres : resolveOp P o = some lo) (hev : lo.eval tm hp n = some (v, hp', n')) : OpOK P o ι hp n a w v hp' n' := by
  simp only [resolveOp, ho, Option.map_eq_some_iff] at hres
  obtain ⟨lx, hx, rfl⟩ := hres
  have hev' := hev
  simp only [LOp.eval] at hev'
  split at hev'
  · rename_i u hu
    refine s_new hr hl rfl hu (opd_lt htl hx hu) (ht.opd hx hu) ?_ hev
    simp only [execOp, ho, Instr.box, Sem.run_bind, newVar, run_newRow', Result.andThen_ok, Sem.run_pure]
  · cases hev'

theorem getElem!_list {z : List Value} (i : Nat) (hz : 0 < z.length) : (z.toArray)[i % z.toArray.size]! = z[i % z.length]'(Nat.mod_lt _ hz) := by
  have h : i % z.length < z.length := Nat.mod_lt _ hz
  simp [h]

theorem replicate_cells (z : List Value) : ∀ k, ((Array.range (k * z.length)).map fun i => z.toArray[i % z.toArray.size]!) = (List.replicate k z).flatten.toArray := by
  intro k
  apply Array.toList_inj.1
  simp only [Array.toList_map, Array.toList_range, List.toArray]
  rcases Nat.eq_zero_or_pos z.length with h0 | h0
  · have : z = [] := List.eq_nil_of_length_eq_zero h0
    subst this; simp
  induction k with
  | zero => simp
  | succ k ih =>
    rw [List.replicate_succ', List.flatten_append, Nat.succ_mul, List.range_add, List.map_append, ih]
    congr 1
    simp only [List.flatten_cons, List.flatten_nil, List.append_nil, List.map_map]
    apply List.ext_getElem
    · simp
    · intro j h1 h2
      simp only [List.getElem_map, List.getElem_range, Function.comp_apply]
      rw [getElem!_list _ h0]
      congr 1
      rw [Nat.mul_comm, Nat.mul_add_mod]
      exact Nat.mod_eq_of_lt h2

theorem concL_replicate (z : List AV) (k : Nat) : concL ι (replicateL k z) = (List.replicate k (concL ι z)).flatten := by
  simp [replicateL, concL_eq, List.map_flatten]
theorem replicateL_lt {z : List AV} (hz : ltL n z = true) (k : Nat) : ltL n (replicateL k z) = true := by
  rw [ltL_eq, List.all_eq_true] at hz ⊢
  intro v hv
  simp only [replicateL, List.mem_flatten, List.mem_replicate] at hv
  obtain ⟨l, ⟨_, rfl⟩, hv⟩ := hv
  exact hz v hv

theorem s_buildSlice {t : TypeId} {len : Nat} {parts : Array (Nat × Operand)} (ht : TmR ι tm a) (htl : tm.lt n = true) (hr : HR ι hp w) (hl : hp.lt n = true) (ho : o.op = .buildSlice t len parts)
    (hres : resolveOp P o = some lo) (hev : lo.eval tm hp n = some (v, hp', n')) : OpOK P o ι hp n a w v hp' n' := by
  simp only [resolveOp, ho] at hres
  split at hres
  · rename_i e hu
    simp only [Option.bind_eq_bind, Option.bind_eq_some_iff] at hres
    obtain ⟨inf, hi, z, hz, hres⟩ := hres
    split at hres
    · rename_i hc
      simp only [Option.bind_eq_some_iff, Option.pure_def, Option.some.injEq] at hres
      obtain ⟨lp, hlp, rfl⟩ := hres
      obtain ⟨inf', zv, hi', hzv, hzc, hzl⟩ := zero_of (ι := ι) (n := n) hz
      have : inf' = inf := by rw [hi] at hi'; injection hi' with h; exact h.symm
      subst this
      have hcells : zv.cells = (concL ι z.cells).toArray := by rw [hzc, AV.conc_cells]
      simp only [LOp.eval] at hev
      split at hev
      · rename_i qs hqs
        split at hev
        · rename_i cs hcs
          simp only [Option.some.injEq, Prod.mk.injEq] at hev
          obtain ⟨rfl, rfl, rfl⟩ := hev
          obtain ⟨g1, g2, g3⟩ := parts_sound ht parts.toList lp qs hlp hqs
          have hf := fill_sound (ι := ι) (parts.toList.map fun (p : Nat × Operand) => (p.1, a.eval p.2)) qs (fun i => some (i * inf'.size, inf'.size)) _ cs g1 g2 hcs
          have hcl : ltL n cs = true := fillL_lt qs _ cs hcs (replicateL_lt (AV.cells_lt hzl) len) (partVals_lt htl lp qs g3 hqs)
          obtain ⟨h1, h2, h3⟩ := new_row hr hl hcl e
          refine ⟨_, _, _, ?_, .inl rfl, h1, h2, by simp [AV.lt, ACap.lt], h3⟩
          simp only [execOp, ho, Instr.buildSlice, Sem.run_bind, run_underlying hu, Result.andThen_ok, run_sizeOf' hi]
          rw [if_neg (by have := hc.2; omega)]
          simp only [Sem.run_pure]
          by_cases h0 : len * inf'.size = 0
          · have he : (concL ι (replicateL len z.cells)).toArray = #[] := by
              have : (replicateL len z.cells) = [] := by
                apply List.eq_nil_of_length_eq_zero
                simp [replicateL, hc.1, h0]
              rw [this]; rfl
            have hrange : ((Array.range (len * inf'.size)).map fun i => (#[] : Array Value)[i % (#[] : Array Value).size]!) = (concL ι (replicateL len z.cells)).toArray := by
              rw [he]; simp [h0]
            rw [if_pos h0]
            simp only [Sem.run_bind, Sem.run_pure, Result.andThen_ok, Array.toList_map]
            rw [hrange, hf]
            simp only [Sem.run_bind, Sem.run_pure, Result.andThen_ok, run_newRow', AV.conc, ext_blk, ACap.val]
          · have hrange : ((Array.range (len * inf'.size)).map fun i => (concL ι z.cells).toArray[i % (concL ι z.cells).toArray.size]!) = (concL ι (replicateL len z.cells)).toArray := by
              rw [concL_replicate, ← replicate_cells, concL_length, hc.1]
            rw [if_neg h0]
            simp only [Sem.run_bind, Sem.run_pure, Result.andThen_ok, Array.toList_map, run_zeroValue hi hzv, hcells]
            rw [hrange, hf]
            simp only [Sem.run_bind, Sem.run_pure, Result.andThen_ok, run_newRow', AV.conc, ext_blk, ACap.val]
        · cases hev
      · cases hev
    · cases hres
  · cases hres
end
end Go.Ax
