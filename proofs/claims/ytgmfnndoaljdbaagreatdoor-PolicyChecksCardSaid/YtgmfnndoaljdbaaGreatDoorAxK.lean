/- Stores, make, append. -/
import Derived.Test.YtgmfnndoaljdbaaGreatDoorAxJ
set_option linter.all false
namespace Go.Ax
open Go
set_option maxRecDepth 20000

section
variable {P : Program} {o : Oper} {ι : Env} {tm : LTm} {hp hp' : AHeap} {n n' : Nat} {a : Act} {w : World} {lo : LOp} {v : AV}

theorem one_conc {v : AV} (h : v.one = true) : (v.conc ι).oneCell' = true := by cases v <;> first | rfl | (simp [AV.one] at h)
theorem one_concL {l : List AV} (h : l.all AV.one = true) : ∀ u ∈ concL ι l, u.oneCell' = true := by
  intro u hu
  rw [concL_eq, List.mem_map] at hu
  obtain ⟨v, hv, rfl⟩ := hu
  exact one_conc ((List.all_eq_true.1 h) v hv)

/- cells laid over a part of a row that is owned -/
theorem put_row (hr : HR ι hp w) (hl : hp.lt n = true) {i : Nat} {cs : List AV} {e : TypeId} {g : Option (Nat × Nat × Nat)} (hg : hp.get? i = some (.own cs e g (0, 0))) {off : Nat} {vs : List AV}
    (hle : off + vs.length ≤ cs.length) (h1 : vs.all AV.one = true) (hvl : ltL n vs = true) :
    ∃ w', (storeCells ⟨ι.blk i, off, none⟩ (concL ι vs)).run P w = .ok () w' ∧
      HR ι (hp.put i (.own (cs.take off ++ vs ++ cs.drop (off + vs.length)) e g (0, 0))) w' ∧ (hp.put i (.own (cs.take off ++ vs ++ cs.drop (off + vs.length)) e g (0, 0))).lt n = true ∧
      StepR n ι hp w n ι (hp.put i (.own (cs.take off ++ vs ++ cs.drop (off + vs.length)) e g (0, 0))) w' := by
  obtain ⟨ob, hob, hf⟩ := hr.get hg
  have hcl := (AHeap.lt_get hl hg).2
  have key : ∃ rest : List Value, ob = .cells (concL ι cs ++ rest).toArray e (0, 0) ∧ (g = none → rest = []) ∧ (∀ x es k, g = some (x, es, k) → cs.length + rest.length = (k + ι.cap x) * es) := by
    cases g with
    | none => exact ⟨[], by simpa [AObj.fits] using hf, fun _ => rfl, by simp⟩
    | some p =>
      obtain ⟨x, es, k⟩ := p
      obtain ⟨rest, h1, h2⟩ := hf
      exact ⟨rest, h1, by simp, by rintro _ _ _ ⟨⟩; exact h2⟩
  obtain ⟨rest, rfl, hg0, hg1⟩ := key
  have hst := run_storeCells_at P (ι.blk i) off e (concL ι vs) 0 (concL ι cs ++ rest).toArray w hob (by simp; omega) (one_concL h1)
  simp only [Nat.add_zero, concL_length] at hst
  have hnew : ((concL ι cs ++ rest).toArray.toList.take off ++ concL ι vs ++ (concL ι cs ++ rest).toArray.toList.drop (off + vs.length)) = concL ι (cs.take off ++ vs ++ cs.drop (off + vs.length)) ++ rest := by
    simp only [concL_eq, List.map_append, List.map_take, List.map_drop]
    rw [List.take_append_of_le_length (by simp; omega), List.drop_append_of_le_length (by simp; omega)]
    simp only [List.append_assoc]
  rw [hnew] at hst
  refine ⟨_, hst, ?_, ?_, ?_⟩
  · refine hr.put hg rfl rfl _ (setRow_heap w (ι.blk i) _ _ e _ hob) ?_ (fun b hb => setRow_other w _ b _ hb)
    cases g with
    | none => simp [AObj.fits, hg0 rfl]
    | some p =>
      obtain ⟨x, es, k⟩ := p
      refine ⟨rest, rfl, ?_⟩
      rw [← hg1 x es k rfl]
      simp only [List.length_append, List.length_take, List.length_drop]; omega
  · refine AHeap.put_lt hl ?_
    simp only [AObj.lt, Bool.and_eq_true] at hcl ⊢
    refine ⟨?_, hcl.2⟩
    rw [ltL_append, ltL_append, ltL_take hcl.1, ltL_drop hcl.1, hvl]; rfl
  · exact stepR_put hg rfl rfl rfl rfl (by simp) (fun b hb => setRow_other w _ b _ hb)

theorem s_store {t : TypeId} {x y : Operand} (ht : TmR ι tm a) (htl : tm.lt n = true) (hr : HR ι hp w) (hl : hp.lt n = true) (ho : o.op = .store t x y) (hres : resolveOp P o = some lo) (hev : lo.eval tm hp n = some (v, hp', n')) : OpOK P o ι hp n a w v hp' n' := by
  simp only [resolveOp, ho, Option.bind_eq_bind, Option.bind_eq_some_iff, Option.pure_def, Option.some.injEq] at hres
  obtain ⟨inf, hi, lx, hx, ly, hy, rfl⟩ := hres
  simp only [LOp.eval] at hev
  split at hev
  · rename_i i off u h1 h2
    split at hev
    · rename_i cs e g hg
      split at hev
      · rename_i hc
        simp only [Option.some.injEq, Prod.mk.injEq] at hev
        obtain ⟨rfl, rfl, rfl⟩ := hev
        have e1 := ht.opd hx h1
        have e2 := ht.opd hy h2
        have l2 := AV.cells_lt (opd_lt htl hy h2)
        obtain ⟨w', hw, g1, g2, g3⟩ := put_row (P := P) hr hl hg (off := off) (vs := u.cells) (by rw [hc.1]; exact hc.2.1) hc.2.2 l2
        rw [hc.1] at g1 g2 g3
        refine ⟨ι, w', .skip, ?_, .inr ⟨rfl, rfl⟩, g1, g2, rfl, g3⟩
        have hsz : (concL ι u.cells).toArray.size = inf.size := by simp [hc.1]
        simp only [execOp, ho, e1, e2, Instr.storeAt, AV.conc, Instr.sureAddr, Sem.run_bind, Sem.run_pure, Result.andThen_ok, storeVar, run_sizeOf' hi, AV.conc_cells, hsz, ne_eq, not_true_eq_false, if_false]
        rw [hw]
        rfl
      · cases hev
    · cases hev
  · cases hev

theorem s_makeSlice {t : TypeId} {x y : Operand} (ht : TmR ι tm a) (hr : HR ι hp w) (hl : hp.lt n = true) (ho : o.op = .makeSlice t x y) (hres : resolveOp P o = some lo) (hev : lo.eval tm hp n = some (v, hp', n')) : OpOK P o ι hp n a w v hp' n' := by
  simp only [resolveOp, ho] at hres
  split at hres
  · rename_i e hu
    simp only [Option.bind_eq_bind, Option.bind_eq_some_iff] at hres
    obtain ⟨inf, hi, z, hz, hres⟩ := hres
    split at hres
    · rename_i hzs
      simp only [Option.bind_eq_some_iff, Option.pure_def, Option.some.injEq] at hres
      obtain ⟨lx, hx, ly, hy, rfl⟩ := hres
      obtain ⟨inf', zv, hi', hzv, hzc, hzl⟩ := zero_of (ι := ι) (n := n) hz
      have : inf' = inf := by rw [hi] at hi'; injection hi' with h; exact h.symm
      subst this
      have hcells : zv.cells = (concL ι z.cells).toArray := by rw [hzc, AV.conc_cells]
      simp only [LOp.eval] at hev
      split at hev
      · rename_i l c h1 h2
        split at hev
        · rename_i hc
          obtain ⟨c1, c2, c3, c4⟩ := hc
          simp only [Option.some.injEq, Prod.mk.injEq] at hev
          obtain ⟨rfl, rfl, rfl⟩ := hev
          have e1 := ht.opd hx h1
          have e2 := ht.opd hy h2
          obtain ⟨g1, g2, g3⟩ := new_row hr hl (replicateL_lt (AV.cells_lt hzl) c.toNat) e
          refine ⟨_, _, _, ?_, .inl rfl, g1, g2, by simp [AV.lt, ACap.lt], g3⟩
          have hwl : IntKind.i64.wrap l = l := by rw [IntKind.wrap_i64]; omega
          have hwc : IntKind.i64.wrap c = c := by rw [IntKind.wrap_i64]; omega
          have hmul : (inf'.bytes : Int) * c ≤ 281474976710656 := by rw [Int.mul_comm]; exact c3
          simp only [execOp, ho, e1, e2, AV.conc, Instr.makeSlice, Sem.run_bind, run_underlying hu, Result.andThen_ok, asInt, asIntOf, Sem.run_pure, typeInfo, run_program, hi, hwl, hwc]
          have hno : ((c < 0 || (inf'.bytes : Int) * c > 2 ^ 48) || l < 0 || l > c) = false := by
            simp only [Bool.or_eq_false_iff, decide_eq_false_iff_not]
            exact ⟨⟨⟨by omega, by omega⟩, by omega⟩, by omega⟩
          rw [if_neg (by rw [hno]; simp)]
          simp only [Sem.run_bind, run_askRoom, Result.andThen_ok, run_sizeOf' hi]
          by_cases h0 : c.toNat * inf'.size = 0
          · have he : (concL ι (replicateL c.toNat z.cells)).toArray = #[] := by
              have : (replicateL c.toNat z.cells) = [] := by
                apply List.eq_nil_of_length_eq_zero
                simp [replicateL, hzs, h0]
              rw [this]; rfl
            have hrange : ((Array.range (c.toNat * inf'.size)).map fun i => (#[] : Array Value)[i % (#[] : Array Value).size]!) = (concL ι (replicateL c.toNat z.cells)).toArray := by
              rw [he]; simp [h0]
            rw [if_pos h0]
            simp only [Sem.run_bind, Sem.run_pure, Result.andThen_ok, hrange, run_newRow', ext_blk, ACap.val]
          · have hrange : ((Array.range (c.toNat * inf'.size)).map fun i => (concL ι z.cells).toArray[i % (concL ι z.cells).toArray.size]!) = (concL ι (replicateL c.toNat z.cells)).toArray := by
              rw [concL_replicate, ← replicate_cells, concL_length, hzs]
            rw [if_neg h0]
            simp only [Sem.run_bind, Sem.run_pure, Result.andThen_ok, run_zeroValue hi hzv, hcells, hrange, run_newRow', ext_blk, ACap.val]
        · cases hev
      · cases hev
    · cases hres
  · cases hres

/- what is appended: how many, and its cells, in a world with these cells -/
theorem src_run (hr : HR ι hp w) {es m : Nat} {x : AV} {news : List AV} (hs : srcCells hp es x = some (m, news)) :
    (Builtin.lenOf (x.conc ι)).run P w = .ok m w ∧ (∀ k, (Builtin.firstCells es m (x.conc ι)).run P { w with drawn := k } = .ok (concL ι news).toArray { w with drawn := k }) ∧ news.length = m * es := by
  unfold srcCells at hs
  split at hs
  · simp only [Option.some.injEq, Prod.mk.injEq] at hs; obtain ⟨rfl, rfl⟩ := hs
    exact ⟨rfl, fun _ => rfl, by simp⟩
  · rename_i i off len c
    simp only [Option.map_eq_some_iff, Prod.mk.injEq] at hs
    obtain ⟨l, hc, rfl, rfl⟩ := hs
    refine ⟨rfl, fun k => ?_, (hr.cells hc).1⟩
    have hr' : HR ι hp { w with drawn := k } := hr.keep fun _ _ _ => rfl
    simp only [AV.conc, Builtin.firstCells]
    exact hr'.loadCells hc
  · rename_i s
    split at hs
    · rename_i he
      subst he
      simp only [Option.some.injEq, Prod.mk.injEq] at hs; obtain ⟨rfl, rfl⟩ := hs
      refine ⟨by simp [AV.conc, Builtin.lenOf, size_str], fun k => ?_, by simp⟩
      simp only [AV.conc, Builtin.firstCells, Sem.run_pure]
      congr 1
      apply Array.toList_inj.1
      simp only [concL_eq, List.map_map, Array.toList_map]
      have : ((⟨s.toArray⟩ : ByteArray).extract 0 s.length).data.toList = s := by simp [ByteArray.data_extract]
      rw [this]
      rfl
    · cases hs
  · cases hs

theorem srcCells_lt (hl : hp.lt n = true) {es m : Nat} {x : AV} {news : List AV} (hs : srcCells hp es x = some (m, news)) : ltL n news = true := by
  unfold srcCells at hs
  split at hs
  · simp only [Option.some.injEq, Prod.mk.injEq] at hs; obtain ⟨_, rfl⟩ := hs; rfl
  · simp only [Option.map_eq_some_iff, Prod.mk.injEq] at hs
    obtain ⟨l, hc, _, rfl⟩ := hs
    exact AHeap.cells?_lt hl hc
  · split at hs
    · simp only [Option.some.injEq, Prod.mk.injEq] at hs; obtain ⟨_, rfl⟩ := hs
      rw [ltL_eq, List.all_map]
      exact List.all_eq_true.2 fun _ _ => rfl
    · cases hs
  · cases hs

theorem zeroCells_size (z : Array Value) (k : Nat) : (Builtin.zeroCells z k).size = k * z.size := by simp [Builtin.zeroCells]

/- a new row that may be longer than what is known of it -/
theorem new_grow (hr : HR ι hp w) (hl : hp.lt n = true) {cs : List AV} (hc : ltL n cs = true) (elem es need cap : Nat) (_hcap : need ≤ cap) (hlen : cs.length = need * es) (k : Nat) (rest : Array Value) (hrest : rest.size = (cap - need) * es) :
    HR (ι.ext n w.heap.size (cap - need)) ((n, .own cs elem (some (n, es, need)) (0, 0)) :: hp) (({ w with drawn := k } : World).alloc (.cells ((concL ι cs).toArray ++ rest) elem)) ∧
    AHeap.lt (n + 1) ((n, .own cs elem (some (n, es, need)) (0, 0)) :: hp) = true ∧
    StepR n ι hp w (n + 1) (ι.ext n w.heap.size (cap - need)) ((n, .own cs elem (some (n, es, need)) (0, 0)) :: hp) (({ w with drawn := k } : World).alloc (.cells ((concL ι cs).toArray ++ rest) elem)) := by
  have hr' : HR ι hp ({ w with drawn := k } : World) := hr.keep fun _ _ _ => rfl
  have h := hr'.new hl (.cells ((concL ι cs).toArray ++ rest) elem) (.own cs elem (some (n, es, need)) (0, 0)) (cap - need) (by
    refine ⟨rest.toList, ?_, ?_⟩
    · rw [concL_agree (Env.ext_agree ι n _ (cap - need)) cs hc]
      congr 1
      apply Array.toList_inj.1; simp
    · rw [ext_cap, hlen, Array.length_toList, hrest, ← Nat.add_mul]
  )
  refine ⟨h.1, cons_lt hl ?_, ?_⟩
  · simp only [AObj.lt, Bool.and_eq_true, decide_eq_true_eq]
    exact ⟨ltL_mono (Nat.le_succ n) cs hc, Nat.lt_succ_self n⟩
  · exact ⟨h.2.le, h.2.agree, ⟨h.2.kept.os, h.2.kept.tape, h.2.kept.output, h.2.kept.size, h.2.kept.block⟩, h.2.owns⟩

theorem mkgrow {elem es bytes m len : Nat} {i : TypeInfo} {z : Value} {t t' ty : TypeId} {d' : TypeDesc} {s x : AV} {news olds : List AV} {sCap : Nat} {base : Option Addr}
    (ht : P.underlying t = some (.slice elem)) (ht' : P.underlying t' = some d') (hd' : (∃ e, d' = .slice e) ∨ d' = .string) (hi : P.info? elem = some i) (hz : i.zero = some z) (hes : i.size = es) (hby : i.bytes = bytes) (hzs : z.cells.size = es)
    (hr : HR ι hp w) (hl : hp.lt n = true) (hs : srcCells hp es x = some (m, news)) (hS : s.conc ι = .slice base len sCap) (holds : ∀ k, (Builtin.firstCells es len (.slice base len sCap)).run P { w with drawn := k } = .ok (concL ι olds).toArray { w with drawn := k })
    (hol : olds.length = len * es) (holt : ltL n olds = true) (hgrow : sCap < len + m) (hb : (len + m) * bytes ≤ growBound) (hb0 : 0 < bytes) :
    ∃ c w', len + m ≤ c ∧ (Builtin.append_ #[t, t'] ty #[s.conc ι, x.conc ι]).run P w = .ok (.slice (some ⟨w.heap.size, 0, none⟩) (len + m) c) w' ∧
      HR (ι.ext n w.heap.size (c - (len + m))) ((n, .own (olds ++ news) elem (some (n, es, len + m)) (0, 0)) :: hp) w' ∧
      AHeap.lt (n + 1) ((n, .own (olds ++ news) elem (some (n, es, len + m)) (0, 0)) :: hp) = true ∧
      StepR n ι hp w (n + 1) (ι.ext n w.heap.size (c - (len + m))) ((n, .own (olds ++ news) elem (some (n, es, len + m)) (0, 0)) :: hp) w' := by
  subst hes; subst hby
  obtain ⟨s1, s2, s3⟩ := src_run (P := P) hr hs
  have hnl := srcCells_lt hl hs
  have hfits := growslice_fits hgrow hb
  have hlb : len + m ≤ growBound := by
    have : (len + m) * 1 ≤ (len + m) * i.bytes := Nat.mul_le_mul_left _ hb0
    omega
  have h := new_grow (ι := ι) (hp := hp) (n := n) hr hl (cs := olds ++ news) (by rw [ltL_append, holt, hnl]; rfl) elem i.size (len + m) (grownCap w (len + m) sCap elem) (grownCap_ge _ _ _ _) (by rw [List.length_append, hol, s3, Nat.add_mul]) (w.drawn + 1)
      (Builtin.zeroCells z.cells (grownCap w (len + m) sCap elem - (len + m))) (by rw [zeroCells_size, hzs])
  refine ⟨grownCap w (len + m) sCap elem, _, grownCap_ge w (len + m) sCap elem, ?_, h⟩
  have hcap : ¬ (281474976710656 < Builtin.nextslicecap (len + m) sCap * i.bytes) := by omega
  have hroom : ¬ (len + m ≤ sCap) := by omega
  have hb1 : ¬ (i.bytes = 0) := by omega
  have s2' : (Builtin.firstCells i.size m (x.conc ι)).run P w.drew = .ok (concL ι news).toArray w.drew := s2 _
  have hold' : (Builtin.firstCells i.size len (.slice base len sCap)).run P w.drew = .ok (concL ι olds).toArray w.drew := holds _
  rw [hS]
  rcases hd' with ⟨e', rfl⟩ | rfl <;>
  simp [Builtin.append_, run_underlying ht, run_underlying ht', sizeOf, typeInfo, zeroValue, hi, hz, s1, s2', hold', hroom, hcap, hb1, Question.forced, newRow, grownCap, concL_append] <;>
  · congr 2
    apply Array.toList_inj.1
    simp
end
end Go.Ax
