/- The model's operation does what the resolved one says: operations that leave the memory alone. -/
import Derived.Test.YtgmfnndoaljdbaaGreatDoorAxC
set_option linter.all false
namespace Go.Ax
open Go
set_option maxRecDepth 20000

section
variable {P : Program} {o : Oper} {ι : Env} {tm : LTm} {hp : AHeap} {n : Nat} {a : Act} {w : World}

theorem eqGuard_quiet (op : BinOp) (t : TypeId) (x y : Operand) (u v : Value) (h : (op = .eql ∨ op = .neq) → (∀ l m, u = .agg l → v = .agg m → False) ∧ (u = .nilIface → v = .nilIface → Region.isConst x = true ∨ Region.isConst y = true)) :
    (eqGuard op t x y u v).run P w = .ok () w := by
  have key : ∀ op' : BinOp, (op' = .eql ∨ op' = .neq) → op = op' → (eqGuard op' t x y u v).run P w = .ok () w := by
    intro op' hop he
    subst he
    obtain ⟨h1, h2⟩ := h hop
    rcases hop with rfl | rfl <;> cases u <;> cases v <;> first
      | rfl
      | (exact (h1 _ _ rfl rfl).elim)
      | (have h3 := h2 rfl rfl
         cases x <;> cases y <;> first
           | rfl
           | (simp [Region.isConst] at h3))
  cases op <;> first
    | rfl
    | exact key _ (by simp) rfl

theorem list_toByteArray_toList (s : List UInt8) : (⟨s.toArray⟩ : ByteArray).toList = s := by rw [ByteArray.toList_eq]

theorem size_str (s : List UInt8) : (⟨s.toArray⟩ : ByteArray).size = s.length := by simp [ByteArray.size]
theorem str_append (s t : List UInt8) : ((⟨s.toArray⟩ : ByteArray) ++ ⟨t.toArray⟩) = ⟨(s ++ t).toArray⟩ := by
  apply ByteArray.ext
  simp

theorem i64_max : IntKind.i64.max = 9223372036854775807 := rfl

theorem run_arith {op : BinOp} {t : TypeId} {x y v : AV} (h : arithAV op x y = some v) : (binOp op t (x.conc ι) (y.conc ι)).run P w = .ok (v.conc ι) w := by
  unfold arithAV at h
  split at h
  · rename_i k p k' q
    simp only [AV.conc]
    split at h
    · split at h
      · cases h
      · rename_i hq; simp only [Option.some.injEq] at h; subst h
        simp [binOp, Op.shift, hq, AV.conc]
    · split at h
      · cases h
      · rename_i hq; simp only [Option.some.injEq] at h; subst h
        simp [binOp, Op.shift, hq, AV.conc]
    · split at h
      · rename_i h1 h2 hk
        subst hk
        split at h <;> first
          | (simp only [Option.some.injEq] at h; subst h; simp [binOp, Op.intArith, AV.conc]; done)
          | (split at h
             · cases h
             · rename_i hq; simp only [Option.some.injEq] at h; subst h; simp [binOp, Op.intDiv, hq, AV.conc]; done)
          | (simp only [Option.some.injEq] at h; subst h; simp [binOp, Op.intBits, bits, AV.conc]; done)
          | (simp only [Option.some.injEq] at h; subst h; simp [binOp, Op.intCmp, AV.conc]; done)
          | (cases h; done)
      · cases h
  · rename_i p q
    simp only [AV.conc]
    split at h
    · split at h
      · rename_i hle
        simp only [Option.some.injEq] at h; subst h
        simp only [binOp, Op.stringOp, size_str, i64_max, AV.conc]
        rw [if_neg (by omega)]
        simp [str_append]
      · cases h
    · simp only [Option.some.injEq] at h; subst h; simp [binOp, Op.stringOp, AV.conc]
    · simp only [Option.some.injEq] at h; subst h; simp [binOp, Op.stringOp, AV.conc, bne]
    · simp only [Option.some.injEq] at h; subst h; simp [binOp, Op.stringOp, AV.conc]
    · cases h
  · cases h

theorem arith_lt {op : BinOp} {x y v : AV} (h : arithAV op x y = some v) : v.lt n = true := by
  unfold arithAV at h
  split at h
  · split at h
    · split at h
      · cases h
      · simp only [Option.some.injEq] at h; subst h; rfl
    · split at h
      · cases h
      · simp only [Option.some.injEq] at h; subst h; rfl
    · split at h
      · split at h <;> first
          | (simp only [Option.some.injEq] at h; subst h; rfl)
          | (split at h
             · cases h
             · simp only [Option.some.injEq] at h; subst h; rfl)
          | (cases h; done)
      · cases h
  · split at h
    · split at h
      · simp only [Option.some.injEq] at h; subst h; rfl
      · cases h
    all_goals first
      | (simp only [Option.some.injEq] at h; subst h; rfl)
      | (cases h; done)
  · cases h

/- the arithmetic operation never sees aggregates or two nil interface values -/
theorem arith_guard {op : BinOp} {t : TypeId} {X Y : Operand} {x y v : AV} (h : arithAV op x y = some v) : (eqGuard op t X Y (x.conc ι) (y.conc ι)).run P w = .ok () w := by
  refine eqGuard_quiet op t X Y _ _ fun _ => ?_
  unfold arithAV at h
  split at h
  · exact ⟨fun l m hl => by simp [AV.conc] at hl, fun hl => by simp [AV.conc] at hl⟩
  · exact ⟨fun l m hl => by simp [AV.conc] at hl, fun hl => by simp [AV.conc] at hl⟩
  · cases h

theorem fillL_length : ∀ (ps : List (Nat × Nat × List AV)) (cs r : List AV), fillL cs ps = some r → r.length = cs.length
  | [], cs, r, h => by simp only [fillL, Option.some.injEq] at h; rw [h]
  | (off, sz, vs) :: ps, cs, r, h => by
    simp only [fillL] at h
    split at h
    · rename_i hc
      rw [fillL_length ps _ r h]
      simp only [List.length_append, List.length_take, List.length_drop]; omega
    · cases h
theorem fillL_lt : ∀ (ps : List (Nat × Nat × List AV)) (cs r : List AV), fillL cs ps = some r → ltL n cs = true → (∀ p ∈ ps, ltL n p.2.2 = true) → ltL n r = true
  | [], cs, r, h, hc, _ => by simp only [fillL, Option.some.injEq] at h; rw [← h]; exact hc
  | (off, sz, vs) :: ps, cs, r, h, hc, hp => by
    simp only [fillL] at h
    split at h
    · refine fillL_lt ps _ r h ?_ (fun p hp' => hp p (by simp [hp']))
      rw [ltL_append, ltL_append, ltL_take hc, ltL_drop hc, hp (off, sz, vs) (by simp)]; rfl
    · cases h

theorem partVals_lt (htl : tm.lt n = true) : ∀ (ps : List (Nat × Nat × LOpd)) (r : List (Nat × Nat × List AV)), (∀ p ∈ ps, ∃ X, opd X = some p.2.2) → partVals tm ps = some r → ∀ p ∈ r, ltL n p.2.2 = true
  | [], r, _, h => by simp only [partVals, Option.some.injEq] at h; subst h; simp
  | (off, sz, x) :: ps, r, ho, h => by
    simp only [partVals] at h
    split at h
    · rename_i v vs hv hvs
      simp only [Option.some.injEq] at h; subst h
      intro p hp
      rcases List.mem_cons.1 hp with rfl | hp
      · obtain ⟨X, hX⟩ := ho (off, sz, x) (by simp)
        exact AV.cells_lt (opd_lt htl hX hv)
      · exact partVals_lt htl ps vs (fun p hp => ho p (by simp [hp])) hvs p hp
    · cases h

/- the model's fill, a part's cells laid one by one -/
theorem foldl_set (vs : List Value) : ∀ (i off : Nat) (cs : Array Value), off + i + vs.length ≤ cs.size →
    (vs.zipIdx i).foldl (fun cs (p : Value × Nat) => cs.setIfInBounds (off + p.2) p.1) cs = (cs.toList.take (off + i) ++ vs ++ cs.toList.drop (off + i + vs.length)).toArray := by
  induction vs with
  | nil => intro i off cs _; simp
  | cons v vs ih =>
    intro i off cs h
    simp only [List.length_cons] at h
    simp only [List.zipIdx_cons, List.foldl_cons]
    rw [ih (i + 1) off _ (by simp; omega)]
    apply Array.toList_inj.1
    simp only [Array.toList_setIfInBounds]
    apply List.ext_getElem?
    intro j
    simp only [List.getElem?_append, List.length_append, List.length_take, List.length_set, Array.length_toList, List.getElem?_take, List.getElem?_drop, List.getElem?_set, List.length_cons]
    by_cases h1 : j < off + i
    · rw [if_pos (by omega), if_pos (by omega), if_pos (by omega), if_neg (by omega), if_pos (by omega), if_pos (by omega), if_pos (by omega)]
    · by_cases h2 : j = off + i
      · subst h2
        rw [if_pos (by omega), if_pos (by omega), if_pos (by omega), if_pos rfl, if_pos (by omega), if_pos (by omega), if_neg (by omega)]
        simp [Nat.min_eq_left (show off + i ≤ cs.size by omega)]
      · by_cases h3 : j < off + i + (vs.length + 1)
        · rw [if_pos (by omega), if_neg (by omega), if_pos (by omega), if_neg (by omega)]
          have e1 : j - min (off + (i + 1)) cs.size = j - (off + i) - 1 := by omega
          have e2 : j - min (off + i) cs.size = (j - (off + i) - 1) + 1 := by omega
          rw [e1, e2, List.getElem?_cons_succ]
        · rw [if_neg (by omega), if_neg (by omega)]
          rw [if_neg (by omega)]
          congr 1
          omega

theorem fill_sound : ∀ (ps : List (Nat × Value)) (qs : List (Nat × Nat × List AV)) (place : Nat → Option (Nat × Nat)) (cs r : List AV),
    ps.length = qs.length → (∀ (j : Nat) (p : Nat × Value) (q : Nat × Nat × List AV), ps[j]? = some p → qs[j]? = some q → place p.1 = some (q.1, q.2.1) ∧ p.2.cells = (concL ι q.2.2).toArray) → fillL cs qs = some r →
    Instr.fill place (concL ι cs).toArray ps = some (concL ι r).toArray
  | [], [], place, cs, r, _, _, h => by simp only [fillL, Option.some.injEq] at h; subst h; rfl
  | [], _ :: _, _, _, _, h, _, _ => by simp at h
  | _ :: _, [], _, _, _, h, _, _ => by simp at h
  | (i, v) :: ps, (off, sz, vs) :: qs, place, cs, r, hlen, hh, h => by
    obtain ⟨h1, h2⟩ := hh 0 (i, v) (off, sz, vs) rfl rfl
    simp only at h1 h2
    simp only [fillL] at h
    split at h
    · rename_i hc
      obtain ⟨hc1, hc2⟩ := hc
      simp only [Instr.fill, h1, h2]
      have hsz : (concL ι vs).toArray.size = sz := by simp [hc1]
      rw [if_neg (by simp [hc1]; omega)]
      have hf := foldl_set (concL ι vs) 0 off (concL ι cs).toArray (by simp [hc1]; omega)
      have hz : (concL ι vs).toArray.zipIdx.foldl (fun cs (p : Value × Nat) => cs.setIfInBounds (off + p.2) p.1) (concL ι cs).toArray = ((concL ι vs).zipIdx 0).foldl (fun cs (p : Value × Nat) => cs.setIfInBounds (off + p.2) p.1) (concL ι cs).toArray := by
        rw [← Array.foldl_toList]; simp
      have ih := fill_sound ps qs place (cs.take off ++ vs ++ cs.drop (off + sz)) r (by simpa using hlen) (fun j p q hp hq => hh (j + 1) p q hp hq) h
      rw [concL_append, concL_append, concL_eq ι (cs.take off), concL_eq ι (cs.drop (off + sz)), List.map_take, List.map_drop, ← concL_eq, hc1.symm] at ih
      refine Eq.trans ?_ ih
      congr 1
      refine hz.trans (hf.trans ?_)
      simp [hc1]
    · cases h
end
end Go.Ax
