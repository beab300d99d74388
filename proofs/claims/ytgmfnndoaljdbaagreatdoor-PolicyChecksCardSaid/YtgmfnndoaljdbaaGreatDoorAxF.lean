/- '==' on plain types. -/
import Derived.Test.YtgmfnndoaljdbaaGreatDoorAxE
set_option linter.all false
namespace Go.Ax
open Go
set_option maxRecDepth 20000

section
variable {P : Program} {o : Oper} {ι : Env} {tm : LTm} {hp : AHeap} {n : Nat} {a : Act} {w : World} {lo : LOp} {v : AV}

theorem eqCells_append : ∀ {ks ks' : List Leaf} {l m l' m' : List AV} {r : Bool}, l.length = ks.length → m.length = ks.length → eqCells (ks ++ ks') (l ++ l') (m ++ m') = some r →
    ∃ x y, eqCells ks l m = some x ∧ eqCells ks' l' m' = some y ∧ r = (x && y)
  | [], ks', [], [], l', m', r, _, _, h => ⟨true, r, rfl, h, by simp⟩
  | [], _, _ :: _, _, _, _, _, hl, _, _ => by simp at hl
  | [], _, _, _ :: _, _, _, _, _, hl, _ => by simp at hl
  | _ :: _, _, [], _, _, _, _, hl, _, _ => by simp at hl
  | _ :: _, _, _, [], _, _, _, _, hl, _ => by simp at hl
  | k :: ks, ks', u :: l, v :: m, l', m', r, hl, hm, h => by
    simp only [List.cons_append, eqCells] at h ⊢
    split at h
    · rename_i x y hx hy
      simp only [Option.some.injEq] at h; subst h
      obtain ⟨p, q, hp, hq, rfl⟩ := eqCells_append (by simpa using hl) (by simpa using hm) hy
      exact ⟨x && p, q, by simp [hx, hp], hq, by simp [Bool.and_assoc]⟩
    · cases h
theorem eqCells_length : ∀ {ks : List Leaf} {l m : List AV} {r : Bool}, eqCells ks l m = some r → l.length = ks.length ∧ m.length = ks.length
  | [], [], [], _, _ => ⟨rfl, rfl⟩
  | [], [], _ :: _, _, h => by simp [eqCells] at h
  | [], _ :: _, _, _, h => by simp [eqCells] at h
  | _ :: _, [], _, _, h => by simp [eqCells] at h
  | _ :: _, _ :: _, [], _, h => by simp [eqCells] at h
  | k :: ks, u :: l, v :: m, r, h => by
    simp only [eqCells] at h
    split at h
    · rename_i x y hx hy; have := eqCells_length hy; simp [this.1, this.2]
    · cases h

/- what '==' at a plain type does -/
def EqAtC (P : Program) (dd : Nat) (t : TypeId) (ks : List Leaf) : Prop :=
  P.cellsOf t = ks.length → ∀ (ι : Env) (w : World) (xs ys : List AV) (off : Nat) (r : Bool), eqCells ks ((xs.drop off).take ks.length) ((ys.drop off).take ks.length) = some r →
    ∃ u v, (part t (concL ι xs).toArray off).run P w = .ok u w ∧ (part t (concL ι ys).toArray off).run P w = .ok v w ∧ (Op.equalIn dd t u v).run P w = .ok r w

theorem eqCells_one {k : Leaf} {xs ys : List AV} {off : Nat} {r : Bool} (h : eqCells [k] ((xs.drop off).take 1) ((ys.drop off).take 1) = some r) :
    ∃ x y, xs[off]? = some x ∧ ys[off]? = some y ∧ eq1 k x y = some r := by
  obtain ⟨h1, h2⟩ := eqCells_length h
  simp only [List.length_take, List.length_drop, List.length_cons, List.length_nil] at h1 h2
  have hx : off < xs.length := by omega
  have hy : off < ys.length := by omega
  rw [List.drop_eq_getElem_cons hx, List.drop_eq_getElem_cons hy] at h
  simp only [List.take_succ_cons, List.take_zero, eqCells] at h
  split at h
  · rename_i x y he hy'
    simp only [Option.some.injEq] at hy' h
    subst hy'; subst h
    exact ⟨xs[off], ys[off], List.getElem?_eq_getElem hx, List.getElem?_eq_getElem hy, by simpa using he⟩
  · cases h

def leafOf : TypeDesc → Option Leaf
  | .bool => some .b
  | .int _ => some .i
  | .string => some .s
  | _ => none

theorem run_equalIn_leaf {dd : Nat} {t : TypeId} {d : TypeDesc} {k : Leaf} (hu : P.underlying t = some d) (hd : leafOf d = some k) {x y : AV} {r : Bool} (he : eq1 k x y = some r) :
    (Op.equalIn (dd + 1) t (x.conc ι) (y.conc ι)).run P w = .ok r w := by
  unfold eq1 at he
  split at he
  · simp only [Option.some.injEq] at he; subst he
    cases d <;> simp [leafOf] at hd
    exact run_equalIn_bool' w dd t _ _ hu
  · split at he
    · rename_i hk
      subst hk
      simp only [Option.some.injEq] at he; subst he
      cases d <;> simp [leafOf] at hd
      exact run_equalIn_int w dd t _ _ _ _ hu
    · cases he
  · simp only [Option.some.injEq] at he; subst he
    rename_i p q
    cases d <;> simp [leafOf] at hd
    have := run_equalIn_string (P := P) w dd t (⟨p.toArray⟩) (⟨q.toArray⟩) hu
    simp only [AV.conc]
    rw [this, list_toByteArray_toList, list_toByteArray_toList]
  · cases he

theorem eqAt_leaf {dd : Nat} {t : TypeId} {d : TypeDesc} {k : Leaf} (hu : P.underlying t = some d) (hd : leafOf d = some k) : EqAtC P (dd + 1) t [k] := by
  intro _ ι w xs ys off r h
  obtain ⟨x, y, hx, hy, he⟩ := eqCells_one h
  have hpart : ∀ (l : List AV) (z : AV), l[off]? = some z → (part t (concL ι l).toArray off).run P w = .ok (z.conc ι) w := by
    intro l z hz
    have : (concL ι l).toArray[off]? = some (z.conc ι) := by rw [List.getElem?_toArray, concL_getElem?, hz]; rfl
    cases d <;> simp [leafOf] at hd <;> simp only [part, isAgg, Sem.run_bind, run_underlying hu, Result.andThen_ok, Sem.run_pure, Bool.false_eq_true, if_false, this]
  exact ⟨_, _, hpart xs x hx, hpart ys y hy, run_equalIn_leaf hu hd he⟩

/- an aggregate's part, cut out -/
theorem run_part_agg {t : TypeId} {xs : List AV} {off : Nat} (hag : aggT P t = some true) {inf : TypeInfo} (hi : P.info? t = some inf) :
    (part t (concL ι xs).toArray off).run P w = .ok (.agg (concL ι ((xs.drop off).take inf.size)).toArray) w := by
  have he : (concL ι xs).toArray.extract off (off + inf.size) = (concL ι ((xs.drop off).take inf.size)).toArray := by
    simp [concL_eq, List.map_drop, List.map_take]
  unfold aggT at hag
  split at hag
  · rename_i fs hu; simp only [part, isAgg, Sem.run_bind, run_underlying hu, Result.andThen_ok, Sem.run_pure, if_true, run_sizeOf' hi, he]
  · rename_i k e hu; simp only [part, isAgg, Sem.run_bind, run_underlying hu, Result.andThen_ok, Sem.run_pure, if_true, run_sizeOf' hi, he]
  · simp at hag
  · cases hag

theorem eqFields_sound {dd : Nat} {f : TypeId → Option (List Leaf)} (ih : ∀ t ks, f t = some ks → EqAtC P dd t ks) (xs ys : List AV) :
    ∀ (fs : List Field) (acc ks : List Leaf) (r : Bool), plainF P f fs acc = some ks → (∃ rest, ks = acc ++ rest ∧ eqCells rest ((xs.drop acc.length).take rest.length) ((ys.drop acc.length).take rest.length) = some r) →
      (Op.eqFields dd (concL ι xs).toArray (concL ι ys).toArray fs).run P w = .ok r w
  | [], acc, ks, r, h, ⟨rest, hk, he⟩ => by
    simp only [plainF, Option.some.injEq] at h
    subst h
    have : rest = [] := by simpa using hk.symm
    subst this
    simp only [List.length_nil, List.take_zero, eqCells, Option.some.injEq] at he
    subst he
    simp [Op.eqFields]
  | fd :: fs, acc, ks, r, h, ⟨rest, hk, he⟩ => by
    simp only [plainF] at h
    split at h
    · rename_i hc
      simp only [Bool.and_eq_true, bne_iff_ne, ne_eq, beq_iff_eq] at hc
      split at h
      · rename_i ks1 hks1
        split at h
        · rename_i hcl
          -- the rest begins with this field's kinds
          have hpre : ∃ rest2, ks = (acc ++ ks1) ++ rest2 := by
            have : ∀ (fs : List Field) (acc ks : List Leaf), plainF P f fs acc = some ks → ∃ r2, ks = acc ++ r2 := by
              intro fs
              induction fs with
              | nil => intro acc ks h; simp only [plainF, Option.some.injEq] at h; exact ⟨[], by simp [h]⟩
              | cons g fs ihf =>
                intro acc ks h
                simp only [plainF] at h
                split at h
                · split at h
                  · split at h
                    · obtain ⟨r2, e⟩ := ihf _ _ h; exact ⟨_, by rw [e, List.append_assoc]⟩
                    · cases h
                  · cases h
                · cases h
            exact this fs _ _ h
          obtain ⟨rest2, hk2⟩ := hpre
          have hrest : rest = ks1 ++ rest2 := by
            have := hk.symm.trans hk2
            rw [List.append_assoc] at this
            exact List.append_cancel_left this
          subst hrest
          have hlx := (eqCells_length he).1
          have hly := (eqCells_length he).2
          simp only [List.length_take, List.length_drop, List.length_append] at hlx hly
          have hsplit : ∀ (l : List AV), ((l.drop acc.length).take (ks1 ++ rest2).length) = ((l.drop acc.length).take ks1.length) ++ ((l.drop (acc ++ ks1).length).take rest2.length) := by
            intro l
            rw [List.length_append, List.take_add, List.drop_drop, List.length_append]
          rw [hsplit xs, hsplit ys] at he
          obtain ⟨x, y, e1, e2, rfl⟩ := eqCells_append (by simp; omega) (by simp; omega) he
          obtain ⟨u, v, p1, p2, p3⟩ := ih _ _ hks1 (by simpa using hcl) ι w xs ys acc.length x e1
          have ih2 := eqFields_sound ih xs ys fs (acc ++ ks1) ks y h ⟨rest2, hk2, e2⟩
          simp only [Op.eqFields, hc.1, ne_eq, not_false_eq_true, if_true, Sem.run_bind, hc.2, p1, p2, p3, Result.andThen_ok]
          cases x
          · simp
          · simp [ih2]
        · cases h
      · cases h
    · cases h

theorem eqItems_sound {dd : Nat} {e : TypeId} {ks : List Leaf} (hcl : P.cellsOf e = ks.length) (ih : EqAtC P dd e ks) (xs ys : List AV) :
    ∀ (m j : Nat) (r : Bool), eqCells (List.replicate m ks).flatten ((xs.drop (j * ks.length)).take (m * ks.length)) ((ys.drop (j * ks.length)).take (m * ks.length)) = some r →
      (Op.eqItems dd e ks.length (concL ι xs).toArray (concL ι ys).toArray (List.range' j m)).run P w = .ok r w
  | 0, j, r, h => by
    simp only [List.replicate_zero, List.flatten_nil, Nat.zero_mul, List.take_zero, eqCells, Option.some.injEq] at h
    subst h
    simp [Op.eqItems]
  | m + 1, j, r, h => by
    have hlx := (eqCells_length h).1
    have hly := (eqCells_length h).2
    simp only [List.length_take, List.length_drop, List.length_flatten, List.map_replicate, List.sum_replicate_nat] at hlx hly
    have hm : (m + 1) * ks.length = ks.length + m * ks.length := by rw [Nat.succ_mul, Nat.add_comm]
    have hsplit : ∀ (l : List AV), ((l.drop (j * ks.length)).take ((m + 1) * ks.length)) = ((l.drop (j * ks.length)).take ks.length) ++ ((l.drop ((j + 1) * ks.length)).take (m * ks.length)) := by
      intro l
      rw [hm, List.take_add, List.drop_drop]
      congr 3
      rw [Nat.succ_mul]
    rw [hsplit xs, hsplit ys, List.replicate_succ, List.flatten_cons] at h
    obtain ⟨x, y, e1, e2, rfl⟩ := eqCells_append (by simp; omega) (by simp; omega) h
    obtain ⟨u, v, p1, p2, p3⟩ := ih hcl ι w xs ys (j * ks.length) x e1
    have ih2 := eqItems_sound hcl ih xs ys m (j + 1) y e2
    simp only [List.range'_succ, Op.eqItems, Sem.run_bind, p1, p2, p3, Result.andThen_ok]
    cases x
    · simp
    · simp [ih2]

theorem plainT_sound : ∀ (d dd : Nat) (t : TypeId) (ks : List Leaf), d ≤ dd → plainT P d t = some ks → EqAtC P dd t ks ∧
    (∀ (ι : Env) (w : World) (xs ys : List AV) (r : Bool), eqCells ks xs ys = some r → aggT P t = some true → (Op.equalIn dd t (.agg (concL ι xs).toArray) (.agg (concL ι ys).toArray)).run P w = .ok r w)
  | 0, _, _, _, _, h => by simp [plainT] at h
  | d + 1, dd, t, ks, hle, h => by
    obtain ⟨dd, rfl⟩ : ∃ k, dd = k + 1 := ⟨dd - 1, by omega⟩
    have IH := fun t ks (h : plainT P d t = some ks) => (plainT_sound d dd t ks (by omega) h).1
    have fromAgg : aggT P t = some true →
        (∀ (ι : Env) (w : World) (xs ys : List AV) (r : Bool), eqCells ks xs ys = some r → aggT P t = some true → (Op.equalIn (dd + 1) t (.agg (concL ι xs).toArray) (.agg (concL ι ys).toArray)).run P w = .ok r w) → EqAtC P (dd + 1) t ks := by
      intro hag hagg hcl ι w xs ys off r he
      have hinf : ∃ inf, P.info? t = some inf := by
        cases hi : P.info? t with
        | some inf => exact ⟨inf, rfl⟩
        | none => simp [aggT, Program.underlying, hi] at hag
      obtain ⟨inf, hi⟩ := hinf
      have hsz : inf.size = ks.length := by simpa [Program.cellsOf, hi] using hcl
      refine ⟨_, _, run_part_agg hag hi, run_part_agg hag hi, ?_⟩
      rw [hsz]
      exact hagg ι w _ _ r he hag
    simp only [plainT] at h
    split at h
    · rename_i hu; simp only [Option.some.injEq] at h; subst h; exact ⟨eqAt_leaf hu rfl, fun _ _ _ _ _ _ hag => by simp [aggT, hu] at hag⟩
    · rename_i k hu; simp only [Option.some.injEq] at h; subst h; exact ⟨eqAt_leaf hu rfl, fun _ _ _ _ _ _ hag => by simp [aggT, hu] at hag⟩
    · rename_i hu; simp only [Option.some.injEq] at h; subst h; exact ⟨eqAt_leaf hu rfl, fun _ _ _ _ _ _ hag => by simp [aggT, hu] at hag⟩
    · rename_i fs hu
      split at h
      · cases h
      · rename_i hst
        have hag : aggT P t = some true := by simp [aggT, hu]
        have hagg : ∀ (ι : Env) (w : World) (xs ys : List AV) (r : Bool), eqCells ks xs ys = some r → aggT P t = some true → (Op.equalIn (dd + 1) t (.agg (concL ι xs).toArray) (.agg (concL ι ys).toArray)).run P w = .ok r w := by
          intro ι w xs ys r he _
          have hl := eqCells_length he
          have hfo : P.fieldsOf t = fs := by simp [Program.fieldsOf, hu]
          rw [run_equalIn_struct w dd t _ _ (by rw [hfo]; exact hu) (by simpa using hst), hfo]
          refine eqFields_sound (f := plainT P d) IH xs ys fs.toList [] ks r h ⟨ks, by simp, ?_⟩
          simpa [List.take_of_length_le, hl.1, hl.2] using he
        exact ⟨fromAgg hag hagg, hagg⟩
    · rename_i m e hu
      split at h
      · rename_i ks1 hk1
        split at h
        · rename_i hc
          simp only [Bool.and_eq_true, beq_iff_eq] at hc
          simp only [Option.some.injEq] at h; subst h
          have hag : aggT P t = some true := by simp [aggT, hu]
          obtain ⟨inf, hi⟩ := Option.isSome_iff_exists.1 hc.2
          have hagg : ∀ (ι : Env) (w : World) (xs ys : List AV) (r : Bool), eqCells (List.replicate m ks1).flatten xs ys = some r → aggT P t = some true → (Op.equalIn (dd + 1) t (.agg (concL ι xs).toArray) (.agg (concL ι ys).toArray)).run P w = .ok r w := by
            intro ι w xs ys r he _
            have hl := eqCells_length he
            simp only [List.length_flatten, List.map_replicate, List.sum_replicate_nat] at hl
            rw [run_equalIn_array w dd _ _ hu hi, hc.1, List.range_eq_range']
            refine eqItems_sound hc.1 (IH _ _ hk1) xs ys m 0 r ?_
            simpa [List.take_of_length_le, hl.1, hl.2] using he
          exact ⟨fromAgg hag hagg, hagg⟩
        · cases h
      · cases h
    · cases h
end
end Go.Ax
