/- append, whole. -/
import Derived.Test.YtgmfnndoaljdbaaGreatDoorAxK
set_option linter.all false
namespace Go.Ax
open Go
set_option maxRecDepth 20000

section
variable {P : Program} {o : Oper} {ι : Env} {tm : LTm} {hp hp' : AHeap} {n n' : Nat} {a : Act} {w : World} {lo : LOp} {v : AV}

theorem AHeap.del_sub (h : AHeap) (i : Nat) : (h.del i).Sublist h := by
  induction h with
  | nil => exact .slnil
  | cons p h ih =>
    obtain ⟨j, o⟩ := p
    simp only [AHeap.del]
    split
    · exact ih.cons _
    · exact ih.cons_cons _
theorem AHeap.mem_del {h : AHeap} {i : Nat} {p : Nat × AObj} (hm : p ∈ h.del i) : p ∈ h ∧ p.1 ≠ i := by
  induction h with
  | nil => simp [AHeap.del] at hm
  | cons q h ih =>
    obtain ⟨j, o⟩ := q
    simp only [AHeap.del] at hm
    split at hm
    · have := ih hm; exact ⟨List.mem_cons_of_mem _ this.1, this.2⟩
    · rename_i hj
      rcases List.mem_cons.1 hm with rfl | hm
      · exact ⟨List.mem_cons_self, hj⟩
      · have := ih hm; exact ⟨List.mem_cons_of_mem _ this.1, this.2⟩
theorem AHeap.del_lt {h : AHeap} (hl : h.lt n = true) (i : Nat) : (h.del i).lt n = true :=
  List.all_eq_true.2 fun p hp => (List.all_eq_true.1 hl) p (AHeap.mem_del hp).1
theorem HR.far (hr : HR ι hp w) {p q : Nat × AObj} (h1 : p ∈ hp) (h2 : q ∈ hp) (hne : p.1 ≠ q.1) (ho : p.2.owned = true ∨ q.2.owned = true) : ι.blk p.1 ≠ ι.blk q.1 := by
  have key : ∀ (l : AHeap), l.Pairwise (fun p q => (p.2.owned = true ∨ q.2.owned = true) → ι.blk p.1 ≠ ι.blk q.1) → p ∈ l → q ∈ l → ι.blk p.1 ≠ ι.blk q.1 := by
    intro l
    induction l with
    | nil => intro _ h; simp at h
    | cons x l ih =>
      intro hp h1 h2
      rw [List.pairwise_cons] at hp
      rcases List.mem_cons.1 h1 with e1 | m1 <;> rcases List.mem_cons.1 h2 with e2 | m2
      · exact (hne (by rw [e1, e2])).elim
      · subst e1; exact hp.1 q m2 ho
      · subst e2; exact (hp.1 p m1 ho.symm).symm
      · exact ih hp.2 m1 m2
  exact key hp hr.apart h1 h2

/- more cells laid behind those that a row is known by -/
theorem push_row (hr : HR ι hp w) {i : Nat} {cs : List AV} {e x es k : Nat} (hg : hp.get? i = some (.own cs e (some (x, es, k)) (0, 0))) {vs : List AV}
    (hle : cs.length + vs.length ≤ (k + ι.cap x) * es) (h1 : vs.all AV.one = true) :
    ∃ (w' : World) (rest : List Value), (storeCells ⟨ι.blk i, cs.length, none⟩ (concL ι vs)).run P w = .ok () w' ∧ w'.heap[ι.blk i]? = some (.cells (concL ι (cs ++ vs) ++ rest).toArray e (0, 0)) ∧
      (cs ++ vs).length + rest.length = (k + ι.cap x) * es ∧ (∀ b, b ≠ ι.blk i → w'.heap[b]? = w.heap[b]?) ∧ w'.heap.size = w.heap.size ∧ w'.os = w.os ∧ w'.tape = w.tape ∧ w'.output = w.output := by
  obtain ⟨ob, hob, rest, rfl, hlen⟩ := hr.get hg
  have hst := run_storeCells_at P (ι.blk i) cs.length e (concL ι vs) 0 (concL ι cs ++ rest).toArray w hob (by simp; omega) (one_concL h1)
  simp only [Nat.add_zero, concL_length] at hst
  refine ⟨_, rest.drop vs.length, hst, ?_, ?_, fun b hb => setRow_other w _ b _ hb, by simp, rfl, rfl, rfl⟩
  · rw [setRow_heap w (ι.blk i) _ _ e _ hob]
    congr 3
    rw [concL_append]
    congr 1
    · have : (concL ι cs ++ rest).take cs.length = concL ι cs := by rw [List.take_append_of_le_length (by simp)]; exact List.take_of_length_le (by simp)
      rw [this]
    · have : cs.length + vs.length = (concL ι cs).length + vs.length := by simp
      rw [this, List.drop_append]
      simp
  · simp only [List.length_append, List.length_drop]; omega

theorem run_append_room' {elem es m len sCap : Nat} {i : TypeInfo} {t t' ty : TypeId} {d' : TypeDesc} {x : AV} {news : List AV} {ad : Addr} {w' : World}
    (ht : P.underlying t = some (.slice elem)) (ht' : P.underlying t' = some d') (hd' : (∃ e, d' = .slice e) ∨ d' = .string) (hi : P.info? elem = some i) (hes : i.size = es)
    (hr : HR ι hp w) (hs : srcCells hp es x = some (m, news)) (hroom : len + m ≤ sCap) (hst : (storeCells (ad.add (len * es)) (concL ι news)).run P w = .ok () w') :
    (Builtin.append_ #[t, t'] ty #[.slice (some ad) len sCap, x.conc ι]).run P w = .ok (.slice (some ad) (len + m) sCap) w' := by
  subst hes
  obtain ⟨s1, s2, s3⟩ := src_run (P := P) hr hs
  have s2' : (Builtin.firstCells i.size m (x.conc ι)).run P w = .ok (concL ι news).toArray w := s2 w.drawn
  rcases hd' with ⟨e', rfl⟩ | rfl <;>
  simp [Builtin.append_, run_underlying ht, run_underlying ht', sizeOf, typeInfo, hi, s1, s2', hroom, hst]

theorem run_append_none {elem es : Nat} {i : TypeInfo} {t t' ty : TypeId} {d' : TypeDesc} {x : AV} {news : List AV}
    (ht : P.underlying t = some (.slice elem)) (ht' : P.underlying t' = some d') (hd' : (∃ e, d' = .slice e) ∨ d' = .string) (hi : P.info? elem = some i) (hes : i.size = es)
    (hr : HR ι hp w) (hs : srcCells hp es x = some (0, news)) :
    (Builtin.append_ #[t, t'] ty #[.slice none 0 0, x.conc ι]).run P w = .ok (.slice none 0 0) w := by
  subst hes
  obtain ⟨s1, s2, s3⟩ := src_run (P := P) hr hs
  have s2' : (Builtin.firstCells i.size 0 (x.conc ι)).run P w = .ok (concL ι news).toArray w := s2 w.drawn
  rcases hd' with ⟨e', rfl⟩ | rfl <;>
  simp [Builtin.append_, run_underlying ht, run_underlying ht', sizeOf, typeInfo, hi, s1, s2']

theorem app_sound {elem es bytes m : Nat} {i : TypeInfo} {z : Value} {t t' ty : TypeId} {d' : TypeDesc} {s x : AV} {news : List AV}
    (ht : P.underlying t = some (.slice elem)) (ht' : P.underlying t' = some d') (hd' : (∃ e, d' = .slice e) ∨ d' = .string) (hi : P.info? elem = some i) (hz : i.zero = some z) (hes : i.size = es) (hby : i.bytes = bytes) (hzs : z.cells.size = es) (hes0 : 0 < es) (hb0 : 0 < bytes)
    (hr : HR ι hp w) (hl : hp.lt n = true) (hsl : s.lt n = true) (hs : srcCells hp es x = some (m, news)) (hone : news.all AV.one = true) (hev : appAV elem es bytes hp n s m news = some (v, hp', n')) :
    ∃ ι' w', (Builtin.append_ #[t, t'] ty #[s.conc ι, x.conc ι]).run P w = .ok (v.conc ι') w' ∧ HR ι' hp' w' ∧ hp'.lt n' = true ∧ v.lt n' = true ∧ StepR n ι hp w n' ι' hp' w' := by
  have hsrc := src_run (P := P) hr hs
  have hnl := srcCells_lt hl hs
  unfold appAV at hev
  split at hev
  · -- nil
    split at hev
    · rename_i hm
      subst hm
      simp only [Option.some.injEq, Prod.mk.injEq] at hev; obtain ⟨rfl, rfl, rfl⟩ := hev
      exact ⟨ι, w, run_append_none ht ht' hd' hi hes hr hs, hr, hl, rfl, .refl _ _ _ _⟩
    · rename_i hm
      split at hev
      · rename_i hb
        simp only [Option.some.injEq, Prod.mk.injEq] at hev; obtain ⟨rfl, rfl, rfl⟩ := hev
        obtain ⟨c, w', hc, hrun, g1, g2, g3⟩ := mkgrow (P := P) (ι := ι) (hp := hp) (n := n) (ty := ty) (s := .nilslice) (olds := []) (len := 0) (sCap := 0) (base := none) ht ht' hd' hi hz hes hby hzs hr hl hs rfl (fun _ => rfl) (by simp) rfl (by omega) (by simpa using hb) hb0
        simp only [Nat.zero_add, List.nil_append] at hc hrun g1 g2 g3
        refine ⟨_, w', ?_, g1, g2, by simp [AV.lt, ACap.lt], g3⟩
        rw [hrun]
        simp only [AV.conc, ext_blk, ACap.val, ext_cap]
        congr 2; omega
      · cases hev
  · -- an exact capacity
    rename_i j off len c
    simp only [AV.lt, Bool.and_eq_true, decide_eq_true_eq] at hsl
    split at hev
    · rename_i hroom
      split at hev
      · rename_i hm
        subst hm
        simp only [Option.some.injEq, Prod.mk.injEq] at hev; obtain ⟨rfl, rfl, rfl⟩ := hev
        have hn : news = [] := List.eq_nil_of_length_eq_zero (by simpa using hsrc.2.2)
        subst hn
        refine ⟨ι, w, run_append_room' ht ht' hd' hi hes hr hs hroom rfl, hr, hl, by simp [AV.lt, ACap.lt, hsl.1], .refl _ _ _ _⟩
      · split at hev
        · rename_i cs e g hg
          split at hev
          · rename_i hle
            simp only [Option.some.injEq, Prod.mk.injEq] at hev; obtain ⟨rfl, rfl, rfl⟩ := hev
            obtain ⟨w', hw, g1, g2, g3⟩ := put_row (P := P) hr hl hg hle hone hnl
            refine ⟨ι, w', ?_, g1, g2, by simp [AV.lt, ACap.lt, hsl.1], g3⟩
            exact run_append_room' ht ht' hd' hi hes hr hs hroom (by rw [add_none]; exact hw)
          · cases hev
        · cases hev
    · rename_i hroom
      split at hev
      · rename_i hb
        split at hev
        · rename_i olds hol
          simp only [Option.some.injEq, Prod.mk.injEq] at hev; obtain ⟨rfl, rfl, rfl⟩ := hev
          have holds : ∀ k, (Builtin.firstCells es len (.slice (some ⟨ι.blk j, off, none⟩) len c)).run P { w with drawn := k } = .ok (concL ι olds).toArray { w with drawn := k } := fun k =>
            HR.loadCells (P := P) (w := { w with drawn := k }) (hr.keep fun _ _ _ => rfl) hol
          obtain ⟨c', w', hc, hrun, g1, g2, g3⟩ := mkgrow (P := P) (ι := ι) (hp := hp) (n := n) (ty := ty) (s := .slice j off len (.exact c)) (olds := olds) (len := len) (sCap := c) (base := some ⟨ι.blk j, off, none⟩) ht ht' hd' hi hz hes hby hzs hr hl hs rfl holds (hr.cells hol).1 (AHeap.cells?_lt hl hol) (by omega) hb hb0
          refine ⟨_, w', ?_, g1, g2, by simp [AV.lt, ACap.lt], g3⟩
          rw [hrun]
          simp only [AV.conc, ext_blk, ACap.val, ext_cap]
          congr 2; omega
        · cases hev
      · cases hev
  · -- a capacity that is not known
    rename_i j off len y k
    simp only [AV.lt, ACap.lt, Bool.and_eq_true, decide_eq_true_eq] at hsl
    split at hev
    · rename_i cs e x' es' k' hg
      split at hev
      · rename_i hcond
        obtain ⟨rfl, rfl, rfl, rfl, hcl, rfl⟩ := hcond
        have hobj := (AHeap.lt_get hl hg).2
        simp only [AObj.lt, Bool.and_eq_true, decide_eq_true_eq] at hobj
        have hnews := hsrc.2.2
        split at hev
        · rename_i hroom
          simp only [Option.some.injEq, Prod.mk.injEq] at hev; obtain ⟨rfl, rfl, rfl⟩ := hev
          have hroom' : len + m ≤ k' + ι.cap x' := by omega
          obtain ⟨w', rest, hw, q1, q2, q3, q4, q5, q6, q7⟩ := push_row (P := P) hr hg (vs := news) (by rw [hcl, hnews, ← Nat.add_mul]; exact Nat.mul_le_mul_right _ hroom') hone
          refine ⟨ι, w', ?_, ?_, ?_, by simp [AV.lt, ACap.lt, hsl.1, hsl.2], stepR_put hg rfl q5 q6 q7 (by omega) q3⟩
          · exact run_append_room' ht ht' hd' hi hes hr hs hroom' (by rw [add_none, Nat.zero_add, ← hcl]; exact hw)
          · exact hr.put hg rfl rfl _ q1 ⟨rest, rfl, q2⟩ q3
          · refine AHeap.put_lt hl ?_
            simp only [AObj.lt, Bool.and_eq_true, decide_eq_true_eq]
            exact ⟨by rw [ltL_append, hobj.1, hnl]; rfl, hobj.2⟩
        · rename_i hroom
          split at hev
          · rename_i hb
            simp only [Option.some.injEq, Prod.mk.injEq] at hev; obtain ⟨rfl, rfl, rfl⟩ := hev
            by_cases hfit : len + m ≤ k' + ι.cap x'
            · obtain ⟨w', rest, hw, q1, q2, q3, q4, q5, q6, q7⟩ := push_row (P := P) hr hg (vs := news) (by rw [hcl, hnews, ← Nat.add_mul]; exact Nat.mul_le_mul_right _ hfit) hone
              have hag := Env.ext_agree ι n (ι.blk j) (k' + ι.cap x' - (len + m))
              have hcsl : ltL n (cs ++ news) = true := by rw [ltL_append, hobj.1, hnl]; rfl
              have hr1 : HR ι (hp.del j) w' := by
                refine (hr.sub (AHeap.del_sub hp j)).keep fun i' o' hm => q3 _ ?_
                have := AHeap.mem_del hm
                exact hr.far (p := (i', o')) (q := (j, _)) this.1 (AHeap.get?_mem hg) this.2 (.inr rfl)
              have hr2 := hr1.agree hag (AHeap.del_lt hl j)
              have hbn : (ι.ext n (ι.blk j) (k' + ι.cap x' - (len + m))).blk n = ι.blk j := by simp [Env.ext]
              refine ⟨ι.ext n (ι.blk j) (k' + ι.cap x' - (len + m)), w', ?_, ⟨fun i' o' hm => ?_, ?_, fun i' g' s' cs' hm => ?_⟩, ?_, by simp [AV.lt, ACap.lt], ⟨Nat.le_succ n, hag, ⟨q5, q6, q7, by omega, fun b _ hno => q3 b (fun e => hno ⟨j, _, AHeap.get?_mem hg, rfl, e.symm⟩)⟩, fun b hb' => .inl ?_⟩⟩
              · have hrun := run_append_room' (P := P) (ty := ty) (ι := ι) (hp := hp) (w := w) (ad := ⟨ι.blk j, 0, none⟩) (w' := w') ht ht' hd' hi hes hr hs hfit (by rw [add_none, Nat.zero_add, ← hcl]; exact hw)
                simp only [AV.conc, ACap.val, hbn, ext_cap] at hrun ⊢
                rw [hrun]
                congr 2; omega
              · rcases List.mem_cons.1 hm with e | hm
                · injection e with e1 e2
                  subst e1; subst e2
                  refine ⟨_, by rw [hbn]; exact q1, rest, ?_, ?_⟩
                  · rw [concL_agree hag (cs ++ news) hcsl]
                  · rw [ext_cap, q2]
                    congr 1; omega
                · exact hr2.fits i' o' hm
              · refine List.pairwise_cons.2 ⟨fun p hp' _ => ?_, hr2.apart⟩
                have hm := AHeap.mem_del hp'
                have hpl : p.1 < n := by have := (List.all_eq_true.1 hl) p hm.1; simp at this; exact this.1
                rw [hbn, hag.blk _ hpl]
                exact (hr.far (p := p) (q := (j, _)) hm.1 (AHeap.get?_mem hg) hm.2 (.inr rfl)).symm
              · rcases List.mem_cons.1 hm with e | hm
                · injection e with e1 e2; cases e2
                · exact hr2.glob i' g' s' cs' hm
              · refine cons_lt (AHeap.del_lt hl j) ?_
                simp only [AObj.lt, Bool.and_eq_true, decide_eq_true_eq]
                exact ⟨ltL_mono (Nat.le_succ n) _ hcsl, Nat.lt_succ_self n⟩
              · obtain ⟨i', o', hm, ho', rfl⟩ := hb'
                rcases List.mem_cons.1 hm with e | hm
                · injection e with e1 e2
                  subst e1
                  rw [hbn]
                  exact ⟨j, _, AHeap.get?_mem hg, rfl, rfl⟩
                · have hm2 := AHeap.mem_del hm
                  have hpl : i' < n := by have := (List.all_eq_true.1 hl) _ hm2.1; simp at this; exact this.1
                  rw [hag.blk _ hpl]
                  exact ⟨i', o', hm2.1, ho', rfl⟩
            · have hcells : hp.cells? j 0 (len * es') = some cs := by
                unfold AHeap.cells?
                rw [hg]
                simp only [Nat.zero_add, hcl, Nat.le_refl, if_true, List.drop_zero]
                rw [← hcl, List.take_length]
              have holds : ∀ k, (Builtin.firstCells es' len (.slice (some ⟨ι.blk j, 0, none⟩) len (k' + ι.cap x'))).run P { w with drawn := k } = .ok (concL ι cs).toArray { w with drawn := k } := fun k =>
                HR.loadCells (P := P) (w := { w with drawn := k }) (hr.keep fun _ _ _ => rfl) hcells
              obtain ⟨c', w', hc, hrun, g1, g2, g3⟩ := mkgrow (P := P) (ι := ι) (hp := hp) (n := n) (ty := ty) (s := .slice j 0 len (.var x' k')) (olds := cs) (len := len) (sCap := k' + ι.cap x') (base := some ⟨ι.blk j, 0, none⟩) ht ht' hd' hi hz hes hby hzs hr hl hs rfl holds hcl hobj.1 (by omega) hb hb0
              have hsub : ((n, AObj.own (cs ++ news) e (some (n, es', len + m)) (0, 0)) :: hp.del j).Sublist ((n, AObj.own (cs ++ news) e (some (n, es', len + m)) (0, 0)) :: hp) := (AHeap.del_sub hp j).cons_cons _
              refine ⟨_, w', ?_, g1.sub hsub, ?_, by simp [AV.lt, ACap.lt], ⟨g3.le, g3.agree, g3.kept, fun b hb' => g3.owns b (hb'.sub fun p hp' => hsub.subset hp')⟩⟩
              · rw [hrun]
                simp only [AV.conc, ext_blk, ACap.val, ext_cap]
                congr 2; omega
              · exact List.all_eq_true.2 fun p hp' => (List.all_eq_true.1 g2) p (hsub.subset hp')
          · cases hev
      · cases hev
    · cases hev
  · cases hev
end
end Go.Ax
