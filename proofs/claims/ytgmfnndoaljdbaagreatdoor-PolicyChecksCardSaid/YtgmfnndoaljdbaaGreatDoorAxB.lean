/- The resolved operations, what each computes on abstract values, and that the model's operation does just that. -/
import Derived.Test.YtgmfnndoaljdbaaGreatDoorAxA
set_option linter.all false
namespace Go.Ax
open Go

inductive LOpd where
  | t (i : Nat)
  | c (v : AV)
  deriving Inhabited

/- a constant of the text as an abstract value (to a bounded depth) -/
def flatAV : Value → Option AV
  | .bool b => some (.bool b)
  | .int k n => some (.int k n)
  | .string s => some (.str s.data.toList)
  | .pointer none => some .nilptr
  | .slice none 0 0 => some .nilslice
  | .map none => some .nilmap
  | .nilFunc => some .nilfunc
  | .nilIface => some .niliface
  | _ => none
def toAV : Nat → Value → Option AV
  | 0, v => flatAV v
  | d + 1, v => match v with
    | .iface t v => (toAV d v).map (.iface t)
    | .agg cs => (cs.toList.mapM (toAV d)).map .agg
    | .tuple cs => (cs.toList.mapM (toAV d)).map .tuple
    | v => flatAV v

theorem flatAV_conc (ι : Env) (v : Value) (a : AV) (h : flatAV v = some a) : a.conc ι = v := by
  unfold flatAV at h
  split at h <;> first | (simp only [Option.some.injEq] at h; subst h; rfl) | (cases h; done)
theorem flatAV_lt (n : Nat) (v : Value) (a : AV) (h : flatAV v = some a) : a.lt n = true := by
  unfold flatAV at h
  split at h <;> first | (simp only [Option.some.injEq] at h; subst h; rfl) | (cases h; done)

theorem mapM_conc (ι : Env) (f : Value → Option AV) : ∀ (l : List Value) (m : List AV), l.mapM f = some m → (∀ v a, v ∈ l → f v = some a → a.conc ι = v) → concL ι m = l
  | [], m, h, _ => by simp at h; subst h; rfl
  | v :: l, m, h, hf => by
    simp only [List.mapM_cons, Option.pure_def, Option.bind_eq_bind, Option.bind_eq_some_iff, Option.some.injEq] at h
    obtain ⟨a, ha, m', hm', rfl⟩ := h
    simp only [concL]
    rw [hf v a (by simp) ha, mapM_conc ι f l m' hm' (fun v a hv => hf v a (by simp [hv]))]

theorem toAV_conc (ι : Env) : ∀ (d : Nat) (v : Value) (a : AV), toAV d v = some a → a.conc ι = v := by
  intro d
  induction d with
  | zero => intro v a h; exact flatAV_conc ι v a h
  | succ d ih =>
    intro v a h
    simp only [toAV] at h
    split at h
    · simp only [Option.map_eq_some_iff] at h; obtain ⟨x, hx, rfl⟩ := h; simp only [AV.conc, ih _ _ hx]
    · simp only [Option.map_eq_some_iff] at h; obtain ⟨x, hx, rfl⟩ := h; simp only [AV.conc, mapM_conc ι _ _ _ hx (fun v a _ => ih v a)]
    · simp only [Option.map_eq_some_iff] at h; obtain ⟨x, hx, rfl⟩ := h; simp only [AV.conc, mapM_conc ι _ _ _ hx (fun v a _ => ih v a)]
    · exact flatAV_conc ι v a h

theorem mapM_lt (n : Nat) (f : Value → Option AV) : ∀ (l : List Value) (m : List AV), l.mapM f = some m → (∀ v a, v ∈ l → f v = some a → a.lt n = true) → ltL n m = true
  | [], m, h, _ => by simp at h; subst h; rfl
  | v :: l, m, h, hf => by
    simp only [List.mapM_cons, Option.pure_def, Option.bind_eq_bind, Option.bind_eq_some_iff, Option.some.injEq] at h
    obtain ⟨a, ha, m', hm', rfl⟩ := h
    simp only [ltL, Bool.and_eq_true]
    exact ⟨hf v a (by simp) ha, mapM_lt n f l m' hm' (fun v a hv => hf v a (by simp [hv]))⟩
theorem toAV_lt (n : Nat) : ∀ (d : Nat) (v : Value) (a : AV), toAV d v = some a → a.lt n = true := by
  intro d
  induction d with
  | zero => intro v a h; exact flatAV_lt n v a h
  | succ d ih =>
    intro v a h
    simp only [toAV] at h
    split at h
    · simp only [Option.map_eq_some_iff] at h; obtain ⟨x, hx, rfl⟩ := h; simp only [AV.lt]; exact ih _ _ hx
    · simp only [Option.map_eq_some_iff] at h; obtain ⟨x, hx, rfl⟩ := h; simp only [AV.lt]; exact mapM_lt n _ _ _ hx (fun v a _ => ih v a)
    · simp only [Option.map_eq_some_iff] at h; obtain ⟨x, hx, rfl⟩ := h; simp only [AV.lt]; exact mapM_lt n _ _ _ hx (fun v a _ => ih v a)
    · exact flatAV_lt n v a h

def opd : Operand → Option LOpd
  | .tmp t => some (.t t)
  | .const v => (toAV 4 v).map .c
  | .global g => some (.c (.gptr g 0))
  | .func f => some (.c (.func (.func f) [] []))

def LOpd.val (tm : LTm) : LOpd → Option AV
  | .t i => tm.get? i
  | .c v => some v

/- the temporaries of a frame are known thus -/
def TmR (ι : Env) (tm : LTm) (a : Act) : Prop := ∀ t v, tm.get? t = some v → a.tmps[t]? = some (v.conc ι)

theorem TmR.opd {ι : Env} {tm : LTm} {a : Act} (h : TmR ι tm a) {x : Operand} {lx : LOpd} {v : AV} (hx : opd x = some lx) (hv : lx.val tm = some v) : a.eval x = v.conc ι := by
  cases x with
  | tmp t =>
    simp only [Ax.opd, Option.some.injEq] at hx
    subst hx
    have := h t v hv
    simp [Act.eval, Array.getD_eq_getD_getElem?, this]
  | const u =>
    simp only [Ax.opd, Option.map_eq_some_iff] at hx
    obtain ⟨c, hc, rfl⟩ := hx
    simp only [LOpd.val, Option.some.injEq] at hv
    subst hv
    exact (toAV_conc ι 4 u c hc).symm
  | global g =>
    simp only [Ax.opd, Option.some.injEq] at hx
    subst hx
    simp only [LOpd.val, Option.some.injEq] at hv
    subst hv; rfl
  | func f =>
    simp only [Ax.opd, Option.some.injEq] at hx
    subst hx
    simp only [LOpd.val, Option.some.injEq] at hv
    subst hv; rfl

theorem opd_lt {n : Nat} {tm : LTm} (hl : tm.lt n = true) {x : Operand} {lx : LOpd} {v : AV} (hx : opd x = some lx) (hv : lx.val tm = some v) : v.lt n = true := by
  cases x with
  | tmp t => simp only [Ax.opd, Option.some.injEq] at hx; subst hx; exact LTm.lt_get hl hv
  | const u =>
    simp only [Ax.opd, Option.map_eq_some_iff] at hx
    obtain ⟨c, hc, rfl⟩ := hx
    simp only [LOpd.val, Option.some.injEq] at hv
    subst hv
    exact toAV_lt n 4 u c hc
  | global g => simp only [Ax.opd, Option.some.injEq] at hx; subst hx; simp only [LOpd.val, Option.some.injEq] at hv; subst hv; rfl
  | func f => simp only [Ax.opd, Option.some.injEq] at hx; subst hx; simp only [LOpd.val, Option.some.injEq] at hv; subst hv; rfl

theorem TmR.agree {n : Nat} {ι ι' : Env} {tm : LTm} {a : Act} (h : TmR ι tm a) (ha : Env.Agree n ι ι') (hl : tm.lt n = true) : TmR ι' tm a := by
  intro t v hv
  rw [AV.conc_agree ha v (LTm.lt_get hl hv)]; exact h t v hv

/- reading cells -/
def AHeap.cells? (h : AHeap) (i off n : Nat) : Option (List AV) :=
  match h.get? i with
  | some (.own cs _ _ _) => if off + n ≤ cs.length then some ((cs.drop off).take n) else none
  | some (.ro s cs) => if s ≤ off ∧ off - s + n ≤ cs.length then some ((cs.drop (off - s)).take n) else none
  | some (.glob _ s cs) => if s ≤ off ∧ off - s + n ≤ cs.length then some ((cs.drop (off - s)).take n) else none
  | _ => none
/- a variable of the program: its name -/
def AHeap.gid? : AHeap → Nat → Option Nat
  | [], _ => none
  | (i, .glob g' _ _) :: h, g => if g' = g then some i else AHeap.gid? h g
  | _ :: h, g => AHeap.gid? h g
def AHeap.gcells? (h : AHeap) (g off n : Nat) : Option (List AV) :=
  match h.gid? g with
  | some i => h.cells? i off n
  | none => none

theorem add_none (b o k : Nat) : (⟨b, o, none⟩ : Addr).add k = ⟨b, o + k, none⟩ := by unfold Addr.add; split <;> simp_all

theorem HR.cells {ι : Env} {h : AHeap} {w : World} (hr : HR ι h w) {i off n : Nat} {l : List AV} (hc : h.cells? i off n = some l) :
    l.length = n ∧ ∀ j v, l[j]? = some v → w.cell? ⟨ι.blk i, off + j, none⟩ = some (v.conc ι) := by
  unfold AHeap.cells? at hc
  split at hc
  · rename_i cs e g fz hg
    split at hc
    · rename_i hle
      simp only [Option.some.injEq] at hc
      subst hc
      refine ⟨by simp; omega, fun j v hv => ?_⟩
      obtain ⟨ob, hob, hf⟩ := hr.get hg
      have hv' : cs[off + j]? = some v := by
        rw [List.getElem?_take] at hv
        split at hv
        · simpa using hv
        · cases hv
      cases g with
      | none =>
        simp only [AObj.fits] at hf
        subst hf
        simp [World.cell?, hob, concL_getElem?, hv']
      | some p =>
        obtain ⟨x, es, k⟩ := p
        obtain ⟨rest, hf, _⟩ := hf
        subst hf
        have hl : off + j < cs.length := (List.getElem?_eq_some_iff.1 hv').1
        have h3 : (concL ι cs ++ rest)[off + j]? = some (v.conc ι) := by
          rw [List.getElem?_append_left (by simpa using hl), concL_getElem?, hv']; rfl
        simp only [World.cell?, hob, Option.isSome_none, Bool.false_eq_true, if_false, List.getElem?_toArray, h3]
    · cases hc
  · rename_i s cs hg
    split at hc
    · rename_i hle
      simp only [Option.some.injEq] at hc
      subst hc
      refine ⟨by simp; omega, fun j v hv => ?_⟩
      obtain ⟨ob, hob, c, e, fz, hf, hcell⟩ := hr.get hg
      subst hf
      have hv' : cs[off - s + j]? = some v := by
        rw [List.getElem?_take] at hv
        split at hv
        · simpa using hv
        · cases hv
      have h2 := hcell _ _ hv'
      have he : s + (off - s + j) = off + j := by omega
      rw [he] at h2
      simp [World.cell?, hob, h2]
    · cases hc
  · rename_i g' s cs hg
    split at hc
    · rename_i hle
      simp only [Option.some.injEq] at hc
      subst hc
      refine ⟨by simp; omega, fun j v hv => ?_⟩
      obtain ⟨ob, hob, c, e, fz, hf, hcell⟩ := hr.get hg
      subst hf
      have hv' : cs[off - s + j]? = some v := by
        rw [List.getElem?_take] at hv
        split at hv
        · simpa using hv
        · cases hv
      have h2 := hcell _ _ hv'
      have he : s + (off - s + j) = off + j := by omega
      rw [he] at h2
      simp [World.cell?, hob, h2]
    · cases hc
  · cases hc

theorem AHeap.cells?_lt {m : Nat} {h : AHeap} (hl : h.lt m = true) {i off n : Nat} {l : List AV} (hc : h.cells? i off n = some l) : ltL m l = true := by
  unfold AHeap.cells? at hc
  split at hc
  · rename_i cs e g fz hg
    have := (AHeap.lt_get hl hg).2
    simp only [AObj.lt, Bool.and_eq_true] at this
    split at hc
    · simp only [Option.some.injEq] at hc; subst hc; exact ltL_take (ltL_drop this.1 _) _
    · cases hc
  · rename_i s cs hg
    have := (AHeap.lt_get hl hg).2
    split at hc
    · simp only [Option.some.injEq] at hc; subst hc; exact ltL_take (ltL_drop this _) _
    · cases hc
  · rename_i g' s cs hg
    have := (AHeap.lt_get hl hg).2
    split at hc
    · simp only [Option.some.injEq] at hc; subst hc; exact ltL_take (ltL_drop this _) _
    · cases hc
  · cases hc

theorem AHeap.gid?_mem : ∀ {h : AHeap} {g i : Nat}, h.gid? g = some i → ∃ s cs, (i, .glob g s cs) ∈ h
  | [], _, _, h => by simp [AHeap.gid?] at h
  | (j, o) :: t, g, i, h => by
    cases o with
    | glob g' s cs =>
      simp only [AHeap.gid?] at h
      split at h
      · rename_i he
        subst he
        simp only [Option.some.injEq] at h; subst h
        exact ⟨s, cs, List.mem_cons_self⟩
      · obtain ⟨s', cs', hm⟩ := AHeap.gid?_mem h; exact ⟨s', cs', List.mem_cons_of_mem _ hm⟩
    | _ => simp only [AHeap.gid?] at h; obtain ⟨s', cs', hm⟩ := AHeap.gid?_mem h; exact ⟨s', cs', List.mem_cons_of_mem _ hm⟩
theorem HR.gcells {ι : Env} {h : AHeap} {w : World} (hr : HR ι h w) {g off n : Nat} {l : List AV} (hc : h.gcells? g off n = some l) : ∃ i, h.gid? g = some i ∧ ι.blk i = g ∧ h.cells? i off n = some l := by
  unfold AHeap.gcells? at hc
  split at hc
  · rename_i i hi
    obtain ⟨s, cs, hm⟩ := AHeap.gid?_mem hi
    exact ⟨i, hi, hr.glob i g s cs hm, hc⟩
  · cases hc

theorem HR.loadCells {ι : Env} {h : AHeap} {w : World} {P : Program} (hr : HR ι h w) {i off n : Nat} {l : List AV} (hc : h.cells? i off n = some l) :
    (Go.loadCells ⟨ι.blk i, off, none⟩ n).run P w = .ok (concL ι l).toArray w := by
  obtain ⟨hl, hcell⟩ := hr.cells hc
  have := run_loadCells_list (P := P) w ⟨ι.blk i, off, none⟩ (concL ι l) (fun j v hv => by
    rw [concL_getElem?, Option.map_eq_some_iff] at hv
    obtain ⟨u, hu, rfl⟩ := hv
    rw [add_none]; exact hcell j u hu)
  rw [concL_length, hl] at this
  exact this

/- a new object -/
def Env.ext (ι : Env) (n b c : Nat) : Env := { blk := fun i => if i = n then b else ι.blk i, cap := fun i => if i = n then c else ι.cap i }
theorem Env.ext_agree (ι : Env) (n b c : Nat) : Env.Agree n ι (ι.ext n b c) :=
  ⟨fun i hi => by simp [Env.ext]; omega, fun i hi => by simp [Env.ext]; omega⟩

theorem HR.new {n : Nat} {ι : Env} {h : AHeap} {w : World} (hr : HR ι h w) (hl : h.lt n = true) (ob : Obj) (o : AObj) (c : Nat) (hf : o.fits (ι.ext n w.heap.size c) ob) (hng : o.isGlob = false := by rfl) :
    HR (ι.ext n w.heap.size c) ((n, o) :: h) (w.alloc ob) ∧ StepR n ι h w (n + 1) (ι.ext n w.heap.size c) ((n, o) :: h) (w.alloc ob) := by
  have ha := Env.ext_agree ι n w.heap.size c
  have hbn : (ι.ext n w.heap.size c).blk n = w.heap.size := by simp [Env.ext]
  have hold : ∀ b, b < w.heap.size → (w.alloc ob).heap[b]? = w.heap[b]? := fun b hb => by
    show (w.heap.push ob)[b]? = _
    rw [Array.getElem?_push, if_neg (by omega)]
  have hr1 : HR ι h (w.alloc ob) := hr.keep fun i o hm => hold _ (hr.blk_lt hm)
  have hr2 := hr1.agree ha hl
  refine ⟨⟨fun i o' hm => ?_, ?_, fun i g s cs hm => ?_⟩, ⟨Nat.le_succ _, ha, ⟨rfl, rfl, rfl, by simp, fun b hb _ => hold b hb⟩, fun b hb => ?_⟩⟩
  · rcases List.mem_cons.1 hm with e | hm
    · injection e with e1 e2
      subst e1; subst e2
      exact ⟨ob, by rw [hbn]; show (w.heap.push ob)[w.heap.size]? = _; simp, hf⟩
    · exact hr2.fits i o' hm
  · refine List.pairwise_cons.2 ⟨fun p hp _ => ?_, hr2.apart⟩
    have h1 := hr.blk_lt (i := p.1) (o := p.2) hp
    have h2 : p.1 < n := by have := (List.all_eq_true.1 hl) p hp; simp at this; exact this.1
    rw [hbn, ha.blk _ h2]; omega
  · rcases List.mem_cons.1 hm with e | hm
    · injection e with e1 e2
      rw [← e2] at hng; cases hng
    · exact hr2.glob i g s cs hm
  · obtain ⟨i, o', hm, ho, rfl⟩ := hb
    rcases List.mem_cons.1 hm with e | hm
    · injection e with e1 _
      subst e1
      exact .inr (by rw [hbn]; exact Nat.le_refl _)
    · exact .inl ((Owns.agree ha hl).1 ⟨i, o', hm, ho, rfl⟩)

/- an owned object written over -/
theorem AHeap.put_mem {h : AHeap} {i : Nat} {o' : AObj} {p : Nat × AObj} (hp : p ∈ h.put i o') : p ∈ h ∨ (p = (i, o') ∧ ∃ o, (i, o) ∈ h) := by
  induction h with
  | nil => simp [AHeap.put] at hp
  | cons q h ih =>
    obtain ⟨j, o⟩ := q
    simp only [AHeap.put] at hp
    split at hp
    · rename_i hj
      subst hj
      rcases List.mem_cons.1 hp with e | hm
      · exact .inr ⟨e, o, by simp⟩
      · exact .inl (List.mem_cons_of_mem _ hm)
    · rcases List.mem_cons.1 hp with e | hm
      · exact .inl (by rw [e]; simp)
      · rcases ih hm with hm | ⟨e, o2, h2⟩
        · exact .inl (List.mem_cons_of_mem _ hm)
        · exact .inr ⟨e, o2, List.mem_cons_of_mem _ h2⟩

theorem HR.put {ι : Env} {h : AHeap} {w w' : World} (hr : HR ι h w) {i : Nat} {o o' : AObj} (hg : h.get? i = some o) (ho : o.owned = true) (ho' : o'.owned = true) (ob' : Obj)
    (hw : w'.heap[ι.blk i]? = some ob') (hf : o'.fits ι ob') (hother : ∀ b, b ≠ ι.blk i → w'.heap[b]? = w.heap[b]?) : HR ι (h.put i o') w' := by
  have hmem := AHeap.get?_mem hg
  have key : ∀ (l : AHeap), l.Sublist h → l.get? i = some o → HR ι (l.put i o') w' := by
    intro l
    induction l with
    | nil => intro _ hl; simp [AHeap.get?] at hl
    | cons q l ih =>
      intro hs hl
      obtain ⟨j, oj⟩ := q
      have hap := hr.apart.sublist hs
      rw [List.pairwise_cons] at hap
      simp only [AHeap.get?] at hl
      simp only [AHeap.put]
      split
      · rename_i hj
        rw [if_pos hj] at hl
        simp only [Option.some.injEq] at hl
        subst hj; subst hl
        refine ⟨fun k ok hm => ?_, List.pairwise_cons.2 ⟨fun p hp _ => hap.1 p hp (.inl ho), hap.2⟩, fun k g s cs hm => by
          rcases List.mem_cons.1 hm with e | hm
          · injection e with e1 e2; rw [← e2] at ho'; cases ho'
          · exact hr.glob k g s cs (hs.subset (List.mem_cons_of_mem _ hm))⟩
        rcases List.mem_cons.1 hm with e | hm
        · injection e with e1 e2
          subst e1; subst e2
          exact ⟨ob', hw, hf⟩
        · have hne := hap.1 (k, ok) hm (.inl ho)
          obtain ⟨ob, hob, hfit⟩ := hr.fits k ok (hs.subset (List.mem_cons_of_mem _ hm))
          exact ⟨ob, (hother _ (fun e => hne e.symm)).trans hob, hfit⟩
      · rename_i hj
        rw [if_neg hj] at hl
        have ih' := ih ((List.sublist_cons_self _ _).trans hs) hl
        have hbne : ι.blk j ≠ ι.blk i := hap.1 (i, o) (AHeap.get?_mem hl) (.inr ho)
        refine ⟨fun k ok hm => ?_, List.pairwise_cons.2 ⟨fun p hp hpo => ?_, ih'.apart⟩, fun k g s cs hm => by
          rcases List.mem_cons.1 hm with e | hm
          · exact hr.glob k g s cs (hs.subset (by rw [e]; exact List.mem_cons_self))
          · exact ih'.glob k g s cs hm⟩
        · rcases List.mem_cons.1 hm with e | hm
          · injection e with e1 e2
            subst e1; subst e2
            obtain ⟨ob, hob, hfit⟩ := hr.fits k ok (hs.subset (by simp))
            exact ⟨ob, (hother _ hbne).trans hob, hfit⟩
          · exact ih'.fits k ok hm
        · rcases AHeap.put_mem hp with hp | ⟨rfl, _⟩
          · exact hap.1 p hp hpo
          · exact hbne
  exact key h (List.Sublist.refl _) hg

theorem Owns.put {ι : Env} {h : AHeap} {i : Nat} {o o' : AObj} (hg : h.get? i = some o) (ho : o.owned = true) {b : Nat} (hb : Owns ι (h.put i o') b) : Owns ι h b := by
  obtain ⟨k, ok, hm, hok, rfl⟩ := hb
  rcases AHeap.put_mem hm with hm | ⟨e, _⟩
  · exact ⟨k, ok, hm, hok, rfl⟩
  · injection e with e1 _
    subst e1
    exact ⟨k, o, AHeap.get?_mem hg, ho, rfl⟩
theorem AHeap.put_lt {n : Nat} {h : AHeap} (hl : h.lt n = true) {i : Nat} {o' : AObj} (ho : o'.lt n = true) : (h.put i o').lt n = true := by
  refine List.all_eq_true.2 fun p hp => ?_
  rcases AHeap.put_mem hp with hp | ⟨rfl, o, hm⟩
  · exact (List.all_eq_true.1 hl) p hp
  · have := (List.all_eq_true.1 hl) _ hm
    simp only [Bool.and_eq_true, decide_eq_true_eq] at this ⊢
    exact ⟨this.1, ho⟩
theorem stepR_put {n : Nat} {ι : Env} {h : AHeap} {w w' : World} {i : Nat} {o o' : AObj} (hg : h.get? i = some o) (ho : o.owned = true)
    (hos : w'.os = w.os) (ht : w'.tape = w.tape) (hout : w'.output = w.output) (hsz : w.heap.size ≤ w'.heap.size) (hother : ∀ b, b ≠ ι.blk i → w'.heap[b]? = w.heap[b]?) :
    StepR n ι h w n ι (h.put i o') w' :=
  ⟨Nat.le_refl _, .refl _ _, ⟨hos, ht, hout, hsz, fun k _ hno => hother k (fun e => hno ⟨i, o, AHeap.get?_mem hg, ho, e.symm⟩)⟩, fun _ hb => .inl (Owns.put hg ho hb)⟩
end Go.Ax
