/- Names renamed: a call's contract in a small memory holds in a larger one. -/
import Derived.Test.YtgmfnndoaljdbaaGreatDoorAxX
set_option linter.all false
namespace Go.Ax
open Go
set_option maxRecDepth 20000

def ACap.ren (f : Nat → Nat) : ACap → ACap
  | .exact c => .exact c
  | .var x k => .var (f x) k
mutual
def AV.ren (f : Nat → Nat) : AV → AV
  | .bool b => .bool b
  | .int k n => .int k n
  | .str s => .str s
  | .ptr i off => .ptr (f i) off
  | .gptr g off => .gptr g off
  | .nilptr => .nilptr
  | .slice i off len c => .slice (f i) off len (c.ren f)
  | .nilslice => .nilslice
  | .map i => .map (f i)
  | .nilmap => .nilmap
  | .func g a b => .func g (renL f a) (renL f b)
  | .yieldf i => .yieldf (f i)
  | .nilfunc => .nilfunc
  | .iface t v => .iface t (v.ren f)
  | .niliface => .niliface
  | .agg l => .agg (renL f l)
  | .tuple l => .tuple (renL f l)
def renL (f : Nat → Nat) : List AV → List AV
  | [] => []
  | v :: l => v.ren f :: renL f l
end
theorem renL_eq (f : Nat → Nat) (l : List AV) : renL f l = l.map (AV.ren f) := by
  induction l with
  | nil => rfl
  | cons v l ih => simp [renL, ih]
@[simp] theorem renL_length (f : Nat → Nat) (l : List AV) : (renL f l).length = l.length := by simp [renL_eq]
theorem renL_getElem? (f : Nat → Nat) (l : List AV) (i : Nat) : (renL f l)[i]? = (l[i]?).map (AV.ren f) := by simp [renL_eq]

/- f turns the names below m as ι' asks -/
structure RenOK (f : Nat → Nat) (m : Nat) (ι ι' : Env) : Prop where
  blk : ∀ i, i < m → ι'.blk (f i) = ι.blk i
  cap : ∀ i, i < m → ι'.cap (f i) = ι.cap i
theorem ACap.ren_val {f : Nat → Nat} {m : Nat} {ι ι' : Env} (h : RenOK f m ι ι') {c : ACap} (hc : c.lt m = true) : (c.ren f).val ι' = c.val ι := by
  cases c with
  | exact c => rfl
  | var x k => simp only [ACap.lt, decide_eq_true_eq] at hc; simp [ACap.ren, ACap.val, h.cap x hc]
mutual
theorem AV.ren_conc {f : Nat → Nat} {m : Nat} {ι ι' : Env} (h : RenOK f m ι ι') : ∀ (v : AV), v.lt m = true → (v.ren f).conc ι' = v.conc ι
  | .bool _, _ | .int _ _, _ | .str _, _ | .gptr _ _, _ | .nilptr, _ | .nilslice, _ | .nilmap, _ | .nilfunc, _ | .niliface, _ => rfl
  | .ptr i off, hv => by simp only [AV.lt, decide_eq_true_eq] at hv; simp [AV.ren, AV.conc, h.blk i hv]
  | .slice i off len c, hv => by
    simp only [AV.lt, Bool.and_eq_true, decide_eq_true_eq] at hv; simp [AV.ren, AV.conc, h.blk i hv.1, ACap.ren_val h hv.2]
  | .map i, hv => by simp only [AV.lt, decide_eq_true_eq] at hv; simp [AV.ren, AV.conc, h.blk i hv]
  | .func g a b, hv => by
    simp only [AV.lt, Bool.and_eq_true] at hv; simp only [AV.ren, AV.conc, renL_conc h a hv.1, renL_conc h b hv.2]
  | .yieldf i, hv => by simp only [AV.lt, decide_eq_true_eq] at hv; simp [AV.ren, AV.conc, h.blk i hv]
  | .iface t v, hv => by simp only [AV.lt] at hv; simp only [AV.ren, AV.conc, AV.ren_conc h v hv]
  | .agg l, hv => by simp only [AV.lt] at hv; simp only [AV.ren, AV.conc, renL_conc h l hv]
  | .tuple l, hv => by simp only [AV.lt] at hv; simp only [AV.ren, AV.conc, renL_conc h l hv]
theorem renL_conc {f : Nat → Nat} {m : Nat} {ι ι' : Env} (h : RenOK f m ι ι') : ∀ (l : List AV), ltL m l = true → concL ι' (renL f l) = concL ι l
  | [], _ => rfl
  | v :: l, hl => by
    simp only [ltL, Bool.and_eq_true] at hl
    simp only [renL, concL, AV.ren_conc h v hl.1, renL_conc h l hl.2]
end
theorem ACap.ren_lt {f : Nat → Nat} {m m' : Nat} (h : ∀ i, i < m → f i < m') {c : ACap} (hc : c.lt m = true) : (c.ren f).lt m' = true := by
  cases c with
  | exact c => rfl
  | var x k => simp only [ACap.lt, decide_eq_true_eq] at hc; simp [ACap.ren, ACap.lt, h x hc]
mutual
theorem AV.ren_lt {f : Nat → Nat} {m m' : Nat} (h : ∀ i, i < m → f i < m') : ∀ (v : AV), v.lt m = true → (v.ren f).lt m' = true
  | .bool _, _ | .int _ _, _ | .str _, _ | .gptr _ _, _ | .nilptr, _ | .nilslice, _ | .nilmap, _ | .nilfunc, _ | .niliface, _ => rfl
  | .ptr i off, hv => by simp only [AV.lt, decide_eq_true_eq] at hv; simp [AV.ren, AV.lt, h i hv]
  | .slice i off len c, hv => by
    simp only [AV.lt, Bool.and_eq_true, decide_eq_true_eq] at hv; simp [AV.ren, AV.lt, h i hv.1, ACap.ren_lt h hv.2]
  | .map i, hv => by simp only [AV.lt, decide_eq_true_eq] at hv; simp [AV.ren, AV.lt, h i hv]
  | .func g a b, hv => by
    simp only [AV.lt, Bool.and_eq_true] at hv; simp only [AV.ren, AV.lt, renL_lt h a hv.1, renL_lt h b hv.2, Bool.and_self]
  | .yieldf i, hv => by simp only [AV.lt, decide_eq_true_eq] at hv; simp [AV.ren, AV.lt, h i hv]
  | .iface t v, hv => by simp only [AV.lt] at hv; simp only [AV.ren, AV.lt, AV.ren_lt h v hv]
  | .agg l, hv => by simp only [AV.lt] at hv; simp only [AV.ren, AV.lt, renL_lt h l hv]
  | .tuple l, hv => by simp only [AV.lt] at hv; simp only [AV.ren, AV.lt, renL_lt h l hv]
theorem renL_lt {f : Nat → Nat} {m m' : Nat} (h : ∀ i, i < m → f i < m') : ∀ (l : List AV), ltL m l = true → ltL m' (renL f l) = true
  | [], _ => rfl
  | v :: l, hl => by
    simp only [ltL, Bool.and_eq_true] at hl
    simp only [renL, ltL, AV.ren_lt h v hl.1, renL_lt h l hl.2, Bool.and_self]
end
/- what bears no name stays -/
theorem ACap.ren_same {f : Nat → Nat} {m : Nat} (h : ∀ i, i < m → f i = i) {c : ACap} (hc : c.lt m = true) : c.ren f = c := by
  cases c with
  | exact c => rfl
  | var x k => simp only [ACap.lt, decide_eq_true_eq] at hc; simp [ACap.ren, h x hc]
mutual
theorem AV.ren_same {f : Nat → Nat} {m : Nat} (h : ∀ i, i < m → f i = i) : ∀ (v : AV), v.lt m = true → v.ren f = v
  | .bool _, _ | .int _ _, _ | .str _, _ | .gptr _ _, _ | .nilptr, _ | .nilslice, _ | .nilmap, _ | .nilfunc, _ | .niliface, _ => rfl
  | .ptr i off, hv => by simp only [AV.lt, decide_eq_true_eq] at hv; simp [AV.ren, h i hv]
  | .slice i off len c, hv => by
    simp only [AV.lt, Bool.and_eq_true, decide_eq_true_eq] at hv; simp [AV.ren, h i hv.1, ACap.ren_same h hv.2]
  | .map i, hv => by simp only [AV.lt, decide_eq_true_eq] at hv; simp [AV.ren, h i hv]
  | .func g a b, hv => by
    simp only [AV.lt, Bool.and_eq_true] at hv; simp only [AV.ren, renL_same h a hv.1, renL_same h b hv.2]
  | .yieldf i, hv => by simp only [AV.lt, decide_eq_true_eq] at hv; simp [AV.ren, h i hv]
  | .iface t v, hv => by simp only [AV.lt] at hv; simp only [AV.ren, AV.ren_same h v hv]
  | .agg l, hv => by simp only [AV.lt] at hv; simp only [AV.ren, renL_same h l hv]
  | .tuple l, hv => by simp only [AV.lt] at hv; simp only [AV.ren, renL_same h l hv]
theorem renL_same {f : Nat → Nat} {m : Nat} (h : ∀ i, i < m → f i = i) : ∀ (l : List AV), ltL m l = true → renL f l = l
  | [], _ => rfl
  | v :: l, hl => by
    simp only [ltL, Bool.and_eq_true] at hl
    simp only [renL, AV.ren_same h v hl.1, renL_same h l hl.2]
end

/- objects -/
def AObj.isData : AObj → Bool
  | .own _ _ _ _ => true
  | .map _ _ => true
  | _ => false
def AObj.ren (f : Nat → Nat) : AObj → AObj
  | .own cs e none fz => .own (renL f cs) e none fz
  | .own cs e (some (x, es, k)) fz => .own (renL f cs) e (some (f x, es, k)) fz
  | .map es clock => .map (es.map fun e => (e.1.ren f, e.2.1.ren f, e.2.2)) clock
  | .ro s cs => .ro s (renL f cs)
  | .glob g s cs => .glob g s (renL f cs)
  | o => o
theorem AObj.ren_fits {f : Nat → Nat} {m : Nat} {ι ι' : Env} (h : RenOK f m ι ι') {o : AObj} (hd : o.isData = true) (hl : o.lt m = true) {ob : Obj} (hf : o.fits ι ob) : (o.ren f).fits ι' ob := by
  match o, hd, hl, hf with
  | .own cs e none fz, _, hl, hf =>
    simp only [AObj.lt, Bool.and_eq_true] at hl
    simp only [AObj.ren, AObj.fits, renL_conc h cs hl.1] at hf ⊢; exact hf
  | .own cs e (some (x, es, k)) fz, _, hl, hf =>
    simp only [AObj.lt, Bool.and_eq_true, decide_eq_true_eq] at hl
    simp only [AObj.ren, AObj.fits, renL_conc h cs hl.1, renL_length, h.cap x hl.2] at hf ⊢; exact hf
  | .map es clock, _, hl, hf =>
    simp only [AObj.lt, List.all_eq_true, Bool.and_eq_true] at hl
    simp only [AObj.ren, AObj.fits, List.map_map] at hf ⊢
    rw [hf]
    congr 2
    refine List.map_congr_left fun e he => ?_
    have := hl e he
    simp [concE, AV.ren_conc h _ this.1, AV.ren_conc h _ this.2]
theorem AObj.ren_lt {f : Nat → Nat} {m m' : Nat} (h : ∀ i, i < m → f i < m') {o : AObj} (hd : o.isData = true) (hl : o.lt m = true) : (o.ren f).lt m' = true := by
  match o, hd, hl with
  | .own cs e none fz, _, hl => simp only [AObj.lt, Bool.and_eq_true] at hl; simp [AObj.ren, AObj.lt, renL_lt h cs hl.1]
  | .own cs e (some (x, es, k)) fz, _, hl => simp only [AObj.lt, Bool.and_eq_true, decide_eq_true_eq] at hl; simp [AObj.ren, AObj.lt, renL_lt h cs hl.1, h x hl.2]
  | .map es clock, _, hl =>
    simp only [AObj.lt, List.all_eq_true, Bool.and_eq_true] at hl
    simp only [AObj.ren, AObj.lt, List.all_map, List.all_eq_true, Function.comp, Bool.and_eq_true]
    exact fun e he => ⟨AV.ren_lt h _ (hl e he).1, AV.ren_lt h _ (hl e he).2⟩
theorem AObj.ren_owned {f : Nat → Nat} {o : AObj} (hd : o.isData = true) : (o.ren f).owned = true := by
  match o, hd with
  | .own cs e none fz, _ => rfl
  | .own cs e (some (x, es, k)) fz, _ => rfl
  | .map es clock, _ => rfl
theorem AObj.ren_noGlob {f : Nat → Nat} {o : AObj} (hd : o.isData = true) (g s : Nat) (cs : List AV) : o.ren f ≠ .glob g s cs := by
  match o, hd with
  | .own cs e none fz, _ => intro h; cases h
  | .own cs e (some (x, es, k)) fz, _ => intro h; cases h
  | .map es clock, _ => intro h; cases h
theorem AObj.isData_owned {o : AObj} (hd : o.isData = true) : o.owned = true := by cases o <;> first | rfl | cases hd

/- what is new behind the call, under new names -/
def fresh (n0 : Nat) (h : AHeap) : AHeap := h.filter fun p => decide (n0 ≤ p.1) && p.2.isData
def renH (f : Nat → Nat) (h : AHeap) : AHeap := h.map fun p => (f p.1, p.2.ren f)
def AEnd.ren (f : Nat → Nat) : AEnd → AEnd
  | .ret v => .ret (v.ren f)
  | .panic v => .panic (v.ren f)
def upN (σ : Nat → Nat) (n0 n : Nat) (i : Nat) : Nat := if i < n0 then σ i else n + (i - n0)

theorem renOK_pull (σ : Nat → Nat) (m : Nat) (ι : Env) : RenOK σ m { blk := fun i => ι.blk (σ i), cap := fun i => ι.cap (σ i) } ι := ⟨fun _ _ => rfl, fun _ _ => rfl⟩
/- the small memory is seen in the large one -/
def Cover (σ : Nat → Nat) (hp0 hp : AHeap) : Prop :=
  ∀ p ∈ hp0, match p.2 with
    | .ro s cs => hp.cells? (σ p.1) s cs.length = some (renL σ cs)
    | .glob g s cs => hp.get? (σ p.1) = some (.glob g s (renL σ cs))
    | _ => False

theorem cover_lt {σ : Nat → Nat} {hp0 hp : AHeap} {n : Nat} (hc : Cover σ hp0 hp) (hl : hp.lt n = true) {p : Nat × AObj} (hp' : p ∈ hp0) : σ p.1 < n := by
  have := hc p hp'
  obtain ⟨i, o⟩ := p
  cases o with
  | ro s cs =>
    simp only [AHeap.cells?] at this
    cases hg : hp.get? (σ i) with
    | none => simp [hg] at this
    | some o => exact (AHeap.lt_get hl hg).1
  | glob g s cs => exact (AHeap.lt_get hl this).1
  | _ => exact this.elim
theorem cover_owned {σ : Nat → Nat} {hp0 hp : AHeap} (hc : Cover σ hp0 hp) {p : Nat × AObj} (hp' : p ∈ hp0) : p.2.owned = false := by
  have := hc p hp'
  obtain ⟨i, o⟩ := p
  cases o with
  | ro s cs => rfl
  | glob g s cs => rfl
  | _ => exact this.elim
theorem cover_HR {σ : Nat → Nat} {hp0 hp : AHeap} {n0 : Nat} {ι : Env} {w : World} (hc : Cover σ hp0 hp) (hl0 : hp0.lt n0 = true) (hr : HR ι hp w) : HR { blk := fun i => ι.blk (σ i), cap := fun i => ι.cap (σ i) } hp0 w := by
  have hcell : ∀ (cs : List AV) (c : Array Value) (s : Nat), (∀ j v, (renL σ cs)[j]? = some v → c[s + j]? = some (v.conc ι)) → ltL n0 cs = true → ∀ j v, cs[j]? = some v → c[s + j]? = some (v.conc { blk := fun i => ι.blk (σ i), cap := fun i => ι.cap (σ i) }) := by
    intro cs c s h hl j v hv
    rw [h j (v.ren σ) (by rw [renL_getElem?, hv]; rfl)]
    rw [AV.ren_conc (renOK_pull σ n0 ι) v (ltL_get hl hv)]
  refine ⟨fun i o hm => ?_, ?_, fun i g s cs hm => ?_⟩
  · have h1 := hc _ hm
    have h2 := (List.all_eq_true.1 hl0) _ hm
    simp only [Bool.and_eq_true] at h2
    cases o with
    | ro s cs =>
      obtain ⟨ob, hob, c, e, fz, rfl, hcs⟩ := (hr.ro_of h1).fits _ _ List.mem_cons_self
      exact ⟨_, hob, c, e, fz, rfl, hcell cs c s hcs h2.2⟩
    | glob g s cs =>
      obtain ⟨ob, hob, c, e, fz, rfl, hcs⟩ := hr.get h1
      exact ⟨_, hob, c, e, fz, rfl, hcell cs c s hcs h2.2⟩
    | _ => exact h1.elim
  · refine List.pairwise_iff_forall_sublist.2 fun {p q} hs ho => ?_
    rw [cover_owned hc (hs.subset (by simp)), cover_owned hc (hs.subset (by simp))] at ho
    simp at ho
  · exact hr.glob _ _ _ _ (AHeap.get?_mem (hc _ hm))

/- every name below n0 is in the small memory -/
def Dense (n0 : Nat) (hp0 : AHeap) : Bool := (List.range n0).all fun i => hp0.any fun p => p.1 == i

theorem AEnd.ren_conc {f : Nat → Nat} {m : Nat} {ι ι' : Env} (h : RenOK f m ι ι') {e : AEnd} (hl : e.lt m = true) : (e.ren f).conc ι' = e.conc ι := by
  cases e with
  | ret v => simp only [AEnd.ren, AEnd.conc, AV.ren_conc h v hl]
  | panic v => simp only [AEnd.ren, AEnd.conc, AV.ren_conc h v hl]
theorem AEnd.ren_lt {f : Nat → Nat} {m m' : Nat} (h : ∀ i, i < m → f i < m') {e : AEnd} (hl : e.lt m = true) : (e.ren f).lt m' = true := by
  cases e with
  | ret v => exact AV.ren_lt h v hl
  | panic v => exact AV.ren_lt h v hl

/- THE FRAME -/
theorem ACalls.frame {P : Program} {g : FuncId} {args0 : List AV} {hp0 hp : AHeap} {n0 n : Nat} {R : AEnd → AHeap → Nat → Prop} (σ : Nat → Nat) (h : ACalls P g args0 hp0 n0 R)
    (hl0 : hp0.lt n0 = true) (ha0 : ltL n0 args0 = true) (hd : Dense n0 hp0 = true) (hc : Cover σ hp0 hp) :
    ACalls P g (renL σ args0) hp n fun e h k => ∃ e0 h0 k0, R e0 h0 k0 ∧ n0 ≤ k0 ∧ e = e0.ren (upN σ n0 n) ∧ h = renH (upN σ n0 n) (fresh n0 h0) ++ hp ∧ k = n + (k0 - n0) := by
  intro hl hal ι w hr
  have hσ : ∀ i, i < n0 → σ i < n := by
    intro i hi
    have := (List.all_eq_true.1 hd) i (List.mem_range.2 hi)
    rw [List.any_eq_true] at this
    obtain ⟨p, hp', he⟩ := this
    simp only [beq_iff_eq] at he
    subst he
    exact cover_lt hc hl hp'
  have hr0 := cover_HR hc hl0 hr
  have hargs : concL ι (renL σ args0) = concL { blk := fun i => ι.blk (σ i), cap := fun i => ι.cap (σ i) } args0 := renL_conc (renOK_pull σ n0 ι) args0 ha0
  have hno : ∀ b, ¬ Owns { blk := fun i => ι.blk (σ i), cap := fun i => ι.cap (σ i) } hp0 b := by
    rintro b ⟨i, o, hm, ho, _⟩
    have := cover_owned hc hm
    rw [this] at ho; cases ho
  have key : ∀ e w', CPost R { blk := fun i => ι.blk (σ i), cap := fun i => ι.cap (σ i) } hp0 n0 w e w' →
      CPost (fun e h k => ∃ e0 h0 k0, R e0 h0 k0 ∧ n0 ≤ k0 ∧ e = e0.ren (upN σ n0 n) ∧ h = renH (upN σ n0 n) (fresh n0 h0) ++ hp ∧ k = n + (k0 - n0)) ι hp n w e w' := by
    rintro e w' ⟨ae, h0, k0, ι0', rfl, hR, hr', hlt', hae, hst⟩
    have hle := hst.le
    let ι1 : Env := { blk := fun j => if j < n then ι.blk j else ι0'.blk (n0 + (j - n)), cap := fun j => if j < n then ι.cap j else ι0'.cap (n0 + (j - n)) }
    have hren : RenOK (upN σ n0 n) k0 ι0' ι1 := by
      constructor
      · intro i hi
        show (if upN σ n0 n i < n then ι.blk (upN σ n0 n i) else ι0'.blk (n0 + (upN σ n0 n i - n))) = _
        unfold upN
        by_cases h1 : i < n0
        · rw [if_pos h1, if_pos (hσ i h1), hst.agree.blk i h1]
        · rw [if_neg h1, if_neg (by omega)]; congr 1; omega
      · intro i hi
        show (if upN σ n0 n i < n then ι.cap (upN σ n0 n i) else ι0'.cap (n0 + (upN σ n0 n i - n))) = _
        unfold upN
        by_cases h1 : i < n0
        · rw [if_pos h1, if_pos (hσ i h1), hst.agree.cap i h1]
        · rw [if_neg h1, if_neg (by omega)]; congr 1; omega
    have hlts : ∀ i, i < k0 → upN σ n0 n i < n + (k0 - n0) := by
      intro i hi
      unfold upN
      split
      · rename_i h1; have := hσ i h1; omega
      · omega
    have hag : Env.Agree n ι ι1 := ⟨fun i hi => by show (if i < n then _ else _) = _; rw [if_pos hi], fun i hi => by show (if i < n then _ else _) = _; rw [if_pos hi]⟩
    have hkeep : ∀ i o, (i, o) ∈ hp → w'.heap[ι.blk i]? = w.heap[ι.blk i]? := fun i o hm => hst.kept.block _ (hr.blk_lt hm) (hno _)
    have hr1 : HR ι1 hp w' := (hr.keep hkeep).agree hag hl
    have hfresh : ∀ p ∈ fresh n0 h0, p ∈ h0 ∧ n0 ≤ p.1 ∧ p.2.isData = true ∧ p.1 < k0 ∧ p.2.lt k0 = true := by
      intro p hp'
      simp only [fresh, List.mem_filter, Bool.and_eq_true, decide_eq_true_eq] at hp'
      have := (List.all_eq_true.1 hlt') p hp'.1
      simp only [Bool.and_eq_true, decide_eq_true_eq] at this
      exact ⟨hp'.1, hp'.2.1, hp'.2.2, this.1, this.2⟩
    have hbig : ∀ p ∈ fresh n0 h0, w.heap.size ≤ ι1.blk (upN σ n0 n p.1) := by
      intro p hp'
      obtain ⟨h1, h2, h3, h4, h5⟩ := hfresh p hp'
      rw [hren.blk _ h4]
      exact (hst.owns _ ⟨p.1, p.2, h1, AObj.isData_owned h3, rfl⟩).elim (fun ho => absurd ho (hno _)) id
    refine ⟨ae.ren (upN σ n0 n), renH (upN σ n0 n) (fresh n0 h0) ++ hp, n + (k0 - n0), ι1, (AEnd.ren_conc hren hae).symm, ⟨ae, h0, k0, hR, hle, rfl, rfl, rfl⟩, ⟨fun i o hm => ?_, ?_, fun i g s cs hm => ?_⟩, ?_, AEnd.ren_lt hlts hae,
      ⟨Nat.le_add_right _ _, hag, ⟨hst.kept.os, hst.kept.tape, hst.kept.output, hst.kept.size, fun b hb _ => hst.kept.block b hb (hno b)⟩, fun b hb => ?_⟩⟩
    · rcases List.mem_append.1 hm with hm | hm
      · simp only [renH, List.mem_map, Prod.mk.injEq] at hm
        obtain ⟨p, hp', rfl, rfl⟩ := hm
        obtain ⟨h1, h2, h3, h4, h5⟩ := hfresh p hp'
        obtain ⟨ob, hob, hf⟩ := hr'.fits p.1 p.2 h1
        exact ⟨ob, by rw [hren.blk _ h4]; exact hob, AObj.ren_fits hren h3 h5 hf⟩
      · exact hr1.fits i o hm
    · refine List.pairwise_append.2 ⟨?_, hr1.apart, ?_⟩
      · refine List.pairwise_map.2 ?_
        have : (fresh n0 h0).Pairwise fun p q => (p.2.owned = true ∨ q.2.owned = true) → ι0'.blk p.1 ≠ ι0'.blk q.1 := hr'.apart.sublist List.filter_sublist
        refine this.imp_of_mem fun {p q} hp' hq hpq _ => ?_
        rw [hren.blk _ (hfresh p hp').2.2.2.1, hren.blk _ (hfresh q hq).2.2.2.1]
        exact hpq (.inl (AObj.isData_owned (hfresh p hp').2.2.1))
      · intro p hp' q hq _
        simp only [renH, List.mem_map] at hp'
        obtain ⟨p', hp'', rfl⟩ := hp'
        have h1 := hbig p' hp''
        have h2 := hr.blk_lt (i := q.1) (o := q.2) hq
        have h3 : q.1 < n := by have := (List.all_eq_true.1 hl) q hq; simp at this; exact this.1
        rw [hag.blk _ h3]
        simp only
        omega
    · rcases List.mem_append.1 hm with hm | hm
      · simp only [renH, List.mem_map, Prod.mk.injEq] at hm
        obtain ⟨p, hp', _, he⟩ := hm
        exact absurd he (AObj.ren_noGlob (hfresh p hp').2.2.1 g s cs)
      · exact hr1.glob i g s cs hm
    · refine List.all_eq_true.2 fun p hp' => ?_
      rcases List.mem_append.1 hp' with hm | hm
      · simp only [renH, List.mem_map] at hm
        obtain ⟨p', hp'', rfl⟩ := hm
        obtain ⟨h1, h2, h3, h4, h5⟩ := hfresh p' hp''
        simp only [Bool.and_eq_true, decide_eq_true_eq]
        exact ⟨hlts _ h4, AObj.ren_lt hlts h3 h5⟩
      · exact (List.all_eq_true.1 (AHeap.lt_mono (Nat.le_add_right n (k0 - n0)) hl)) p hm
    · obtain ⟨i, o, hm, ho, rfl⟩ := hb
      rcases List.mem_append.1 hm with hm | hm
      · simp only [renH, List.mem_map, Prod.mk.injEq] at hm
        obtain ⟨p, hp', rfl, rfl⟩ := hm
        exact .inr (hbig p hp')
      · exact .inl ((Owns.agree hag hl).1 ⟨i, o, hm, ho, rfl⟩)
  rcases h hl0 ha0 _ w hr0 with ⟨hent, hcall⟩ | ⟨v, w', hv, hp'⟩
  · refine .inl ⟨hent, ?_⟩
    rw [hargs]
    exact hcall.mono key
  · refine .inr ⟨v, w', ?_, key _ _ hp'⟩
    rw [hargs]; exact hv

/- a call that hands back one thing, and changes nothing -/
theorem ACalls.frame_is {P : Program} {g : FuncId} {args0 : List AV} {hp0 hp h0 : AHeap} {n0 n k0 : Nat} {e0 : AEnd} (σ : Nat → Nat) (h : ACalls P g args0 hp0 n0 (Is (e0, h0, k0)))
    (hl0 : hp0.lt n0 = true) (ha0 : ltL n0 args0 = true) (hd : Dense n0 hp0 = true) (hc : Cover σ hp0 hp) :
    ACalls P g (renL σ args0) hp n (Is (e0.ren (upN σ n0 n), renH (upN σ n0 n) (fresh n0 h0) ++ hp, n + (k0 - n0))) := by
  refine (h.frame σ hl0 ha0 hd hc).mono ?_
  rintro e h k ⟨e1, h1, k1, hI, hle, rfl, rfl, rfl⟩
  injection hI with a b
  injection b with b c
  subst a; subst b; subst c
  exact rfl
/- less is known behind it -/
theorem ACalls.sub {P : Program} {g : FuncId} {args : List AV} {hp : AHeap} {n : Nat} {R R' : AEnd → AHeap → Nat → Prop} (h : ACalls P g args hp n R) (hs : ∀ e h k, R e h k → ∃ h0 : AHeap, h0.Sublist h ∧ R' e h0 k) : ACalls P g args hp n R' := by
  intro hl hal ι w hr
  have key : ∀ e w', CPost R ι hp n w e w' → CPost R' ι hp n w e w' := by
    rintro e w' ⟨ae, hp', n', ι', rfl, hR, hr', hl', hae, hst⟩
    obtain ⟨h0, hsub, hR'⟩ := hs _ _ _ hR
    exact ⟨ae, h0, n', ι', rfl, hR', hr'.sub hsub, List.all_eq_true.2 fun p hp => (List.all_eq_true.1 hl') p (hsub.subset hp), hae, ⟨hst.le, hst.agree, hst.kept, fun b hb => hst.owns b (hb.sub fun p hp => hsub.subset hp)⟩⟩
  exact (h hl hal ι w hr).imp (fun ⟨a, b⟩ => ⟨a, b.mono fun _ _ => key _ _⟩) (fun ⟨v, w', a, b⟩ => ⟨v, w', a, key _ _ b⟩)
/- how a contract is used -/
theorem ACalls.use {P : Program} {g : FuncId} {args : List AV} {hp hp' : AHeap} {n n' : Nat} {e : AEnd} {R : AEnd → AHeap → Nat → Prop} (h : ACalls P g args hp n (Is (e, hp', n'))) (hR : R e hp' n') : ACalls P g args hp n R := by
  refine h.mono ?_
  rintro e1 h1 k1 hI
  injection hI with a b
  injection b with b c
  subst a; subst b; subst c
  exact hR
end Go.Ax
