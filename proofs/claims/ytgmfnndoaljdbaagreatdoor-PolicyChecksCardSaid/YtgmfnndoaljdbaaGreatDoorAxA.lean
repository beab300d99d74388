/- Abstract values, named objects, and how they stand for a world. -/
import Derived.WalkKit
import Derived.RangeFuncIn
set_option linter.all false
namespace Go.Ax
open Go

inductive ACap where
  | exact (c : Nat)
  | var (x k : Nat)
  deriving Repr, Inhabited, DecidableEq

inductive AV where
  | bool (b : Bool)
  | int (k : IntKind) (n : Int)
  | str (s : List UInt8)
  | ptr (i off : Nat)
  | gptr (g off : Nat)
  | nilptr
  | slice (i off len : Nat) (c : ACap)
  | nilslice
  | map (i : Nat)
  | nilmap
  | func (f : Fn) (first caps : List AV)
  | yieldf (i : Nat)
  | nilfunc
  | iface (t : TypeId) (v : AV)
  | niliface
  | agg (l : List AV)
  | tuple (l : List AV)
  deriving Repr, Inhabited

structure Env where
  blk : Nat → Nat
  cap : Nat → Nat

def ACap.val (ι : Env) : ACap → Nat
  | .exact c => c
  | .var x k => k + ι.cap x

mutual
def AV.conc (ι : Env) : AV → Value
  | .bool b => .bool b
  | .int k n => .int k n
  | .str s => .string ⟨s.toArray⟩
  | .ptr i off => .pointer (some ⟨ι.blk i, off, none⟩)
  | .gptr g off => .pointer (some ⟨g, off, none⟩)
  | .nilptr => .pointer none
  | .slice i off len c => .slice (some ⟨ι.blk i, off, none⟩) len (c.val ι)
  | .nilslice => .slice none 0 0
  | .map i => .map (some (ι.blk i))
  | .nilmap => .map none
  | .func f first caps => .func f (concL ι first).toArray (concL ι caps).toArray
  | .yieldf i => .func (.yield (ι.blk i)) #[] #[]
  | .nilfunc => .nilFunc
  | .iface t v => .iface t (v.conc ι)
  | .niliface => .nilIface
  | .agg l => .agg (concL ι l).toArray
  | .tuple l => .tuple (concL ι l).toArray
def concL (ι : Env) : List AV → List Value
  | [] => []
  | v :: l => v.conc ι :: concL ι l
end

theorem concL_eq (ι : Env) (l : List AV) : concL ι l = l.map (AV.conc ι) := by
  induction l with
  | nil => rfl
  | cons v l ih => simp [concL, ih]
@[simp] theorem concL_length (ι : Env) (l : List AV) : (concL ι l).length = l.length := by simp [concL_eq]
theorem concL_append (ι : Env) (l m : List AV) : concL ι (l ++ m) = concL ι l ++ concL ι m := by simp [concL_eq]
theorem concL_getElem? (ι : Env) (l : List AV) (i : Nat) : (concL ι l)[i]? = (l[i]?).map (AV.conc ι) := by simp [concL_eq]

def ACap.lt (n : Nat) : ACap → Bool
  | .exact _ => true
  | .var x _ => x < n

/- no name at or above n occurs -/
mutual
def AV.lt (n : Nat) : AV → Bool
  | .ptr i _ => i < n
  | .slice i _ _ c => i < n && c.lt n
  | .map i => i < n
  | .func _ first caps => ltL n first && ltL n caps
  | .yieldf i => i < n
  | .iface _ v => v.lt n
  | .agg l => ltL n l
  | .tuple l => ltL n l
  | _ => true
def ltL (n : Nat) : List AV → Bool
  | [] => true
  | v :: l => v.lt n && ltL n l
end

theorem ltL_eq (n : Nat) (l : List AV) : ltL n l = l.all (AV.lt n) := by
  induction l with
  | nil => rfl
  | cons v l ih => simp [ltL, ih]
theorem ltL_append (n : Nat) (l m : List AV) : ltL n (l ++ m) = (ltL n l && ltL n m) := by simp [ltL_eq]
theorem ltL_mem {n : Nat} {l : List AV} (h : ltL n l = true) {v : AV} (hv : v ∈ l) : v.lt n = true := by
  rw [ltL_eq, List.all_eq_true] at h; exact h v hv
theorem ltL_get {n : Nat} {l : List AV} (h : ltL n l = true) {v : AV} {i : Nat} (hv : l[i]? = some v) : v.lt n = true :=
  ltL_mem h (List.mem_of_getElem? hv)
theorem ltL_take {n : Nat} {l : List AV} (h : ltL n l = true) (k : Nat) : ltL n (l.take k) = true := by
  rw [ltL_eq, List.all_eq_true] at h ⊢; exact fun v hv => h v (List.mem_of_mem_take hv)
theorem ltL_drop {n : Nat} {l : List AV} (h : ltL n l = true) (k : Nat) : ltL n (l.drop k) = true := by
  rw [ltL_eq, List.all_eq_true] at h ⊢; exact fun v hv => h v (List.mem_of_mem_drop hv)

structure Env.Agree (n : Nat) (ι ι' : Env) : Prop where
  blk : ∀ i, i < n → ι'.blk i = ι.blk i
  cap : ∀ i, i < n → ι'.cap i = ι.cap i
theorem Env.Agree.refl (n : Nat) (ι : Env) : Env.Agree n ι ι := ⟨fun _ _ => rfl, fun _ _ => rfl⟩
theorem Env.Agree.trans {n m : Nat} {a b c : Env} (h : Env.Agree n a b) (h' : Env.Agree m b c) (hnm : n ≤ m) : Env.Agree n a c :=
  ⟨fun i hi => (h'.blk i (by omega)).trans (h.blk i hi), fun i hi => (h'.cap i (by omega)).trans (h.cap i hi)⟩
theorem Env.Agree.less {n m : Nat} {a b : Env} (h : Env.Agree m a b) (hnm : n ≤ m) : Env.Agree n a b :=
  ⟨fun i hi => h.blk i (by omega), fun i hi => h.cap i (by omega)⟩

theorem ACap.val_agree {n : Nat} {ι ι' : Env} (h : Env.Agree n ι ι') {c : ACap} (hc : c.lt n = true) : c.val ι' = c.val ι := by
  cases c with
  | exact c => rfl
  | var x k => simp only [ACap.lt, decide_eq_true_eq] at hc; simp [ACap.val, h.cap x hc]

mutual
theorem AV.conc_agree {n : Nat} {ι ι' : Env} (h : Env.Agree n ι ι') : ∀ (v : AV), v.lt n = true → v.conc ι' = v.conc ι
  | .bool _, _ | .int _ _, _ | .str _, _ | .gptr _ _, _ | .nilptr, _ | .nilslice, _ | .nilmap, _ | .nilfunc, _ | .niliface, _ => rfl
  | .ptr i off, hv => by simp only [AV.lt, decide_eq_true_eq] at hv; simp [AV.conc, h.blk i hv]
  | .slice i off len c, hv => by
    simp only [AV.lt, Bool.and_eq_true, decide_eq_true_eq] at hv; simp [AV.conc, h.blk i hv.1, ACap.val_agree h hv.2]
  | .map i, hv => by simp only [AV.lt, decide_eq_true_eq] at hv; simp [AV.conc, h.blk i hv]
  | .func f a b, hv => by
    simp only [AV.lt, Bool.and_eq_true] at hv; simp only [AV.conc, concL_agree h a hv.1, concL_agree h b hv.2]
  | .yieldf i, hv => by simp only [AV.lt, decide_eq_true_eq] at hv; simp [AV.conc, h.blk i hv]
  | .iface t v, hv => by simp only [AV.lt] at hv; simp only [AV.conc, AV.conc_agree h v hv]
  | .agg l, hv => by simp only [AV.lt] at hv; simp only [AV.conc, concL_agree h l hv]
  | .tuple l, hv => by simp only [AV.lt] at hv; simp only [AV.conc, concL_agree h l hv]
theorem concL_agree {n : Nat} {ι ι' : Env} (h : Env.Agree n ι ι') : ∀ (l : List AV), ltL n l = true → concL ι' l = concL ι l
  | [], _ => rfl
  | v :: l, hl => by
    simp only [ltL, Bool.and_eq_true] at hl
    simp only [concL, AV.conc_agree h v hl.1, concL_agree h l hl.2]
end

mutual
theorem AV.lt_mono {n m : Nat} (hnm : n ≤ m) : ∀ (v : AV), v.lt n = true → v.lt m = true
  | .bool _, _ | .int _ _, _ | .str _, _ | .gptr _ _, _ | .nilptr, _ | .nilslice, _ | .nilmap, _ | .nilfunc, _ | .niliface, _ => rfl
  | .ptr i off, hv => by simp only [AV.lt, decide_eq_true_eq] at hv ⊢; omega
  | .slice i off len c, hv => by
    simp only [AV.lt, Bool.and_eq_true, decide_eq_true_eq] at hv ⊢
    refine ⟨by omega, ?_⟩
    cases c with
    | exact c => rfl
    | var x k => simp only [ACap.lt, decide_eq_true_eq] at hv ⊢; omega
  | .map i, hv => by simp only [AV.lt, decide_eq_true_eq] at hv ⊢; omega
  | .func f a b, hv => by
    simp only [AV.lt, Bool.and_eq_true] at hv ⊢; exact ⟨ltL_mono hnm a hv.1, ltL_mono hnm b hv.2⟩
  | .yieldf i, hv => by simp only [AV.lt, decide_eq_true_eq] at hv ⊢; omega
  | .iface t v, hv => by simp only [AV.lt] at hv ⊢; exact AV.lt_mono hnm v hv
  | .agg l, hv => by simp only [AV.lt] at hv ⊢; exact ltL_mono hnm l hv
  | .tuple l, hv => by simp only [AV.lt] at hv ⊢; exact ltL_mono hnm l hv
theorem ltL_mono {n m : Nat} (hnm : n ≤ m) : ∀ (l : List AV), ltL n l = true → ltL m l = true
  | [], _ => rfl
  | v :: l, hl => by
    simp only [ltL, Bool.and_eq_true] at hl ⊢
    exact ⟨AV.lt_mono hnm v hl.1, ltL_mono hnm l hl.2⟩
end

/- the cells of a value -/
def AV.cells : AV → List AV
  | .agg l => l
  | v => [v]
theorem AV.conc_cells (ι : Env) (v : AV) : (v.conc ι).cells = (concL ι v.cells).toArray := by
  cases v <;> simp [AV.conc, AV.cells, Value.cells, concL]
theorem AV.cells_lt {n : Nat} {v : AV} (h : v.lt n = true) : ltL n v.cells = true := by
  cases v <;> simp_all [AV.cells, AV.lt, ltL]
/- is it the value of one cell? -/
def AV.one : AV → Bool
  | .agg _ | .tuple _ => false
  | _ => true

abbrev LTm := List (Nat × AV)
def LTm.get? : LTm → Nat → Option AV
  | [], _ => none
  | (j, v) :: l, i => if j = i then some v else LTm.get? l i
def LTm.lt (n : Nat) (l : LTm) : Bool := l.all fun p => p.2.lt n
theorem LTm.lt_get {n : Nat} {l : LTm} (hl : l.lt n = true) {i : Nat} {v : AV} (hg : l.get? i = some v) : v.lt n = true := by
  induction l with
  | nil => simp [LTm.get?] at hg
  | cons p l ih =>
    obtain ⟨j, u⟩ := p
    simp only [LTm.lt, List.all_cons, Bool.and_eq_true] at hl
    simp only [LTm.get?] at hg
    split at hg
    · simp only [Option.some.injEq] at hg; subst hg; exact hl.1
    · exact ih hl.2 hg
theorem LTm.lt_mono {n m : Nat} (hnm : n ≤ m) {l : LTm} (hl : l.lt n = true) : l.lt m = true :=
  List.all_eq_true.2 fun p hp => AV.lt_mono hnm _ ((List.all_eq_true.1 hl) p hp)

/- the record of a range over a function -/
structure ALoop where
  state : LoopState
  pend : Option Code
  tm : LTm
  N : Nat
  ps : Array Tmp
  assign : Code
  body : Code
  dblk : Nat
  deriving Inhabited

inductive AObj where
  | own (cells : List AV) (elem : TypeId) (grow : Option (Nat × Nat × Nat)) (fz : Nat × Nat)
  | ro (start : Nat) (cells : List AV)
  | raw (o : Obj)
  | map (es : List (AV × AV × Nat)) (clock : Nat)
  | miter (m : Nat) (since : Nat) (seen : List Nat) (stepped : Nat)
  | siter (s : List UInt8) (pos : Nat)
  | loop (r : ALoop)
  | glob (g start : Nat) (cells : List AV)
  deriving Inhabited

def AObj.owned : AObj → Bool
  | .ro _ _ => false
  | .glob _ _ _ => false
  | _ => true

def AObj.isGlob : AObj → Bool
  | .glob _ _ _ => true
  | _ => false
def concE (ι : Env) (e : AV × AV × Nat) : MapEntry := { key := e.1.conc ι, val := e.2.1.conc ι, born := e.2.2 }

def AObj.fits (ι : Env) (ob : Obj) : AObj → Prop
  | .own cs e none fz => ob = .cells (concL ι cs).toArray e fz
  | .own cs e (some (x, es, k)) fz => ∃ rest : List Value, ob = .cells (concL ι cs ++ rest).toArray e fz ∧ cs.length + rest.length = (k + ι.cap x) * es
  | .ro s cs => ∃ c e fz, ob = .cells c e fz ∧ ∀ j v, cs[j]? = some v → c[s + j]? = some (v.conc ι)
  | .glob _ s cs => ∃ c e fz, ob = .cells c e fz ∧ ∀ j v, cs[j]? = some v → c[s + j]? = some (v.conc ι)
  | .raw o => ob = o
  | .map es clock => ob = .map (es.map (concE ι)).toArray clock
  | .miter m since seen st => ob = .mapIter (some (ι.blk m)) since seen.toArray st
  | .siter s pos => ob = .stringIter ⟨s.toArray⟩ pos
  | .loop r => ∃ (fn : Nat) (tmps : Array Value), ob = .loop { state := r.state, pending := r.pend, fn, tmps, params := r.ps, assign := r.assign, body := r.body, defers := ι.blk r.dblk } ∧ tmps.size = r.N ∧ ∀ t v, r.tm.get? t = some v → tmps[t]? = some (v.conc ι)

def AObj.lt (n : Nat) : AObj → Bool
  | .own cs _ g _ => ltL n cs && (match g with | some (x, _, _) => decide (x < n) | none => true)
  | .ro _ cs => ltL n cs
  | .glob _ _ cs => ltL n cs
  | .raw _ => true
  | .map es _ => es.all fun e => e.1.lt n && e.2.1.lt n
  | .miter m _ _ _ => m < n
  | .siter _ _ => true
  | .loop r => r.tm.lt n && decide (r.dblk < n)

theorem concE_agree {n : Nat} {ι ι' : Env} (h : Env.Agree n ι ι') {es : List (AV × AV × Nat)} (hl : (es.all fun e => e.1.lt n && e.2.1.lt n) = true) : es.map (concE ι') = es.map (concE ι) := by
  rw [List.all_eq_true] at hl
  refine List.map_congr_left fun e he => ?_
  have := hl e he
  simp only [Bool.and_eq_true] at this
  simp [concE, AV.conc_agree h _ this.1, AV.conc_agree h _ this.2]

theorem AObj.fits_agree {n : Nat} {ι ι' : Env} (h : Env.Agree n ι ι') {ob : Obj} {o : AObj} (ho : o.lt n = true) (hf : o.fits ι ob) : o.fits ι' ob := by
  match o, ho, hf with
  | .own cs e none fz, ho, hf =>
    simp only [AObj.lt, Bool.and_eq_true] at ho
    simp only [AObj.fits, concL_agree h cs ho.1] at hf ⊢; exact hf
  | .own cs e (some (x, es, k)) fz, ho, hf =>
    simp only [AObj.lt, Bool.and_eq_true, decide_eq_true_eq] at ho
    simp only [AObj.fits, concL_agree h cs ho.1, h.cap x ho.2] at hf ⊢; exact hf
  | .ro s cs, ho, hf =>
    obtain ⟨c, e, fz, hc, hcell⟩ := hf
    refine ⟨c, e, fz, hc, fun j v hv => ?_⟩
    rw [AV.conc_agree h v (ltL_get ho hv)]; exact hcell j v hv
  | .glob _ s cs, ho, hf =>
    obtain ⟨c, e, fz, hc, hcell⟩ := hf
    refine ⟨c, e, fz, hc, fun j v hv => ?_⟩
    rw [AV.conc_agree h v (ltL_get ho hv)]; exact hcell j v hv
  | .raw o, _, hf => exact hf
  | .map es clock, ho, hf => simp only [AObj.fits, concE_agree h ho] at hf ⊢; exact hf
  | .miter m s se st, ho, hf =>
    simp only [AObj.lt, decide_eq_true_eq] at ho
    simp only [AObj.fits, h.blk m ho] at hf ⊢; exact hf
  | .siter s pos, _, hf => exact hf
  | .loop r, ho, hf =>
    simp only [AObj.lt, Bool.and_eq_true, decide_eq_true_eq] at ho
    obtain ⟨fn, tmps, h1, h2, h3⟩ := hf
    exact ⟨fn, tmps, by rw [h.blk _ ho.2]; exact h1, h2, fun t v hv => by rw [AV.conc_agree h v (LTm.lt_get ho.1 hv)]; exact h3 t v hv⟩

abbrev AHeap := List (Nat × AObj)

def AHeap.get? : AHeap → Nat → Option AObj
  | [], _ => none
  | (j, o) :: h, i => if j = i then some o else AHeap.get? h i
def AHeap.put : AHeap → Nat → AObj → AHeap
  | [], _, _ => []
  | (j, o) :: h, i, o' => if j = i then (j, o') :: h else (j, o) :: AHeap.put h i o'

def AHeap.lt (n : Nat) (h : AHeap) : Bool := h.all fun p => decide (p.1 < n) && p.2.lt n

structure HR (ι : Env) (h : AHeap) (w : World) : Prop where
  fits : ∀ i o, (i, o) ∈ h → ∃ ob, w.heap[ι.blk i]? = some ob ∧ o.fits ι ob
  apart : h.Pairwise fun p q => (p.2.owned = true ∨ q.2.owned = true) → ι.blk p.1 ≠ ι.blk q.1
  glob : ∀ i g s cs, (i, .glob g s cs) ∈ h → ι.blk i = g

/- block b is one that the heap owns -/
def Owns (ι : Env) (h : AHeap) (b : Nat) : Prop := ∃ i o, (i, o) ∈ h ∧ o.owned = true ∧ ι.blk i = b

structure Kept (ι : Env) (h : AHeap) (w w' : World) : Prop where
  os : w'.os = w.os
  tape : w'.tape = w.tape
  output : w'.output = w.output
  size : w.heap.size ≤ w'.heap.size
  block : ∀ b, b < w.heap.size → ¬ Owns ι h b → w'.heap[b]? = w.heap[b]?

structure StepR (n : Nat) (ι : Env) (h : AHeap) (w : World) (n' : Nat) (ι' : Env) (h' : AHeap) (w' : World) : Prop where
  le : n ≤ n'
  agree : Env.Agree n ι ι'
  kept : Kept ι h w w'
  owns : ∀ b, Owns ι' h' b → Owns ι h b ∨ w.heap.size ≤ b

theorem Kept.refl (ι : Env) (h : AHeap) (w : World) : Kept ι h w w := ⟨rfl, rfl, rfl, Nat.le_refl _, fun _ _ _ => rfl⟩
theorem StepR.refl (n : Nat) (ι : Env) (h : AHeap) (w : World) : StepR n ι h w n ι h w :=
  ⟨Nat.le_refl _, .refl _ _, .refl _ _ _, fun _ hb => .inl hb⟩
theorem StepR.trans {n n1 n2 : Nat} {ι ι1 ι2 : Env} {h h1 h2 : AHeap} {w w1 w2 : World} (a : StepR n ι h w n1 ι1 h1 w1) (b : StepR n1 ι1 h1 w1 n2 ι2 h2 w2) :
    StepR n ι h w n2 ι2 h2 w2 where
  le := Nat.le_trans a.le b.le
  agree := a.agree.trans b.agree a.le
  kept := ⟨b.kept.os.trans a.kept.os, b.kept.tape.trans a.kept.tape, b.kept.output.trans a.kept.output, Nat.le_trans a.kept.size b.kept.size, fun k hk hno => by
    rw [b.kept.block k (Nat.lt_of_lt_of_le hk a.kept.size) (fun ho => (a.owns k ho).elim hno (fun hge => by omega)), a.kept.block k hk hno]⟩
  owns := fun k hk => (b.owns k hk).elim (fun ho => a.owns k ho) (fun hge => .inr (Nat.le_trans a.kept.size hge))

/- forgetting objects -/
theorem Owns.sub {ι : Env} {h h' : AHeap} (hs : ∀ p, p ∈ h' → p ∈ h) {b : Nat} (ho : Owns ι h' b) : Owns ι h b :=
  let ⟨i, o, hm, a, c⟩ := ho; ⟨i, o, hs _ hm, a, c⟩
theorem HR.sub {ι : Env} {h h' : AHeap} {w : World} (hr : HR ι h w) (hs : h'.Sublist h) : HR ι h' w :=
  ⟨fun i o hm => hr.fits i o (hs.subset hm), hr.apart.sublist hs, fun i g s cs hm => hr.glob i g s cs (hs.subset hm)⟩

theorem AHeap.get?_mem {h : AHeap} {i : Nat} {o : AObj} (hg : h.get? i = some o) : (i, o) ∈ h := by
  induction h with
  | nil => simp [AHeap.get?] at hg
  | cons p h ih =>
    obtain ⟨j, o'⟩ := p
    simp only [AHeap.get?] at hg
    split at hg
    · rename_i hj; simp only [Option.some.injEq] at hg; subst hj; subst hg; exact List.mem_cons_self
    · exact List.mem_cons_of_mem _ (ih hg)
theorem HR.get {ι : Env} {h : AHeap} {w : World} (hr : HR ι h w) {i : Nat} {o : AObj} (hg : h.get? i = some o) : ∃ ob, w.heap[ι.blk i]? = some ob ∧ o.fits ι ob :=
  hr.fits i o (AHeap.get?_mem hg)
theorem AHeap.lt_get {n : Nat} {h : AHeap} (hl : h.lt n = true) {i : Nat} {o : AObj} (hg : h.get? i = some o) : i < n ∧ o.lt n = true := by
  have := (List.all_eq_true.1 hl) _ (AHeap.get?_mem hg)
  simpa using this

theorem HR.blk_lt {ι : Env} {h : AHeap} {w : World} (hr : HR ι h w) {i : Nat} {o : AObj} (hm : (i, o) ∈ h) : ι.blk i < w.heap.size := by
  obtain ⟨ob, hob, _⟩ := hr.fits i o hm
  exact (Array.getElem?_eq_some_iff.1 hob).1

/- a world in which every block of the heap reads as before -/
theorem HR.keep {ι : Env} {h : AHeap} {w w' : World} (hr : HR ι h w) (hk : ∀ i o, (i, o) ∈ h → w'.heap[ι.blk i]? = w.heap[ι.blk i]?) : HR ι h w' :=
  ⟨fun i o hm => by obtain ⟨ob, hob, hf⟩ := hr.fits i o hm; exact ⟨ob, (hk i o hm).trans hob, hf⟩, hr.apart, hr.glob⟩
theorem HR.agree {n : Nat} {ι ι' : Env} {h : AHeap} {w : World} (hr : HR ι h w) (ha : Env.Agree n ι ι') (hl : h.lt n = true) : HR ι' h w := by
  have hlt : ∀ p ∈ h, p.1 < n ∧ p.2.lt n = true := fun p hp => by have := (List.all_eq_true.1 hl) p hp; simpa using this
  refine ⟨fun i o hm => ?_, ?_, fun i g s cs hm => by rw [ha.blk i (hlt _ hm).1]; exact hr.glob i g s cs hm⟩
  · obtain ⟨ob, hob, hf⟩ := hr.fits i o hm
    have := hlt _ hm
    exact ⟨ob, by rw [ha.blk i this.1]; exact hob, AObj.fits_agree ha this.2 hf⟩
  · refine hr.apart.imp_of_mem fun {p q} hp hq hpq ho => ?_
    rw [ha.blk _ (hlt p hp).1, ha.blk _ (hlt q hq).1]; exact hpq ho
theorem Owns.agree {n : Nat} {ι ι' : Env} {h : AHeap} (ha : Env.Agree n ι ι') (hl : h.lt n = true) {b : Nat} : Owns ι' h b ↔ Owns ι h b := by
  have hlt : ∀ p ∈ h, p.1 < n ∧ p.2.lt n = true := fun p hp => by have := (List.all_eq_true.1 hl) p hp; simpa using this
  constructor
  · rintro ⟨i, o, hm, ho, hb⟩; exact ⟨i, o, hm, ho, by rw [← ha.blk i (hlt _ hm).1]; exact hb⟩
  · rintro ⟨i, o, hm, ho, hb⟩; exact ⟨i, o, hm, ho, by rw [ha.blk i (hlt _ hm).1]; exact hb⟩
theorem AHeap.lt_mono {n m : Nat} (hnm : n ≤ m) {h : AHeap} (hl : h.lt n = true) : h.lt m = true := by
  refine List.all_eq_true.2 fun p hp => ?_
  have := (List.all_eq_true.1 hl) p hp
  simp only [Bool.and_eq_true, decide_eq_true_eq] at this ⊢
  refine ⟨by omega, ?_⟩
  match p.2, this.2 with
  | .own cs _ none _, ho => simp only [AObj.lt, Bool.and_true] at ho ⊢; exact ltL_mono hnm _ ho
  | .own cs _ (some (x, _, _)) _, ho => simp only [AObj.lt, Bool.and_eq_true, decide_eq_true_eq] at ho ⊢; exact ⟨ltL_mono hnm _ ho.1, by omega⟩
  | .ro _ cs, ho => exact ltL_mono hnm _ ho
  | .glob _ _ cs, ho => simp only [AObj.lt] at ho ⊢; exact ltL_mono hnm cs ho
  | .raw _, _ => rfl
  | .map es _, ho =>
    simp only [AObj.lt, List.all_eq_true, Bool.and_eq_true] at ho ⊢
    exact fun e he => ⟨AV.lt_mono hnm _ (ho e he).1, AV.lt_mono hnm _ (ho e he).2⟩
  | .miter m' _ _ _, ho => simp only [AObj.lt, decide_eq_true_eq] at ho ⊢; omega
  | .siter _ _, _ => rfl
  | .loop r, ho => simp only [AObj.lt, Bool.and_eq_true, decide_eq_true_eq] at ho ⊢; exact ⟨LTm.lt_mono hnm ho.1, by omega⟩
end Go.Ax
