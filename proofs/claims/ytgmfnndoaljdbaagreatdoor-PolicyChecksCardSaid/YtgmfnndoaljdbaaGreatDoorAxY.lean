/- Functions of the model's own: calls that give a value at once. -/
import Derived.Test.YtgmfnndoaljdbaaGreatDoorAxX
import Derived.Laws.Externs
import Derived.Lib.Bytealg
import Derived.Lib.BytesEntry
set_option linter.all false
namespace Go.Ax
open Go
set_option maxRecDepth 20000

/- the bytes of a string or of a slice of bytes -/
def bytesAt (hp : AHeap) : AV → Option (List UInt8)
  | .str s => some s
  | .nilslice => some []
  | .slice i off len _ => (hp.cells? i off len).bind bytesOfL
  | _ => none

section
variable {P : Program}

theorem ext_quiet {f : FuncId} {fn : Func} {e : Array Value → Sem Value} (hf : P.funcs[f]? = some fn) (hname : (fn.name == "runtime.NumGoroutine") = false) (hb : fn.body.isNone = true) (hn : Extern.findNext fn = none) (he : Extern.find fn = some e)
    {args : List AV} {hp : AHeap} {n : Nat} {v : AV} (hv : hp.lt n = true → ltL n args = true → v.lt n = true) (h : ∀ ι w, HR ι hp w → (e (concL ι args).toArray).run P w = .ok (v.conc ι) w) : ACalls P f args hp n (Is (.ret v, hp, n)) := by
  intro hl hal ι w hr
  refine .inr ⟨v.conc ι, w, ?_, .ret v, hp, n, ι, rfl, rfl, hr, hl, hv hl hal, .refl _ _ _ _⟩
  rw [run_callFunc_extern hf hname hb hn he, h ι w hr]; rfl

theorem run_bytesAt {ι : Env} {hp : AHeap} {w : World} (hr : HR ι hp w) {v : AV} {s : List UInt8} (h : bytesAt hp v = some s) : (Extern.Bytes.bytesOf (v.conc ι)).run P w = .ok ⟨s.toArray⟩ w := by
  unfold bytesAt at h
  split at h
  · simp only [Option.some.injEq] at h; subst h; rfl
  · simp only [Option.some.injEq] at h; subst h; rfl
  · rename_i i off len c
    simp only [Option.bind_eq_some_iff] at h
    obtain ⟨cs, hcs, hb⟩ := h
    have hb' := bytesOfL_eq hb
    have hcells := (hr.cells hcs).2
    have hlen := (hr.cells hcs).1
    have hsl : s.length = len := by rw [hb'] at hlen; simpa [byteCellsOf] using hlen
    have := Lib.run_loadBytesX (P := P) w (s.map fun b => (b.toNat : Int)) ⟨ι.blk i, off, none⟩ .empty (fun j x hj => by
      rw [List.getElem?_map, Option.map_eq_some_iff] at hj
      obtain ⟨b, hj, rfl⟩ := hj
      rw [add_none]
      exact hcells j (.int .u8 b.toNat) (by rw [hb']; simp [byteCellsOf, hj]))
    simp only [List.length_map, hsl] at this
    simp only [AV.conc, Extern.Bytes.bytesOf]
    rw [this]
    congr 1
    apply ByteArray.ext
    simp only [Lib.bytesOf, List.map_map]
    have hid : s.map ((fun n : Int => n.toNat.toUInt8) ∘ fun b : UInt8 => (b.toNat : Int)) = s := by
      refine (List.map_congr_left fun b _ => ?_).trans (List.map_id s)
      show ((b.toNat : Int)).toNat.toUInt8 = id b
      rw [Int.toNat_natCast]; exact UInt8.ofNat_toNat
    rw [hid]; simp
  · cases h

def extCompare (args : List AV) (hp : AHeap) (n : Nat) : Option (AEnd × AHeap × Nat) :=
  match args with
  | [a, b] =>
    match bytesAt hp a, bytesAt hp b with
    | some x, some y => some (.ret (.int .i64 (Lib.compareBytes x y)), hp, n)
    | _, _ => none
  | _ => none
theorem extCompare_ok {f : FuncId} {fn : Func} (hf : P.funcs[f]? = some fn) (hname : (fn.name == "runtime.NumGoroutine") = false) (hb : fn.body.isNone = true) (hn : Extern.findNext fn = none) (he : Extern.find fn = some Extern.BytealgCompare.compare)
    (args : List AV) (hp : AHeap) (n : Nat) (r : AEnd × AHeap × Nat) (h : extCompare args hp n = some r) : ACalls P f args hp n (Is r) := by
  unfold extCompare at h
  split at h
  · rename_i a b
    split at h
    · rename_i x y hx hy
      simp only [Option.some.injEq] at h; subst h
      refine ext_quiet hf hname hb hn he (fun _ _ => rfl) fun ι w hr => ?_
      change Sem.run P (do pure (goInt (Extern.BytealgCompare.cmp (← Extern.Bytes.bytesOf (a.conc ι)) (← Extern.Bytes.bytesOf (b.conc ι))))) w = _
      simp only [Sem.run_bind, run_bytesAt hr hx, run_bytesAt hr hy, Result.andThen_ok, Sem.run_pure, Lib.cmp_eq]
      rfl
    · cases h
  · cases h

def extIndexByte (args : List AV) (hp : AHeap) (n : Nat) : Option (AEnd × AHeap × Nat) :=
  match args with
  | [a, .int .u8 c] =>
    match bytesAt hp a with
    | some x => some (.ret (.int .i64 (Lib.indexByte x c.toNat.toUInt8)), hp, n)
    | none => none
  | _ => none
theorem extIndexByte_ok {f : FuncId} {fn : Func} (hf : P.funcs[f]? = some fn) (hname : (fn.name == "runtime.NumGoroutine") = false) (hb : fn.body.isNone = true) (hn : Extern.findNext fn = none) (he : Extern.find fn = some Extern.BytealgIndexByte.indexByte)
    (args : List AV) (hp : AHeap) (n : Nat) (r : AEnd × AHeap × Nat) (h : extIndexByte args hp n = some r) : ACalls P f args hp n (Is r) := by
  unfold extIndexByte at h
  split at h
  · rename_i a c
    split at h
    · rename_i x hx
      simp only [Option.some.injEq] at h; subst h
      refine ext_quiet hf hname hb hn he (fun _ _ => rfl) fun ι w hr => ?_
      have hs := Lib.run_indexByteString (P := P) ⟨x.toArray⟩ c w
      change Sem.run P (do
        let b ← Extern.Bytes.bytesOf (.string ⟨x.toArray⟩)
        let c ← Extern.Bytes.asByte (.int .u8 c)
        match (List.range b.size).find? fun i => b[i]! == c with
        | some i => pure (goInt i)
        | none => pure (goInt (-1))) w = _ at hs
      change Sem.run P (do
        let b ← Extern.Bytes.bytesOf (a.conc ι)
        let c ← Extern.Bytes.asByte (.int .u8 c)
        match (List.range b.size).find? fun i => b[i]! == c with
        | some i => pure (goInt i)
        | none => pure (goInt (-1))) w = _
      simp only [Sem.run_bind, run_bytesAt hr hx, Result.andThen_ok]
      simp only [Extern.Bytes.bytesOf, Sem.run_bind, Sem.run_pure, Result.andThen_ok] at hs
      exact hs
    · cases h
  · cases h

def extCount (args : List AV) (hp : AHeap) (n : Nat) : Option (AEnd × AHeap × Nat) :=
  match args with
  | [.str x, .int .u8 c] => some (.ret (.int .i64 (Lib.countByte x c.toNat.toUInt8)), hp, n)
  | _ => none
theorem extCount_ok {f : FuncId} {fn : Func} (hf : P.funcs[f]? = some fn) (hname : (fn.name == "runtime.NumGoroutine") = false) (hb : fn.body.isNone = true) (hn : Extern.findNext fn = none) (he : Extern.find fn = some Extern.BytealgCount.count)
    (args : List AV) (hp : AHeap) (n : Nat) (r : AEnd × AHeap × Nat) (h : extCount args hp n = some r) : ACalls P f args hp n (Is r) := by
  unfold extCount at h
  split at h
  · rename_i x c
    simp only [Option.some.injEq] at h; subst h
    exact ext_quiet hf hname hb hn he (fun _ _ => rfl) fun ι w hr => Lib.run_countString (P := P) ⟨x.toArray⟩ c w
  · cases h
end
end Go.Ax
