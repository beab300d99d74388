/- Further operations: those that depend on no memory. -/
import Derived.Test.YtgmfnndoaljdbaaGreatDoorAxM
import Derived.Lib.UnsafeStr
set_option linter.all false
namespace Go.Ax
open Go
set_option maxRecDepth 20000

inductive XOp where
  | minmax (mx : Bool) (x y : LOpd)
  | cap (x : LOpd)
  | arrAt (n : Nat) (x : LOpd)
  | asrt (t : TypeId) (ok : Bool) (zero : AV) (x : LOpd)
  | uSliceData (x : LOpd)
  | b2s (x : LOpd)
  | s2b (x : LOpd)
  | uString (e : TypeId) (p n : LOpd)
  | rangeS (x : LOpd)
  | nextS (x : LOpd)
  | mkMap
  | lookup (kind : Leaf) (ok : Bool) (zero : AV) (m k : LOpd)
  | mapUp (kind : Leaf) (m k v : LOpd)
  | copy (es : Nat) (d s : LOpd)
  deriving Inhabited

def XOp.isPure : XOp → Bool
  | .minmax _ _ _ | .cap _ | .arrAt _ _ | .asrt _ _ _ _ | .uSliceData _ => true
  | _ => false
def XOp.pv (tm : LTm) : XOp → Option AV
  | .minmax mx x y =>
    match x.val tm, y.val tm with
    | some (.int k a), some (.int _ b) => some (.int k (if (if mx then a < b else b < a) then b else a))
    | _, _ => none
  | .cap x =>
    match x.val tm with
    | some (.slice _ _ _ (.exact c)) => some (.int .i64 c)
    | some .nilslice => some (.int .i64 0)
    | _ => none
  | .arrAt n x =>
    match x.val tm with
    | some (.slice i off len _) => if n ≤ len then some (.ptr i off) else none
    | some .nilslice => if n ≤ 0 then some .nilptr else none
    | _ => none
  | .asrt t ok zero x =>
    match x.val tm with
    | some (.iface t' v) => if t' = t then some (if ok then .tuple [v, .bool true] else v) else if ok then some (.tuple [zero, .bool false]) else none
    | some .niliface => if ok then some (.tuple [zero, .bool false]) else none
    | _ => none
  | .uSliceData x =>
    match x.val tm with
    | some .nilslice => some .nilptr
    | some (.slice i off _ (.exact c)) => if c = 0 then none else some (.ptr i off)
    | some (.slice i off _ (.var _ k)) => if k = 0 then none else some (.ptr i off)
    | _ => none
  | _ => none

def leafKind : TypeDesc → Option Leaf
  | .bool => some .b
  | .int _ => some .i
  | .string => some .s
  | _ => none
def isConcrete (P : Program) (t : TypeId) : Bool :=
  match P.underlying t with
  | some (.interface _) => false
  | some _ => true
  | none => false
def resolveXB (P : Program) (b : Builtin) (args : List Operand) (ts : List TypeId) : Option XOp :=
  match b, args, ts with
  | .min, [x, y], _ =>
    match opd x, opd y with
    | some lx, some ly => some (.minmax false lx ly)
    | _, _ => none
  | .max, [x, y], _ =>
    match opd x, opd y with
    | some lx, some ly => some (.minmax true lx ly)
    | _, _ => none
  | .cap, [x], [t] =>
    match P.underlying t, opd x with
    | some (.slice _), some lx => some (.cap lx)
    | _, _ => none
  | .unsafeSliceData, [x], _ => (opd x).map .uSliceData
  | .unsafeString, [p, n], [pt, _] =>
    match P.underlying pt, opd p, opd n with
    | some (.pointer e), some lp, some ln => if P.cellsOf e = 1 then some (.uString e lp ln) else none
    | _, _, _ => none
  | .copy, [d, s], [t, t'] =>
    match P.underlying t, opd d, opd s with
    | some (.slice e), some ld, some ls =>
      match P.info? e with
      | some inf => if appendable P t' = true ∧ 0 < inf.size then some (.copy inf.size ld ls) else none
      | none => none
    | _, _, _ => none
  | _, _, _ => none
def resolveX (P : Program) (o : Oper) : Option XOp :=
  match o.op with
  | .call c =>
    match c.callee with
    | .builtin b => resolveXB P b c.args.toList c.argTypes.toList
    | _ => none
  | .sliceToArrayPointer arr x =>
    match P.underlying arr, opd x with
    | some (.array n _), some lx => some (.arrAt n lx)
    | _, _ => none
  | .typeAssert x _ t ok =>
    match opd x, zeroAV P t with
    | some lx, some z => if isConcrete P t then some (.asrt t ok z lx) else none
    | _, _ => none
  | .convert s d x =>
    match P.underlying s, P.underlying d, opd x with
    | some (.slice e), some .string, some lx =>
      match P.underlying e with
      | some (.int .u8) => some (.b2s lx)
      | _ => none
    | some .string, some (.slice e), some lx =>
      match P.underlying e with
      | some (.int .u8) => some (.s2b lx)
      | _ => none
    | _, _, _ => none
  | .range t x =>
    match P.underlying t, opd x with
    | some .string, some lx => some (.rangeS lx)
    | _, _ => none
  | .next it true => (opd it).map .nextS
  | .makeMap _ none => some .mkMap
  | .lookup t m k ok =>
    match P.underlying t, opd m, opd k with
    | some (.map kt et), some lm, some lk =>
      match (P.underlying kt).bind leafKind, zeroAV P et with
      | some kind, some z => some (.lookup kind ok z lm lk)
      | _, _ => none
    | _, _, _ => none
  | .mapUpdate t m k v | .insert t m k v =>
    match P.underlying t, opd m, opd k, opd v with
    | some (.map kt _), some lm, some lk, some lv =>
      match (P.underlying kt).bind leafKind with
      | some kind => some (.mapUp kind lm lk lv)
      | _ => none
    | _, _, _, _ => none
  | _ => none

section
variable {P : Program} {o : Oper} {ι : Env} {tm : LTm} {hp hp' : AHeap} {n n' : Nat} {a : Act} {w : World} {xo : XOp} {v : AV}

theorem xb_args {c : Call} {l : List Operand} (h : c.args.toList = l) : c.args = l.toArray := by apply Array.toList_inj.1; simpa using h
theorem xb_types {c : Call} {l : List TypeId} (h : c.argTypes.toList = l) : c.argTypes = l.toArray := by apply Array.toList_inj.1; simpa using h

theorem xpure_sound (hpu : xo.isPure = true) (hres : resolveX P o = some xo) (ht : TmR ι tm a) (htl : tm.lt n = true) (hv : xo.pv tm = some v) : PureOK P o ι n a w v := by
  unfold resolveX at hres
  split at hres
  · rename_i c hop
    split at hres
    · rename_i b hb
      unfold resolveXB at hres
      split at hres
      · rename_i x y _ ha
        have ha' := xb_args ha
        split at hres
        · rename_i lx ly hx hy
          simp only [Option.some.injEq] at hres; subst hres
          simp only [XOp.pv] at hv
          split at hv
          · rename_i k p k' q h1 h2
            have e1 := ht.opd hx h1
            have e2 := ht.opd hy h2
            simp only [Option.some.injEq] at hv; subst hv
            exact ⟨by simp [execOp, hop, resolve, hb, ha', invoke, builtin, e1, e2, AV.conc, Builtin.min_, Builtin.min2], rfl⟩
          · cases hv
        · cases hres
      · rename_i x y _ ha
        have ha' := xb_args ha
        split at hres
        · rename_i lx ly hx hy
          simp only [Option.some.injEq] at hres; subst hres
          simp only [XOp.pv] at hv
          split at hv
          · rename_i k p k' q h1 h2
            have e1 := ht.opd hx h1
            have e2 := ht.opd hy h2
            simp only [Option.some.injEq] at hv; subst hv
            exact ⟨by simp [execOp, hop, resolve, hb, ha', invoke, builtin, e1, e2, AV.conc, Builtin.max_, Builtin.max2], rfl⟩
          · cases hv
        · cases hres
      · rename_i x t ha hts
        have ha' := xb_args ha
        have ht' := xb_types hts
        split at hres
        · rename_i e lx hu hx
          simp only [Option.some.injEq] at hres; subst hres
          simp only [XOp.pv] at hv
          split at hv
          · rename_i i off len c' h1
            have e1 := ht.opd hx h1
            simp only [Option.some.injEq] at hv; subst hv
            exact ⟨by simp [execOp, hop, resolve, hb, ha', ht', invoke, builtin, e1, AV.conc, Builtin.cap_, run_underlying hu, goInt, ACap.val], rfl⟩
          · rename_i h1
            have e1 := ht.opd hx h1
            simp only [Option.some.injEq] at hv; subst hv
            exact ⟨by simp [execOp, hop, resolve, hb, ha', ht', invoke, builtin, e1, AV.conc, Builtin.cap_, run_underlying hu, goInt], rfl⟩
          · cases hv
        · cases hres
      · rename_i x ts ha
        have ha' := xb_args ha
        simp only [Option.map_eq_some_iff] at hres
        obtain ⟨lx, hx, rfl⟩ := hres
        simp only [XOp.pv] at hv
        split at hv
        · rename_i h1
          have e1 := ht.opd hx h1
          simp only [Option.some.injEq] at hv; subst hv
          refine ⟨?_, rfl⟩
          simp only [execOp, hop, resolve, hb, ha', Sem.run_bind, Sem.run_pure, Result.andThen_ok, invoke, builtin, List.map_toArray, List.map_cons, List.map_nil, e1, AV.conc]
          rfl
        · rename_i i off len c' h1
          split at hv
          · cases hv
          · rename_i hc
            have e1 := ht.opd hx h1
            simp only [Option.some.injEq] at hv; subst hv
            refine ⟨?_, by have := opd_lt htl hx h1; simp only [AV.lt, Bool.and_eq_true] at this ⊢; exact this.1⟩
            simp only [execOp, hop, resolve, hb, ha', Sem.run_bind, Sem.run_pure, Result.andThen_ok, invoke, builtin, List.map_toArray, List.map_cons, List.map_nil, e1, AV.conc, ACap.val]
            rw [Lib.run_unsafeSliceData_row _ _ _ _ _ _ hc]; rfl
        · rename_i i off len x k h1
          split at hv
          · cases hv
          · rename_i hc
            have e1 := ht.opd hx h1
            simp only [Option.some.injEq] at hv; subst hv
            refine ⟨?_, by have := opd_lt htl hx h1; simp only [AV.lt, Bool.and_eq_true] at this ⊢; exact this.1⟩
            simp only [execOp, hop, resolve, hb, ha', Sem.run_bind, Sem.run_pure, Result.andThen_ok, invoke, builtin, List.map_toArray, List.map_cons, List.map_nil, e1, AV.conc, ACap.val]
            rw [Lib.run_unsafeSliceData_row _ _ _ _ _ _ (by omega)]; rfl
        · cases hv
      · split at hres
        · split at hres
          · simp only [Option.some.injEq] at hres; subst hres; simp [XOp.isPure] at hpu
          · cases hres
        · cases hres
      · split at hres
        · split at hres
          · split at hres
            · simp only [Option.some.injEq] at hres; subst hres; simp [XOp.isPure] at hpu
            · cases hres
          · cases hres
        · cases hres
      · cases hres
    · cases hres
  · rename_i arr x hop
    split at hres
    · rename_i m e lx hu hx
      simp only [Option.some.injEq] at hres; subst hres
      simp only [XOp.pv] at hv
      split at hv
      · rename_i i off len c h1
        split at hv
        · rename_i hle
          have e1 := ht.opd hx h1
          simp only [Option.some.injEq] at hv; subst hv
          refine ⟨?_, by have := opd_lt htl hx h1; simp only [AV.lt, Bool.and_eq_true] at this ⊢; exact this.1⟩
          simp only [execOp, hop, Instr.arrayAt, Sem.run_bind, run_underlying hu, Result.andThen_ok, e1, AV.conc]
          rw [if_neg (by omega)]; rfl
        · cases hv
      · rename_i h1
        split at hv
        · rename_i hle
          have e1 := ht.opd hx h1
          simp only [Option.some.injEq] at hv; subst hv
          refine ⟨?_, rfl⟩
          simp only [execOp, hop, Instr.arrayAt, Sem.run_bind, run_underlying hu, Result.andThen_ok, e1, AV.conc]
          rw [if_neg (by omega)]; rfl
        · cases hv
      · cases hv
    · cases hres
  · rename_i x xt t ok hop
    split at hres
    · rename_i lx z hx hz
      split at hres
      · rename_i hconc
        simp only [Option.some.injEq] at hres; subst hres
        obtain ⟨d, hd, hni⟩ : ∃ d, P.underlying t = some d ∧ ∀ ms, d ≠ .interface ms := by
          unfold isConcrete at hconc
          split at hconc
          · cases hconc
          · rename_i d hni hd; exact ⟨_, hd, fun ms e => hni ms e⟩
          · cases hconc
        obtain ⟨inf, zv, hi, hzv, hzc, hzl⟩ := zero_of (ι := ι) (n := n) hz
        simp only [XOp.pv] at hv
        split at hv
        · rename_i t' u h1
          have e1 := ht.opd hx h1
          have hl1 := opd_lt htl hx h1
          split at hv
          · rename_i htt
            subst htt
            simp only [Option.some.injEq] at hv; subst hv
            refine ⟨?_, by simp only [AV.lt] at hl1; cases ok <;> simp [AV.lt, ltL, hl1]⟩
            simp only [execOp, hop, Instr.typeAssert, Sem.run_bind, run_underlying hd, Result.andThen_ok, e1, AV.conc]
            cases d <;> first | exact absurd rfl (hni _) | (cases ok <;> simp [AV.conc, concL])
          · rename_i htt
            cases ok
            · cases hv
            · simp only [if_true, Option.some.injEq] at hv; subst hv
              refine ⟨?_, by simp [AV.lt, ltL, hzl]⟩
              simp only [execOp, hop, Instr.typeAssert, Sem.run_bind, run_underlying hd, Result.andThen_ok, e1, AV.conc]
              cases d <;> first | exact absurd rfl (hni _) | (simp [htt, run_zeroValue hi hzv, AV.conc, concL, hzc])
        · rename_i h1
          have e1 := ht.opd hx h1
          cases ok
          · cases hv
          · simp only [if_true, Option.some.injEq] at hv; subst hv
            refine ⟨?_, by simp [AV.lt, ltL, hzl]⟩
            simp only [execOp, hop, Instr.typeAssert, Sem.run_bind, run_underlying hd, Result.andThen_ok, e1, AV.conc]
            cases d <;> first | exact absurd rfl (hni _) | (simp [run_zeroValue hi hzv, AV.conc, concL, hzc])
        · cases hv
      · cases hres
    · cases hres
  · split at hres
    · split at hres
      · simp only [Option.some.injEq] at hres; subst hres; simp [XOp.isPure] at hpu
      · cases hres
    · split at hres
      · simp only [Option.some.injEq] at hres; subst hres; simp [XOp.isPure] at hpu
      · cases hres
    · cases hres
  · split at hres
    · simp only [Option.some.injEq] at hres; subst hres; simp [XOp.isPure] at hpu
    · cases hres
  · simp only [Option.map_eq_some_iff] at hres
    obtain ⟨_, _, rfl⟩ := hres; simp [XOp.isPure] at hpu
  · simp only [Option.some.injEq] at hres; subst hres; simp [XOp.isPure] at hpu
  · split at hres
    · split at hres
      · simp only [Option.some.injEq] at hres; subst hres; simp [XOp.isPure] at hpu
      · cases hres
    · cases hres
  · split at hres
    · split at hres
      · simp only [Option.some.injEq] at hres; subst hres; simp [XOp.isPure] at hpu
      · cases hres
    · cases hres
  · split at hres
    · split at hres
      · simp only [Option.some.injEq] at hres; subst hres; simp [XOp.isPure] at hpu
      · cases hres
    · cases hres
  · cases hres
end
end Go.Ax
