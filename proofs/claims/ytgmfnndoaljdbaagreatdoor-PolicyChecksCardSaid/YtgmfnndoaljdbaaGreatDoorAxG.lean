/- The other operations that leave the memory alone. -/
import Derived.Test.YtgmfnndoaljdbaaGreatDoorAxF
set_option linter.all false
namespace Go.Ax
open Go
set_option maxRecDepth 20000

section
variable {P : Program} {o : Oper} {ι : Env} {tm : LTm} {hp : AHeap} {n : Nat} {a : Act} {w : World} {lo : LOp} {v : AV}

theorem run_binOp_eq {neg : Bool} {t : TypeId} {x y : Value} {r : Bool} (hne : ∀ k l k' l', x = .int k l → y = .int k' l' → False) (hs : ∀ s s', x = .string s → y = .string s' → False)
    (hf : ∀ k l, x = .float k l → False) (hc : ∀ k l m, x = .complex k l m → False)
    (he : (Op.equalIn 10000 t x y).run P w = .ok r w) : (binOp (if neg then .neq else .eql) t x y).run P w = .ok (.bool (r != neg)) w := by
  cases neg
  · simp only [Bool.false_eq_true, if_false]
    have : binOp .eql t x y = (do pure (.bool (← Op.equal t x y))) := by
      cases x <;> cases y <;> first
        | rfl
        | (exact (hne _ _ _ _ rfl rfl).elim)
        | (exact (hs _ _ rfl rfl).elim)
        | (exact (hf _ _ rfl).elim)
        | (exact (hc _ _ _ rfl).elim)
    rw [this]
    simp [Op.equal, Op.maxDepth, he]
  · simp only [if_true]
    have : binOp .neq t x y = (do pure (.bool (!(← Op.equal t x y)))) := by
      cases x <;> cases y <;> first
        | rfl
        | (exact (hne _ _ _ _ rfl rfl).elim)
        | (exact (hs _ _ rfl rfl).elim)
        | (exact (hf _ _ rfl).elim)
        | (exact (hc _ _ _ rfl).elim)
    rw [this]
    simp [Op.equal, Op.maxDepth, he]

theorem s_eqB {neg : Bool} {t : TypeId} {x y : Operand} {yt : TypeId} {lx ly : LOpd} (ht : TmR ι tm a) (ho : o.op = .binOp (if neg then .neq else .eql) t x y yt)
    (hx : opd x = some lx) (hy : opd y = some ly) (hu : P.underlying t = some .bool) (hv : (LOp.eqB neg lx ly).pv tm hp = some v) : PureOK P o ι n a w v := by
  simp only [LOp.pv] at hv
  split at hv
  · rename_i b1 b2 h1 h2
    simp only [Option.some.injEq] at hv; subst hv
    have e1 := ht.opd hx h1
    have e2 := ht.opd hy h2
    have hg : (eqGuard (if neg then .neq else .eql) t x y (.bool b1) (.bool b2)).run P w = .ok () w := eqGuard_quiet _ _ _ _ _ _ (fun _ => ⟨by simp, by simp⟩)
    have hb := run_binOp_eq (P := P) (w := w) (neg := neg) (t := t) (x := .bool b1) (y := .bool b2) (r := b1 == b2) (by simp) (by simp) (by simp) (by simp) (run_equalIn_bool' w 9999 t b1 b2 hu)
    exact ⟨by simp only [execOp, ho, e1, e2, AV.conc, Sem.run_bind, hg, Result.andThen_ok, hb, Sem.run_pure], rfl⟩
  · cases hv

theorem s_eqT {neg : Bool} {t : TypeId} {x y : Operand} {yt : TypeId} {lx ly : LOpd} {ks : List Leaf} (ht : TmR ι tm a) (ho : o.op = .binOp (if neg then .neq else .eql) t x y yt)
    (hx : opd x = some lx) (hy : opd y = some ly) (hag : aggT P t = some true) (hpl : plainT P 6 t = some ks) (hgd : P.eqGuardType P.depth t = false)
    (hv : (LOp.eqT neg ks lx ly).pv tm hp = some v) : PureOK P o ι n a w v := by
  simp only [LOp.pv] at hv
  split at hv
  · rename_i l m h1 h2
    simp only [Option.map_eq_some_iff] at hv
    obtain ⟨r, hr, rfl⟩ := hv
    have e1 := ht.opd hx h1
    have e2 := ht.opd hy h2
    have hg : (eqGuard (if neg then .neq else .eql) t x y (.agg (concL ι l).toArray) (.agg (concL ι m).toArray)).run P w = .ok () w := run_eqGuard_agg w _ _ _ _ _ _ hgd
    have hb := run_binOp_eq (P := P) (w := w) (neg := neg) (t := t) (x := .agg (concL ι l).toArray) (y := .agg (concL ι m).toArray) (r := r) (by simp) (by simp) (by simp) (by simp)
      ((plainT_sound 6 10000 t ks (by omega) hpl).2 ι w l m r hr hag)
    exact ⟨by simp only [execOp, ho, e1, e2, AV.conc, Sem.run_bind, hg, Result.andThen_ok, hb, Sem.run_pure], rfl⟩
  · cases hv

def nilish : AV → Bool
  | .ptr _ _ | .nilptr | .slice _ _ _ _ | .nilslice | .map _ | .nilmap | .func _ _ _ | .nilfunc | .iface _ _ | .niliface => true
  | _ => false
theorem eqNil_nilish {c : NilC} {x y : AV} {r : Bool} (h : eqNil c x y = some r) : nilish x = true ∧ (x = .niliface → c = .iface) := by
  unfold eqNil at h
  split at h <;> first
    | (cases h; done)
    | exact ⟨rfl, by simp⟩
def nilT : TypeDesc → Option NilC
  | .pointer _ => some .ptr
  | .slice _ => some .slice
  | .map _ _ => some .map
  | .func _ _ _ => some .func
  | .interface _ => some .iface
  | _ => none
set_option maxHeartbeats 4000000 in
theorem run_equalIn_nil {dd : Nat} {t : TypeId} {d : TypeDesc} {c : NilC} {x y : AV} {r : Bool} (hu : P.underlying t = some d) (hd : nilT d = some c) (hr : eqNil c x y = some r) :
    (Op.equalIn (dd + 1) t (x.conc ι) (y.conc ι)).run P w = .ok r w := by
  unfold Op.equalIn
  simp only [Sem.run_bind, run_underlying hu, Result.andThen_ok]
  unfold eqNil at hr
  split at hr <;> first
    | (cases hr; done)
    | (simp only [Option.some.injEq] at hr; subst hr; cases d <;> simp [nilT] at hd <;> rfl)
theorem s_eqN {neg : Bool} {t : TypeId} {x y : Operand} {yt : TypeId} {lx ly : LOpd} {c : NilC} {d : TypeDesc} (ht : TmR ι tm a) (ho : o.op = .binOp (if neg then .neq else .eql) t x y yt)
    (hx : opd x = some lx) (hy : opd y = some ly) (hu : P.underlying t = some d) (hd : nilT d = some c) (hk : c = .iface → Region.isConst x = true ∨ Region.isConst y = true)
    (hv : (LOp.eqN neg c lx ly).pv tm hp = some v) : PureOK P o ι n a w v := by
  simp only [LOp.pv] at hv
  split at hv
  · rename_i u1 u2 h1 h2
    simp only [Option.map_eq_some_iff] at hv
    obtain ⟨r, hr, rfl⟩ := hv
    have e1 := ht.opd hx h1
    have e2 := ht.opd hy h2
    have hg : (eqGuard (if neg then .neq else .eql) t x y (u1.conc ι) (u2.conc ι)).run P w = .ok () w := by
      obtain ⟨hn1, hn2⟩ := eqNil_nilish hr
      refine eqGuard_quiet _ _ _ _ _ _ (fun _ => ⟨?_, ?_⟩)
      · intro l m hl; cases u1 <;> simp [AV.conc, nilish] at hl hn1
      · intro hl _
        refine hk (hn2 ?_)
        cases u1 <;> simp [AV.conc] at hl ⊢
    have heq := run_equalIn_nil (P := P) (w := w) (ι := ι) (dd := 9999) hu hd hr
    have hn1 := (eqNil_nilish hr).1
    have hb := run_binOp_eq (P := P) (w := w) (neg := neg) (t := t) (x := u1.conc ι) (y := u2.conc ι) (r := r)
      (by intro k l k' l' h; cases u1 <;> simp [AV.conc, nilish] at h hn1) (by intro s s' h; cases u1 <;> simp [AV.conc, nilish] at h hn1)
      (by intro k l h; cases u1 <;> simp [AV.conc, nilish] at h hn1) (by intro k l m h; cases u1 <;> simp [AV.conc, nilish] at h hn1) heq
    exact ⟨by simp only [execOp, ho, e1, e2, Sem.run_bind, hg, Result.andThen_ok, hb, Sem.run_pure, AV.conc], rfl⟩
  · cases hv

theorem s_arith {op : BinOp} {t : TypeId} {x y : Operand} {yt : TypeId} {lx ly : LOpd} (ht : TmR ι tm a) (ho : o.op = .binOp op t x y yt)
    (hx : opd x = some lx) (hy : opd y = some ly) (hv : (LOp.arith op lx ly).pv tm hp = some v) : PureOK P o ι n a w v := by
  simp only [LOp.pv] at hv
  split at hv
  · rename_i u1 u2 h1 h2
    have e1 := ht.opd hx h1
    have e2 := ht.opd hy h2
    refine ⟨?_, arith_lt hv⟩
    simp only [execOp, ho, e1, e2, Sem.run_bind, arith_guard hv, run_arith hv, Result.andThen_ok, Sem.run_pure]
  · cases hv

theorem s_binOp {op : BinOp} {t : TypeId} {x y : Operand} {yt : TypeId} (ht : TmR ι tm a) (ho : o.op = .binOp op t x y yt) (hres : resolveOp P o = some lo) (hv : lo.pv tm hp = some v) : PureOK P o ι n a w v := by
  simp only [resolveOp, ho, Option.bind_eq_bind, Option.bind_eq_some_iff] at hres
  obtain ⟨lx, hx, ly, hy, hres⟩ := hres
  have heq : ∀ neg : Bool, op = (if neg then .neq else .eql) → resolveEq P neg t x y lx ly = some lo → PureOK P o ι n a w v := by
    intro neg hop hres
    have ho' : o.op = .binOp (if neg then .neq else .eql) t x y yt := by rw [ho, hop]
    unfold resolveEq at hres
    split at hres
    · simp only [Option.some.injEq] at hres; subst hres; exact s_arith ht ho' hx hy hv
    · simp only [Option.some.injEq] at hres; subst hres; exact s_arith ht ho' hx hy hv
    · rename_i hu; simp only [Option.some.injEq] at hres; subst hres; exact s_eqB ht ho' hx hy hu hv
    · rename_i e hu; simp only [Option.some.injEq] at hres; subst hres; exact s_eqN ht ho' hx hy hu rfl (by simp) hv
    · rename_i e hu; simp only [Option.some.injEq] at hres; subst hres; exact s_eqN ht ho' hx hy hu rfl (by simp) hv
    · rename_i e f hu; simp only [Option.some.injEq] at hres; subst hres; exact s_eqN ht ho' hx hy hu rfl (by simp) hv
    · rename_i e f g hu; simp only [Option.some.injEq] at hres; subst hres; exact s_eqN ht ho' hx hy hu rfl (by simp) hv
    · rename_i e hu
      split at hres
      · rename_i hc
        simp only [Option.some.injEq] at hres; subst hres
        exact s_eqN ht ho' hx hy hu rfl (fun _ => by simpa using hc) hv
      · cases hres
    · rename_i fs hu
      split at hres
      · rename_i ks hpl
        split at hres
        · cases hres
        · rename_i hgd
          simp only [Option.some.injEq] at hres; subst hres
          exact s_eqT ht ho' hx hy (by simp [aggT, hu]) hpl (by simpa using hgd) hv
      · cases hres
    · rename_i k e hu
      split at hres
      · rename_i ks hpl
        split at hres
        · cases hres
        · rename_i hgd
          simp only [Option.some.injEq] at hres; subst hres
          exact s_eqT ht ho' hx hy (by simp [aggT, hu]) hpl (by simpa using hgd) hv
      · cases hres
    · cases hres
  split at hres
  · exact heq false rfl hres
  · exact heq true rfl hres
  · simp only [Option.pure_def, Option.some.injEq] at hres; subst hres; exact s_arith ht ho hx hy hv

theorem s_unOp {op : UnOp} {t : TypeId} {x : Operand} (ht : TmR ι tm a) (ho : o.op = .unOp op t x) (hres : resolveOp P o = some lo) (hv : lo.pv tm hp = some v) : PureOK P o ι n a w v := by
  simp only [resolveOp, ho, Option.map_eq_some_iff] at hres
  obtain ⟨lx, hx, rfl⟩ := hres
  simp only [LOp.pv] at hv
  split at hv <;> first
    | (rename_i h1
       have e1 := ht.opd hx h1
       simp only [Option.some.injEq] at hv; subst hv
       exact ⟨by simp [execOp, ho, e1, AV.conc, Op.unary, Op.intArith, Op.intBits, bits], rfl⟩)
    | (cases hv; done)

theorem s_convert {s d : TypeId} {x : Operand} (ht : TmR ι tm a) (ho : o.op = .convert s d x) (hres : resolveOp P o = some lo) (hv : lo.pv tm hp = some v) : PureOK P o ι n a w v := by
  simp only [resolveOp, ho, Option.bind_eq_bind, Option.bind_eq_some_iff] at hres
  obtain ⟨lx, hx, hres⟩ := hres
  split at hres
  · rename_i k1 k hs hd
    simp only [Option.pure_def, Option.some.injEq] at hres; subst hres
    simp only [LOp.pv] at hv
    split at hv
    · rename_i k2 z h1
      have e1 := ht.opd hx h1
      simp only [Option.some.injEq] at hv; subst hv
      exact ⟨by simp [execOp, ho, e1, AV.conc, convert, run_underlying hs, run_underlying hd, Conv.intToInt], rfl⟩
    · cases hv
  · rename_i hs hd
    simp only [Option.pure_def, Option.some.injEq] at hres; subst hres
    simp only [LOp.pv] at hv
    split at hv
    · rename_i s1 h1
      have e1 := ht.opd hx h1
      simp only [Option.some.injEq] at hv; subst hv
      exact ⟨by simp [execOp, ho, e1, AV.conc, convert, run_underlying hs, run_underlying hd], rfl⟩
    · cases hv
  · cases hres

theorem s_mkI {t : TypeId} {x : Operand} (ht : TmR ι tm a) (htl : tm.lt n = true) (ho : o.op = .makeInterface t x) (hres : resolveOp P o = some lo) (hv : lo.pv tm hp = some v) : PureOK P o ι n a w v := by
  simp only [resolveOp, ho, Option.bind_eq_bind, Option.bind_eq_some_iff] at hres
  obtain ⟨lx, hx, hres⟩ := hres
  split at hres
  · cases hres
  · rename_i d hni hu
    simp only [Option.pure_def, Option.some.injEq] at hres; subst hres
    simp only [LOp.pv, Option.map_eq_some_iff] at hv
    obtain ⟨u, h1, rfl⟩ := hv
    have e1 := ht.opd hx h1
    refine ⟨?_, by simp only [AV.lt]; exact opd_lt htl hx h1⟩
    cases d <;> first
      | (simp [execOp, ho, e1, AV.conc, Instr.makeInterface, run_underlying hu]; done)
      | (exact (hni _ rfl).elim)
  · cases hres

theorem opdL_vals (ht : TmR ι tm a) (htl : tm.lt n = true) : ∀ (xs : List Operand) (ls : List LOpd) (vs : List AV), opdL xs = some ls → LOpd.vals tm ls = some vs → xs.map a.eval = concL ι vs ∧ ltL n vs = true
  | [], ls, vs, h1, h2 => by
    simp only [opdL, Option.some.injEq] at h1; subst h1
    simp only [LOpd.vals, Option.some.injEq] at h2; subst h2
    exact ⟨rfl, rfl⟩
  | x :: xs, ls, vs, h1, h2 => by
    simp only [opdL] at h1
    split at h1
    · rename_i l1 l2 hx hxs
      simp only [Option.some.injEq] at h1; subst h1
      simp only [LOpd.vals] at h2
      split at h2
      · rename_i u us hu hus
        simp only [Option.some.injEq] at h2; subst h2
        obtain ⟨g1, g2⟩ := opdL_vals ht htl xs l2 us hxs hus
        exact ⟨by simp [concL, ht.opd hx hu, g1], by simp [ltL, opd_lt htl hx hu, g2]⟩
      · cases h2
    · cases h1

theorem s_mkF {f : Fn} {first caps : Array Operand} (ht : TmR ι tm a) (htl : tm.lt n = true) (ho : o.op = .makeFunc f first caps) (hres : resolveOp P o = some lo) (hv : lo.pv tm hp = some v) : PureOK P o ι n a w v := by
  simp only [resolveOp, ho, Option.bind_eq_bind, Option.bind_eq_some_iff, Option.pure_def, Option.some.injEq] at hres
  obtain ⟨l1, h1, l2, h2, rfl⟩ := hres
  simp only [LOp.pv] at hv
  split at hv
  · rename_i u1 u2 g1 g2
    simp only [Option.some.injEq] at hv; subst hv
    obtain ⟨e1, t1⟩ := opdL_vals ht htl _ _ _ h1 g1
    obtain ⟨e2, t2⟩ := opdL_vals ht htl _ _ _ h2 g2
    refine ⟨?_, by simp [AV.lt, t1, t2]⟩
    have f1 : first.map a.eval = (concL ι u1).toArray := by apply Array.toList_inj.1; simpa using e1
    have f2 : caps.map a.eval = (concL ι u2).toArray := by apply Array.toList_inj.1; simpa using e2
    simp [execOp, ho, Instr.makeFunc, AV.conc, f1, f2]
  · cases hv

theorem s_fadd {t : TypeId} {x : Operand} {f : Nat} (ht : TmR ι tm a) (htl : tm.lt n = true) (ho : o.op = .fieldAddr t x f) (hres : resolveOp P o = some lo) (hv : lo.pv tm hp = some v) : PureOK P o ι n a w v := by
  simp only [resolveOp, ho, Option.bind_eq_bind, Option.bind_eq_some_iff] at hres
  obtain ⟨lx, hx, hres⟩ := hres
  split at hres
  · rename_i fs hu
    simp only [Option.bind_eq_some_iff] at hres
    obtain ⟨fd, hfd, inf, hi, hres⟩ := hres
    split at hres
    · cases hres
    · rename_i hsz
      simp only [Option.pure_def, Option.some.injEq] at hres; subst hres
      simp only [LOp.pv] at hv
      split at hv
      · rename_i i off h1
        have e1 := ht.opd hx h1
        have l1 := opd_lt htl hx h1
        simp only [Option.some.injEq] at hv; subst hv
        refine ⟨?_, l1⟩
        simp [execOp, ho, e1, AV.conc, Instr.fieldAt, run_underlying hu, hfd, Instr.sureAddr, fieldPlace, run_sizeOf' hi, hsz, add_none]
      · rename_i g off h1
        have e1 := ht.opd hx h1
        simp only [Option.some.injEq] at hv; subst hv
        refine ⟨?_, rfl⟩
        simp [execOp, ho, e1, AV.conc, Instr.fieldAt, run_underlying hu, hfd, Instr.sureAddr, fieldPlace, run_sizeOf' hi, hsz, add_none]
      · cases hv
  · cases hres

theorem s_fld {t : TypeId} {x : Operand} {f : Nat} (ht : TmR ι tm a) (htl : tm.lt n = true) (ho : o.op = .field t x f) (hres : resolveOp P o = some lo) (hv : lo.pv tm hp = some v) : PureOK P o ι n a w v := by
  simp only [resolveOp, ho, Option.bind_eq_bind, Option.bind_eq_some_iff] at hres
  obtain ⟨lx, hx, hres⟩ := hres
  split at hres
  · rename_i fs hu
    simp only [Option.bind_eq_some_iff] at hres
    obtain ⟨fd, hfd, inf, hi, ag, hag, hres⟩ := hres
    simp only [Option.pure_def, Option.some.injEq] at hres; subst hres
    simp only [LOp.pv] at hv
    split at hv
    · rename_i l h1
      have e1 := ht.opd hx h1
      have l1 := opd_lt htl hx h1
      simp only [AV.lt] at l1
      cases ag
      · simp only [Bool.false_eq_true, if_false] at hv
        refine ⟨?_, ltL_get l1 hv⟩
        have hg : (concL ι l).toArray[fd.offset]? = some (v.conc ι) := by rw [List.getElem?_toArray, concL_getElem?, hv]; rfl
        have hp1 : (part fd.type (concL ι l).toArray fd.offset).run P w = .ok (v.conc ι) w := by
          unfold aggT at hag
          split at hag
          · simp at hag
          · simp at hag
          · rename_i d hns hna hud
            cases d <;> first
              | (exact (hns _ rfl).elim)
              | (exact (hna _ _ rfl).elim)
              | (simp only [part, isAgg, Sem.run_bind, run_underlying hud, Result.andThen_ok, Sem.run_pure, Bool.false_eq_true, if_false, hg])
          · cases hag
        simp [execOp, ho, e1, AV.conc, Instr.field, run_underlying hu, hfd, asAgg, hp1]
      · simp only [if_true, Option.some.injEq] at hv; subst hv
        refine ⟨?_, by simp only [AV.lt]; exact ltL_take (ltL_drop l1 _) _⟩
        simp [execOp, ho, e1, AV.conc, Instr.field, run_underlying hu, hfd, asAgg, run_part_agg hag hi]
    · cases hv
  · cases hres

theorem s_extract {x : Operand} {k : Nat} (ht : TmR ι tm a) (htl : tm.lt n = true) (ho : o.op = .extract x k) (hres : resolveOp P o = some lo) (hv : lo.pv tm hp = some v) : PureOK P o ι n a w v := by
  simp only [resolveOp, ho, Option.map_eq_some_iff] at hres
  obtain ⟨lx, hx, rfl⟩ := hres
  simp only [LOp.pv] at hv
  split at hv
  · rename_i l h1
    have e1 := ht.opd hx h1
    have l1 := opd_lt htl hx h1
    simp only [AV.lt] at l1
    refine ⟨?_, ltL_get l1 hv⟩
    have hg : (concL ι l).toArray[k]? = some (v.conc ι) := by rw [List.getElem?_toArray, concL_getElem?, hv]; rfl
    simp only [execOp, ho, e1, AV.conc, Instr.extract, hg, Sem.run_bind, Sem.run_pure, Result.andThen_ok]
  · cases hv
end
end Go.Ax
