/- A deferred function that recovers first; a round of a loop over a function. -/
import Derived.Test.YtgmfnndoaljdbaaGreatDoorAxU
set_option linter.all false
namespace Go.Ax
open Go
set_option maxRecDepth 20000

structure LFnD where
  ntmps : Nat
  d0 : Nat
  d1 : Nat
  body : LCode
  deriving Inhabited
def isRecover (o : Oper) : Option Nat :=
  match o.op, o.guard, o.dst with
  | .call c, none, some d =>
    match c.callee, c.args.toList with
    | .builtin .recover, [] => some d
    | _, _ => none
  | _, _, _ => none
def isAssign (o : Oper) (d0 : Nat) : Option Nat :=
  match o.op, o.guard, o.dst with
  | .assign (.tmp t), none, some d => if t = d0 then some d else none
  | _, _, _ => none
def recHead (ops : Array Oper) : Option (Nat × Nat) :=
  match ops.toList with
  | [o0, o1] =>
    match isRecover o0 with
    | some d0 =>
      match isAssign o1 d0 with
      | some d1 => some (d0, d1)
      | none => none
    | none => none
  | _ => none
def resolveFnD (P : Program) (f : FuncId) : Option LFnD :=
  match P.funcs[f]? with
  | some fn =>
    if fn.name == "runtime.NumGoroutine" || fn.results.size != 0 then none else
    match fn.body with
    | some (.seq (.region _ ops false) c2) =>
      match recHead ops, resolveC P fn.ntmps false 64 c2 with
      | some (d0, d1), some body => if d0 < fn.ntmps ∧ d1 < fn.ntmps then some { ntmps := fn.ntmps, d0, d1, body } else none
      | _, _ => none
    | _ => none
  | none => none

def AMode.val : AMode → AV
  | .returning => .niliface
  | .panicking v => v
def DefQ (R : AMode → AHeap → Nat → Prop) : AExit → St → Prop
  | .normal, st | .ret, st => st.df = [] ∧ ∃ h0 : AHeap, h0.Sublist st.hp ∧ R .returning h0 st.nx
  | _, _ => False

theorem recHead_spec {ops : Array Oper} {d0 d1 : Nat} (h : recHead ops = some (d0, d1)) : ∃ o0 o1 c, ops = #[o0, o1] ∧ o0.op = .call c ∧ c.callee = .builtin .recover ∧ c.args = #[] ∧ o0.guard = none ∧ o0.dst = some d0 ∧ o1.op = .assign (.tmp d0) ∧ o1.guard = none ∧ o1.dst = some d1 := by
  unfold recHead at h
  split at h
  · rename_i o0 o1 ho
    split at h
    · rename_i e0 h0
      split at h
      · rename_i e1 h1
        simp only [Option.some.injEq, Prod.mk.injEq] at h
        obtain ⟨rfl, rfl⟩ := h
        unfold isRecover at h0
        split at h0
        · rename_i c d hop hg hd
          split at h0
          · rename_i hcal hargs
            simp only [Option.some.injEq] at h0; subst h0
            unfold isAssign at h1
            split at h1
            · rename_i t d' hop1 hg1 hd1
              split at h1
              · rename_i ht
                simp only [Option.some.injEq] at h1; subst h1; subst ht
                exact ⟨o0, o1, c, by apply Array.toList_inj.1; simpa using ho, hop, hcal, by apply Array.toList_inj.1; simpa using hargs, hg, hd, hop1, hg1, hd1⟩
              · cases h1
            · cases h1
          · cases h0
        · cases h0
      · cases h
    · cases h
  · cases h

theorem dcalls_of_body {P : Program} {f : FuncId} {lf : LFnD} (hf : resolveFnD P f = some lf) {args : List AV} {u : AMode} {hp : AHeap} {n : Nat} {R : AMode → AHeap → Nat → Prop} (hargs : args.length ≤ lf.ntmps)
    (h : LWp P lf.body (DefQ R) { tm := (lf.d1, u.val) :: (lf.d0, u.val) :: argTm 0 args, hp, nx := n }) : ADCalls P f args u hp n R := by
  intro hl hal hul ι w hr
  unfold resolveFnD at hf
  split at hf
  · rename_i fn hfn
    split at hf
    · cases hf
    · rename_i hname
      simp only [Bool.or_eq_true, not_or, Bool.not_eq_true, bne_eq_false_iff_eq] at hname
      split at hf
      · rename_i id ops c2 hbody
        split at hf
        · rename_i d0 d1 body hhead hbd
          split at hf
          · rename_i hd
            simp only [Option.some.injEq] at hf; subst hf
            simp only at h hargs
            obtain ⟨o0, o1, c, rfl, hop, hcal, hcargs, hg, hd0, hop1, hg1, hd1⟩ := recHead_spec hhead
            refine ⟨⟨fn, hfn, hname.1, by simp [hbody]⟩, ?_⟩
            refine callsDIn_of_wpSIn hfn hbody trivial fun c₀ cs hu => ?_
            have hsat0 := sat_enter (fn := fn) hr hl hal hargs
            -- what recover leaves
            have hval : u.val.lt n = true := by cases u with | returning => rfl | panicking v => exact hul
            have hs1 := hsat0.put (d := some d0) (v := u.val) (fun k hk => by cases hk; exact hd.1) (.refl _ _) (Nat.le_refl _) hr hl hval
            have hs2 := hs1.put (d := some d1) (v := u.val) (fun k hk => by cases hk; exact hd.2) (.refl _ _) (Nat.le_refl _) hr hl hval
            obtain ⟨u', hu', hrec⟩ : ∃ u', settle u' = .returning ∧ ((u = .returning ∧ u' = .returning ∧ recoverD (c₀ :: cs) = none) ∨ ((∃ v, u = .panicking v) ∧ recoverD (c₀ :: cs) = some (u.val.conc ι, { c₀ with mode := u' } :: cs))) := by
              cases u with
              | returning => exact ⟨.returning, rfl, .inl ⟨rfl, rfl, by simp [recoverD, hu, AMode.conc]⟩⟩
              | panicking v => exact ⟨.panicking [{ v := v.conc ι, recovered := true }], rfl, .inr ⟨⟨v, rfl⟩, by simp [recoverD, hu, AMode.conc, AMode.val]⟩⟩
            have hfin : ∀ a cs', Sat ι fn.ntmps { tm := (d1, u.val) :: (d0, u.val) :: argTm 0 args, hp, nx := n } a w → cs' = { c₀ with mode := u' } :: cs → c2.wpSIn (Fw none) 0 P (bodyPostS P fn c₀ cs fun e u'' w' =>
                ∃ v m hp' n' ι', e = .returned v ∧ settle u'' = m.conc ι' ∧ R m hp' n' ∧ HR ι' hp' w' ∧ hp'.lt n' = true ∧ m.lt n' = true ∧ StepR n ι hp w n' ι' hp' w') a cs' w := by
              intro a cs' hs hcs
              refine wpSIn_of_wpIn rfl (lwp_sound (r := none) 64 false c2 body (fun _ => rfl) hbd (DefQ R) _ h ι _ w _ hs fun e a' w' hp => ?_)
              obtain ⟨ae, st', ι', rfl, hq, hs', hlt, hstep⟩ := hp
              have hres : ∀ (tmps : Array Value), (results fn tmps).run P w' = .ok (.tuple #[]) w' := by
                intro tmps
                have : fn.results = #[] := by apply Array.eq_empty_of_size_eq_zero; simpa using hname.2
                simp [results, this]
              cases ae with
              | normal =>
                obtain ⟨hdf, h0, hsub, hR⟩ := hq
                have hd0' := hs'.df
                rw [hdf] at hd0'
                exact ⟨hd0', u', hcs, _, hres _, _, .returning, h0, st'.nx, ι', rfl, hu', hR, hs'.hr.sub hsub, AHeap.lt_sub hs'.hl hsub, rfl, ⟨hstep.le, hstep.agree, hstep.kept, fun b hb => hstep.owns b (hb.sub fun p hp => hsub.subset hp)⟩⟩
              | ret =>
                obtain ⟨hdf, h0, hsub, hR⟩ := hq
                have hd0' := hs'.df
                rw [hdf] at hd0'
                exact ⟨hd0', u', hcs, _, hres _, _, .returning, h0, st'.nx, ι', rfl, hu', hR, hs'.hr.sub hsub, AHeap.lt_sub hs'.hl hsub, rfl, ⟨hstep.le, hstep.agree, hstep.kept, fun b hb => hstep.owns b (hb.sub fun p hp => hsub.subset hp)⟩⟩
              | panic v => exact hq.elim
              | exit id => exact hq.elim
              | goto l => exact hq.elim
            refine wpSIn_seq (wpSIn_region ?_)
            have hrange : List.range (#[o0, o1] : Array Oper).size = [0, 1] := rfl
            rw [hrange]
            have hrun0 : ∀ (a : Act), (execOp a.eval o0).run P w = .ok .recover w := by
              intro a
              simp [execOp, hop, resolve, hcal, hcargs, invoke, builtin]
            have hrun1 : ∀ (a : Act), (execOp a.eval o1).run P w = .ok (.value (a.eval (.tmp d0))) w := by
              intro a; simp [execOp, hop1]
            have hev : ∀ (a : Act), a.tmps.size = fn.ntmps → ∀ v, (a.put (some d0) v).eval (.tmp d0) = v := by
              intro a hsz v
              simp [Act.eval, Act.put, Array.getD_eq_getD_getElem?, Array.getElem?_setIfInBounds_self_of_lt (show d0 < a.tmps.size by rw [hsz]; exact hd.1)]
            simp only [wpOpsSIn, List.getElem?_toArray, List.getElem?_cons_zero, List.getElem?_cons_succ, Region.wanted, hg, hg1, if_true, hrun0]
            refine ⟨fun _ _ => trivial, ?_⟩
            rcases hrec with ⟨hur, hu'r, hnone⟩ | ⟨hpan, hsome⟩
            · rw [hnone]
              simp only [hd0]
              refine ⟨fun _ _ => trivial, ?_⟩
              rw [hrun1]
              simp only [hd1, Exit.thenS, hev _ hsat0.sz]
              subst hur
              refine hfin _ _ hs2 ?_
              rw [hu'r]
              have : c₀.mode = .returning := hu
              rw [← this]
            · rw [hsome]
              simp only [hd0]
              refine ⟨fun _ _ => trivial, ?_⟩
              rw [hrun1]
              simp only [hd1, Exit.thenS, hev _ hsat0.sz]
              exact hfin _ _ hs2 rfl
          · cases hf
        · cases hf
      · cases hf
  · cases hf

/- one round: the loop's variables are set, the body runs, what it left is noted -/
def roundQ (l : Nat) (R : AEnd → AHeap → Nat → Prop) : AExit → St → Prop
  | .normal, st => st.df = [] ∧ ∃ r, st.hp.get? l = some (.loop r) ∧ ∃ h0 : AHeap, h0.Sublist (st.hp.put l (.loop { r with state := .ready, pend := none })) ∧ R (.ret (.bool true)) h0 st.nx
  | .ret, st => st.df = [] ∧ ∃ r, st.hp.get? l = some (.loop r) ∧ ∃ h0 : AHeap, h0.Sublist (st.hp.put l (.loop { r with state := .done, pend := some .ret })) ∧ R (.ret (.bool false)) h0 st.nx
  | .exit id, st => st.df = [] ∧ ∃ r, st.hp.get? l = some (.loop r) ∧ ∃ h0 : AHeap, h0.Sublist (st.hp.put l (.loop { r with state := .done, pend := some (.exit id) })) ∧ R (.ret (.bool false)) h0 st.nx
  | .goto t, st => st.df = [] ∧ ∃ r, st.hp.get? l = some (.loop r) ∧ ∃ h0 : AHeap, h0.Sublist (st.hp.put l (.loop { r with state := .done, pend := some (.goto t) })) ∧ R (.ret (.bool false)) h0 st.nx
  | .panic _, _ => False
def roundBodyQ (P : Program) (l : Nat) (lb : LCode) (R : AEnd → AHeap → Nat → Prop) (st : St) : Prop :=
  match st.hp.get? l with
  | some (.loop r) => r.state = .ready ∧ LWp P lb (roundQ l R) { st with hp := st.hp.put l (.loop { r with state := .busy }) }
  | _ => False
/- the arguments of yield in the loop's parameters -/
def paramTm : List Tmp → List AV → LTm → LTm
  | p :: ps, v :: vs, tm => paramTm ps vs ((p, v) :: tm)
  | _, _, tm => tm

theorem paramTm_sound {ι : Env} {N : Nat} : ∀ (ps : List Tmp) (vs : List AV) (tm : LTm) (tmps : Array Value), ps.length = vs.length → (∀ p ∈ ps, p < N) → tmps.size = N → TmR ι tm { tmps, defers := [] } →
    TmR ι (paramTm ps vs tm) { tmps := (ps.zip (concL ι vs)).foldl (fun tmps (t, a) => tmps.setIfInBounds t a) tmps, defers := [] } ∧ ((ps.zip (concL ι vs)).foldl (fun tmps (t, a) => tmps.setIfInBounds t a) tmps).size = N
  | [], [], tm, tmps, _, _, hsz, h => ⟨h, hsz⟩
  | p :: ps, v :: vs, tm, tmps, hlen, hps, hsz, h => by
    simp only [concL, List.zip_cons_cons, List.foldl_cons, paramTm]
    refine paramTm_sound ps vs _ _ (by simpa using hlen) (fun q hq => hps q (List.mem_cons_of_mem _ hq)) (by simpa using hsz) ?_
    intro t u hu
    simp only [LTm.get?] at hu
    have hp : p < tmps.size := by rw [hsz]; exact hps p List.mem_cons_self
    split at hu
    · rename_i he; subst he
      simp only [Option.some.injEq] at hu; subst hu
      simp [hp]
    · rename_i he
      simpa [Array.getElem?_setIfInBounds_ne he] using h t u hu
  | [], _ :: _, _, _, hlen, _, _, _ => by simp at hlen
  | _ :: _, [], _, _, hlen, _, _, _ => by simp at hlen
theorem paramTm_lt {n : Nat} : ∀ (ps : List Tmp) (vs : List AV) (tm : LTm), ltL n vs = true → tm.lt n = true → (paramTm ps vs tm).lt n = true
  | p :: ps, v :: vs, tm, hv, ht => by
    simp only [ltL, Bool.and_eq_true] at hv
    exact paramTm_lt ps vs _ hv.2 (by simp only [LTm.lt, List.all_cons, Bool.and_eq_true]; exact ⟨hv.1, ht⟩)
  | [], _, tm, _, ht => by simpa [paramTm] using ht
  | _ :: _, [], tm, _, ht => by simpa [paramTm] using ht

theorem ayield_of {P : Program} {i : Nat} {vs : List AV} {hp : AHeap} {n : Nat} {R : AEnd → AHeap → Nat → Prop} {r : ALoop} {la lb : LCode} {d : Nat} (hg : hp.get? i = some (.loop r))
    (hlen : r.ps.toList.length = vs.length) (hps : r.ps.toList.all (fun p => decide (p < r.N)) = true) (hla : resolveC P r.N true d r.assign = some la) (hlb : resolveC P r.N true d r.body = some lb)
    (h : LWp P la (fun e st => match e with | .normal => roundBodyQ P i lb R st | _ => False) { tm := paramTm r.ps.toList vs r.tm, hp, nx := n }) : AYield P i vs hp n R := by
  intro hl hvl hin ι w hr
  obtain ⟨ob, hob, fn, tmps, rfl, hsz, htm⟩ := hr.get hg
  have hlt := (AHeap.lt_get hl hg).2
  simp only [AObj.lt, Bool.and_eq_true, decide_eq_true_eq] at hlt
  refine ⟨_, _, _, _, run_yield hob (by simpa using hlen.symm), fun r0 => ?_⟩
  have hz : ((r.ps.zip (concL ι vs).toArray).foldl (fun tmps (t, a) => tmps.setIfInBounds t a) tmps) = (r.ps.toList.zip (concL ι vs)).foldl (fun tmps (t, a) => tmps.setIfInBounds t a) tmps := by
    rw [← Array.foldl_toList, Array.toList_zip]
  obtain ⟨p1, p2⟩ := paramTm_sound (ι := ι) (N := r.N) r.ps.toList vs r.tm tmps hlen (fun p hp => by have := (List.all_eq_true.1 hps) p hp; simpa using this) hsz (fun t v hv => htm t v hv)
  have hs0 : Sat ι r.N { tm := paramTm r.ps.toList vs r.tm, hp, nx := n } { tmps := (r.ps.toList.zip (concL ι vs)).foldl (fun tmps (t, a) => tmps.setIfInBounds t a) tmps, defers := [] } w :=
    ⟨p1, paramTm_lt _ _ _ hvl hlt.1, hr, hl, p2, rfl, rfl⟩
  simp only [hz]
  refine roundIn_of_wpIn (F := Fw r0) (n := 0) trivial ?_
  show Code.wpIn (Fw (some (ι.blk i))) 0 P r.assign _ _ w
  refine lwp_sound (r := some (ι.blk i)) d true r.assign la (fun h => by cases h) hla _ _ h ι _ w _ hs0 fun e a1 w1 hpost => ?_
  obtain ⟨ae, st1, ι1, rfl, hq, hs1, _, hstep1⟩ := hpost
  cases ae with
  | normal =>
    simp only [roundBodyQ] at hq
    split at hq
    · rename_i r1 hg1
      obtain ⟨hready, hq⟩ := hq
      obtain ⟨ob1, hob1, fn1, tmps1, rfl, hsz1, htm1⟩ := hs1.hr.get hg1
      have hlt1 := (AHeap.lt_get hs1.hl hg1).2
      simp only [AObj.lt, Bool.and_eq_true, decide_eq_true_eq] at hlt1
      have hbi : ι1.blk i = ι.blk i := hstep1.agree.blk i hin
      obtain ⟨q1, q2, q3⟩ := put_loop hs1.hr hs1.hl hg1 fn1 { r1 with state := .busy } hlt1.1 hlt1.2 hsz1 htm1
      rw [hbi] at hob1 q1 q3
      refine ⟨_, run_beginRound hob1 hready, ?_⟩
      show Code.wpIn (Fw (some (ι.blk i))) 0 P r.body _ _ _
      have hs1' : Sat ι1 r.N { st1 with hp := st1.hp.put i (.loop { r1 with state := .busy }) } a1 _ := ⟨hs1.tm, hs1.tl, q1, q2, hs1.sz, hs1.df, hs1.dl⟩
      refine lwp_sound (r := some (ι.blk i)) d true r.body lb (fun h => by cases h) hlb _ _ hq ι1 a1 _ _ hs1' fun e a2 w2 hpost2 => ?_
      obtain ⟨ae2, st2, ι2, rfl, hq2, hs2, _, hstep2⟩ := hpost2
      have hstep12 := (hstep1.trans q3).trans hstep2
      have hbi2 : ι2.blk i = ι.blk i := hstep12.agree.blk i hin
      have fin : ∀ (jump : Option Code) (b : Bool), b = jump.isNone → (∃ r2, st2.hp.get? i = some (.loop r2) ∧ ∃ h0 : AHeap, h0.Sublist (st2.hp.put i (.loop { r2 with state := if jump.isNone then .ready else .done, pend := jump })) ∧ R (.ret (.bool b)) h0 st2.nx) →
          ∃ v w', (Instr.endRound (ι.blk i) jump).run P w2 = .ok v w' ∧ CPost R ι hp n w (.returned v) w' := by
        rintro jump b hb ⟨r2, hg2, h0, hsub, hR⟩
        obtain ⟨ob2, hob2, fn2, tmps2, rfl, hsz2, htm2⟩ := hs2.hr.get hg2
        have hlt2 := (AHeap.lt_get hs2.hl hg2).2
        simp only [AObj.lt, Bool.and_eq_true, decide_eq_true_eq] at hlt2
        obtain ⟨t1, t2, t3⟩ := put_loop hs2.hr hs2.hl hg2 fn2 { r2 with state := if jump.isNone then .ready else .done, pend := jump } hlt2.1 hlt2.2 hsz2 htm2
        rw [hbi2] at hob2 t1 t3
        have hstepF := hstep12.trans t3
        exact ⟨_, _, run_endRound jump hob2, .ret (.bool b), h0, st2.nx, ι2, by simp [AEnd.conc, AV.conc, hb], hR, t1.sub hsub, AHeap.lt_sub t2 hsub, rfl, ⟨hstepF.le, hstepF.agree, hstepF.kept, fun b hb => hstepF.owns b (hb.sub fun p hp => hsub.subset hp)⟩⟩
      cases ae2 with
      | normal => exact fin none true rfl hq2.2
      | ret => exact fin (some .ret) false rfl hq2.2
      | exit id => exact fin (some (.exit id)) false rfl hq2.2
      | goto t => exact fin (some (.goto t)) false rfl hq2.2
      | panic v => exact hq2.elim
    · exact hq.elim
  | _ => exact hq.elim
end Go.Ax
