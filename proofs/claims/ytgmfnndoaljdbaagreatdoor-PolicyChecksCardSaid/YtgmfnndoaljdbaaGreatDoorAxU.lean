/- A function's contract from its body; a deferred call; a round of a loop over a function. -/
import Derived.Test.YtgmfnndoaljdbaaGreatDoorAxP
import Derived.RecoverIn
set_option linter.all false
namespace Go.Ax
open Go
set_option maxRecDepth 20000

/- A DEFERRED CALL: in which mode the frame goes on -/
def ADCalls (P : Program) (f : FuncId) (args : List AV) (u : AMode) (hp : AHeap) (n : Nat) (R : AMode → AHeap → Nat → Prop) : Prop :=
  hp.lt n = true → ltL n args = true → u.lt n = true → ∀ ι w, HR ι hp w →
    Enters P f ∧ CallsDIn (Fw none) 0 P f (concL ι args).toArray (u.conc ι) w fun e u' w' =>
      ∃ v m hp' n' ι', e = .returned v ∧ settle u' = m.conc ι' ∧ R m hp' n' ∧ HR ι' hp' w' ∧ hp'.lt n' = true ∧ m.lt n' = true ∧ StepR n ι hp w n' ι' hp' w'
theorem ADCalls.mono {P : Program} {f : FuncId} {args : List AV} {u : AMode} {hp : AHeap} {n : Nat} {R R' : AMode → AHeap → Nat → Prop} (h : ADCalls P f args u hp n R) (hR : ∀ m h k, R m h k → R' m h k) : ADCalls P f args u hp n R' :=
  fun h1 h2 h3 ι w hr => let ⟨a, b⟩ := h h1 h2 h3 ι w hr; ⟨a, b.mono fun _ _ _ ⟨v, m, hp', n', ι', e1, e2, e3, e4⟩ => ⟨v, m, hp', n', ι', e1, e2, hR _ _ _ e3, e4⟩⟩

/- what a frame does on its way out -/
def leaveQ (P : Program) (res : List LRes) (R : AEnd → AHeap → Nat → Prop) (tm : LTm) : List ADef → AMode → AHeap → Nat → Prop
  | [], .returning, hp, n => ∃ v, resVal { tm, hp, nx := n } res = some v ∧ ∃ h0 : AHeap, h0.Sublist hp ∧ R (.ret v) h0 n
  | [], .panicking v, hp, n => ∃ h0 : AHeap, h0.Sublist hp ∧ R (.panic v) h0 n
  | .mark d :: ds, u, hp, n =>
    match hp.get? d with
    | some (.raw (.deferred (some []))) => leaveQ P res R tm ds u (hp.put d (.raw (.deferred none))) n
    | _ => False
  | .fn f args :: ds, u, hp, n => ADCalls P f args u hp n fun u' hp' n' => leaveQ P res R tm ds u' hp' n'
/- what a function's body leaves -/
def FnQ (P : Program) (res : List LRes) (R : AEnd → AHeap → Nat → Prop) : AExit → St → Prop
  | .normal, st | .ret, st => leaveQ P res R st.tm st.df .returning st.hp st.nx
  | .panic v, st => leaveQ P res R st.tm st.df (.panicking v) st.hp st.nx
  | _, _ => False

structure LFn where
  ntmps : Nat
  res : List LRes
  body : LCode
  deriving Inhabited
def resolveFn (P : Program) (f : FuncId) : Option LFn :=
  match P.funcs[f]? with
  | some fn =>
    if fn.name == "runtime.NumGoroutine" then none else
    match fn.body with
    | some c =>
      match resolveRes P fn.results.toList, resolveC P fn.ntmps false 64 c with
      | some res, some body => some { ntmps := fn.ntmps, res, body }
      | _, _ => none
    | none => none
  | none => none

/- the arguments in the first temporaries -/
def argTm : Nat → List AV → LTm
  | _, [] => []
  | k, v :: l => (k, v) :: argTm (k + 1) l

theorem argTm_get (k : Nat) (l : List AV) (t : Nat) (v : AV) (h : LTm.get? (argTm k l) t = some v) : k ≤ t ∧ l[t - k]? = some v := by
  induction l generalizing k with
  | nil => simp [argTm, LTm.get?] at h
  | cons u l ih =>
    simp only [argTm, LTm.get?] at h
    split at h
    · rename_i he
      subst he
      simp only [Option.some.injEq] at h; subst h
      simp
    · have := ih (k + 1) h
      refine ⟨by omega, ?_⟩
      have he : t - k = (t - (k + 1)) + 1 := by omega
      rw [he, List.getElem?_cons_succ]; exact this.2
theorem argTm_lt {n : Nat} (k : Nat) (l : List AV) (h : ltL n l = true) : (argTm k l).lt n = true := by
  induction l generalizing k with
  | nil => rfl
  | cons u l ih =>
    simp only [ltL, Bool.and_eq_true] at h
    simp only [argTm, LTm.lt, List.all_cons, Bool.and_eq_true]
    exact ⟨h.1, ih (k + 1) h.2⟩


theorem AMode.conc_agree {n : Nat} {ι ι' : Env} (h : Env.Agree n ι ι') {u : AMode} (hl : u.lt n = true) : u.conc ι' = u.conc ι := by
  cases u with
  | returning => rfl
  | panicking v => simp only [AMode.conc, AV.conc_agree h v hl]
theorem AMode.conc_run (ι : Env) (u : AMode) : u.conc ι ≠ .run := by cases u <;> simp [AMode.conc]

theorem leaves_sound {P : Program} {fn : Func} {ls : List LRes} (hres : resolveRes P fn.results.toList = some ls) {R : AEnd → AHeap → Nat → Prop} {tm : LTm} {n0 : Nat} {ι0 : Env} {hp0 : AHeap} {w0 : World} :
    ∀ (ds : List ADef) (u : AMode) (hp : AHeap) (n : Nat) (ι : Env) (w : World) (tmps : Array Value), leaveQ P ls R tm ds u hp n → HR ι hp w → hp.lt n = true → u.lt n = true → defsLt n ds = true → tm.lt n = true →
      TmR ι tm { tmps, defers := [] } → StepR n0 ι0 hp0 w0 n ι hp w → LeavesInM (Fw none) 0 P fn tmps (CPost R ι0 hp0 n0 w0) (ds.map (ADef.conc ι)) (u.conc ι) w
  | [], .returning, hp, n, ι, w, tmps, h, hr, hl, _, _, htl, htm, hstep => by
    obtain ⟨v, hv, h0, hsub, hR⟩ := h
    have hs : Sat ι tmps.size { tm, hp, nx := n } { tmps, defers := [] } w := ⟨htm, htl, hr, hl, rfl, rfl, rfl⟩
    obtain ⟨g1, g2⟩ := resVal_sound hs hres hv
    exact ⟨v.conc ι, g1, .ret v, h0, n, ι, rfl, hR, hr.sub hsub, AHeap.lt_sub hl hsub, g2, ⟨hstep.le, hstep.agree, hstep.kept, fun b hb => hstep.owns b (hb.sub fun p hp => hsub.subset hp)⟩⟩
  | [], .panicking v, hp, n, ι, w, tmps, h, hr, hl, hul, _, htl, htm, hstep => by
    obtain ⟨h0, hsub, hR⟩ := h
    exact ⟨.panic v, h0, n, ι, rfl, hR, hr.sub hsub, AHeap.lt_sub hl hsub, hul, ⟨hstep.le, hstep.agree, hstep.kept, fun b hb => hstep.owns b (hb.sub fun p hp => hsub.subset hp)⟩⟩
  | .mark d :: ds, u, hp, n, ι, w, tmps, h, hr, hl, hul, hdl, htl, htm, hstep => by
    simp only [leaveQ] at h
    simp only [defsLt, List.all_cons, Bool.and_eq_true] at hdl
    split at h
    · rename_i hg
      obtain ⟨ob, hob, hf⟩ := hr.get hg
      simp only [AObj.fits] at hf
      subst hf
      have hlt := hr.blk_lt (AHeap.get?_mem hg)
      have p1 : HR ι (hp.put d (.raw (.deferred none))) (w.putObj (ι.blk d) (.deferred none)) := hr.put hg rfl rfl _ (World.putObj_heap_same hlt) rfl (fun b hb => World.putObj_heap_other hb)
      have p3 : StepR n ι hp w n ι (hp.put d (.raw (.deferred none))) (w.putObj (ι.blk d) (.deferred none)) := stepR_put hg rfl rfl rfl rfl (by simp [World.putObj]) (fun b hb => World.putObj_heap_other hb)
      exact ⟨AMode.conc_run ι u, .inl ⟨ι.blk d, _, rfl, run_takeDeferred hob, leaves_sound hres ds u _ n ι _ tmps h p1 (AHeap.put_lt hl rfl) hul hdl.2 htl htm (hstep.trans p3)⟩⟩
    · exact h.elim
  | .fn f args :: ds, u, hp, n, ι, w, tmps, h, hr, hl, hul, hdl, htl, htm, hstep => by
    simp only [defsLt, List.all_cons, Bool.and_eq_true] at hdl
    obtain ⟨hent, hcall⟩ := h hl hdl.1 hul ι w hr
    refine ⟨AMode.conc_run ι u, .inr ⟨fun h => by simp [Fw] at h, .func f, #[], f, (concL ι args).toArray, rfl, ?_, fun _ _ => trivial, hcall.mono fun e u' w' hpost => ?_⟩⟩
    · simp only [ADef.conc, invoke, Array.append_empty]; exact hent.run _ _
    · obtain ⟨v, m, hp', n', ι', rfl, he, hQ, g1, g2, g3, g4⟩ := hpost
      simp only
      rw [he, ← defs_agree g4.agree hdl.2]
      exact leaves_sound hres ds m hp' n' ι' w' tmps hQ g1 g2 g3 (defsLt_mono g4.le hdl.2) (LTm.lt_mono g4.le htl) (htm.agree g4.agree htl) (hstep.trans g4)

theorem sat_enter {fn : Func} {args : List AV} {hp : AHeap} {n : Nat} {ι : Env} {w : World} (hr : HR ι hp w) (hl : hp.lt n = true) (hal : ltL n args = true) (hargs : args.length ≤ fn.ntmps) :
    Sat ι fn.ntmps { tm := argTm 0 args, hp, nx := n } { tmps := (concL ι args).toArray ++ Array.replicate (fn.ntmps - (concL ι args).toArray.size) undef, defers := [] } w := by
  refine ⟨fun t v ht => ?_, argTm_lt 0 args hal, hr, hl, ?_, rfl, rfl⟩
  · obtain ⟨_, hv⟩ := argTm_get 0 args t v ht
    simp only [Nat.sub_zero] at hv
    have hlt : t < args.length := (List.getElem?_eq_some_iff.1 hv).1
    rw [Array.getElem?_append_left (by simpa using hlt), List.getElem?_toArray, concL_getElem?, hv]; rfl
  · simp; omega

theorem resolveFn_spec {P : Program} {f : FuncId} {lf : LFn} (hf : resolveFn P f = some lf) : ∃ fn c, P.funcs[f]? = some fn ∧ fn.body = some c ∧ (fn.name == "runtime.NumGoroutine") = false ∧ fn.ntmps = lf.ntmps ∧ resolveRes P fn.results.toList = some lf.res ∧ resolveC P fn.ntmps false 64 c = some lf.body := by
  unfold resolveFn at hf
  split at hf
  · rename_i fn hfn
    split at hf
    · cases hf
    · rename_i hname
      split at hf
      · rename_i c hbody
        split at hf
        · rename_i res body hres hbd
          simp only [Option.some.injEq] at hf; subst hf
          exact ⟨fn, c, hfn, hbody, by simpa using hname, rfl, hres, hbd⟩
        · cases hf
      · cases hf
  · cases hf
theorem resolveFn_enters {P : Program} {f : FuncId} {lf : LFn} (hf : resolveFn P f = some lf) : Enters P f :=
  let ⟨fn, c, h1, h2, h3, _⟩ := resolveFn_spec hf; ⟨fn, h1, h3, by simp [h2]⟩

theorem calls_of_body {P : Program} {f : FuncId} {lf : LFn} (hf : resolveFn P f = some lf) {args : List AV} {hp : AHeap} {n : Nat} {R : AEnd → AHeap → Nat → Prop} (hargs : args.length ≤ lf.ntmps)
    (h : LWp P lf.body (FnQ P lf.res R) { tm := argTm 0 args, hp, nx := n }) : ACalls P f args hp n R := by
  intro hl hal ι w hr
  obtain ⟨fn, c, hfn, hbody, hname, hnt, hres, hbd⟩ := resolveFn_spec hf
  refine .inl ⟨⟨fn, hfn, hname, by simp [hbody]⟩, ?_⟩
  refine callsIn_wide.1 (callsIn_of_wp_marks (F := Fence.wide) (n := 0) hfn hbody trivial ?_)
  have hsat := sat_enter (fn := fn) hr hl hal (by omega)
  exact lwp_sound (r := none) 64 false c _ (fun _ => rfl) hbd (FnQ P lf.res R) _ h ι _ w _ hsat fun e a' w' hp => by
    obtain ⟨ae, st', ι', rfl, hq, hs', hlt, hstep⟩ := hp
    have hd := hs'.df
    cases ae with
    | normal =>
      show LeavesInM (Fw none) 0 P fn a'.tmps _ a'.defers .returning w'
      rw [hd]
      exact leaves_sound hres st'.df .returning st'.hp st'.nx ι' w' a'.tmps hq hs'.hr hs'.hl rfl hs'.dl hs'.tl hs'.tm hstep
    | ret =>
      show LeavesInM (Fw none) 0 P fn a'.tmps _ a'.defers .returning w'
      rw [hd]
      exact leaves_sound hres st'.df .returning st'.hp st'.nx ι' w' a'.tmps hq hs'.hr hs'.hl rfl hs'.dl hs'.tl hs'.tm hstep
    | panic v =>
      show LeavesInM (Fw none) 0 P fn a'.tmps _ a'.defers ((AMode.panicking v).conc ι') w'
      rw [hd]
      exact leaves_sound hres st'.df (.panicking v) st'.hp st'.nx ι' w' a'.tmps hq hs'.hr hs'.hl hlt hs'.dl hs'.tl hs'.tm hstep
    | exit id => exact hq.elim
    | goto l => exact hq.elim

end Go.Ax
