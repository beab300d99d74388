/- The rules are right: regions whose order is fixed, control. -/
import Derived.Test.YtgmfnndoaljdbaaGreatDoorAxN
set_option linter.all false
namespace Go.Ax
open Go
set_option maxRecDepth 20000

structure Sat (ι : Env) (N : Nat) (st : St) (a : Act) (w : World) : Prop where
  tm : TmR ι st.tm a
  tl : st.tm.lt st.nx = true
  hr : HR ι st.hp w
  hl : st.hp.lt st.nx = true
  sz : a.tmps.size = N
  df : a.defers = st.df.map (ADef.conc ι)
  dl : defsLt st.nx st.df = true

theorem LTm.get?_mem {l : LTm} {i : Nat} {v : AV} (h : l.get? i = some v) : (i, v) ∈ l := by
  induction l with
  | nil => simp [LTm.get?] at h
  | cons p l ih =>
    obtain ⟨j, u⟩ := p
    simp only [LTm.get?] at h
    split at h
    · rename_i he; subst he; simp only [Option.some.injEq] at h; subst h; exact List.mem_cons_self
    · exact List.mem_cons_of_mem _ (ih h)
theorem AHeap.lt_sub {n : Nat} {h h0 : AHeap} (hl : h.lt n = true) (hs : h0.Sublist h) : h0.lt n = true :=
  List.all_eq_true.2 fun p hp => (List.all_eq_true.1 hl) p (hs.subset hp)
theorem Sat.le {ι : Env} {N : Nat} {st s0 : St} {a : Act} {w : World} (h : Sat ι N st a w) (hle : s0.Le st) : Sat ι N s0 a w ∧ StepR st.nx ι st.hp w s0.nx ι s0.hp w := by
  have htm : TmR ι s0.tm a ∧ s0.tm.lt s0.nx = true := by
    rcases hle.tm with he | he
    · rw [he]; exact ⟨h.tm, LTm.lt_mono hle.nx h.tl⟩
    · exact ⟨fun t v ht => h.tm t v (he _ (LTm.get?_mem ht)), List.all_eq_true.2 fun p hp => AV.lt_mono hle.nx _ (LTm.lt_get h.tl (he p hp))⟩
  exact ⟨⟨htm.1, htm.2, h.hr.sub hle.hp, AHeap.lt_mono hle.nx (AHeap.lt_sub h.hl hle.hp), h.sz, by rw [hle.df]; exact h.df, by rw [hle.df]; exact defsLt_mono hle.nx h.dl⟩,
    ⟨hle.nx, .refl _ _, .refl _ _ _, fun _ hb => .inl (hb.sub fun _ hp => hle.hp.subset hp)⟩⟩

def APost (Q : AExit → St → Prop) (ι : Env) (N : Nat) (st : St) (w : World) : Exit → Act → World → Prop :=
  fun e a' w' => ∃ ae st' ι', e = ae.conc ι' ∧ Q ae st' ∧ Sat ι' N st' a' w' ∧ ae.lt st'.nx = true ∧ StepR st.nx ι st.hp w st'.nx ι' st'.hp w'

theorem APost.trans {Q : AExit → St → Prop} {ι ι1 : Env} {N : Nat} {st st1 : St} {w w1 : World} (h : StepR st.nx ι st.hp w st1.nx ι1 st1.hp w1) {e : Exit} {a' : Act} {w' : World}
    (hp : APost Q ι1 N st1 w1 e a' w') : APost Q ι N st w e a' w' :=
  let ⟨ae, st', ι', h1, h2, h3, h4, h5⟩ := hp; ⟨ae, st', ι', h1, h2, h3, h4, h.trans h5⟩
theorem APost.mono {Q Q' : AExit → St → Prop} (hq : ∀ e s, Q e s → Q' e s) {ι : Env} {N : Nat} {st : St} {w : World} {e : Exit} {a' : Act} {w' : World} (hp : APost Q ι N st w e a' w') : APost Q' ι N st w e a' w' :=
  let ⟨ae, st', ι', h1, h2, h3⟩ := hp; ⟨ae, st', ι', h1, hq _ _ h2, h3⟩

section
variable {P : Program} {N : Nat} {ops : Array Oper} {ι : Env} {st : St} {a : Act} {w : World}

theorem Sat.put (h : Sat ι N st a w) {ι' : Env} {hp' : AHeap} {nx' : Nat} {w' : World} {v : AV} {d : Option Nat} (hd : ∀ k, d = some k → k < N) (hag : Env.Agree st.nx ι ι') (hle : st.nx ≤ nx') (hr : HR ι' hp' w') (hl : hp'.lt nx' = true) (hv : v.lt nx' = true) :
    Sat ι' N (st.put d v hp' nx') (a.put d (v.conc ι')) w' := by
  have ht := h.tm.agree hag h.tl
  have htl := LTm.lt_mono hle h.tl
  cases d with
  | none => exact ⟨ht, htl, hr, hl, h.sz, h.df.trans (defs_agree hag h.dl).symm, defsLt_mono hle h.dl⟩
  | some k =>
    refine ⟨?_, ?_, hr, hl, by simpa [Act.put] using h.sz, h.df.trans (defs_agree hag h.dl).symm, defsLt_mono hle h.dl⟩
    · intro t u hu
      simp only [St.put, LTm.get?] at hu
      simp only [Act.put]
      have hk : k < a.tmps.size := by rw [h.sz]; exact hd k rfl
      split at hu
      · rename_i he
        subst he
        simp only [Option.some.injEq] at hu; subst hu
        rw [Array.getElem?_setIfInBounds_self_of_lt hk]
      · rename_i he
        rw [Array.getElem?_setIfInBounds_ne (fun e => he e)]
        exact ht t u hu
    · simp only [St.put, LTm.lt, List.all_cons, Bool.and_eq_true]
      exact ⟨hv, htl⟩

theorem wanted_sound {o : Oper} {lo : LOper} (hres : resolveOper P N ops o = some lo) (ht : TmR ι st.tm a) {b : Bool} (hw : lo.wanted st.tm = some b) : Region.wanted o (yielded ops a.tmps) = b := by
  simp only [resolveOper, Option.bind_eq_bind, Option.bind_eq_some_iff] at hres
  obtain ⟨act, hact, hres⟩ := hres
  split at hres
  · rename_i hg
    split at hres
    · simp only [Option.some.injEq] at hres; subst hres
      simp only [LOper.wanted, Option.some.injEq] at hw; subst hw
      simp [Region.wanted, hg]
    · cases hres
  · rename_i j c hg
    split at hres
    · rename_i d hd
      split at hres
      · simp only [Option.some.injEq] at hres; subst hres
        simp only [LOper.wanted] at hw
        simp only [Region.wanted, hg, yielded, hd, Option.bind_some]
        split at hw
        · rename_i e he
          have := ht d _ he
          simp only [Option.some.injEq] at hw
          rw [this]
          simp only [AV.conc]
          rw [← hw]
          cases e <;> cases c <;> rfl
        · rename_i v hnb he
          have := ht d _ he
          simp only [Option.some.injEq] at hw; subst hw
          rw [this]
          cases v <;> first
            | rfl
            | (exact (hnb _ rfl).elim)
        · cases hw
      · cases hres
    · cases hres

theorem resolveOper_dst {o : Oper} {lo : LOper} (hres : resolveOper P N ops o = some lo) : lo.dst = o.dst ∧ (∀ k, o.dst = some k → k < N) ∧ resolveAct P o = some lo.act := by
  simp only [resolveOper, Option.bind_eq_bind, Option.bind_eq_some_iff] at hres
  obtain ⟨act, hact, hres⟩ := hres
  have key : dstOK N o.dst = true → ∀ k, o.dst = some k → k < N := by
    intro h k hk; rw [hk] at h; simpa [dstOK] using h
  split at hres
  · split at hres
    · rename_i hd
      simp only [Option.some.injEq] at hres; subst hres
      exact ⟨rfl, key hd, hact⟩
    · cases hres
  · split at hres
    · split at hres
      · rename_i hd
        simp only [Bool.and_eq_true] at hd
        simp only [Option.some.injEq] at hres; subst hres
        exact ⟨rfl, key hd.1, hact⟩
      · cases hres
    · cases hres

theorem plain_cases {P : Program} {o : Oper} {act : LAct} (h : plainAct P o = some act) : (∃ lo, act = .op lo ∧ resolveOp P o = some lo) ∨ (∃ xo, act = .xop xo ∧ resolveX P o = some xo) := by
  unfold plainAct at h
  split at h
  · rename_i lo hlo
    simp only [Option.some.injEq] at h; exact .inl ⟨lo, h.symm, hlo⟩
  · simp only [Option.map_eq_some_iff] at h
    obtain ⟨xo, hxo, rfl⟩ := h; exact .inr ⟨xo, rfl, hxo⟩
theorem act_cases {P : Program} {o : Oper} {act : LAct} (h : resolveAct P o = some act) :
    (∃ lo, act = .op lo ∧ resolveOp P o = some lo) ∨ (∃ xo, act = .xop xo ∧ resolveX P o = some xo) ∨
    (∃ c f args, act = .call f args ∧ o.op = .call c ∧ c.callee = .value (.func f) ∧ opdL c.args.toList = some args) ∨
    (∃ c X x args, act = .callv x args ∧ o.op = .call c ∧ c.callee = .value X ∧ opd X = some x ∧ opdL c.args.toList = some args) ∨
    (∃ X x, act = .panic x ∧ o.op = .panic X ∧ opd X = some x) ∨ act = .stuck := by
  unfold resolveAct at h
  cases hk : knownAct P o with
  | none => rw [hk] at h; simp only [Option.some.injEq] at h; exact .inr (.inr (.inr (.inr (.inr h.symm))))
  | some act' =>
  rw [hk] at h
  simp only [Option.some.injEq] at h
  subst h
  have h := hk
  unfold knownAct at h
  split at h
  · rename_i c hc
    split at h
    · rename_i f hcal
      simp only [Option.bind_eq_bind, Option.bind_eq_some_iff, Option.pure_def, Option.some.injEq] at h
      obtain ⟨ls, hls, rfl⟩ := h
      exact .inr (.inr (.inl ⟨c, f, ls, rfl, hc, hcal, hls⟩))
    · rename_i X hcal
      simp only [Option.bind_eq_bind, Option.bind_eq_some_iff, Option.pure_def, Option.some.injEq] at h
      obtain ⟨lx, hlx, ls, hls, rfl⟩ := h
      exact .inr (.inr (.inr (.inl ⟨c, _, lx, ls, rfl, hc, hcal, hlx, hls⟩)))
    · exact (plain_cases h).imp id .inl
  · rename_i X hX
    simp only [Option.map_eq_some_iff] at h
    obtain ⟨y, hy, rfl⟩ := h; exact .inr (.inr (.inr (.inr (.inl ⟨X, y, rfl, hX, hy⟩))))
  · exact (plain_cases h).imp id .inl
theorem act_op {P : Program} {o : Oper} {lo : LOp} (h : resolveAct P o = some (.op lo)) : resolveOp P o = some lo := by
  rcases act_cases h with ⟨lo', e, h1⟩ | ⟨_, e, _⟩ | ⟨_, _, _, e, _⟩ | ⟨_, _, _, _, e, _⟩ | ⟨_, _, e, _⟩ | e <;> cases e
  exact h1
theorem act_xop {P : Program} {o : Oper} {xo : XOp} (h : resolveAct P o = some (.xop xo)) : resolveX P o = some xo := by
  rcases act_cases h with ⟨lo', e, h1⟩ | ⟨_, e, h1⟩ | ⟨_, _, _, e, _⟩ | ⟨_, _, _, _, e, _⟩ | ⟨_, _, e, _⟩ | e <;> cases e
  exact h1
theorem act_call {P : Program} {o : Oper} {f : FuncId} {args : List LOpd} (h : resolveAct P o = some (.call f args)) : ∃ c, o.op = .call c ∧ c.callee = .value (.func f) ∧ opdL c.args.toList = some args := by
  rcases act_cases h with ⟨lo', e, h1⟩ | ⟨_, e, h1⟩ | ⟨c, f', a', e, h1⟩ | ⟨_, _, _, _, e, _⟩ | ⟨_, _, e, _⟩ | e <;> cases e
  exact ⟨c, h1⟩
theorem act_callv {P : Program} {o : Oper} {x : LOpd} {args : List LOpd} (h : resolveAct P o = some (.callv x args)) : ∃ c X, o.op = .call c ∧ c.callee = .value X ∧ opd X = some x ∧ opdL c.args.toList = some args := by
  rcases act_cases h with ⟨lo', e, h1⟩ | ⟨_, e, h1⟩ | ⟨c, f', a', e, h1⟩ | ⟨c, X, _, _, e, h1⟩ | ⟨_, _, e, _⟩ | e <;> cases e
  exact ⟨c, X, h1⟩
theorem act_panic {P : Program} {o : Oper} {x : LOpd} (h : resolveAct P o = some (.panic x)) : ∃ X, o.op = .panic X ∧ opd X = some x := by
  rcases act_cases h with ⟨lo', e, h1⟩ | ⟨_, e, h1⟩ | ⟨c, f', a', e, h1⟩ | ⟨c, X, _, _, e, h1⟩ | ⟨X, _, e, h1⟩ | e <;> cases e
  exact ⟨X, h1⟩
theorem resolveX_defer {P : Program} {o : Oper} {xo : XOp} (h : resolveX P o = some xo) (c : Call) : o.op ≠ .defer c := by
  intro hc; simp [resolveX, hc] at h

theorem calls_in (r : Option Nat) {f : FuncId} {args : Array Value} {R : Ending → World → Prop} (h : Calls P f args w R) : CallsIn (Fw r) 0 P f args w R := by
  have : CallsIn Fence.wide 0 P f args w R := callsIn_wide.2 h
  exact this

/- what a call, by name or by value, comes to -/
theorem call_sound {r : Option Nat} {o : Oper} {next : Act → World → Prop} {Ψ : Exit → Act → World → Prop} {f : FuncId} {args : List AV} {R : AEnd → AHeap → Nat → Prop}
    (hs : Sat ι N st a w) (hal : ltL st.nx args = true) (hc : ACalls P f args st.hp st.nx R) (hrun : (execOp a.eval o).run P w = (callFunc f (concL ι args).toArray).run P w)
    (hdf : ∀ c, o.op ≠ .defer c)
    (hret : ∀ v hp' nx' ι' w', R (.ret v) hp' nx' → HR ι' hp' w' → hp'.lt nx' = true → v.lt nx' = true → StepR st.nx ι st.hp w nx' ι' hp' w' → next (a.put o.dst (v.conc ι')) w')
    (hpan : ∀ v hp' nx' ι' w', R (.panic v) hp' nx' → HR ι' hp' w' → hp'.lt nx' = true → v.lt nx' = true → StepR st.nx ι st.hp w nx' ι' hp' w' → Ψ (.panic [{ v := v.conc ι', recovered := false }]) a w') :
    o.wpIn (Fw r) 0 P a w next Ψ := by
  refine ⟨fun _ _ => trivial, ?_⟩
  rw [Oper.semAt_eq _ _ _ hdf, hrun]
  rcases hc hs.hl hal ι w hs.hr with ⟨he, hcall⟩ | ⟨v, w', hv, hpost⟩
  · rw [he.run]
    simp only [Oper.uponIn_enter]
    refine ⟨fun h => by simp [Fw] at h, (calls_in r hcall).mono fun e w' hpost => ?_⟩
    obtain ⟨ae, hp', nx', ι', rfl, hR, g1, g2, g3, g4⟩ := hpost
    cases ae with
    | ret v => exact hret v hp' nx' ι' w' hR g1 g2 g3 g4
    | panic v => exact hpan v hp' nx' ι' w' hR g1 g2 g3 g4
  · rw [hv]
    simp only [Oper.uponIn_value]
    obtain ⟨ae, hp', nx', ι', he, hR, g1, g2, g3, g4⟩ := hpost
    cases ae with
    | ret u =>
      simp only [AEnd.conc, Ending.returned.injEq] at he
      subst he
      exact hret u hp' nx' ι' w' hR g1 g2 g3 g4
    | panic u => simp [AEnd.conc] at he

theorem op_sound {r : Option Nat} {o : Oper} {lo : LOper} {pan : AV → AHeap → Nat → Prop} {next : St → Prop} {K : Act → World → Prop} {Ψ : Exit → Act → World → Prop}
    (hlo : resolveOper P N ops o = some lo) (hs : Sat ι N st a w) (h : LStep P pan next lo st)
    (hK : ∀ ι1 st1 a1 w1, Sat ι1 N st1 a1 w1 → next st1 → StepR st.nx ι st.hp w st1.nx ι1 st1.hp w1 → (∃ v, a1 = a.put o.dst v) → K a1 w1)
    (hP : ∀ v hp' nx' ι' w', pan v hp' nx' → HR ι' hp' w' → hp'.lt nx' = true → v.lt nx' = true → StepR st.nx ι st.hp w nx' ι' hp' w' → Ψ (.panic [{ v := v.conc ι', recovered := false }]) a w') :
    if Region.wanted o (yielded ops a.tmps) = true then o.wpIn (Fw r) 0 P a w K Ψ else (∀ f, o.about P w a.eval = some f → (Fw r).fn f) ∧ K (a.put o.dst undef) w := by
  obtain ⟨hd1, hd2, hact⟩ := resolveOper_dst hlo
  simp only [LStep] at h
  split at h
  · exact h.elim
  · rename_i hw
    rw [wanted_sound hlo hs.tm hw]
    simp only [Bool.false_eq_true, if_false]
    refine ⟨fun _ _ => trivial, ?_⟩
    rw [← hd1]
    exact hK ι _ _ w (hs.put (d := lo.dst) (v := .tuple []) (fun k hk => hd2 k (hd1 ▸ hk)) (.refl _ _) (Nat.le_refl _) hs.hr hs.hl rfl) h (.refl _ _ _ _) ⟨_, by rw [hd1]⟩
  · rename_i hw
    rw [wanted_sound hlo hs.tm hw]
    simp only [if_true]
    have hdo : ∀ k, lo.dst = some k → k < N := fun k hk => hd2 k (hd1 ▸ hk)
    split at h
    · -- a plain operation
      rename_i lop hlop
      rw [hlop] at hact
      split at h
      · rename_i v hp' nx' hev
        have hres1 := act_op hact
        have hdf : ∀ c, o.op ≠ .defer c := by
          intro c hc; simp [resolveOp, hc] at hres1
        obtain ⟨ι', w', nx, hrun, hnx, g1, g2, g3, g4⟩ := eval_sound hres1 hs.tm hs.tl hs.hr hs.hl hev
        refine ⟨fun _ _ => trivial, ?_⟩
        rw [Oper.semAt_eq _ _ _ hdf, hrun]
        rcases hnx with rfl | ⟨rfl, rfl⟩
        · simp only [Oper.uponIn_value]
          rw [← hd1]
          exact hK ι' _ _ w' (hs.put hdo g4.agree g4.le g1 g2 g3) h g4 ⟨_, by rw [hd1]⟩
        · simp only [Oper.uponIn_skip]
          rw [← hd1]
          exact hK ι' _ _ w' (hs.put (v := .tuple []) hdo g4.agree g4.le g1 g2 g3) h g4 ⟨_, by rw [hd1]⟩
      · exact h.elim
    · -- a further operation
      rename_i xop hxop
      rw [hxop] at hact
      split at h
      · rename_i v hp' nx' hev
        have hres1 := act_xop hact
        have hdf := resolveX_defer hres1
        obtain ⟨ι', w', nx, hrun, hnx, g1, g2, g3, g4⟩ := xeval_sound hres1 hs.tm hs.tl hs.hr hs.hl hev
        refine ⟨fun _ _ => trivial, ?_⟩
        rw [Oper.semAt_eq _ _ _ hdf, hrun]
        rcases hnx with rfl | ⟨rfl, rfl⟩
        · simp only [Oper.uponIn_value]
          rw [← hd1]
          exact hK ι' _ _ w' (hs.put hdo g4.agree g4.le g1 g2 g3) h g4 ⟨_, by rw [hd1]⟩
        · simp only [Oper.uponIn_skip]
          rw [← hd1]
          exact hK ι' _ _ w' (hs.put (v := .tuple []) hdo g4.agree g4.le g1 g2 g3) h g4 ⟨_, by rw [hd1]⟩
      · exact h.elim
    · -- a call by name
      rename_i f args hlop
      rw [hlop] at hact
      split at h
      · rename_i vs hvs
        obtain ⟨c, hc, hcal, hargs⟩ := act_call hact
        obtain ⟨e1, l1⟩ := opdL_vals hs.tm hs.tl _ _ _ hargs hvs
        have hE : c.args.map a.eval = (concL ι vs).toArray := by apply Array.toList_inj.1; simpa using e1
        refine call_sound hs l1 h ?_ (by simp [hc]) (fun v hp' nx' ι' w' hR g1 g2 g3 g4 => ?_) (fun v hp' nx' ι' w' hR g1 g2 g3 g4 => ?_)
        · simp [execOp, hc, resolve, hcal, Act.eval, Deferred.ofValue, invoke, hE]
        · rw [← hd1]; exact hK ι' _ _ w' (hs.put hdo g4.agree g4.le g1 g2 g3) hR g4 ⟨_, by rw [hd1]⟩
        · exact hP _ _ _ _ _ hR g1 g2 g3 g4
      · exact h.elim
    · -- a call of a function value
      rename_i x args hlop
      rw [hlop] at hact
      obtain ⟨c, X, hc, hcal, hX, hargs⟩ := act_callv hact
      split at h
      · rename_i f first caps vs hx hvs
        obtain ⟨e1, l1⟩ := opdL_vals hs.tm hs.tl _ _ _ hargs hvs
        have hE : c.args.map a.eval = (concL ι vs).toArray := by apply Array.toList_inj.1; simpa using e1
        have hXv := hs.tm.opd hX hx
        have hXl := opd_lt hs.tl hX hx
        simp only [AV.lt, Bool.and_eq_true] at hXl
        refine call_sound hs (by rw [ltL_append, ltL_append, hXl.1, l1, hXl.2]; rfl) h ?_ (by simp [hc]) (fun v hp' nx' ι' w' hR g1 g2 g3 g4 => ?_) (fun v hp' nx' ι' w' hR g1 g2 g3 g4 => ?_)
        · simp only [execOp, hc, resolve, hcal, hXv, AV.conc, Deferred.ofValue, Sem.run_bind, Sem.run_pure, Result.andThen_ok, invoke, hE]
          congr 2
          simp [concL_append]
        · rw [← hd1]; exact hK ι' _ _ w' (hs.put hdo g4.agree g4.le g1 g2 g3) hR g4 ⟨_, by rw [hd1]⟩
        · exact hP _ _ _ _ _ hR g1 g2 g3 g4
      · -- a loop's yield
        rename_i i vs hx hvs
        obtain ⟨e1, l1⟩ := opdL_vals hs.tm hs.tl _ _ _ hargs hvs
        have hE : c.args.map a.eval = (concL ι vs).toArray := by apply Array.toList_inj.1; simpa using e1
        have hXv := hs.tm.opd hX hx
        have hXl := opd_lt hs.tl hX hx
        simp only [AV.lt, decide_eq_true_eq] at hXl
        obtain ⟨f, tmps, assign, body, hy, hround⟩ := h hs.hl l1 hXl ι w hs.hr
        refine ⟨fun _ _ => trivial, ?_⟩
        have hrun : (execOp a.eval o).run P w = .ok (.round (ι.blk i) f tmps assign body) w := by
          simp only [execOp, hc, resolve, hcal, hXv, AV.conc, Deferred.ofValue, Sem.run_bind, Sem.run_pure, Result.andThen_ok, invoke, hE]
          simpa using hy
        rw [Oper.semAt_eq _ _ _ (by simp [hc]), hrun]
        refine ⟨fun h => by simp [Fw] at h, (hround r).mono fun e w' hpost => ?_⟩
        obtain ⟨ae, hp', nx', ι', rfl, hR, g1, g2, g3, g4⟩ := hpost
        cases ae with
        | ret v => rw [← hd1]; exact hK ι' _ _ w' (hs.put hdo g4.agree g4.le g1 g2 g3) hR g4 ⟨_, by rw [hd1]⟩
        | panic v => exact hP _ _ _ _ _ hR g1 g2 g3 g4
      · exact h.elim
    · -- a panic
      rename_i x hlop
      rw [hlop] at hact
      split at h
      · rename_i t v hx
        obtain ⟨X, hX, hx'⟩ := act_panic hact
        refine ⟨fun _ _ => trivial, ?_⟩
        rw [Oper.semAt_eq _ _ _ (by simp [hX])]
        have hXv := hs.tm.opd hx' hx
        have hXl := opd_lt hs.tl hx' hx
        have hrun : (execOp a.eval o).run P w = .halt (.panic ((AV.iface t v).conc ι)) w := by
          simp [execOp, hX, Instr.panic, hXv, AV.conc]
        rw [hrun]
        simp only [Oper.uponIn_panic]
        exact hP _ _ _ ι w h hs.hr hs.hl hXl (.refl _ _ _ _)
      · exact h.elim
    · exact h.elim

theorem ops_sound_then {r : Option Nat} {Q : AExit → St → Prop} {next : St → Prop} {rest : List Nat} {Ψ : Exit → Act → World → Prop} : ∀ (l : List Oper) (k : Nat), (∀ j o, l[j]? = some o → ops[k + j]? = some o) → ∀ (los : List LOper), resolveOpers P N ops l = some los →
    ∀ (ι : Env) (st : St) (a : Act) (w : World), Sat ι N st a w → LOps P (thenQ next Q) los st → (∀ ι' st' a' w', Sat ι' N st' a' w' → next st' → StepR st.nx ι st.hp w st'.nx ι' st'.hp w' → wpOpsIn (Fw r) 0 P ops Ψ rest a' w') →
      (∀ e a' w', APost Q ι N st w e a' w' → Ψ e a' w') → wpOpsIn (Fw r) 0 P ops Ψ (List.range' k l.length ++ rest) a w
  | [], k, _, los, hres, ι, st, a, w, hs, h, hrest, _ => by
    simp only [resolveOpers, Option.some.injEq] at hres; subst hres
    simp only [List.length_nil, List.range'_zero, List.nil_append]
    exact hrest ι st a w hs h (.refl _ _ _ _)
  | o :: l, k, hl, los, hres, ι, st, a, w, hs, h, hrest, hΨ => by
    simp only [resolveOpers] at hres
    split at hres
    · rename_i lo los' hlo hlos
      simp only [Option.some.injEq] at hres; subst hres
      have ho : ops[k]? = some o := hl 0 o rfl
      have hl' : ∀ j o', l[j]? = some o' → ops[k + 1 + j]? = some o' := fun j o' hj => by have := hl (j + 1) o' (by simpa using hj); rw [← this]; congr 1; omega
      simp only [List.length_cons, List.range'_succ, List.cons_append, wpOpsIn, ho]
      simp only [LOps] at h
      exact op_sound hlo hs h (fun ι1 st1 a1 w1 hs1 h1 hstep _ => ops_sound_then (r := r) l (k + 1) hl' los' hlos ι1 st1 a1 w1 hs1 h1 (fun ι' st' a' w' hs' hn hst => hrest ι' st' a' w' hs' hn (hstep.trans hst)) (fun e a' w' hp => hΨ e a' w' (hp.trans hstep)))
        (fun v hp' nx' ι' w' hR g1 g2 g3 g4 => hΨ _ _ _ ⟨.panic v, _, ι', rfl, hR, ⟨hs.tm.agree g4.agree hs.tl, LTm.lt_mono g4.le hs.tl, g1, g2, hs.sz, hs.df.trans (defs_agree g4.agree hs.dl).symm, defsLt_mono g4.le hs.dl⟩, g3, g4⟩)
    · cases hres
theorem ops_sound {r : Option Nat} {Q : AExit → St → Prop} {Ψ : Exit → Act → World → Prop} (los : List LOper) (hres : resolveOpers P N ops ops.toList = some los)
    (hs : Sat ι N st a w) (h : LOps P Q los st) (hΨ : ∀ e a' w', APost Q ι N st w e a' w' → Ψ e a' w') : wpOpsIn (Fw r) 0 P ops Ψ (List.range ops.size) a w := by
  have hQ : thenQ (Q .normal) Q = Q := by funext e s; cases e <;> rfl
  have := ops_sound_then (r := r) (ops := ops) (Q := Q) (next := Q .normal) (rest := []) (Ψ := Ψ) ops.toList 0 (fun j o hj => by simpa using hj) los hres ι st a w hs (by rw [hQ]; exact h)
    (fun ι' st' a' w' hs' hn hst => by simp only [wpOpsIn]; exact hΨ _ _ _ ⟨.normal, st', ι', rfl, hn, hs', rfl, hst⟩) hΨ
  rw [List.range_eq_range']
  simpa using this
end
end Go.Ax
