/- The rules of control are right; a function's body and its call. -/
import Derived.Test.YtgmfnndoaljdbaaGreatDoorAxR
import Derived.RangeFuncLeaves
import Derived.RangeFuncRecord
set_option linter.all false
namespace Go.Ax
open Go
set_option maxRecDepth 20000

theorem exists_least (p : Nat → Prop) (h : ∃ n, p n) : ∃ n, p n ∧ ∀ m, p m → n ≤ m := by
  obtain ⟨n, hn⟩ := h
  induction n using Nat.strongRecOn with
  | _ n ih =>
    by_cases hlt : ∃ m, m < n ∧ p m
    · obtain ⟨m, hm, hp⟩ := hlt; exact ih m hm hp
    · exact ⟨n, hn, fun m hm => Nat.le_of_not_lt fun h => hlt ⟨m, h, hm⟩⟩
open Classical in
noncomputable def leastOf (p : Nat → Prop) : Nat := if h : ∃ n, p n then Classical.choose (exists_least p h) else 0
theorem leastOf_spec {p : Nat → Prop} (h : ∃ n, p n) : p (leastOf p) ∧ ∀ m, p m → leastOf p ≤ m := by
  unfold leastOf
  rw [dif_pos h]
  exact Classical.choose_spec (exists_least p h)


theorem stepR_scope' {P : Program} {b : Frame} {a : Act} {k : List Item} {cs : List Frame} {w : World} {c : Code} : step P (lone (b.atR a (.code (.scope c) :: k)) cs w) = .next (lone (b.atR a (.code c :: .inScope c :: k)) cs w) :=
  step_lone_go (by simp [stepG, stepG.exec, Frame.atR])
theorem stepR_inScope' {P : Program} {b : Frame} {a : Act} {k : List Item} {cs : List Frame} {w : World} {c : Code} : step P (lone (b.atR a (.inScope c :: k)) cs w) = .next (lone (b.atR a k) cs w) :=
  step_lone_go (by simp [stepG, stepG.exec, Frame.atR])
def ScopeX (l : Nat) (rest : Act → World → Prop) (Q : Exit → Act → World → Prop) : Exit → Act → World → Prop
  | .goto l', a, w => l' = l ∧ rest a w
  | e, a, w => Q e a w
def NoGoto (Q : Exit → Act → World → Prop) : Exit → Act → World → Prop
  | .goto _, _, _ => False
  | e, a, w => Q e a w
/- a scope in which one may jump ahead, once -/
theorem wpIn_scope_ahead {F : Fence} {n : Nat} {P : Program} {c rest : Code} {l : Nat} {Q : Exit → Act → World → Prop} {a : Act} {w : World} (hf : findLabel c l = some rest)
    (h : c.wpIn F n P (ScopeX l (fun a w => rest.wpIn F n P (NoGoto Q) a w) Q) a w) : (Code.scope c).wpIn F n P Q a w := by
  intro b k cs hro hb hr
  have hg : gotoIn l (.inScope c :: k) = some (.code rest :: .inScope c :: k) := by simp [gotoIn, hf]
  have s0 : StepsIn (Machine.fenced P F) P (lone (b.atR a (.code (.scope c) :: k)) cs w) (lone (b.atR a (.code c :: .inScope c :: k)) cs w) := .one (fenced_calm hb hr rfl) stepR_scope'
  have sEnd : ∀ a₁ w₁, StepsIn (Machine.fenced P F) P (lone (b.atR a₁ (.inScope c :: k)) cs w₁) (lone (b.atR a₁ k) cs w₁) := fun a₁ w₁ => .one (fenced_calm hb hr rfl) stepR_inScope'
  have hx : ∀ id, exitTo id (.inScope c :: k) = exitTo id k := fun id => by simp [exitTo]
  obtain ⟨e, a₁, w₁, hq, harr⟩ := h b (.inScope c :: k) cs hro hb hr
  cases e with
  | normal => exact ⟨.normal, a₁, w₁, hq, s0.trans (StepsIn.trans harr (sEnd _ _))⟩
  | exit id =>
    exact ⟨.exit id, a₁, w₁, hq, fun k' hk => s0.trans (harr.1 k' (by rw [hx]; exact hk)), fun hr' hk => let ⟨k₁, h1, h2⟩ := harr.2 hr' (by rw [hx]; exact hk); ⟨k₁, h1, s0.trans h2⟩⟩
  | goto l' =>
    obtain ⟨rfl, hq'⟩ := hq
    have s1 := s0.trans (harr.1 _ hg)
    obtain ⟨e₂, a₂, w₂, hq₂, harr₂⟩ := hq' b (.inScope c :: k) cs hro hb hr
    cases e₂ with
    | normal => exact ⟨.normal, a₂, w₂, hq₂, s1.trans (StepsIn.trans harr₂ (sEnd _ _))⟩
    | exit id =>
      exact ⟨.exit id, a₂, w₂, hq₂, fun k' hk => s1.trans (harr₂.1 k' (by rw [hx]; exact hk)), fun hr' hk => let ⟨k₁, h1, h2⟩ := harr₂.2 hr' (by rw [hx]; exact hk); ⟨k₁, h1, s1.trans h2⟩⟩
    | goto l => exact hq₂.elim
    | ret => exact ⟨_, a₂, w₂, hq₂, .of_steps s1 harr₂⟩
    | panic ch => exact ⟨_, a₂, w₂, hq₂, .of_steps s1 harr₂⟩
    | outgrown => exact ⟨_, a₂, w₂, hq₂, .of_steps s1 harr₂⟩
  | ret => exact ⟨_, a₁, w₁, hq, .of_steps s0 harr⟩
  | panic ch => exact ⟨_, a₁, w₁, hq, .of_steps s0 harr⟩
  | outgrown => exact ⟨_, a₁, w₁, hq, .of_steps s0 harr⟩

theorem deferCall_spec {o : Oper} {f : FuncId} {args : List LOpd} (h : deferCall o = some (f, args)) : ∃ c, o.op = .defer c ∧ o.guard = none ∧ o.dst = none ∧ c.callee = .value (.func f) ∧ opdL c.args.toList = some args := by
  unfold deferCall at h
  split at h
  · rename_i c hc hg hd
    split at h
    · rename_i f' hcal
      simp only [Option.map_eq_some_iff, Prod.mk.injEq] at h
      obtain ⟨args', ha, rfl, rfl⟩ := h
      exact ⟨c, hc, hg, hd, hcal, ha⟩
    · cases h
  · cases h

theorem Sat.ends {ι ι' : Env} {N : Nat} {st : St} {a : Act} {w w' : World} {hp' : AHeap} {nx' : Nat} (h : Sat ι N st a w) (hag : Env.Agree st.nx ι ι') (hle : st.nx ≤ nx') (hr : HR ι' hp' w') (hl : hp'.lt nx' = true) :
    Sat ι' N { st with hp := hp', nx := nx' } a w' :=
  ⟨h.tm.agree hag h.tl, LTm.lt_mono hle h.tl, hr, hl, h.sz, h.df.trans (defs_agree hag h.dl).symm, defsLt_mono hle h.dl⟩

/- the record of a loop is rewritten -/
theorem put_loop {ι : Env} {hp : AHeap} {n : Nat} {w : World} (hr : HR ι hp w) (hl : hp.lt n = true) {i : Nat} {r : ALoop} (hg : hp.get? i = some (.loop r)) {tmps : Array Value} (fn : Nat) (r' : ALoop) (hlt : r'.tm.lt n = true) (hdl : r'.dblk < n)
    (hsz : tmps.size = r'.N) (htm : ∀ t v, r'.tm.get? t = some v → tmps[t]? = some (v.conc ι)) :
    HR ι (hp.put i (.loop r')) (w.putObj (ι.blk i) (.loop { state := r'.state, pending := r'.pend, fn, tmps, params := r'.ps, assign := r'.assign, body := r'.body, defers := ι.blk r'.dblk })) ∧
    (hp.put i (.loop r')).lt n = true ∧
    StepR n ι hp w n ι (hp.put i (.loop r')) (w.putObj (ι.blk i) (.loop { state := r'.state, pending := r'.pend, fn, tmps, params := r'.ps, assign := r'.assign, body := r'.body, defers := ι.blk r'.dblk })) := by
  have hlt' := hr.blk_lt (AHeap.get?_mem hg)
  refine ⟨hr.put hg rfl rfl _ (World.putObj_heap_same hlt') ⟨fn, tmps, rfl, hsz, htm⟩ (fun b hb => World.putObj_heap_other hb), AHeap.put_lt hl (by simp [AObj.lt, hlt, hdl]), stepR_put hg rfl rfl rfl rfl (by simp [World.putObj]) (fun b hb => World.putObj_heap_other hb)⟩

set_option maxHeartbeats 2000000 in
theorem range_sound {P : Program} {N : Nat} {Q : AExit → St → Prop} {st : St} {ι : Env} {a : Act} {w : World} {Ψ : Exit → Act → World → Prop} {g : Operand} {lg : LOpd} {f : FuncId} {first caps : List AV} {ps : Array Tmp} {assign body : Code}
    (hs : Sat ι N st a w) (hg : opd g = some lg) (hgv : lg.val st.tm = some (.func (.func f) first caps)) (hent : Enters P f)
    (hcall : ACalls P f (first ++ [.yieldf (st.nx + 1)] ++ caps)
        ((st.nx + 1, .loop { state := .ready, pend := none, tm := st.tm, N, ps, assign, body, dblk := st.nx }) :: (st.nx, .raw (.deferred (some []))) :: st.hp) (st.nx + 2)
        (loopEndQ st (st.nx + 1) (.mark st.nx :: st.df) Q))
    (hΨ : ∀ e a' w', APost Q ι N st w e a' w' → Ψ e a' w') : (Code.rangeFunc g ps assign body).wpIn (Fw none) 0 P Ψ a w := by
  have hgc := hs.tm.opd hg hgv
  have hgl := opd_lt hs.tl hg hgv
  simp only [AV.lt, Bool.and_eq_true] at hgl
  refine wpIn_rangeFunc fun fn _ => ?_
  -- the two new blocks
  have h1 := hs.hr.new hs.hl (.deferred (some [])) (.raw (.deferred (some []))) 0 rfl
  have l1 : AHeap.lt (st.nx + 1) ((st.nx, .raw (.deferred (some []))) :: st.hp) = true := cons_lt hs.hl rfl
  have hag1 : Env.Agree st.nx ι (ι.ext st.nx w.heap.size 0) := Env.ext_agree _ _ _ _
  obtain ⟨ι2, hι2⟩ : ∃ x, x = (ι.ext st.nx w.heap.size 0).ext (st.nx + 1) (w.alloc (.deferred (some []))).heap.size 0 := ⟨_, rfl⟩
  have hag2 : Env.Agree st.nx ι ι2 := by rw [hι2]; exact hag1.trans (Env.ext_agree _ _ _ _) (Nat.le_succ _)
  have hb1 : ι2.blk st.nx = w.heap.size := by simp [hι2, Env.ext]
  have hb2 : ι2.blk (st.nx + 1) = w.heap.size + 1 := by simp [hι2, Env.ext, World.size_alloc]
  obtain ⟨lr, hlr⟩ : ∃ x : ALoop, x = { state := .ready, pend := none, tm := st.tm, N, ps, assign, body, dblk := st.nx } := ⟨_, rfl⟩
  have h2 := h1.1.new l1 (.loop { state := .ready, pending := none, fn, tmps := a.tmps, params := ps, assign, body, defers := w.heap.size }) (.loop lr) 0 (by
    rw [← hι2, hlr]
    exact ⟨fn, a.tmps, by simp [hb1], hs.sz, fun t v hv => (hs.tm.agree hag2 hs.tl) t v hv⟩)
  rw [← hι2] at h2
  have l2 : AHeap.lt (st.nx + 2) ((st.nx + 1, .loop lr) :: (st.nx, .raw (.deferred (some []))) :: st.hp) = true :=
    cons_lt l1 (by rw [hlr]; simp only [AObj.lt, Bool.and_eq_true, decide_eq_true_eq]; exact ⟨LTm.lt_mono (by omega) hs.tl, by omega⟩)
  have hstep2 := h1.2.trans h2.2
  have hargl : ltL (st.nx + 2) (first ++ [.yieldf (st.nx + 1)] ++ caps) = true := by
    rw [ltL_append, ltL_append, ltL_mono (by omega) _ hgl.1, ltL_mono (by omega) _ hgl.2]; simp [ltL, AV.lt]
  have hc0 := hcall
  rw [← hlr] at hc0
  obtain ⟨W2, hW2⟩ : ∃ W, W = (w.alloc (.deferred (some []))).alloc (.loop { state := .ready, pending := none, fn, tmps := a.tmps, params := ps, assign, body, defers := w.heap.size }) := ⟨_, rfl⟩
  rw [← hW2] at h2 hstep2
  have hc := hc0 l2 hargl ι2 W2 h2.1
  have henter := hent.run (P := P) (f := f)
  have hargs : (concL ι2 (first ++ [.yieldf (st.nx + 1)] ++ caps)).toArray = (concL ι first).toArray ++ #[.func (.yield (w.heap.size + 1)) #[] #[]] ++ (concL ι caps).toArray := by
    rw [concL_append, concL_append, concL_agree hag2 _ hgl.1, concL_agree hag2 _ hgl.2]
    simp [concL, AV.conc, hb2]
  rw [hargs] at hc
  have hc' : CallsIn (Fw none) 0 P f ((concL ι first).toArray ++ #[.func (.yield (w.heap.size + 1)) #[] #[]] ++ (concL ι caps).toArray) W2 (CPost (loopEndQ st (st.nx + 1) (.mark st.nx :: st.df) Q) ι2 ((st.nx + 1, .loop lr) :: (st.nx, .raw (.deferred (some []))) :: st.hp) (st.nx + 2) W2) := by
    rcases hc with ⟨_, hc⟩ | ⟨v, w', hv, _⟩
    · exact calls_in none hc
    · rw [henter] at hv; cases hv
  have hpost : ∀ e w3, CPost (loopEndQ st (st.nx + 1) (.mark st.nx :: st.df) Q) ι2 ((st.nx + 1, .loop lr) :: (st.nx, .raw (.deferred (some []))) :: st.hp) (st.nx + 2) W2 e w3 →
      rangePost (Fw none) 0 P (w.heap.size + 1) Ψ { a with defers := [{ target := .collected w.heap.size, args := #[] }] ++ a.defers } e w3 := by
    intro e w3 hpost
    obtain ⟨ae, hp', nx', ι', rfl, hR, g1, g2, g3, g4⟩ := hpost
    have hstep := hstep2.trans g4
    have hdf : ∀ (hp'' : AHeap) (w'' : World), HR ι' hp'' w'' → hp''.lt nx' = true → Sat ι' N { st with hp := hp'', nx := nx', df := .mark st.nx :: st.df } { a with defers := [{ target := .collected w.heap.size, args := #[] }] ++ a.defers } w'' := by
      intro hp'' w'' hr'' hl''
      refine ⟨hs.tm.agree hstep.agree hs.tl, LTm.lt_mono hstep.le hs.tl, hr'', hl'', hs.sz, ?_, ?_⟩
      · have hbb : ι'.blk st.nx = w.heap.size := by rw [g4.agree.blk st.nx (by omega), hb1]
        show [({ target := .collected w.heap.size, args := #[] } : Deferred)] ++ a.defers = (ADef.mark st.nx).conc ι' :: st.df.map (ADef.conc ι')
        rw [hs.df, ← defs_agree hstep.agree hs.dl]
        simp [ADef.conc, hbb]
      · simp only [defsLt, List.all_cons, ADef.lt, Bool.and_eq_true, decide_eq_true_eq]
        refine ⟨?_, defsLt_mono hstep.le hs.dl⟩
        have := g4.le; omega
    cases ae with
    | panic v =>
      exact hΨ _ _ _ ⟨.panic v, _, ι', rfl, hR, hdf _ _ g1 g2, g3, hstep⟩
    | ret v =>
      simp only [loopEndQ] at hR
      split at hR
      · rename_i lr' hgl'
        obtain ⟨hbusy, hR⟩ := hR
        obtain ⟨ob, hob, fn', tmps, hobe, hsz', htm'⟩ := g1.get hgl'
        have hlt' := AHeap.lt_get g2 hgl'
        simp only [AObj.lt, Bool.and_eq_true, decide_eq_true_eq] at hlt'
        have hbl : ι'.blk (st.nx + 1) = w.heap.size + 1 := by rw [g4.agree.blk (st.nx + 1) (by omega), hb2]
        rw [hbl, hobe] at hob
        have hend := run_endLoop (P := P) hob hbusy
        obtain ⟨p1, p2, p3⟩ := put_loop g1 g2 hgl' fn' { lr' with state := .exhausted } hlt'.2.1 hlt'.2.2 hsz' htm'
        rw [hbl] at p1 p3
        have hfin := hdf _ _ p1 p2
        have hstepF := hstep.trans p3
        refine ⟨lr'.pend, _, hend, ?_⟩
        revert hR
        cases hpd : lr'.pend with
        | none => intro hR; simp only [hpd] at hfin hstepF ⊢; exact hΨ _ _ _ ⟨.normal, _, ι', rfl, hR, hfin, rfl, hstepF⟩
        | some cj =>
          cases cj with
          | ret => intro hR; simp only [hpd] at hfin hstepF ⊢; exact wpIn_ret (hΨ _ _ _ ⟨.ret, _, ι', rfl, hR, hfin, rfl, hstepF⟩)
          | exit id => intro hR; simp only [hpd] at hfin hstepF ⊢; exact wpIn_exit (hΨ _ _ _ ⟨.exit id, _, ι', rfl, hR, hfin, rfl, hstepF⟩)
          | goto t => intro hR; simp only [hpd] at hfin hstepF ⊢; exact wpIn_goto (hΨ _ _ _ ⟨.goto t, _, ι', rfl, hR, hfin, rfl, hstepF⟩)
          | _ => intro hR; exact hR.elim
      · exact hR.elim
  refine ⟨w.heap.size + 1, [{ target := .collected w.heap.size, args := #[] }], W2, { target := .fn (.func f) (concL ι caps).toArray, args := (concL ι first).toArray ++ #[.func (.yield (w.heap.size + 1)) #[] #[]] }, W2, f, _, W2, ?_, ?_, ?_, ?_, ?_, hc'.mono hpost⟩
  · rw [hW2]; exact run_enterLoop_outer fn a.tmps ps assign body
  · simp only [resolve, hgc, AV.conc, Deferred.ofValue, Sem.run_pure, List.map_toArray, List.map_cons, List.map_nil]; rfl
  · exact fun _ _ => trivial
  · simp only [invoke]; exact henter _ _
  · intro h; simp [Fw] at h

theorem lwp_sound {P : Program} {N : Nat} {r : Option Nat} : ∀ (d : Nat) (rnd : Bool) (c : Code) (lc : LCode), (rnd = false → r = none) → resolveC P N rnd d c = some lc → ∀ (Q : AExit → St → Prop) (st : St), LWp P lc Q st →
    ∀ (ι : Env) (a : Act) (w : World) (Ψ : Exit → Act → World → Prop), Sat ι N st a w → (∀ e a' w', APost Q ι N st w e a' w' → Ψ e a' w') → c.wpIn (Fw r) 0 P Ψ a w := by
  intro d
  induction d with
  | zero => intro rnd c lc _ hres; simp [resolveC] at hres
  | succ d ih =>
  intro rnd c lc hrnd hres Q st h ι a w Ψ hs hΨ
  cases c with
  | skip =>
    simp only [resolveC, Option.some.injEq] at hres; subst hres
    exact wpIn_skip (hΨ _ _ _ ⟨.normal, st, ι, rfl, h, hs, rfl, .refl _ _ _ _⟩)
  | label l =>
    simp only [resolveC, Option.some.injEq] at hres; subst hres
    exact wpIn_label (hΨ _ _ _ ⟨.normal, st, ι, rfl, h, hs, rfl, .refl _ _ _ _⟩)
  | exit id =>
    simp only [resolveC, Option.some.injEq] at hres; subst hres
    exact wpIn_exit (hΨ _ _ _ ⟨.exit id, st, ι, rfl, h, hs, rfl, .refl _ _ _ _⟩)
  | goto l =>
    simp only [resolveC, Option.some.injEq] at hres; subst hres
    exact wpIn_goto (hΨ _ _ _ ⟨.goto l, st, ι, rfl, h, hs, rfl, .refl _ _ _ _⟩)
  | ret =>
    simp only [resolveC, Option.some.injEq] at hres; subst hres
    exact wpIn_ret (hΨ _ _ _ ⟨.ret, st, ι, rfl, h, hs, rfl, .refl _ _ _ _⟩)
  | refuse why =>
    simp only [resolveC, Option.some.injEq] at hres; subst hres
    exact h.elim
  | region id ops draw =>
    simp only [resolveC] at hres
    split at hres
    · rename_i hdr
      have hd : draw = true := hdr
      subst hd
      exact draw_sound hres hs h hΨ
    · rename_i hdr
      have hd : draw = false := by simpa using hdr
      subst hd
      split at hres
      · split at hres
        · cases hres
        · rename_i hr
          have hrn : r = none := hrnd (by simpa using hr)
          subst hrn
          unfold resolveDefer at hres
          split at hres
          · rename_i o hlast
            split at hres
            · rename_i f args los hdc hlos
              simp only [Option.some.injEq] at hres; subst hres
              obtain ⟨c, hc, hg, hd, hcal, ha⟩ := deferCall_spec hdc
              have hops : ops.toList = ops.toList.dropLast ++ [o] := by
                obtain ⟨ys, hys⟩ := List.getLast?_eq_some_iff.1 hlast
                rw [hys]; simp
              have hlen : ops.size = ops.toList.dropLast.length + 1 := by
                have := congrArg List.length hops
                simp at this ⊢; omega
              have ho : ops[ops.toList.dropLast.length]? = some o := by
                rw [← Array.getElem?_toList, hops]; simp
              refine wpIn_region ?_
              have hrange : List.range ops.size = List.range' 0 ops.toList.dropLast.length ++ [ops.toList.dropLast.length] := by
                rw [hlen, List.range_succ, List.range_eq_range']
              rw [hrange]
              simp only [LWp] at h
              refine ops_sound_then (Q := Q) (next := fun st => match LOpd.vals st.tm args with | some vs => Q .normal { st with df := .fn f vs :: st.df } | none => False) ops.toList.dropLast 0 (fun j o' hj => ?_) los hlos ι st a w hs h (fun ι' st' a' w' hs' hn hst => ?_) hΨ
              · rw [Nat.zero_add, ← Array.getElem?_toList]
                rw [List.getElem?_dropLast] at hj
                split at hj
                · exact hj
                · cases hj
              · split at hn
                · rename_i vs hvs
                  obtain ⟨e1, l1⟩ := opdL_vals hs'.tm hs'.tl _ _ _ ha hvs
                  have hE : c.args.map a'.eval = (concL ι' vs).toArray := by apply Array.toList_inj.1; simpa using e1
                  simp only [wpOpsIn, ho, Region.wanted, hg, if_true]
                  refine ⟨fun _ _ => trivial, ?_⟩
                  have hrun : (o.semAt (Fw none).round a'.eval).run P w' = .ok (.defer { target := .fn (.func f) #[], args := (concL ι' vs).toArray }) w' := by
                    show (o.semAt none a'.eval).run P w' = _
                    rw [Oper.semAt_none]
                    simp [execOp, hc, resolve, hcal, Act.eval, Deferred.ofValue, hE]
                  rw [hrun]
                  simp only [Oper.uponIn, hd, Act.put]
                  refine hΨ _ _ _ ⟨.normal, _, ι', rfl, hn, ⟨hs'.tm, hs'.tl, hs'.hr, hs'.hl, hs'.sz, ?_, ?_⟩, rfl, hst⟩
                  · simp only [List.map_cons, ADef.conc, hs'.df]
                  · simp only [defsLt, List.all_cons, ADef.lt, l1, Bool.true_and]; exact hs'.dl
                · exact hn.elim
            · cases hres
          · cases hres
      · simp only [Option.map_eq_some_iff] at hres
        obtain ⟨los, hlos, rfl⟩ := hres
        exact wpIn_region (ops_sound los hlos hs h hΨ)
  | seq x y =>
    simp only [resolveC] at hres
    split at hres
    · rename_i lx ly hx hy
      simp only [Option.some.injEq] at hres; subst hres
      refine wpIn_seq (ih rnd x lx hrnd hx _ st h ι a w _ hs fun e a' w' hp => ?_)
      obtain ⟨ae, st', ι', rfl, hq, hs', hlt, hstep⟩ := hp
      cases ae with
      | normal => exact ih rnd y ly hrnd hy Q st' hq ι' a' w' Ψ hs' (fun e a2 w2 hp2 => hΨ e a2 w2 (hp2.trans hstep))
      | exit id => exact hΨ _ _ _ ⟨.exit id, st', ι', rfl, hq, hs', hlt, hstep⟩
      | goto l => exact hΨ _ _ _ ⟨.goto l, st', ι', rfl, hq, hs', hlt, hstep⟩
      | ret => exact hΨ _ _ _ ⟨.ret, st', ι', rfl, hq, hs', hlt, hstep⟩
      | panic v => exact hΨ _ _ _ ⟨.panic v, st', ι', rfl, hq, hs', hlt, hstep⟩
    · cases hres
  | cond c x y =>
    simp only [resolveC] at hres
    split at hres
    · rename_i lcc lx ly hc hx hy
      simp only [Option.some.injEq] at hres; subst hres
      simp only [LWp] at h
      split at h
      · rename_i t ht
        have hct := hs.tm.opd hc ht
        cases t
        · exact wpIn_cond_false hct (ih rnd y ly hrnd hy Q st (h.2 rfl) ι a w Ψ hs hΨ)
        · exact wpIn_cond_true hct (ih rnd x lx hrnd hx Q st (h.1 rfl) ι a w Ψ hs hΨ)
      · exact h.elim
    · cases hres
  | block id x =>
    simp only [resolveC, Option.map_eq_some_iff] at hres
    obtain ⟨lx, hx, rfl⟩ := hres
    refine wpIn_block (ih rnd x lx hrnd hx _ st h ι a w _ hs fun e a' w' hp => ?_)
    obtain ⟨ae, st', ι', rfl, hq, hs', hlt, hstep⟩ := hp
    cases ae with
    | normal => exact hΨ _ _ _ ⟨.normal, st', ι', rfl, hq, hs', hlt, hstep⟩
    | exit id' =>
      simp only [AExit.conc, Exit.inBlock]
      simp only [blockQ] at hq
      split
      · rename_i he
        rw [if_pos he] at hq
        exact hΨ _ _ _ ⟨.normal, st', ι', rfl, hq, hs', rfl, hstep⟩
      · rename_i he
        rw [if_neg he] at hq
        exact hΨ _ _ _ ⟨.exit id', st', ι', rfl, hq, hs', hlt, hstep⟩
    | goto l => exact hΨ _ _ _ ⟨.goto l, st', ι', rfl, hq, hs', hlt, hstep⟩
    | ret => exact hΨ _ _ _ ⟨.ret, st', ι', rfl, hq, hs', hlt, hstep⟩
    | panic v => exact hΨ _ _ _ ⟨.panic v, st', ι', rfl, hq, hs', hlt, hstep⟩
  | loop x =>
    simp only [resolveC, Option.map_eq_some_iff] at hres
    obtain ⟨lx, hx, rfl⟩ := hres
    obtain ⟨I, μ, h0, hround⟩ := h
    let p : Act → World → Nat → Prop := fun a1 w1 m => ∃ s ι1, μ s = m ∧ I s ∧ Sat ι1 N s a1 w1 ∧ StepR st.nx ι st.hp w s.nx ι1 s.hp w1
    obtain ⟨s0, hle0, hI0⟩ := h0
    have hs0 := hs.le hle0
    refine wpIn_loop (fun a1 w1 => ∃ m, p a1 w1 m) (fun a1 w1 => leastOf (p a1 w1)) ⟨μ s0, s0, ι, rfl, hI0, hs0.1, hs0.2⟩ ?_
    intro a1 w1 hI
    obtain ⟨⟨s, ι1, hm, hIs, hs1, hstep1⟩, hleast⟩ := leastOf_spec hI
    refine ih rnd x lx hrnd hx _ s (hround s hIs) ι1 a1 w1 _ hs1 fun e a' w' hp => ?_
    obtain ⟨ae, st', ι', rfl, hq, hs', hlt, hstep⟩ := hp
    have htr := hstep1.trans hstep
    cases ae with
    | normal =>
      obtain ⟨s1, hle1, hI', hlt'⟩ := hq
      have hs2 := hs'.le hle1
      have hp' : p a' w' (μ s1) := ⟨s1, ι', rfl, hI', hs2.1, htr.trans hs2.2⟩
      refine ⟨⟨_, hp'⟩, ?_⟩
      have := (leastOf_spec ⟨_, hp'⟩).2 _ hp'
      show leastOf (p a' w') < leastOf (p a1 w1)
      omega
    | exit id => exact hΨ _ _ _ ⟨.exit id, st', ι', rfl, hq, hs', hlt, htr⟩
    | goto l => exact hΨ _ _ _ ⟨.goto l, st', ι', rfl, hq, hs', hlt, htr⟩
    | ret => exact hΨ _ _ _ ⟨.ret, st', ι', rfl, hq, hs', hlt, htr⟩
    | panic v => exact hΨ _ _ _ ⟨.panic v, st', ι', rfl, hq, hs', hlt, htr⟩
  | scope x =>
    simp only [resolveC] at hres
    split at hres
    · rename_i l hl
      split at hres
      · rename_i rest hf
        split at hres
        · rename_i lx ly hx hy
          simp only [Option.some.injEq] at hres; subst hres
          simp only [LWp] at h
          refine wpIn_scope_ahead hf (ih rnd x lx hrnd hx _ st h ι a w _ hs fun e a' w' hp => ?_)
          obtain ⟨ae, st', ι', rfl, hq, hs', hlt, hstep⟩ := hp
          cases ae with
          | goto l' =>
            refine ⟨hq.1, ih rnd rest ly hrnd hy _ st' hq.2 ι' a' w' _ hs' fun e a2 w2 hp2 => ?_⟩
            obtain ⟨ae2, st2, ι2, rfl, hq2, hs2, hlt2, hstep2⟩ := hp2
            cases ae2 with
            | goto l2 => exact hq2.elim
            | normal => exact hΨ _ _ _ ⟨.normal, st2, ι2, rfl, hq2, hs2, hlt2, hstep.trans hstep2⟩
            | exit id => exact hΨ _ _ _ ⟨.exit id, st2, ι2, rfl, hq2, hs2, hlt2, hstep.trans hstep2⟩
            | ret => exact hΨ _ _ _ ⟨.ret, st2, ι2, rfl, hq2, hs2, hlt2, hstep.trans hstep2⟩
            | panic v => exact hΨ _ _ _ ⟨.panic v, st2, ι2, rfl, hq2, hs2, hlt2, hstep.trans hstep2⟩
          | normal => exact hΨ _ _ _ ⟨.normal, st', ι', rfl, hq, hs', hlt, hstep⟩
          | exit id => exact hΨ _ _ _ ⟨.exit id, st', ι', rfl, hq, hs', hlt, hstep⟩
          | ret => exact hΨ _ _ _ ⟨.ret, st', ι', rfl, hq, hs', hlt, hstep⟩
          | panic v => exact hΨ _ _ _ ⟨.panic v, st', ι', rfl, hq, hs', hlt, hstep⟩
        · cases hres
      · cases hres
    · cases hres
  | rangeFunc g ps assign body =>
    simp only [resolveC] at hres
    split at hres
    · cases hres
    · rename_i hr
      have hrn : r = none := hrnd (by simpa using hr)
      subst hrn
      split at hres
      · rename_i lg lx ly hg hx hy
        simp only [Option.some.injEq] at hres; subst hres
        simp only [LWp] at h
        split at h
        · rename_i f first caps hgv
          exact range_sound hs hg hgv h.1 h.2 hΨ
        · exact h.elim
      · cases hres
/- results -/
inductive LRes where
  | tmp (t : Nat)
  | cell1 (t : Nat)
  | cellN (t n : Nat)
  deriving Inhabited
def resolveRes (P : Program) : List ResultVar → Option (List LRes)
  | [] => some []
  | .tmp t :: l => (resolveRes P l).map (.tmp t :: ·)
  | .cell t ty :: l =>
    match aggT P ty, P.info? ty, resolveRes P l with
    | some true, some inf, some r => some (.cellN t inf.size :: r)
    | some false, _, some r => some (.cell1 t :: r)
    | _, _, _ => none
def LRes.val (st : St) : LRes → Option AV
  | .tmp t => st.tm.get? t
  | .cell1 t =>
    match st.tm.get? t with
    | some (.ptr i off) => match st.hp.cells? i off 1 with
      | some [v] => some v
      | _ => none
    | _ => none
  | .cellN t n =>
    match st.tm.get? t with
    | some (.ptr i off) => (st.hp.cells? i off n).map .agg
    | _ => none
def resVals (st : St) : List LRes → Option (List AV)
  | [] => some []
  | r :: l =>
    match r.val st, resVals st l with
    | some v, some vs => some (v :: vs)
    | _, _ => none
def resVal (st : St) (l : List LRes) : Option AV :=
  match resVals st l with
  | some [v] => some v
  | some vs => some (.tuple vs)
  | none => none

section
variable {P : Program} {N : Nat} {ι : Env} {st : St} {a : Act} {w : World}

theorem resVals_sound (hs : Sat ι N st a w) : ∀ (rs : List ResultVar) (ls : List LRes) (vs : List AV), resolveRes P rs = some ls → resVals st ls = some vs →
    (rs.mapM fun
      | .tmp t => pure (a.tmps.getD t undef)
      | .cell b t => do loadVar t (← asAddr (a.tmps.getD b undef)) : Sem (List Value)).run P w = .ok (concL ι vs) w ∧ ltL st.nx vs = true
  | [], ls, vs, h1, h2 => by
    simp only [resolveRes, Option.some.injEq] at h1; subst h1
    simp only [resVals, Option.some.injEq] at h2; subst h2
    exact ⟨rfl, rfl⟩
  | .tmp t :: rs, ls, vs, h1, h2 => by
    simp only [resolveRes, Option.map_eq_some_iff] at h1
    obtain ⟨l, hl, rfl⟩ := h1
    simp only [resVals] at h2
    split at h2
    · rename_i v us hv hus
      simp only [Option.some.injEq] at h2; subst h2
      simp only [LRes.val] at hv
      obtain ⟨g1, g2⟩ := resVals_sound hs rs l us hl hus
      have ht : a.tmps.getD t undef = v.conc ι := by rw [Array.getD_eq_getD_getElem?, hs.tm t v hv]; rfl
      refine ⟨?_, by simp [ltL, LTm.lt_get hs.tl hv, g2]⟩
      simp only [List.mapM_cons, Sem.run_bind, Sem.run_pure, Result.andThen_ok, g1, ht, concL]
    · cases h2
  | .cell b t :: rs, ls, vs, h1, h2 => by
    simp only [resolveRes] at h1
    split at h1
    · rename_i inf l hag hi hl
      simp only [Option.some.injEq] at h1; subst h1
      simp only [resVals] at h2
      split at h2
      · rename_i v us hv hus
        simp only [Option.some.injEq] at h2; subst h2
        simp only [LRes.val] at hv
        split at hv
        · rename_i i off hb
          simp only [Option.map_eq_some_iff] at hv
          obtain ⟨cs, hcs, rfl⟩ := hv
          obtain ⟨g1, g2⟩ := resVals_sound hs rs l us hl hus
          have ht : (asAddr (a.tmps.getD b undef)).run P w = .ok ⟨ι.blk i, off, none⟩ w := by rw [Array.getD_eq_getD_getElem?, hs.tm b _ hb]; rfl
          refine ⟨?_, by simp only [ltL, AV.lt, AHeap.cells?_lt hs.hl hcs, g2]; rfl⟩
          simp only [List.mapM_cons, Sem.run_bind, Sem.run_pure, Result.andThen_ok, g1, ht, concL, AV.conc, run_loadVar_agg hs.hr hag hi hcs]
        · cases hv
      · cases h2
    · rename_i l hag hl
      simp only [Option.some.injEq] at h1; subst h1
      simp only [resVals] at h2
      split at h2
      · rename_i v us hv hus
        simp only [Option.some.injEq] at h2; subst h2
        simp only [LRes.val] at hv
        split at hv
        · rename_i i off hb
          split at hv
          · rename_i u hcs
            simp only [Option.some.injEq] at hv; subst hv
            obtain ⟨g1, g2⟩ := resVals_sound hs rs l us hl hus
            have ht : (asAddr (a.tmps.getD b undef)).run P w = .ok ⟨ι.blk i, off, none⟩ w := by rw [Array.getD_eq_getD_getElem?, hs.tm b _ hb]; rfl
            have hlt := AHeap.cells?_lt hs.hl hcs
            simp only [ltL, Bool.and_true] at hlt
            refine ⟨?_, by simp only [ltL, hlt, g2]; rfl⟩
            simp only [List.mapM_cons, Sem.run_bind, Sem.run_pure, Result.andThen_ok, g1, ht, concL, run_loadVar_one hs.hr hag hcs]
          · cases hv
        · cases hv
      · cases h2
    · cases h1

theorem resVal_sound (hs : Sat ι N st a w) {fn : Func} {ls : List LRes} {v : AV} (h1 : resolveRes P fn.results.toList = some ls) (h2 : resVal st ls = some v) :
    (results fn a.tmps).run P w = .ok (v.conc ι) w ∧ v.lt st.nx = true := by
  unfold resVal at h2
  have key : ∀ vs, resVals st ls = some vs → (results fn a.tmps).run P w = .ok (if h : (concL ι vs).toArray.size = 1 then (concL ι vs).toArray[0] else .tuple (concL ι vs).toArray) w ∧ ltL st.nx vs = true := by
    intro vs hvs
    obtain ⟨g1, g2⟩ := resVals_sound (P := P) hs _ _ _ h1 hvs
    refine ⟨?_, g2⟩
    unfold results
    rw [Array.mapM_eq_mapM_toList]
    simp only [Sem.run_bind, Sem.run_map]
    refine (congrArg (fun r => (Result.andThen r fun (a : List Value) w' => Result.ok a.toArray w').andThen fun a w' => Sem.run P (pure (if h : a.size = 1 then a[0] else Value.tuple a)) w') g1).trans ?_
    rfl
  split at h2
  · rename_i u hvs
    simp only [Option.some.injEq] at h2; subst h2
    obtain ⟨g1, g2⟩ := key _ hvs
    simp only [ltL, Bool.and_true] at g2
    exact ⟨by rw [g1]; simp [concL], g2⟩
  · rename_i vs hne hvs
    simp only [Option.some.injEq] at h2; subst h2
    obtain ⟨g1, g2⟩ := key _ hvs
    refine ⟨?_, by simpa [AV.lt] using g2⟩
    rw [g1, dif_neg]
    · rfl
    · intro h
      simp only [List.size_toArray, concL_length] at h
      obtain ⟨u, rfl⟩ := List.length_eq_one_iff.1 h
      exact hne u rfl
  · cases h2
end

end Go.Ax
