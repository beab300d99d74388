/- Running code and calls: right. -/
import Derived.Test.YtgmfnndoaljdbaaGreatDoorAxW
set_option linter.all false
namespace Go.Ax
open Go
set_option maxRecDepth 20000

section
variable {P : Program} {call : XCall} {ent : Nat → Bool} {L : Nat}

theorem xLoopEnd_sound {st : St} {l : Nat} {df : List ADef} {Q : AExit → St → Prop} {r : AEnd × AHeap × Nat} {e : AExit} {st' : St} (h : xLoopEnd st l df (some r) = some (e, st')) (hq : Q e st') :
    ∀ ae hp nx, Is r ae hp nx → loopEndQ st l df Q ae hp nx := by
  rintro ae hp nx rfl
  cases ae with
  | panic v =>
    simp only [xLoopEnd, Option.some.injEq, Prod.mk.injEq] at h
    obtain ⟨rfl, rfl⟩ := h; exact hq
  | ret v =>
    simp only [xLoopEnd] at h
    simp only [loopEndQ]
    split at h
    · cases h
    · rename_i r hne hg
      rw [hg]
      simp only
      refine ⟨fun hb => ?_, ?_⟩
      · obtain ⟨s, p, tm, N, ps, a, b, d⟩ := r
        simp only at hb; subst hb
        exact hne p tm N ps a b d rfl
      · split at h
        · rename_i hp1; simp only [Option.some.injEq, Prod.mk.injEq] at h; obtain ⟨rfl, rfl⟩ := h; simp only [hp1] at hq ⊢; exact hq
        · rename_i hp1; simp only [Option.some.injEq, Prod.mk.injEq] at h; obtain ⟨rfl, rfl⟩ := h; simp only [hp1] at hq ⊢; exact hq
        · rename_i hp1; simp only [Option.some.injEq, Prod.mk.injEq] at h; obtain ⟨rfl, rfl⟩ := h; simp only [hp1] at hq ⊢; exact hq
        · rename_i hp1; simp only [Option.some.injEq, Prod.mk.injEq] at h; obtain ⟨rfl, rfl⟩ := h; simp only [hp1] at hq ⊢; exact hq
        · cases h
    · cases h

theorem execC_sound (hc : CallOK P call ent) : ∀ (c : LCode) (st : St) (e : AExit) (st' : St), execC call ent L c st = some (e, st') → ∀ Q : AExit → St → Prop, Q e st' → LWp P c Q st := by
  intro c
  induction c with
  | skip => intro st e st' h Q hq; simp only [execC, Option.some.injEq, Prod.mk.injEq] at h; obtain ⟨rfl, rfl⟩ := h; exact hq
  | exit id => intro st e st' h Q hq; simp only [execC, Option.some.injEq, Prod.mk.injEq] at h; obtain ⟨rfl, rfl⟩ := h; exact hq
  | label l => intro st e st' h Q hq; simp only [execC, Option.some.injEq, Prod.mk.injEq] at h; obtain ⟨rfl, rfl⟩ := h; exact hq
  | goto l => intro st e st' h Q hq; simp only [execC, Option.some.injEq, Prod.mk.injEq] at h; obtain ⟨rfl, rfl⟩ := h; exact hq
  | ret => intro st e st' h Q hq; simp only [execC, Option.some.injEq, Prod.mk.injEq] at h; obtain ⟨rfl, rfl⟩ := h; exact hq
  | refuse => intro st e st' h; simp [execC] at h
  | region ops => intro st e st' h Q hq; exact xOps_sound hc ops st e st' h hq
  | regionD ds t => intro st e st' h Q hq; exact xOpsD_sound hc t [] st e st' h hq
  | seq a b iha ihb =>
    intro st e st' h Q hq
    simp only [execC] at h
    split at h
    · rename_i s hs; exact iha st _ s hs _ (ihb s e st' h Q hq)
    · rename_i r hr
      refine iha st e st' h _ ?_
      cases e with
      | normal => exact absurd h (hr st')
      | _ => exact hq
  | cond x a b iha ihb =>
    intro st e st' h Q hq
    simp only [execC] at h
    simp only [LWp]
    split at h
    · rename_i hx; rw [hx]; exact ⟨fun _ => iha st e st' h Q hq, fun h => by cases h⟩
    · rename_i hx; rw [hx]; exact ⟨fun h => (by cases h), fun _ => ihb st e st' h Q hq⟩
    · cases h
  | block id b ihb =>
    intro st e st' h Q hq
    simp only [execC] at h
    simp only [LWp]
    split at h
    · rename_i id' s hs
      refine ihb st _ s hs _ ?_
      simp only [blockQ]
      split at h <;> simp only [Option.some.injEq, Prod.mk.injEq] at h <;> obtain ⟨rfl, rfl⟩ := h
      · rename_i he; rw [if_pos he]; exact hq
      · rename_i he; rw [if_neg he]; exact hq
    · rename_i r hr
      refine ihb st e st' h _ ?_
      cases e with
      | exit id' => exact absurd h (hr id' st')
      | _ => exact hq
  | loop b ihb => intro st e st' h Q hq; exact xIter_sound ihb hq h
  | scope b l rest ihb ihr =>
    intro st e st' h Q hq
    simp only [execC] at h
    simp only [LWp]
    split at h
    · rename_i l' s hs
      split at h
      · rename_i hl
        split at h
        · cases h
        · rename_i r hr
          refine ihb st _ s hs _ ⟨hl, ihr s e st' h _ ?_⟩
          cases e with
          | goto l2 => exact absurd h (hr l2 st')
          | _ => exact hq
      · cases h
    · rename_i r hr
      refine ihb st e st' h _ ?_
      cases e with
      | goto l2 => exact absurd h (hr l2 st')
      | _ => exact hq
  | defer f args =>
    intro st e st' h Q hq
    simp only [execC] at h
    simp only [LWp]
    split at h
    · rename_i vs hvs
      simp only [Option.some.injEq, Prod.mk.injEq] at h
      obtain ⟨rfl, rfl⟩ := h
      rw [hvs]; exact hq
    · cases h
  | rangeFunc g N ps assign body la lb _ _ =>
    intro st e st' h Q hq
    simp only [execC] at h
    simp only [LWp]
    split at h
    · rename_i f first caps hg
      rw [hg]
      simp only
      split at h
      · rename_i hent
        refine ⟨hc.ent f hent, ?_⟩
        revert h
        generalize hr : call (.inl f) (first ++ [.yieldf (st.nx + 1)] ++ caps) ((st.nx + 1, .loop { state := .ready, pend := none, tm := st.tm, N, ps, assign, body, dblk := st.nx }) :: (st.nx, .raw (.deferred (some []))) :: st.hp) (st.nx + 2) = r
        intro h
        cases r with
        | none => simp [xLoopEnd] at h
        | some r => exact (hc.fn _ _ _ _ _ hr).mono (xLoopEnd_sound h hq)
      · cases h
    · cases h
end

/- functions that are known -/
structure Tab where
  fn : Nat → Option LFn
  dfn : Nat → Option LFnD
  ext : Nat → Option (List AV → AHeap → Nat → Option (AEnd × AHeap × Nat))
structure TabOK (P : Program) (T : Tab) : Prop where
  fn : ∀ f lf, T.fn f = some lf → resolveFn P f = some lf
  dfn : ∀ f lf, T.dfn f = some lf → resolveFnD P f = some lf
  ext : ∀ f s, T.ext f = some s → ∀ args hp n r, s args hp n = some r → ACalls P f args hp n (Is r)
def Tab.ent (T : Tab) (f : Nat) : Bool := (T.fn f).isSome

def xDef (T : Tab) (call : XCall) (L : Nat) (f : Nat) (args : List AV) (u : AMode) (hp : AHeap) (n : Nat) : Option (AHeap × Nat) :=
  match T.dfn f with
  | some ld =>
    if args.length ≤ ld.ntmps then
      match execC call T.ent L ld.body { tm := (ld.d1, u.val) :: (ld.d0, u.val) :: argTm 0 args, hp, nx := n } with
      | some (.normal, st) => match st.df with | [] => some (st.hp, st.nx) | _ => none
      | some (.ret, st) => match st.df with | [] => some (st.hp, st.nx) | _ => none
      | _ => none
    else none
  | none => none
def xLeave (T : Tab) (call : XCall) (L : Nat) (res : List LRes) (tm : LTm) : List ADef → AMode → AHeap → Nat → Option (AEnd × AHeap × Nat)
  | [], .returning, hp, n =>
    match resVal { tm, hp, nx := n } res with
    | some v => some (.ret v, hp, n)
    | none => none
  | [], .panicking v, hp, n => some (.panic v, hp, n)
  | .mark d :: ds, u, hp, n =>
    match hp.get? d with
    | some (.raw (.deferred (some []))) => xLeave T call L res tm ds u (hp.put d (.raw (.deferred none))) n
    | _ => none
  | .fn f args :: ds, u, hp, n =>
    match xDef T call L f args u hp n with
    | some (hp', n') => xLeave T call L res tm ds .returning hp' n'
    | none => none
def xFinish (T : Tab) (call : XCall) (L : Nat) (res : List LRes) : Option (AExit × St) → Option (AEnd × AHeap × Nat)
  | some (.normal, st) => xLeave T call L res st.tm st.df .returning st.hp st.nx
  | some (.ret, st) => xLeave T call L res st.tm st.df .returning st.hp st.nx
  | some (.panic v, st) => xLeave T call L res st.tm st.df (.panicking v) st.hp st.nx
  | _ => none
def xRoundEnd (i : Nat) (jump : Option Code) (st : St) : Option (AEnd × AHeap × Nat) :=
  match st.df, st.hp.get? i with
  | [], some (.loop r) => some (.ret (.bool jump.isNone), st.hp.put i (.loop { r with state := if jump.isNone then .ready else .done, pend := jump }), st.nx)
  | _, _ => none
def xRound (i : Nat) : Option (AExit × St) → Option (AEnd × AHeap × Nat)
  | some (.normal, st) => xRoundEnd i none st
  | some (.ret, st) => xRoundEnd i (some .ret) st
  | some (.exit id, st) => xRoundEnd i (some (.exit id)) st
  | some (.goto t, st) => xRoundEnd i (some (.goto t)) st
  | _ => none
def xRoundBody (call : XCall) (T : Tab) (L : Nat) (i : Nat) (lb : LCode) : Option (AExit × St) → Option (AEnd × AHeap × Nat)
  | some (.normal, st) =>
    match st.hp.get? i with
    | some (.loop r) =>
      match r.state with
      | .ready => xRound i (execC call T.ent L lb { st with hp := st.hp.put i (.loop { r with state := .busy }) })
      | _ => none
    | _ => none
  | _ => none
def callY (P : Program) (T : Tab) (L : Nat) : Nat → XCall
  | 0, _, _, _, _ => none
  | k + 1, .inl f, args, hp, n =>
    match T.ext f with
    | some s => s args hp n
    | none =>
      match T.fn f with
      | some lf => if args.length ≤ lf.ntmps then xFinish T (callY P T L k) L lf.res (execC (callY P T L k) T.ent L lf.body { tm := argTm 0 args, hp, nx := n }) else none
      | none => none
  | k + 1, .inr i, args, hp, n =>
    match hp.get? i with
    | some (.loop r) =>
      if r.ps.toList.length = args.length ∧ r.ps.toList.all (fun p => decide (p < r.N)) = true then
        match resolveC P r.N true 64 r.assign, resolveC P r.N true 64 r.body with
        | some la, some lb => xRoundBody (callY P T L k) T L i lb (execC (callY P T L k) T.ent L la { tm := paramTm r.ps.toList args r.tm, hp, nx := n })
        | _, _ => none
      else none
    | _ => none

section
variable {P : Program} {T : Tab} {call : XCall} {L : Nat}

theorem xDef_sound (hT : TabOK P T) (hc : CallOK P call T.ent) {f : Nat} {args : List AV} {u : AMode} {hp hp' : AHeap} {n n' : Nat} (h : xDef T call L f args u hp n = some (hp', n')) :
    ADCalls P f args u hp n fun m h k => m = .returning ∧ h = hp' ∧ k = n' := by
  unfold xDef at h
  split at h
  · rename_i ld hd
    split at h
    · rename_i hlen
      refine dcalls_of_body (hT.dfn f ld hd) hlen ?_
      split at h
      · rename_i st he
        refine execC_sound hc _ _ _ _ he _ ?_
        split at h
        · rename_i hdf
          simp only [Option.some.injEq, Prod.mk.injEq] at h
          exact ⟨hdf, st.hp, List.Sublist.refl _, rfl, h.1, h.2⟩
        · cases h
      · rename_i st he
        refine execC_sound hc _ _ _ _ he _ ?_
        split at h
        · rename_i hdf
          simp only [Option.some.injEq, Prod.mk.injEq] at h
          exact ⟨hdf, st.hp, List.Sublist.refl _, rfl, h.1, h.2⟩
        · cases h
      · cases h
    · cases h
  · cases h

theorem xLeave_sound (hT : TabOK P T) (hc : CallOK P call T.ent) {res : List LRes} {tm : LTm} {r : AEnd × AHeap × Nat} : ∀ (ds : List ADef) (u : AMode) (hp : AHeap) (n : Nat), xLeave T call L res tm ds u hp n = some r → leaveQ P res (Is r) tm ds u hp n
  | [], .returning, hp, n, h => by
    simp only [xLeave] at h
    split at h
    · rename_i v hv
      simp only [Option.some.injEq] at h
      exact ⟨v, hv, hp, List.Sublist.refl _, h.symm⟩
    · cases h
  | [], .panicking v, hp, n, h => by
    simp only [xLeave, Option.some.injEq] at h
    exact ⟨hp, List.Sublist.refl _, h.symm⟩
  | .mark d :: ds, u, hp, n, h => by
    simp only [xLeave] at h
    simp only [leaveQ]
    split at h
    · rename_i hg; rw [hg]; exact xLeave_sound hT hc ds u _ n h
    · cases h
  | .fn f args :: ds, u, hp, n, h => by
    simp only [xLeave] at h
    simp only [leaveQ]
    split at h
    · rename_i hp' n' hd
      refine (xDef_sound hT hc hd).mono ?_
      rintro m h' k ⟨rfl, rfl, rfl⟩
      exact xLeave_sound hT hc ds _ _ _ h
    · cases h

theorem xRoundEnd_sound {i : Nat} {jump : Option Code} {st : St} {r : AEnd × AHeap × Nat} (h : xRoundEnd i jump st = some r) :
    st.df = [] ∧ ∃ lr, st.hp.get? i = some (.loop lr) ∧ ∃ h0 : AHeap, h0.Sublist (st.hp.put i (.loop { lr with state := if jump.isNone then .ready else .done, pend := jump })) ∧ Is r (.ret (.bool jump.isNone)) h0 st.nx := by
  unfold xRoundEnd at h
  split at h
  · rename_i lr hdf hg
    simp only [Option.some.injEq] at h
    exact ⟨hdf, lr, hg, _, List.Sublist.refl _, h.symm⟩
  · cases h

theorem callY_sound (hT : TabOK P T) : ∀ k, CallOK P (callY P T L k) T.ent := by
  intro k
  induction k with
  | zero =>
    refine ⟨fun f args hp n r h => by simp [callY] at h, fun i args hp n r h => by simp [callY] at h, fun f h => ?_⟩
    unfold Tab.ent at h
    cases hf : T.fn f with
    | none => rw [hf] at h; cases h
    | some lf => exact resolveFn_enters (hT.fn f lf hf)
  | succ k ih =>
    refine ⟨fun f args hp n r h => ?_, fun i args hp n r h => ?_, ih.ent⟩
    · simp only [callY] at h
      split at h
      · rename_i s hs; exact hT.ext f s hs args hp n r h
      · split at h
        · rename_i lf hf
          split at h
          · rename_i hlen
            refine calls_of_body (hT.fn f lf hf) hlen ?_
            unfold xFinish at h
            split at h
            · rename_i st he; exact execC_sound ih _ _ _ _ he _ (xLeave_sound hT ih _ _ _ _ h)
            · rename_i st he; exact execC_sound ih _ _ _ _ he _ (xLeave_sound hT ih _ _ _ _ h)
            · rename_i v st he; exact execC_sound ih _ _ _ _ he _ (xLeave_sound hT ih _ _ _ _ h)
            · cases h
          · cases h
        · cases h
    · simp only [callY] at h
      split at h
      · rename_i lr hg
        split at h
        · rename_i hps
          split at h
          · rename_i la lb hla hlb
            refine ayield_of hg hps.1 hps.2 hla hlb ?_
            unfold xRoundBody at h
            split at h
            · rename_i st he
              refine execC_sound ih _ _ _ _ he _ ?_
              simp only [roundBodyQ]
              split at h
              · rename_i lr1 hg1
                rw [hg1]
                split at h
                · rename_i hready
                  refine ⟨hready, ?_⟩
                  unfold xRound at h
                  split at h
                  · rename_i st2 he2; exact execC_sound ih _ _ _ _ he2 _ (xRoundEnd_sound h)
                  · rename_i st2 he2; exact execC_sound ih _ _ _ _ he2 _ (xRoundEnd_sound h)
                  · rename_i id st2 he2; exact execC_sound ih _ _ _ _ he2 _ (xRoundEnd_sound h)
                  · rename_i t st2 he2; exact execC_sound ih _ _ _ _ he2 _ (xRoundEnd_sound h)
                  · cases h
                · cases h
              · cases h
            · cases h
          · cases h
        · cases h
      · cases h

/- A RUN IS A CALL -/
theorem calls_of_run (hT : TabOK P T) (k : Nat) {f : Nat} {args : List AV} {hp : AHeap} {n : Nat} {r : AEnd × AHeap × Nat} (h : callY P T L k (.inl f) args hp n = some r) : ACalls P f args hp n (Is r) :=
  (callY_sound hT k).fn f args hp n r h
end
end Go.Ax
