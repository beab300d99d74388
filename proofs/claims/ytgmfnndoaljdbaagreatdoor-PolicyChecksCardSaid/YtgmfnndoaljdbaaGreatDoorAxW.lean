/- Resolved code, run: a function that the kernel evaluates, and why it is right. -/
import Derived.Test.YtgmfnndoaljdbaaGreatDoorAxV
set_option linter.all false
namespace Go.Ax
open Go
set_option maxRecDepth 20000

mutual
def AV.same : AV → AV → Bool
  | .bool a, .bool b => a == b
  | .int k a, .int l b => decide (k = l) && decide (a = b)
  | .str s, .str t => decide (s = t)
  | .ptr i o, .ptr j p => decide (i = j) && decide (o = p)
  | .gptr i o, .gptr j p => decide (i = j) && decide (o = p)
  | .nilptr, .nilptr => true
  | .slice i o m c, .slice j p l d => decide (i = j) && decide (o = p) && decide (m = l) && decide (c = d)
  | .nilslice, .nilslice => true
  | .map i, .map j => decide (i = j)
  | .nilmap, .nilmap => true
  | .func (.func f) a b, .func (.func g) c d => decide (f = g) && sameL a c && sameL b d
  | .yieldf i, .yieldf j => decide (i = j)
  | .nilfunc, .nilfunc => true
  | .iface t v, .iface u w => decide (t = u) && v.same w
  | .niliface, .niliface => true
  | .agg l, .agg m => sameL l m
  | .tuple l, .tuple m => sameL l m
  | _, _ => false
def sameL : List AV → List AV → Bool
  | [], [] => true
  | v :: l, w :: m => v.same w && sameL l m
  | _, _ => false
end
mutual
theorem AV.same_eq : ∀ (v w : AV), v.same w = true → v = w := by
  intro v w h
  unfold AV.same at h
  split at h <;> (try simp only [Bool.and_eq_true, decide_eq_true_eq, beq_iff_eq] at h)
  · rw [h]
  · rw [h.1, h.2]
  · rw [h]
  · rw [h.1, h.2]
  · rw [h.1, h.2]
  · rfl
  · rw [h.1.1.1, h.1.1.2, h.1.2, h.2]
  · rfl
  · rw [h]
  · rfl
  · rw [h.1.1, sameL_eq _ _ h.1.2, sameL_eq _ _ h.2]
  · rw [h]
  · rfl
  · rw [h.1, AV.same_eq _ _ h.2]
  · rfl
  · rw [sameL_eq _ _ h]
  · rw [sameL_eq _ _ h]
  · cases h
theorem sameL_eq : ∀ (l m : List AV), sameL l m = true → l = m := by
  intro l m h
  unfold sameL at h
  split at h
  · rfl
  · simp only [Bool.and_eq_true] at h; rw [AV.same_eq _ _ h.1, sameL_eq _ _ h.2]
  · cases h
end

def factsOKb (hp : AHeap) : List AFact → Bool
  | [] => true
  | (_, i, off, cs) :: l =>
    (match hp.cells? i off cs.length with
    | some cs' => sameL cs' cs
    | none => false) && factsOKb hp l
theorem factsOKb_ok {hp : AHeap} : ∀ {l : List AFact}, factsOKb hp l = true → factsOK hp l
  | [], _ => trivial
  | (k, i, off, cs) :: l, h => by
    simp only [factsOKb, Bool.and_eq_true] at h
    refine ⟨?_, factsOKb_ok h.2⟩
    have h1 := h.1
    split at h1
    · rename_i cs' hc; rw [hc, sameL_eq _ _ h1]
    · cases h1

/- a call of a function, or of a loop's yield -/
abbrev XCall := Nat ⊕ Nat → List AV → AHeap → Nat → Option (AEnd × AHeap × Nat)
inductive XR where
  | next (s : St)
  | panic (v : AV) (hp : AHeap) (nx : Nat)
def xEnd (st : St) (d : Option Nat) : Option (AEnd × AHeap × Nat) → Option XR
  | some (.ret v, hp, nx) => some (.next (st.put d v hp nx))
  | some (.panic v, hp, nx) => some (.panic v hp nx)
  | none => none
def xPut (st : St) (d : Option Nat) : Option (AV × AHeap × Nat) → Option XR
  | some (v, hp, nx) => some (.next (st.put d v hp nx))
  | none => none
def xAct (call : XCall) (d : Option Nat) (st : St) : LAct → Option XR
  | .op lo => xPut st d (lo.eval st.tm st.hp st.nx)
  | .xop xo => xPut st d (xo.eval st.tm st.hp st.nx)
  | .call f args =>
    match LOpd.vals st.tm args with
    | some vs => xEnd st d (call (.inl f) vs st.hp st.nx)
    | none => none
  | .callv x args =>
    match x.val st.tm, LOpd.vals st.tm args with
    | some (.func (.func f) first caps), some vs => xEnd st d (call (.inl f) (first ++ vs ++ caps) st.hp st.nx)
    | some (.yieldf i), some vs => xEnd st d (call (.inr i) vs st.hp st.nx)
    | _, _ => none
  | .panic x =>
    match x.val st.tm with
    | some (.iface t v) => some (.panic (.iface t v) st.hp st.nx)
    | _ => none
  | .stuck => none
def xStep (call : XCall) (o : LOper) (st : St) : Option XR :=
  match o.wanted st.tm with
  | none => none
  | some false => some (.next (st.put o.dst (.tuple []) st.hp st.nx))
  | some true => xAct call o.dst st o.act
def xOps (call : XCall) : List LOper → St → Option (AExit × St)
  | [], st => some (.normal, st)
  | o :: os, st =>
    match xStep call o st with
    | some (.next st') => xOps call os st'
    | some (.panic v hp nx) => some (.panic v, { st with hp, nx })
    | none => none
def xLoad (o : LOper) (st : St) : Option (Option (Nat × Nat × AV)) :=
  match o.wanted st.tm with
  | none => none
  | some false => some none
  | some true =>
    match o.act with
    | .op lo =>
      match lo.reads st.tm st.hp with
      | some r => some (some r)
      | none => none
    | _ => none
def xOpsD (call : XCall) (tm0 : LTm) : LD → List AFact → St → Option (AExit × St)
  | .done, _, st => some (.normal, st)
  | .free o rest, fs, st =>
    match xStep call o st with
    | some (.next st') => xOpsD call tm0 rest fs st'
    | _ => none
  | .load i o rest, fs, st =>
    match xLoad o st with
    | some none => xOpsD call tm0 rest fs (st.put o.dst (.tuple []) st.hp st.nx)
    | some (some (j, off, v)) => xOpsD call tm0 rest ((i, j, off, v.cells) :: fs) (st.put o.dst v st.hp st.nx)
    | none => none
  | .eff ws o rest, fs, st =>
    match xStep call o st with
    | some (.next st') => if factsOKb st'.hp (dropW ws fs) then xOpsD call tm0 rest (dropW ws fs) st' else none
    | some (.panic v hp nx) => some (.panic v, { tm := tm0, hp, nx, df := st.df })
    | none => none
  | .two _ _, _, _ => none
def xIter (body : St → Option (AExit × St)) : Nat → St → Option (AExit × St)
  | 0, _ => none
  | k + 1, st =>
    match body st with
    | some (.normal, st') => xIter body k st'
    | r => r
def xLoopEnd (st : St) (l : Nat) (df : List ADef) : Option (AEnd × AHeap × Nat) → Option (AExit × St)
  | some (.panic v, hp, nx) => some (.panic v, { st with hp, nx, df })
  | some (.ret _, hp, nx) =>
    match hp.get? l with
    | some (.loop { state := .busy, .. }) => none
    | some (.loop r) =>
      match r.pend with
      | none => some (.normal, { st with hp := hp.put l (.loop { r with state := .exhausted }), nx, df })
      | some .ret => some (.ret, { st with hp := hp.put l (.loop { r with state := .exhausted }), nx, df })
      | some (.exit id) => some (.exit id, { st with hp := hp.put l (.loop { r with state := .exhausted }), nx, df })
      | some (.goto t) => some (.goto t, { st with hp := hp.put l (.loop { r with state := .exhausted }), nx, df })
      | _ => none
    | _ => none
  | none => none
/- ent: functions that may be entered; L: how many rounds a loop may take -/
def execC (call : XCall) (ent : Nat → Bool) (L : Nat) : LCode → St → Option (AExit × St)
  | .skip, st => some (.normal, st)
  | .region ops, st => xOps call ops st
  | .regionD ds t, st => xOpsD call (st.tm.filter fun p => !ds.contains p.1) t [] st
  | .seq a b, st =>
    match execC call ent L a st with
    | some (.normal, st') => execC call ent L b st'
    | r => r
  | .cond c a b, st =>
    match c.val st.tm with
    | some (.bool true) => execC call ent L a st
    | some (.bool false) => execC call ent L b st
    | _ => none
  | .block id b, st =>
    match execC call ent L b st with
    | some (.exit id', st') => if id' = id then some (.normal, st') else some (.exit id', st')
    | r => r
  | .loop b, st => xIter (execC call ent L b) L st
  | .exit id, st => some (.exit id, st)
  | .label _, st => some (.normal, st)
  | .goto l, st => some (.goto l, st)
  | .ret, st => some (.ret, st)
  | .refuse, _ => none
  | .scope b l rest, st =>
    match execC call ent L b st with
    | some (.goto l', st') =>
      if l' = l then
        match execC call ent L rest st' with
        | some (.goto _, _) => none
        | r => r
      else none
    | r => r
  | .defer f args, st =>
    match LOpd.vals st.tm args with
    | some vs => some (.normal, { st with df := .fn f vs :: st.df })
    | none => none
  | .rangeFunc g N ps assign body _ _, st =>
    match g.val st.tm with
    | some (.func (.func f) first caps) =>
      if ent f then
        xLoopEnd st (st.nx + 1) (.mark st.nx :: st.df) (call (.inl f) (first ++ [.yieldf (st.nx + 1)] ++ caps)
          ((st.nx + 1, .loop { state := .ready, pend := none, tm := st.tm, N, ps, assign, body, dblk := st.nx }) :: (st.nx, .raw (.deferred (some []))) :: st.hp) (st.nx + 2))
      else none
    | _ => none

/- just this end -/
def Is (r : AEnd × AHeap × Nat) : AEnd → AHeap → Nat → Prop := fun e h k => r = (e, h, k)
structure CallOK (P : Program) (call : XCall) (ent : Nat → Bool) : Prop where
  fn : ∀ f args hp n r, call (.inl f) args hp n = some r → ACalls P f args hp n (Is r)
  yld : ∀ i args hp n r, call (.inr i) args hp n = some r → AYield P i args hp n (Is r)
  ent : ∀ f, ent f = true → Enters P f

section
variable {P : Program} {call : XCall} {ent : Nat → Bool} {L : Nat}

def XRQ (pan : AV → AHeap → Nat → Prop) (next : St → Prop) : XR → Prop
  | .next s => next s
  | .panic v hp nx => pan v hp nx
theorem xEnd_calls {st : St} {d : Option Nat} {r : AEnd × AHeap × Nat} {x : XR} {pan : AV → AHeap → Nat → Prop} {next : St → Prop} (hx : xEnd st d (some r) = some x) (hq : XRQ pan next x) :
    ∀ e h k, Is r e h k → (match e with | .ret v => next (st.put d v h k) | .panic v => pan v h k) := by
  rintro e h k rfl
  cases e <;> simp only [xEnd, Option.some.injEq] at hx <;> subst hx <;> exact hq
theorem xStep_sound (hc : CallOK P call ent) {o : LOper} {st : St} {x : XR} {pan : AV → AHeap → Nat → Prop} {next : St → Prop} (hx : xStep call o st = some x) (hq : XRQ pan next x) : LStep P pan next o st := by
  unfold xStep at hx
  unfold LStep
  split at hx
  · cases hx
  · rename_i hw
    rw [hw]
    simp only [Option.some.injEq] at hx; subst hx; exact hq
  · rename_i hw
    rw [hw]
    simp only
    cases ha : o.act with
    | op lo =>
      rw [ha] at hx
      simp only [xAct] at hx
      cases he : lo.eval st.tm st.hp st.nx with
      | none => rw [he] at hx; cases hx
      | some r => obtain ⟨v, hp, nx⟩ := r; rw [he] at hx; simp only [xPut, Option.some.injEq] at hx; subst hx; simp only [he]; exact hq
    | xop xo =>
      rw [ha] at hx
      simp only [xAct] at hx
      cases he : xo.eval st.tm st.hp st.nx with
      | none => rw [he] at hx; cases hx
      | some r => obtain ⟨v, hp, nx⟩ := r; rw [he] at hx; simp only [xPut, Option.some.injEq] at hx; subst hx; simp only [he]; exact hq
    | call f args =>
      rw [ha] at hx
      simp only [xAct] at hx
      split at hx
      · rename_i vs hvs
        simp only [hvs]
        cases he : call (.inl f) vs st.hp st.nx with
        | none => rw [he] at hx; cases hx
        | some r => rw [he] at hx; exact (hc.fn _ _ _ _ _ he).mono (xEnd_calls hx hq)
      · cases hx
    | callv y args =>
      rw [ha] at hx
      simp only [xAct] at hx
      split at hx
      · rename_i f first caps vs h1 h2
        simp only [h1, h2]
        cases he : call (.inl f) (first ++ vs ++ caps) st.hp st.nx with
        | none => rw [he] at hx; cases hx
        | some r => rw [he] at hx; exact (hc.fn _ _ _ _ _ he).mono (xEnd_calls hx hq)
      · rename_i i vs h1 h2
        simp only [h1, h2]
        cases he : call (.inr i) vs st.hp st.nx with
        | none => rw [he] at hx; cases hx
        | some r => rw [he] at hx; exact (hc.yld _ _ _ _ _ he).mono (xEnd_calls hx hq)
      · cases hx
    | panic y =>
      rw [ha] at hx
      simp only [xAct] at hx
      split at hx
      · rename_i t v h1
        simp only [h1]
        simp only [Option.some.injEq] at hx; subst hx; exact hq
      · cases hx
    | stuck => rw [ha] at hx; cases hx

theorem xOps_sound (hc : CallOK P call ent) {Q : AExit → St → Prop} : ∀ (l : List LOper) (st : St) (e : AExit) (st' : St), xOps call l st = some (e, st') → Q e st' → LOps P Q l st
  | [], st, e, st', h, hq => by
    simp only [xOps, Option.some.injEq, Prod.mk.injEq] at h
    obtain ⟨rfl, rfl⟩ := h; exact hq
  | o :: os, st, e, st', h, hq => by
    simp only [xOps] at h
    simp only [LOps]
    split at h
    · rename_i s hs; exact xStep_sound hc hs (xOps_sound hc os s e st' h hq)
    · rename_i v hp nx hs
      simp only [Option.some.injEq, Prod.mk.injEq] at h
      obtain ⟨rfl, rfl⟩ := h
      exact xStep_sound hc hs hq
    · cases h

theorem xOpsD_sound (hc : CallOK P call ent) {Q : AExit → St → Prop} {tm0 : LTm} : ∀ (t : LD) (fs : List AFact) (st : St) (e : AExit) (st' : St), xOpsD call tm0 t fs st = some (e, st') → Q e st' → LOpsD P Q tm0 t fs st
  | .done, fs, st, e, st', h, hq => by
    simp only [xOpsD, Option.some.injEq, Prod.mk.injEq] at h
    obtain ⟨rfl, rfl⟩ := h; exact hq
  | .free o rest, fs, st, e, st', h, hq => by
    simp only [xOpsD] at h
    simp only [LOpsD]
    split at h
    · rename_i s hs; exact xStep_sound hc hs (xOpsD_sound hc rest fs s e st' h hq)
    · cases h
  | .load i o rest, fs, st, e, st', h, hq => by
    simp only [xOpsD] at h
    simp only [LOpsD]
    unfold xLoad at h
    split at h
    · rename_i hx
      split at hx
      · cases hx
      · rename_i hw; rw [hw]; exact xOpsD_sound hc rest fs _ e st' h hq
      · split at hx
        · split at hx <;> cases hx
        · cases hx
    · rename_i j off v hx
      split at hx
      · cases hx
      · cases hx
      · rename_i hw
        rw [hw]
        split at hx
        · rename_i lo ha
          rw [ha]
          split at hx
          · rename_i r hr
            simp only [Option.some.injEq] at hx; subst hx
            simp only [hr]
            exact xOpsD_sound hc rest _ _ e st' h hq
          · cases hx
        · cases hx
    · cases h
  | .eff ws o rest, fs, st, e, st', h, hq => by
    simp only [xOpsD] at h
    simp only [LOpsD]
    split at h
    · rename_i s hs
      split at h
      · rename_i hf; exact xStep_sound hc hs ⟨factsOKb_ok hf, xOpsD_sound hc rest _ s e st' h hq⟩
      · cases h
    · rename_i v hp nx hs
      simp only [Option.some.injEq, Prod.mk.injEq] at h
      obtain ⟨rfl, rfl⟩ := h
      exact xStep_sound hc hs hq
    · cases h
  | .two a b, fs, st, e, st', h, _ => by simp [xOpsD] at h

theorem xIter_sound {b : LCode} {body : St → Option (AExit × St)} (hb : ∀ st e st', body st = some (e, st') → ∀ Q : AExit → St → Prop, Q e st' → LWp P b Q st) {Q : AExit → St → Prop} {e : AExit} {st' : St} (hq : Q e st')
    {L : Nat} {st : St} (h : xIter body L st = some (e, st')) : LWp P (.loop b) Q st := by
  refine ⟨fun s => ∃ k, xIter body k s = some (e, st'), fun s => leastOf fun k => xIter body k s = some (e, st'), ⟨st, .refl _, L, h⟩, ?_⟩
  intro s hs
  obtain ⟨hk, _⟩ := leastOf_spec hs
  obtain ⟨m, hm⟩ : ∃ m, m = leastOf fun k => xIter body k s = some (e, st') := ⟨_, rfl⟩
  rw [← hm] at hk
  cases m with
  | zero => simp [xIter] at hk
  | succ k =>
    simp only [xIter] at hk
    split at hk
    · rename_i s1 h1
      refine hb s _ s1 h1 _ ?_
      refine ⟨s1, .refl _, ⟨k, hk⟩, ?_⟩
      have := (leastOf_spec (p := fun k => xIter body k s1 = some (e, st')) ⟨k, hk⟩).2 k hk
      show leastOf _ < leastOf _
      rw [← hm]; omega
    · rename_i r hr
      refine hb s e st' hk _ ?_
      cases e with
      | normal => exact absurd hk (hr st')
      | _ => exact hq
end
end Go.Ax
