/- Loops; calls; how contracts are proved and used. -/
import Derived.Test.YtgmfnndoaljdbaaGreatDoorAxFr
set_option linter.all false
namespace Go.Ax
open Go
set_option maxRecDepth 20000

section
variable {P : Program}

theorem LStep.mono {pan pan' : AV → AHeap → Nat → Prop} {next next' : St → Prop} (hp : ∀ v h n, pan v h n → pan' v h n) (hn : ∀ s, next s → next' s) {o : LOper} {st : St} (h : LStep P pan next o st) : LStep P pan' next' o st := by
  unfold LStep at h ⊢
  split at h
  · exact h.elim
  · exact hn _ h
  · have hcall : ∀ (e : AEnd) (hp' : AHeap) (nx' : Nat), (match e with | .ret v => next (st.put o.dst v hp' nx') | .panic v => pan v hp' nx') → (match e with | .ret v => next' (st.put o.dst v hp' nx') | .panic v => pan' v hp' nx') := by
      intro e hp' nx' he
      cases e with
      | ret v => exact hn _ he
      | panic v => exact hp _ _ _ he
    cases ha : o.act with
    | op lo =>
      rw [ha] at h
      simp only at h ⊢
      cases he : lo.eval st.tm st.hp st.nx with
      | none => simp only [he] at h
      | some r => simp only [he] at h ⊢; exact hn _ h
    | xop xo =>
      rw [ha] at h
      simp only at h ⊢
      cases he : xo.eval st.tm st.hp st.nx with
      | none => simp only [he] at h
      | some r => simp only [he] at h ⊢; exact hn _ h
    | call f args =>
      rw [ha] at h
      simp only at h ⊢
      split at h
      · rename_i vs hvs; exact h.mono hcall
      · exact h.elim
    | callv x args =>
      rw [ha] at h
      simp only at h ⊢
      split at h
      · rename_i f first caps vs h1 h2; exact h.mono hcall
      · rename_i i vs h1 h2; exact h.mono hcall
      · exact h.elim
    | panic x =>
      rw [ha] at h
      simp only at h ⊢
      split at h
      · rename_i t v h1; exact hp _ _ _ h
      · exact h.elim
    | stuck => rw [ha] at h; exact h.elim

theorem LOps.mono {Q Q' : AExit → St → Prop} (hq : ∀ e s, Q e s → Q' e s) : ∀ {l : List LOper} {st : St}, LOps P Q l st → LOps P Q' l st
  | [], _, h => hq _ _ h
  | _ :: _, _, h => LStep.mono (fun _ _ _ => hq _ _) (fun _ => LOps.mono hq) h
theorem LOpsD.mono {Q Q' : AExit → St → Prop} (hq : ∀ e s, Q e s → Q' e s) {tm0 : LTm} : ∀ {t : LD} {fs : List AFact} {st : St}, LOpsD P Q tm0 t fs st → LOpsD P Q' tm0 t fs st
  | .done, _, _, h => hq _ _ h
  | .free o rest, fs, st, h => LStep.mono (fun _ _ _ => id) (fun _ => LOpsD.mono hq) h
  | .load i o rest, fs, st, h => by
    simp only [LOpsD] at h ⊢
    split at h
    · exact h
    · exact LOpsD.mono hq h
    · split at h
      · split at h
        · exact LOpsD.mono hq h
        · exact h.elim
      · exact h.elim
  | .eff ws o rest, fs, st, h => LStep.mono (fun _ _ _ => hq _ _) (fun _ h => ⟨h.1, LOpsD.mono hq h.2⟩) h
  | .two a b, fs, st, h => ⟨LOpsD.mono hq h.1, LOpsD.mono hq h.2⟩

theorem thenQ_mono {Q Q' : AExit → St → Prop} {next next' : St → Prop} (hq : ∀ e s, Q e s → Q' e s) (hn : ∀ s, next s → next' s) : ∀ e s, thenQ next Q e s → thenQ next' Q' e s := by
  intro e s h
  cases e <;> first | exact hn _ h | exact hq _ _ h
theorem LWp.mono {c : LCode} : ∀ {Q Q' : AExit → St → Prop} {st : St}, (∀ e s, Q e s → Q' e s) → LWp P c Q st → LWp P c Q' st := by
  induction c with
  | skip => intro Q Q' st hq h; exact hq _ _ h
  | exit id => intro Q Q' st hq h; exact hq _ _ h
  | label l => intro Q Q' st hq h; exact hq _ _ h
  | goto l => intro Q Q' st hq h; exact hq _ _ h
  | ret => intro Q Q' st hq h; exact hq _ _ h
  | refuse => intro Q Q' st hq h; exact h
  | region ops => intro Q Q' st hq h; exact LOps.mono hq h
  | regionD ds t => intro Q Q' st hq h; exact LOpsD.mono hq h
  | seq a b iha ihb => intro Q Q' st hq h; exact iha (thenQ_mono hq fun s => ihb hq) h
  | cond x a b iha ihb =>
    intro Q Q' st hq h
    simp only [LWp] at h ⊢
    split at h
    · exact ⟨fun ht => iha hq (h.1 ht), fun ht => ihb hq (h.2 ht)⟩
    · exact h.elim
  | block id b ihb =>
    intro Q Q' st hq h
    refine ihb (fun e s hs => ?_) h
    cases e <;> first | exact hq _ _ hs | skip
    simp only [blockQ] at hs ⊢
    split at hs
    · rename_i he; simp only [if_pos he]; exact hq _ _ hs
    · rename_i he; simp only [if_neg he]; exact hq _ _ hs
  | loop b ihb =>
    intro Q Q' st hq ⟨I, μ, h0, hs⟩
    exact ⟨I, μ, h0, fun s hi => ihb (thenQ_mono hq fun s h => h) (hs s hi)⟩
  | scope b l rest ihb ihr =>
    intro Q Q' st hq h
    refine ihb (fun e s hs => ?_) h
    cases e <;> first | exact hq _ _ hs | skip
    refine ⟨hs.1, ihr (fun e s h => ?_) hs.2⟩
    cases e <;> first | exact hq _ _ h | exact h
  | defer f args =>
    intro Q Q' st hq h
    simp only [LWp] at h ⊢
    split at h
    · exact hq _ _ h
    · exact h.elim
  | rangeFunc g N ps assign body la lb _ _ =>
    intro Q Q' st hq h
    simp only [LWp] at h ⊢
    split at h
    · refine ⟨h.1, h.2.mono fun e h k he => ?_⟩
      unfold loopEndQ at he ⊢
      split at he
      · exact hq _ _ he
      · split at he
        · refine ⟨he.1, ?_⟩
          have h2 := he.2
          split at h2
          · exact hq _ _ h2
          · exact hq _ _ h2
          · exact hq _ _ h2
          · exact hq _ _ h2
          · exact h2.elim
        · exact he.elim
    · exact h.elim

/- A LOOP: a state for each of what is carried along -/
theorem loop_inv {b : LCode} {Q : AExit → St → Prop} {st : St} {α : Type} (F : α → St) (I : α → Prop) (μ : α → Nat) (a0 : α) (h0 : (F a0).Le st) (hI : I a0)
    (hstep : ∀ a, I a → LWp P b (thenQ (fun s' => ∃ a', I a' ∧ (F a').Le s' ∧ μ a' < μ a) Q) (F a)) : LWp P (.loop b) Q st := by
  refine ⟨fun s => ∃ d, ∃ a, I a ∧ s = F a ∧ d = μ a, fun s => leastOf fun d => ∃ a, I a ∧ s = F a ∧ d = μ a, ⟨F a0, h0, μ a0, a0, hI, rfl, rfl⟩, ?_⟩
  intro s hs
  obtain ⟨⟨a, ha, hsa, hd⟩, _⟩ := leastOf_spec hs
  have := hstep a ha
  rw [← hsa] at this
  refine LWp.mono (thenQ_mono (fun _ _ h => h) ?_) this
  rintro s' ⟨a', ha', hle, hlt⟩
  refine ⟨F a', hle, ⟨μ a', a', ha', rfl, rfl⟩, ?_⟩
  have := (leastOf_spec (p := fun d => ∃ a, I a ∧ F a' = F a ∧ d = μ a) ⟨μ a', a', ha', rfl, rfl⟩).2 (μ a') ⟨a', ha', rfl, rfl⟩
  show leastOf _ < leastOf _
  rw [hd]
  exact Nat.lt_of_le_of_lt this hlt

/- so many rounds -/
def IterU (P : Program) (b : LCode) (Q : AExit → St → Prop) : Nat → St → Prop
  | 0, _ => False
  | k + 1, s => LWp P b (thenQ (IterU P b Q k) Q) s
theorem iterU_succ {b : LCode} {Q : AExit → St → Prop} {k : Nat} {s : St} : IterU P b Q (k + 1) s = LWp P b (thenQ (IterU P b Q k) Q) s := rfl
theorem loop_unroll {b : LCode} {Q : AExit → St → Prop} {st : St} (k : Nat) (h : IterU P b Q k st) : LWp P (.loop b) Q st := by
  refine ⟨fun s => ∃ k, IterU P b Q k s, fun s => leastOf fun k => IterU P b Q k s, ⟨st, .refl _, k, h⟩, ?_⟩
  intro s hs
  obtain ⟨hk, _⟩ := leastOf_spec hs
  obtain ⟨m, hm⟩ : ∃ m, m = leastOf fun k => IterU P b Q k s := ⟨_, rfl⟩
  rw [← hm] at hk
  cases m with
  | zero => exact hk.elim
  | succ k =>
    refine LWp.mono (thenQ_mono (fun _ _ h => h) ?_) hk
    intro s1 h1
    refine ⟨s1, .refl _, ⟨k, h1⟩, ?_⟩
    have := (leastOf_spec (p := fun k => IterU P b Q k s1) ⟨k, h1⟩).2 k h1
    show leastOf _ < leastOf _
    rw [← hm]; omega

theorem calls_of_body' {f : FuncId} {lf : LFn} (hf : resolveFn P f = some lf) {args : List AV} {hp : AHeap} {n : Nat} {R : AEnd → AHeap → Nat → Prop} (hargs : args.length ≤ lf.ntmps)
    (h : hp.lt n = true → ltL n args = true → LWp P lf.body (FnQ P lf.res R) { tm := argTm 0 args, hp, nx := n }) : ACalls P f args hp n R := fun hl hal => calls_of_body hf hargs (h hl hal) hl hal

/- what is no more known needs no name -/
theorem ACalls.lower {f : FuncId} {args : List AV} {hp hp1 : AHeap} {n : Nat} {e : AEnd} (he : hp.lt n = true → ltL n args = true → e.lt n = true ∧ hp1.lt n = true)
    (h : ACalls P f args hp n fun e' h _ => e' = e ∧ h = hp1) : ACalls P f args hp n (Is (e, hp1, n)) := by
  intro hl hal ι w hr
  have key : ∀ e' w', CPost (fun e' h _ => e' = e ∧ h = hp1) ι hp n w e' w' → CPost (Is (e, hp1, n)) ι hp n w e' w' := by
    rintro e' w' ⟨ae, hp', n', ι', rfl, ⟨rfl, rfl⟩, hr', hl', hae, hst⟩
    exact ⟨ae, hp', n, ι', rfl, rfl, hr', (he hl hal).2, (he hl hal).1, ⟨Nat.le_refl _, hst.agree, hst.kept, hst.owns⟩⟩
  exact (h hl hal ι w hr).imp (fun ⟨a, b⟩ => ⟨a, b.mono fun _ _ => key _ _⟩) (fun ⟨v, w', a, b⟩ => ⟨v, w', a, key _ _ b⟩)
/- a pure function: its value bears no name -/
theorem pure_of_body {f : FuncId} {lf : LFn} (hf : resolveFn P f = some lf) {args : List AV} {hp : AHeap} {n : Nat} {e : AEnd} (hargs : args.length ≤ lf.ntmps) (he : e.lt 0 = true)
    (h : hp.lt n = true → ltL n args = true → LWp P lf.body (FnQ P lf.res fun e' h _ => e' = e ∧ h = hp) { tm := argTm 0 args, hp, nx := n }) : ACalls P f args hp n (Is (e, hp, n)) :=
  ACalls.lower (fun hl _ => ⟨by
    cases e with
    | ret v => exact AV.lt_mono (Nat.zero_le _) v he
    | panic v => exact AV.lt_mono (Nat.zero_le _) v he, hl⟩) (calls_of_body' hf hargs h)

theorem fin_ret {res : List LRes} {R : AEnd → AHeap → Nat → Prop} {tm : LTm} {hp h0 : AHeap} {n : Nat} {v : AV} (hv : resVal { tm, hp, nx := n } res = some v) (hs : h0.Sublist hp) (hR : R (.ret v) h0 n) :
    FnQ P res R .ret { tm, hp, nx := n, df := [] } := ⟨v, hv, h0, hs, hR⟩

/- what goes on waits until what it waits for is known -/
def retK (pan : AV → AHeap → Nat → Prop) (next : St → Prop) (st : St) (d : Option Nat) : AEnd → AHeap → Nat → Prop := fun e hp' nx' =>
  match e with
  | .ret v => next (st.put d v hp' nx')
  | .panic v => pan v hp' nx'
def opK (next : St → Prop) (d : Option Nat) (st : St) : Option (AV × AHeap × Nat) → Prop
  | some (v, hp', nx') => next (st.put d v hp' nx')
  | none => False
def panK (pan : AV → AHeap → Nat → Prop) (st : St) : Option AV → Prop
  | some (.iface t v) => pan (.iface t v) st.hp st.nx
  | _ => False
def callK (P : Program) (f : FuncId) (st : St) (K : AEnd → AHeap → Nat → Prop) : Option (List AV) → Prop
  | some vs => ACalls P f vs st.hp st.nx K
  | none => False
def callvK (P : Program) (st : St) (K : AEnd → AHeap → Nat → Prop) (x : Option AV) (l : Option (List AV)) : Prop :=
  match x, l with
  | some (.func (.func f) first caps), some vs => ACalls P f (first ++ vs ++ caps) st.hp st.nx K
  | some (.yieldf i), some vs => AYield P i vs st.hp st.nx K
  | _, _ => False
def actW (P : Program) (pan : AV → AHeap → Nat → Prop) (next : St → Prop) (d : Option Nat) (act : LAct) (st : St) : Prop :=
  match act with
  | .op lo => opK next d st (lo.eval st.tm st.hp st.nx)
  | .xop xo => opK next d st (xo.eval st.tm st.hp st.nx)
  | .call f args => callK P f st (retK pan next st d) (LOpd.vals st.tm args)
  | .callv x args => callvK P st (retK pan next st d) (x.val st.tm) (LOpd.vals st.tm args)
  | .panic x => panK pan st (x.val st.tm)
  | .stuck => False
def skipW (next : St → Prop) (d : Option Nat) (st : St) : Prop := next (st.put d (.tuple []) st.hp st.nx)
def grdW (v : Option AV) (b : Bool) (A B : St → Prop) (st : St) : Prop :=
  match v with
  | some (.bool c) => if c == b then A st else B st
  | some _ => B st
  | none => False
def panQ (Q : AExit → St → Prop) (st : St) : AV → AHeap → Nat → Prop := fun v hp nx => Q (.panic v) { st with hp, nx }
def noPan : AV → AHeap → Nat → Prop := fun _ _ _ => False
def loadK (P : Program) (Q : AExit → St → Prop) (tm0 : LTm) (i : Nat) (d : Option Nat) (rest : LD) (fs : List AFact) (st : St) : Option (Nat × Nat × AV) → Prop
  | some (j, off, v) => LOpsD P Q tm0 rest ((i, j, off, v.cells) :: fs) (st.put d v st.hp st.nx)
  | none => False
def loadW (P : Program) (Q : AExit → St → Prop) (tm0 : LTm) (i : Nat) (d : Option Nat) (lo : LOp) (rest : LD) (fs : List AFact) (st : St) : Prop := loadK P Q tm0 i d rest fs st (lo.reads st.tm st.hp)
def effK (P : Program) (Q : AExit → St → Prop) (tm0 : LTm) (rest : LD) (fs : List AFact) : St → Prop := fun st' => factsOK st'.hp fs ∧ LOpsD P Q tm0 rest fs st'
def panD (Q : AExit → St → Prop) (tm0 : LTm) (df : List ADef) : AV → AHeap → Nat → Prop := fun v hp nx => Q (.panic v) { tm := tm0, hp, nx, df }
section
variable {pan : AV → AHeap → Nat → Prop} {next A B : St → Prop} {st : St} {d : Option Nat} {Q : AExit → St → Prop} {tm tm0 : LTm} {hp hp' : AHeap} {nx nx' : Nat} {df : List ADef} {K : AEnd → AHeap → Nat → Prop}
theorem retK_ret {v : AV} : retK pan next st d (.ret v) hp nx = next (st.put d v hp nx) := rfl
theorem retK_panic {v : AV} : retK pan next st d (.panic v) hp nx = pan v hp nx := rfl
theorem opK_some {v : AV} : opK next d st (some (v, hp, nx)) = next (st.put d v hp nx) := rfl
theorem panK_some {t : TypeId} {v : AV} : panK pan st (some (.iface t v)) = pan (.iface t v) st.hp st.nx := rfl
theorem callK_some {f : FuncId} {vs : List AV} : callK P f st K (some vs) = ACalls P f vs st.hp st.nx K := rfl
theorem callvK_func {f : FuncId} {a b vs : List AV} : callvK P st K (some (.func (.func f) a b)) (some vs) = ACalls P f (a ++ vs ++ b) st.hp st.nx K := rfl
theorem callvK_yield {i : Nat} {vs : List AV} : callvK P st K (some (.yieldf i)) (some vs) = AYield P i vs st.hp st.nx K := rfl
theorem actW_op {lo : LOp} : actW P pan next d (.op lo) st = opK next d st (lo.eval st.tm st.hp st.nx) := rfl
theorem actW_xop {xo : XOp} : actW P pan next d (.xop xo) st = opK next d st (xo.eval st.tm st.hp st.nx) := rfl
theorem actW_call {f : FuncId} {args : List LOpd} : actW P pan next d (.call f args) st = callK P f st (retK pan next st d) (LOpd.vals st.tm args) := rfl
theorem actW_callv {x : LOpd} {args : List LOpd} : actW P pan next d (.callv x args) st = callvK P st (retK pan next st d) (x.val st.tm) (LOpd.vals st.tm args) := rfl
theorem actW_panic {x : LOpd} : actW P pan next d (.panic x) st = panK pan st (x.val st.tm) := rfl
theorem skipW_ap : skipW next d st = next (st.put d (.tuple []) st.hp st.nx) := rfl
theorem lstep_none {act : LAct} : LStep P pan next ⟨d, none, act⟩ st = actW P pan next d act st := by
  cases act with
  | op lo => simp only [LStep, LOper.wanted, actW, opK]; cases lo.eval st.tm st.hp st.nx <;> rfl
  | xop lo => simp only [LStep, LOper.wanted, actW, opK]; cases lo.eval st.tm st.hp st.nx <;> rfl
  | call f args => simp only [LStep, LOper.wanted, actW, callK]; cases LOpd.vals st.tm args <;> rfl
  | callv x args =>
    simp only [LStep, LOper.wanted, actW, callvK]
    generalize x.val st.tm = v
    generalize LOpd.vals st.tm args = l
    cases v with
    | none => rfl
    | some v =>
      cases l with
      | none => cases v <;> first | rfl | (rename_i f _ _; cases f <;> rfl)
      | some l => cases v <;> first | rfl | (rename_i f _ _; cases f <;> rfl)
  | panic x =>
    simp only [LStep, LOper.wanted, actW, panK]
    generalize x.val st.tm = v
    cases v with
    | none => rfl
    | some v => cases v <;> rfl
  | stuck => rfl
theorem lstep_grd {t : Nat} {b : Bool} {act : LAct} : LStep P pan next ⟨d, some (t, b), act⟩ st = grdW (st.tm.get? t) b (actW P pan next d act) (skipW next d) st := by
  have h : ∀ w, LOper.wanted ⟨d, some (t, b), act⟩ st.tm = some w → LStep P pan next ⟨d, some (t, b), act⟩ st = if w then LStep P pan next ⟨d, none, act⟩ st else skipW next d st := by
    intro w hw
    unfold LStep
    rw [hw]
    cases w <;> rfl
  unfold grdW
  split
  · rename_i c hc
    rw [h (c == b) (by simp only [LOper.wanted, hc]), lstep_none]
  · rename_i v hv hc
    rw [h false (by
      simp only [LOper.wanted]
      rw [hc]
      cases v <;> first | rfl | exact absurd rfl (hv _))]
    rfl
  · rename_i hc
    simp only [LStep, LOper.wanted, hc]
theorem grd_tt : grdW (some (.bool true)) true A B st = A st := rfl
theorem grd_ff : grdW (some (.bool false)) false A B st = A st := rfl
theorem grd_tf : grdW (some (.bool true)) false A B st = B st := rfl
theorem grd_ft : grdW (some (.bool false)) true A B st = B st := rfl
theorem grd_tuple {l : List AV} {b : Bool} : grdW (some (.tuple l)) b A B st = B st := rfl
theorem ops_nil : LOps P Q [] st = Q .normal st := rfl
theorem ops_cons {o : LOper} {os : List LOper} : LOps P Q (o :: os) st = LStep P (panQ Q st) (LOps P Q os) o st := rfl
theorem panQ_ap {v : AV} : panQ Q ⟨tm, hp, nx, df⟩ v hp' nx' = Q (.panic v) ⟨tm, hp', nx', df⟩ := rfl
theorem opsd_done {fs : List AFact} : LOpsD P Q tm0 .done fs st = Q .normal st := rfl
theorem opsd_free {o : LOper} {rest : LD} {fs : List AFact} : LOpsD P Q tm0 (.free o rest) fs st = LStep P noPan (LOpsD P Q tm0 rest fs) o st := rfl
theorem opsd_load {i : Nat} {lo : LOp} {rest : LD} {fs : List AFact} : LOpsD P Q tm0 (.load i ⟨d, none, .op lo⟩ rest) fs st = loadK P Q tm0 i d rest fs st (lo.reads st.tm st.hp) := by
  simp only [LOpsD, LOper.wanted, loadK]
  cases lo.reads st.tm st.hp <;> rfl
theorem opsd_loadg {i t : Nat} {b : Bool} {lo : LOp} {rest : LD} {fs : List AFact} : LOpsD P Q tm0 (.load i ⟨d, some (t, b), .op lo⟩ rest) fs st = grdW (st.tm.get? t) b (loadW P Q tm0 i d lo rest fs) (skipW (LOpsD P Q tm0 rest fs) d) st := by
  have h : ∀ w, LOper.wanted ⟨d, some (t, b), .op lo⟩ st.tm = some w → LOpsD P Q tm0 (.load i ⟨d, some (t, b), .op lo⟩ rest) fs st = if w then loadW P Q tm0 i d lo rest fs st else skipW (LOpsD P Q tm0 rest fs) d st := by
    intro w hw
    simp only [LOpsD]
    rw [hw]
    cases w with
    | false => rfl
    | true =>
      simp only [loadW, loadK, if_true]
      cases lo.reads st.tm st.hp <;> rfl
  unfold grdW
  split
  · rename_i c hc
    rw [h (c == b) (by simp only [LOper.wanted, hc])]
  · rename_i v hv hc
    rw [h false (by
      simp only [LOper.wanted]
      rw [hc]
      cases v <;> first | rfl | exact absurd rfl (hv _))]
    rfl
  · rename_i hc
    simp only [LOpsD, LOper.wanted, hc]
theorem loadW_ap {i : Nat} {lo : LOp} {rest : LD} {fs : List AFact} : loadW P Q tm0 i d lo rest fs st = loadK P Q tm0 i d rest fs st (lo.reads st.tm st.hp) := rfl
theorem loadK_some {i j off : Nat} {v : AV} {rest : LD} {fs : List AFact} : loadK P Q tm0 i d rest fs st (some (j, off, v)) = LOpsD P Q tm0 rest ((i, j, off, v.cells) :: fs) (st.put d v st.hp st.nx) := rfl
theorem opsd_eff {ws : List Nat} {o : LOper} {rest : LD} {fs : List AFact} : LOpsD P Q tm0 (.eff ws o rest) fs ⟨tm, hp, nx, df⟩ = LStep P (panD Q tm0 df) (effK P Q tm0 rest (dropW ws fs)) o ⟨tm, hp, nx, df⟩ := rfl
theorem effK_ap {rest : LD} {fs : List AFact} : effK P Q tm0 rest fs ⟨tm, hp, nx, df⟩ = (factsOK hp fs ∧ LOpsD P Q tm0 rest fs ⟨tm, hp, nx, df⟩) := rfl
theorem panD_ap {v : AV} : panD Q tm0 df v hp nx = Q (.panic v) ⟨tm0, hp, nx, df⟩ := rfl
theorem opsd_two {a b : LD} {fs : List AFact} : LOpsD P Q tm0 (.two a b) fs st = (LOpsD P Q tm0 a fs st ∧ LOpsD P Q tm0 b fs st) := rfl
end
/- a condition: its branches wait until it is known -/
def CondW (v : Option AV) (A B : St → Prop) (st : St) : Prop :=
  match v with
  | some (.bool t) => (t = true → A st) ∧ (t = false → B st)
  | _ => False
section
variable {A B : St → Prop} {st : St}
theorem condW_true : CondW (some (.bool true)) A B st = A st := by simp [CondW]
theorem condW_false : CondW (some (.bool false)) A B st = B st := by simp [CondW]
theorem condW_bool {t : Bool} : CondW (some (.bool t)) A B st = ((t = true → A st) ∧ (t = false → B st)) := rfl
theorem condW_dec {p : Prop} [Decidable p] : CondW (some (.bool (decide p))) A B st = ((decide p = true → A st) ∧ (decide p = false → B st)) := rfl
theorem condW_beq {α : Type} [BEq α] {x y : α} : CondW (some (.bool (x == y))) A B st = (((x == y) = true → A st) ∧ ((x == y) = false → B st)) := rfl
theorem condW_bne {α : Type} [BEq α] {x y : α} : CondW (some (.bool (x != y))) A B st = (((x != y) = true → A st) ∧ ((x != y) = false → B st)) := rfl
theorem condW_not {b : Bool} : CondW (some (.bool !b)) A B st = (((!b) = true → A st) ∧ ((!b) = false → B st)) := rfl
end
/- the rules of control but for loops -/
section
variable {Q : AExit → St → Prop} {st : St}
theorem lwp_skip : LWp P .skip Q st = Q .normal st := rfl
theorem lwp_region {ops : List LOper} : LWp P (.region ops) Q st = LOps P Q ops st := rfl
theorem lwp_regionD {ds : List Nat} {t : LD} : LWp P (.regionD ds t) Q st = LOpsD P Q (st.tm.filter fun p => !ds.contains p.1) t [] st := rfl
theorem lwp_seq {a b : LCode} : LWp P (.seq a b) Q st = LWp P a (thenQ (LWp P b Q) Q) st := rfl
theorem lwp_cond {c : LOpd} {a b : LCode} : LWp P (.cond c a b) Q st = CondW (c.val st.tm) (LWp P a Q) (LWp P b Q) st := rfl
theorem lwp_block {i : Nat} {b : LCode} : LWp P (.block i b) Q st = LWp P b (blockQ i Q) st := rfl
theorem lwp_exit {i : Nat} : LWp P (.exit i) Q st = Q (.exit i) st := rfl
theorem lwp_label {i : Nat} : LWp P (.label i) Q st = Q .normal st := rfl
theorem lwp_goto {i : Nat} : LWp P (.goto i) Q st = Q (.goto i) st := rfl
theorem lwp_ret : LWp P .ret Q st = Q .ret st := rfl
theorem lwp_scope {b rest : LCode} {l : Nat} : LWp P (.scope b l rest) Q st = LWp P b (scopeQ l (LWp P rest (noGotoQ Q)) Q) st := rfl
theorem lwp_defer {f : FuncId} {args : List LOpd} : LWp P (.defer f args) Q st = match LOpd.vals st.tm args with
    | some vs => Q .normal { st with df := .fn f vs :: st.df }
    | none => False := rfl
end
/- known temporaries -/
def TmIn (tm : LTm) : LTm → Prop
  | [] => True
  | (t, v) :: l => tm.get? t = some v ∧ TmIn tm l
theorem TmIn.mem {tm : LTm} : ∀ {l : LTm}, TmIn tm l → ∀ p ∈ l, tm.get? p.1 = some p.2
  | (t, v) :: l, h, p, hp => by
    rcases List.mem_cons.1 hp with rfl | hp
    · exact h.1
    · exact TmIn.mem h.2 p hp
theorem le_of {tm0 tm : LTm} {hp0 hp : AHeap} {n0 n : Nat} {df : List ADef} (h : TmIn tm tm0) (hs : hp0.Sublist hp) (hn : n ≤ n0) : St.Le { tm := tm0, hp := hp0, nx := n0, df } { tm, hp, nx := n, df } :=
  ⟨.inr h.mem, hs, hn, rfl⟩
theorem get_self {hp : AHeap} {n : Nat} {o : AObj} : AHeap.get? ((n, o) :: hp) n = some o := by simp [AHeap.get?]
theorem get_ne {hp : AHeap} {i j : Nat} {o : AObj} (h : j ≠ i) : AHeap.get? ((j, o) :: hp) i = hp.get? i := by simp [AHeap.get?, h]
/- what one memory shows, another shows too -/
def Sees (hp hp' : AHeap) : Prop := ∀ i off k l, hp.cells? i off k = some l → hp'.cells? i off k = some l
theorem Sees.refl (hp : AHeap) : Sees hp hp := fun _ _ _ _ h => h
theorem cells_get {hp : AHeap} {i off k : Nat} {l : List AV} (h : hp.cells? i off k = some l) : ∃ o, hp.get? i = some o := by
  unfold AHeap.cells? at h
  cases hg : hp.get? i with
  | none => simp [hg] at h
  | some o => exact ⟨o, rfl⟩
theorem cells_lt {hp : AHeap} {n : Nat} (hl : hp.lt n = true) {i off k : Nat} {l : List AV} (h : hp.cells? i off k = some l) : i < n :=
  let ⟨_, ho⟩ := cells_get h; (AHeap.lt_get hl ho).1
theorem cells_cons_ne {hp : AHeap} {i j off k : Nat} {o : AObj} (h : j ≠ i) : AHeap.cells? ((j, o) :: hp) i off k = hp.cells? i off k := by
  unfold AHeap.cells?
  simp only [AHeap.get?, if_neg h]
theorem Sees.cons {hp hp' : AHeap} {n k : Nat} {o : AObj} (hl : hp.lt n = true) (hk : n ≤ k) (h : Sees hp hp') : Sees hp ((k, o) :: hp') := by
  intro i off m l hc
  have := cells_lt hl hc
  rw [cells_cons_ne (by omega)]
  exact h _ _ _ _ hc
theorem cells_sub {hp : AHeap} {i off n : Nat} {l : List AV} (h : hp.cells? i off n = some l) (k m : Nat) (hkm : k + m ≤ n) : hp.cells? i (off + k) m = some ((l.drop k).take m) := by
  unfold AHeap.cells? at h ⊢
  split at h
  · rename_i cs e g fz hg
    split at h
    · rename_i hle
      simp only [Option.some.injEq] at h; subst h
      rw [if_pos (by omega)]
      simp only [Option.some.injEq, List.drop_take, List.drop_drop, List.take_take]
      congr 1; omega
    · cases h
  · rename_i s cs hg
    split at h
    · rename_i hle
      simp only [Option.some.injEq] at h; subst h
      rw [if_pos (by omega)]
      simp only [Option.some.injEq, List.drop_take, List.drop_drop, List.take_take]
      have : off + k - s = off - s + k := by omega
      rw [this]
      congr 1; omega
    · cases h
  · rename_i g' s cs hg
    split at h
    · rename_i hle
      simp only [Option.some.injEq] at h; subst h
      rw [if_pos (by omega)]
      simp only [Option.some.injEq, List.drop_take, List.drop_drop, List.take_take]
      have : off + k - s = off - s + k := by omega
      rw [this]
      congr 1; omega
    · cases h
  · cases h

/- a slice that reads as rows -/
def ARows (hp : AHeap) (s : AV) (es : Nat) (rows : List (List AV)) : Prop :=
  (s = .nilslice ∧ rows = []) ∨ ∃ i off cap, s = .slice i off rows.length cap ∧ ∀ j (h : j < rows.length), rows[j].length = es ∧ hp.cells? i (off + j * es) es = some rows[j]
theorem ARows.mono {hp hp' : AHeap} {s : AV} {es : Nat} {rows : List (List AV)} (h : ARows hp s es rows) (hs : Sees hp hp') : ARows hp' s es rows :=
  h.imp id fun ⟨i, off, cap, a, b⟩ => ⟨i, off, cap, a, fun j hj => ⟨(b j hj).1, hs _ _ _ _ (b j hj).2⟩⟩
end
end Go.Ax
