/- Resolved code; states; what a call is; the rules of control. -/
import Derived.Test.YtgmfnndoaljdbaaGreatDoorAxT
import Derived.OrdersHeld
import Derived.OrdersIn
set_option linter.all false
namespace Go.Ax
open Go
set_option maxRecDepth 20000

inductive LAct where
  | op (lo : LOp)
  | xop (xo : XOp)
  | call (f : FuncId) (args : List LOpd)
  | callv (f : LOpd) (args : List LOpd)
  | panic (x : LOpd)
  | stuck
  deriving Inhabited
structure LOper where
  dst : Option Nat
  grd : Option (Nat × Bool)
  act : LAct
  deriving Inhabited
/- a region whose order is drawn, walked once: what may be done early first; 'two': either may come next -/
inductive LD where
  | done
  | free (o : LOper) (rest : LD)
  | load (i : Nat) (o : LOper) (rest : LD)
  | eff (waits : List Nat) (o : LOper) (rest : LD)
  | two (a b : LD)
  deriving Inhabited
inductive LCode where
  | skip
  | region (ops : List LOper)
  | regionD (dsts : List Nat) (t : LD)
  | seq (a b : LCode)
  | cond (c : LOpd) (thn els : LCode)
  | block (id : Nat) (body : LCode)
  | loop (body : LCode)
  | exit (id : Nat)
  | label (l : Nat)
  | goto (l : Nat)
  | ret
  | refuse
  | scope (body : LCode) (l : Nat) (rest : LCode)
  | defer (f : FuncId) (args : List LOpd)
  | rangeFunc (f : LOpd) (N : Nat) (ps : Array Tmp) (assign body : Code) (la lb : LCode)
  deriving Inhabited

/- a value that a call hands back, or the value that it panics with -/
inductive AEnd where
  | ret (v : AV)
  | panic (v : AV)
  deriving Inhabited
def AEnd.conc (ι : Env) : AEnd → Ending
  | .ret v => .returned (v.conc ι)
  | .panic v => .panicked [{ v := v.conc ι, recovered := false }]
def AEnd.lt (n : Nat) : AEnd → Bool
  | .ret v => v.lt n
  | .panic v => v.lt n

def CPost (R : AEnd → AHeap → Nat → Prop) (ι : Env) (hp : AHeap) (n : Nat) (w : World) : Ending → World → Prop :=
  fun e w' => ∃ ae hp' n' ι', e = ae.conc ι' ∧ R ae hp' n' ∧ HR ι' hp' w' ∧ hp'.lt n' = true ∧ ae.lt n' = true ∧ StepR n ι hp w n' ι' hp' w'

/- the function may be entered -/
def Enters (P : Program) (f : FuncId) : Prop := ∃ fn, P.funcs[f]? = some fn ∧ (fn.name == "runtime.NumGoroutine") = false ∧ fn.body.isNone = false
theorem Enters.run {P : Program} {f : FuncId} (h : Enters P f) (args : Array Value) (w : World) : (callFunc f args).run P w = .ok (.enter f args) w := by
  obtain ⟨fn, h1, h2, h3⟩ := h
  simp only [callFunc, Sem.run_bind, run_program, Result.andThen_ok, h1, h2, h3, Bool.false_eq_true, if_false, Sem.run_pure]

/- A CALL: with these arguments, in such a memory, it comes to one of these ends. -/
def ACalls (P : Program) (f : FuncId) (args : List AV) (hp : AHeap) (n : Nat) (R : AEnd → AHeap → Nat → Prop) : Prop :=
  hp.lt n = true → ltL n args = true → ∀ ι w, HR ι hp w →
    (Enters P f ∧ Calls P f (concL ι args).toArray w (CPost R ι hp n w)) ∨
    (∃ v w', (callFunc f (concL ι args).toArray).run P w = .ok (.value v) w' ∧ CPost R ι hp n w (.returned v) w')

theorem CPost.mono {R R' : AEnd → AHeap → Nat → Prop} {ι : Env} {hp : AHeap} {n : Nat} {w : World} (hR : ∀ e h k, R e h k → R' e h k) {e : Ending} {w' : World} (h : CPost R ι hp n w e w') : CPost R' ι hp n w e w' :=
  let ⟨ae, hp', n', ι', h1, h2, h3⟩ := h; ⟨ae, hp', n', ι', h1, hR _ _ _ h2, h3⟩
theorem ACalls.mono {P : Program} {f : FuncId} {args : List AV} {hp : AHeap} {n : Nat} {R R' : AEnd → AHeap → Nat → Prop} (h : ACalls P f args hp n R) (hR : ∀ e h k, R e h k → R' e h k) : ACalls P f args hp n R' :=
  fun h1 h2 ι w hr => (h h1 h2 ι w hr).imp (fun ⟨a, b⟩ => ⟨a, b.mono fun _ _ => CPost.mono hR⟩) (fun ⟨v, w', a, b⟩ => ⟨v, w', a, CPost.mono hR b⟩)

/- A CALL OF A LOOP's yield -/
def Fw (r : Option Nat) : Fence := { fn := fun _ => True, depth := none, alive := false, round := r }
def AYield (P : Program) (i : Nat) (args : List AV) (hp : AHeap) (n : Nat) (R : AEnd → AHeap → Nat → Prop) : Prop :=
  hp.lt n = true → ltL n args = true → i < n → ∀ ι w, HR ι hp w →
    ∃ f tmps assign body, (Instr.yield (ι.blk i) (concL ι args).toArray).run P w = .ok (.round (ι.blk i) f tmps assign body) w ∧
      ∀ r, RoundIn (Fw r) 0 P (ι.blk i) f tmps assign body w (CPost R ι hp n w)
theorem AYield.mono {P : Program} {i : Nat} {args : List AV} {hp : AHeap} {n : Nat} {R R' : AEnd → AHeap → Nat → Prop} (h : AYield P i args hp n R) (hR : ∀ e h k, R e h k → R' e h k) : AYield P i args hp n R' :=
  fun h1 h2 h3 ι w hr => let ⟨f, tmps, assign, body, h4, h5⟩ := h h1 h2 h3 ι w hr; ⟨f, tmps, assign, body, h4, fun r => (h5 r).mono fun _ _ => CPost.mono hR⟩

/- how a frame leaves; a deferred call -/
inductive AMode where
  | returning
  | panicking (v : AV)
  deriving Inhabited
def AMode.conc (ι : Env) : AMode → FrameMode
  | .returning => .returning
  | .panicking v => .panicking [{ v := v.conc ι, recovered := false }]
def AMode.lt (n : Nat) : AMode → Bool
  | .returning => true
  | .panicking v => v.lt n
inductive ADef where
  | mark (i : Nat)
  | fn (f : FuncId) (args : List AV)
  deriving Inhabited
def ADef.conc (ι : Env) : ADef → Deferred
  | .mark i => { target := .collected (ι.blk i), args := #[] }
  | .fn f args => { target := .fn (.func f) #[], args := (concL ι args).toArray }
def ADef.lt (n : Nat) : ADef → Bool
  | .mark i => i < n
  | .fn _ args => ltL n args
theorem ADef.conc_agree {n : Nat} {ι ι' : Env} (h : Env.Agree n ι ι') {d : ADef} (hl : d.lt n = true) : d.conc ι' = d.conc ι := by
  cases d with
  | mark i => simp only [ADef.lt, decide_eq_true_eq] at hl; simp [ADef.conc, h.blk i hl]
  | fn f args => simp only [ADef.lt] at hl; simp [ADef.conc, concL_agree h args hl]
theorem ADef.lt_mono {n m : Nat} (hnm : n ≤ m) {d : ADef} (hl : d.lt n = true) : d.lt m = true := by
  cases d with
  | mark i => simp only [ADef.lt, decide_eq_true_eq] at hl ⊢; omega
  | fn f args => exact ltL_mono hnm _ hl
def defsLt (n : Nat) (l : List ADef) : Bool := l.all (ADef.lt n)
theorem defsLt_mono {n m : Nat} (hnm : n ≤ m) {l : List ADef} (hl : defsLt n l = true) : defsLt m l = true :=
  List.all_eq_true.2 fun d hd => ADef.lt_mono hnm ((List.all_eq_true.1 hl) d hd)
theorem defs_agree {n : Nat} {ι ι' : Env} (h : Env.Agree n ι ι') {l : List ADef} (hl : defsLt n l = true) : l.map (ADef.conc ι') = l.map (ADef.conc ι) :=
  List.map_congr_left fun d hd => ADef.conc_agree h ((List.all_eq_true.1 hl) d hd)

structure St where
  tm : LTm
  hp : AHeap
  nx : Nat
  df : List ADef := []
  deriving Inhabited
def St.put (st : St) (d : Option Nat) (v : AV) (hp : AHeap) (nx : Nat) : St :=
  { tm := match d with
      | some d => (d, v) :: st.tm
      | none => st.tm
    hp, nx, df := st.df }

inductive AExit where
  | normal
  | exit (id : Nat)
  | goto (l : Nat)
  | ret
  | panic (v : AV)
  deriving Inhabited
def AExit.conc (ι : Env) : AExit → Exit
  | .normal => .normal
  | .exit id => .exit id
  | .goto l => .goto l
  | .ret => .ret
  | .panic v => .panic [{ v := v.conc ι, recovered := false }]
def AExit.lt (n : Nat) : AExit → Bool
  | .panic v => v.lt n
  | _ => true

/- is the operation wanted? -/
def LOper.wanted (o : LOper) (tm : LTm) : Option Bool :=
  match o.grd with
  | none => some true
  | some (d, b) =>
    match tm.get? d with
    | some (.bool c) => some (c == b)
    | some _ => some false
    | none => none

/- one operation: what follows it, and what a panic must meet -/
def LStep (P : Program) (pan : AV → AHeap → Nat → Prop) (next : St → Prop) (o : LOper) (st : St) : Prop :=
  match o.wanted st.tm with
  | none => False
  | some false => next (st.put o.dst (.tuple []) st.hp st.nx)
  | some true =>
    match o.act with
    | .op lo =>
      match lo.eval st.tm st.hp st.nx with
      | some (v, hp', nx') => next (st.put o.dst v hp' nx')
      | none => False
    | .xop xo =>
      match xo.eval st.tm st.hp st.nx with
      | some (v, hp', nx') => next (st.put o.dst v hp' nx')
      | none => False
    | .call f args =>
      match LOpd.vals st.tm args with
      | some vs => ACalls P f vs st.hp st.nx fun e hp' nx' =>
          match e with
          | .ret v => next (st.put o.dst v hp' nx')
          | .panic v => pan v hp' nx'
      | none => False
    | .callv x args =>
      match x.val st.tm, LOpd.vals st.tm args with
      | some (.func (.func f) first caps), some vs => ACalls P f (first ++ vs ++ caps) st.hp st.nx fun e hp' nx' =>
          match e with
          | .ret v => next (st.put o.dst v hp' nx')
          | .panic v => pan v hp' nx'
      | some (.yieldf i), some vs => AYield P i vs st.hp st.nx fun e hp' nx' =>
          match e with
          | .ret v => next (st.put o.dst v hp' nx')
          | .panic v => pan v hp' nx'
      | _, _ => False
    | .panic x =>
      match x.val st.tm with
      | some (.iface t v) => pan (.iface t v) st.hp st.nx
      | _ => False
    | .stuck => False

/- the operations of a region, in the order of the text -/
def LOps (P : Program) (Q : AExit → St → Prop) : List LOper → St → Prop
  | [], st => Q .normal st
  | o :: os, st => LStep P (fun v hp nx => Q (.panic v) { st with hp, nx }) (LOps P Q os) o st

/- what was read early: operation, object, place, cells -/
abbrev AFact := Nat × Nat × Nat × List AV
def dropW (ws : List Nat) : List AFact → List AFact
  | [] => []
  | f :: l => if ws.contains f.1 then dropW ws l else f :: dropW ws l
def factsOK (hp : AHeap) : List AFact → Prop
  | [] => True
  | (_, i, off, cs) :: l => hp.cells? i off cs.length = some cs ∧ factsOK hp l
/- a load: the object, the place, the value -/
def LOp.reads (tm : LTm) (hp : AHeap) : LOp → Option (Nat × Nat × AV)
  | .load1 a =>
    match a.val tm with
    | some (.ptr i off) => match hp.cells? i off 1 with
      | some [v] => if v.one then some (i, off, v) else none
      | _ => none
    | _ => none
  | .loadN n a =>
    match a.val tm with
    | some (.ptr i off) => (hp.cells? i off n).map fun l => (i, off, .agg l)
    | _ => none
  | _ => none
def LOpsD (P : Program) (Q : AExit → St → Prop) (tm0 : LTm) : LD → List AFact → St → Prop
  | .done, _, st => Q .normal st
  | .free o rest, fs, st => LStep P (fun _ _ _ => False) (LOpsD P Q tm0 rest fs) o st
  | .load i o rest, fs, st =>
    match o.wanted st.tm with
    | none => False
    | some false => LOpsD P Q tm0 rest fs (st.put o.dst (.tuple []) st.hp st.nx)
    | some true =>
      match o.act with
      | .op lo =>
        match lo.reads st.tm st.hp with
        | some (j, off, v) => LOpsD P Q tm0 rest ((i, j, off, v.cells) :: fs) (st.put o.dst v st.hp st.nx)
        | none => False
      | _ => False
  | .eff ws o rest, fs, st => LStep P (fun v hp nx => Q (.panic v) { tm := tm0, hp, nx, df := st.df }) (fun st' => factsOK st'.hp (dropW ws fs) ∧ LOpsD P Q tm0 rest (dropW ws fs) st') o st
  | .two a b, fs, st => LOpsD P Q tm0 a fs st ∧ LOpsD P Q tm0 b fs st

def thenQ (next : St → Prop) (Q : AExit → St → Prop) : AExit → St → Prop
  | .normal, st => next st
  | e, st => Q e st
def blockQ (id : Nat) (Q : AExit → St → Prop) : AExit → St → Prop
  | .exit id', st => if id' = id then Q .normal st else Q (.exit id') st
  | e, st => Q e st

/- less is known: fewer objects, fewer temporaries -/
structure St.Le (s0 s : St) : Prop where
  tm : s0.tm = s.tm ∨ ∀ p, p ∈ s0.tm → s.tm.get? p.1 = some p.2
  hp : s0.hp.Sublist s.hp
  nx : s.nx ≤ s0.nx
  df : s0.df = s.df
theorem St.Le.refl (s : St) : s.Le s := ⟨.inl rfl, List.Sublist.refl _, Nat.le_refl _, rfl⟩

/- what goes on behind a label; no other label -/
def scopeQ (l : Nat) (rest : St → Prop) (Q : AExit → St → Prop) : AExit → St → Prop
  | .goto l', st => l' = l ∧ rest st
  | e, st => Q e st
def noGotoQ (Q : AExit → St → Prop) : AExit → St → Prop
  | .goto _, _ => False
  | e, st => Q e st
/- a loop over a function has ended: what its body left to do -/
def loopEndQ (st : St) (l : Nat) (df : List ADef) (Q : AExit → St → Prop) (e : AEnd) (hp : AHeap) (nx : Nat) : Prop :=
  match e with
  | .panic v => Q (.panic v) { st with hp, nx, df }
  | .ret _ =>
    match hp.get? l with
    | some (.loop r) => r.state ≠ .busy ∧
      (match r.pend with
      | none => Q .normal { st with hp := hp.put l (.loop { r with state := .exhausted }), nx, df }
      | some .ret => Q .ret { st with hp := hp.put l (.loop { r with state := .exhausted }), nx, df }
      | some (.exit id) => Q (.exit id) { st with hp := hp.put l (.loop { r with state := .exhausted }), nx, df }
      | some (.goto t) => Q (.goto t) { st with hp := hp.put l (.loop { r with state := .exhausted }), nx, df }
      | _ => False)
    | _ => False

def LWp (P : Program) : LCode → (AExit → St → Prop) → St → Prop
  | .skip, Q, st => Q .normal st
  | .region ops, Q, st => LOps P Q ops st
  | .regionD ds t, Q, st => LOpsD P Q (st.tm.filter fun p => !ds.contains p.1) t [] st
  | .seq a b, Q, st => LWp P a (thenQ (LWp P b Q) Q) st
  | .cond c a b, Q, st =>
    match c.val st.tm with
    | some (.bool t) => (t = true → LWp P a Q st) ∧ (t = false → LWp P b Q st)
    | _ => False
  | .block id b, Q, st => LWp P b (blockQ id Q) st
  | .loop b, Q, st => ∃ (I : St → Prop) (μ : St → Nat), (∃ s0, s0.Le st ∧ I s0) ∧ ∀ s, I s → LWp P b (thenQ (fun s' => ∃ s0, s0.Le s' ∧ I s0 ∧ μ s0 < μ s) Q) s
  | .exit id, Q, st => Q (.exit id) st
  | .label _, Q, st => Q .normal st
  | .goto l, Q, st => Q (.goto l) st
  | .ret, Q, st => Q .ret st
  | .refuse, _, _ => False
  | .scope b l rest, Q, st => LWp P b (scopeQ l (LWp P rest (noGotoQ Q)) Q) st
  | .defer f args, Q, st =>
    match LOpd.vals st.tm args with
    | some vs => Q .normal { st with df := .fn f vs :: st.df }
    | none => False
  | .rangeFunc g N ps assign body _ _, Q, st =>
    match g.val st.tm with
    | some (.func (.func f) first caps) =>
      Enters P f ∧ ACalls P f (first ++ [.yieldf (st.nx + 1)] ++ caps)
        ((st.nx + 1, .loop { state := .ready, pend := none, tm := st.tm, N, ps, assign, body, dblk := st.nx }) :: (st.nx, .raw (.deferred (some []))) :: st.hp) (st.nx + 2)
        (loopEndQ st (st.nx + 1) (.mark st.nx :: st.df) Q)
    | _ => False

/- resolving code -/
def plainAct (P : Program) (o : Oper) : Option LAct :=
  match resolveOp P o with
  | some lo => some (.op lo)
  | none => (resolveX P o).map .xop
def knownAct (P : Program) (o : Oper) : Option LAct :=
  match o.op with
  | .call c =>
    match c.callee with
    | .value (.func f) => do pure (.call f (← opdL c.args.toList))
    | .value x => do pure (.callv (← opd x) (← opdL c.args.toList))
    | _ => plainAct P o
  | .panic x => (opd x).map .panic
  | _ => plainAct P o
def resolveAct (P : Program) (o : Oper) : Option LAct :=
  match knownAct P o with
  | some a => some a
  | none => some .stuck
def dstOK (N : Nat) : Option Nat → Bool
  | some d => decide (d < N)
  | none => true
def resolveOper (P : Program) (N : Nat) (ops : Array Oper) (o : Oper) : Option LOper := do
  let act ← resolveAct P o
  match o.guard with
  | none => if dstOK N o.dst then some { dst := o.dst, grd := none, act } else none
  | some (j, b) =>
    match (ops[j]?).bind (·.dst) with
    | some d => if dstOK N o.dst && decide (d < N) then some { dst := o.dst, grd := some (d, b), act } else none
    | none => none
def resolveOpers (P : Program) (N : Nat) (ops : Array Oper) : List Oper → Option (List LOper)
  | [] => some []
  | o :: l =>
    match resolveOper P N ops o, resolveOpers P N ops l with
    | some a, some b => some (a :: b)
    | _, _ => none
/- what waits for what, through others: of the loads alone -/
abbrev WTbl := List (List Nat)
def WTbl.of (t : WTbl) (j : Nat) : List Nat := t.getD j []
def waitsOK (ops : Array Oper) (t : WTbl) : Bool :=
  (List.range ops.size).all fun j =>
    match ops[j]? with
    | some o => (t.of j).all fun i => o.after.any fun e => Region.binds .any e && (e.on == i || (decide (e.on < j) && (t.of e.on).contains i))
    | none => true
def insW (l : List Nat) (x : Nat) : List Nat := if l.contains x then l else x :: l
def waitsTbl (isLoad : Nat → Bool) : List Oper → WTbl → WTbl
  | [], t => t
  | o :: os, t => waitsTbl isLoad os (t ++ [(o.after.toList.filter (Region.binds .any)).foldl (fun acc e => (if isLoad e.on then insW acc e.on else acc) |> (t.of e.on).foldl insW) []])
def LOper.kind (o : LOper) : Nat :=
  match o.act with
  | .op (.load1 _) | .op (.loadN _ _) => 1
  | .op lo => if lo.isPure then 0 else 2
  | .xop xo => if xo.isPure then 0 else 2
  | _ => 2
def kindAt (los : List LOper) (i : Nat) : Nat :=
  match los[i]? with
  | some o => o.kind
  | none => 2
def ldEff (t : WTbl) (los : List LOper) (k : Nat) (rest : Option LD) : Option LD :=
  match los[k]?, rest with
  | some lo, some rest => some (.eff (t.of k) lo rest)
  | _, _ => none
def ldFirst (los : List LOper) (i : Nat) (rest : Option LD) : Option LD :=
  match los[i]?, rest with
  | some lo, some rest => if lo.kind = 0 then some (.free lo rest) else if lo.kind = 1 then some (.load i lo rest) else none
  | _, _ => none
def ldTwo : Option LD → Option LD → Option LD
  | some a, some b => some (.two a b)
  | _, _ => none
def resolveD (ops : Array Oper) (t : WTbl) (los : List LOper) : Nat → Array Bool → Option LD
  | 0, listed => if (Region.ready .any ops listed).isEmpty then some .done else none
  | f + 1, listed =>
    if (Region.ready .any ops listed).isEmpty then some .done else
    match (Region.ready .any ops listed).find? fun i => decide (kindAt los i < 2) && Region.free .any ops listed i with
    | some i => ldFirst los i (resolveD ops t los f (listed.setIfInBounds i true))
    | none =>
      match Region.ready .any ops listed with
      | [k] => ldEff t los k (resolveD ops t los f (listed.setIfInBounds k true))
      | [k, l] => ldTwo (ldEff t los k (resolveD ops t los f (listed.setIfInBounds k true))) (ldEff t los l (resolveD ops t los f (listed.setIfInBounds l true)))
      | _ => none
def noDefer (ops : Array Oper) : Bool := ops.all fun o => match o.op with | .defer _ => false | _ => true
def dstsOf (los : List LOper) : List Nat := los.filterMap (·.dst)
def resolveDraw (P : Program) (N : Nat) (ops : Array Oper) : Option LCode :=
  match resolveOpers P N ops ops.toList with
  | some los =>
    let t := waitsTbl (fun i => kindAt los i == 1) ops.toList []
    if Region.noSelect ops && noDefer ops && waitsOK ops t && P.follows .mixedOrders then
      (resolveD ops t los ops.size (Array.replicate ops.size false)).map (.regionD (dstsOf los))
    else none
  | none => none
/- a region that ends with a 'defer' -/
def deferCall (o : Oper) : Option (FuncId × List LOpd) :=
  match o.op, o.guard, o.dst with
  | .defer c, none, none =>
    match c.callee with
    | .value (.func f) => (opdL c.args.toList).map fun args => (f, args)
    | _ => none
  | _, _, _ => none
def hasDefer (ops : Array Oper) : Bool := !noDefer ops
def resolveDefer (P : Program) (N : Nat) (ops : Array Oper) : Option LCode :=
  match ops.toList.getLast? with
  | some o =>
    match deferCall o, resolveOpers P N ops ops.toList.dropLast with
    | some (f, args), some los => some (.seq (.region los) (.defer f args))
    | _, _ => none
  | none => none
def spineLabel : Code → Option Nat
  | .seq a b =>
    match spineLabel a with
    | some l => some l
    | none => spineLabel b
  | .label l => some l
  | _ => none
def resolveC (P : Program) (N : Nat) (rnd : Bool) : Nat → Code → Option LCode
  | 0, _ => none
  | d + 1, c =>
    match c with
    | .skip => some .skip
    | .region _ ops draw =>
      if draw then resolveDraw P N ops else
      if hasDefer ops then (if rnd then none else resolveDefer P N ops) else
      (resolveOpers P N ops ops.toList).map .region
    | .seq a b =>
      match resolveC P N rnd d a, resolveC P N rnd d b with
      | some x, some y => some (.seq x y)
      | _, _ => none
    | .cond c a b =>
      match opd c, resolveC P N rnd d a, resolveC P N rnd d b with
      | some c, some x, some y => some (.cond c x y)
      | _, _, _ => none
    | .block id b => (resolveC P N rnd d b).map (.block id)
    | .loop b => (resolveC P N rnd d b).map .loop
    | .exit id => some (.exit id)
    | .label l => some (.label l)
    | .goto l => some (.goto l)
    | .ret => some .ret
    | .refuse _ => some .refuse
    | .scope b =>
      match spineLabel b with
      | some l =>
        match findLabel b l with
        | some rest =>
          match resolveC P N rnd d b, resolveC P N rnd d rest with
          | some x, some y => some (.scope x l y)
          | _, _ => none
        | none => none
      | none => none
    | .rangeFunc g ps assign body =>
      if rnd then none else
      match opd g, resolveC P N true d assign, resolveC P N true d body with
      | some g, some x, some y => some (.rangeFunc g N ps assign body x y)
      | _, _, _ => none

/- the loops over functions of a function's body, in the order of the text: assignments, body -/
def rangesOf : Code → List (Code × Code)
  | .seq a b => rangesOf a ++ rangesOf b
  | .cond _ a b => rangesOf a ++ rangesOf b
  | .block _ b => rangesOf b
  | .loop b => rangesOf b
  | .scope b => rangesOf b
  | .rangeFunc _ _ a b => [(a, b)]
  | _ => []
def rangeAt (P : Program) (f k : Nat) : Code × Code :=
  match P.funcs[f]? with
  | some fn =>
    match fn.body with
    | some c => (rangesOf c).getD k (.skip, .skip)
    | none => (.skip, .skip)
  | none => (.skip, .skip)
end Go.Ax
