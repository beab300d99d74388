/- Regions that draw their order: the walk of LD is right. -/
import Derived.Test.YtgmfnndoaljdbaaGreatDoorAxQ
import Derived.TacticsIn
set_option linter.all false
namespace Go.Ax
open Go
set_option maxRecDepth 20000

def factP (ι : Env) (f : AFact) : Nat × (World → Prop) := (f.1, fun w => HR ι [(f.2.1, .ro f.2.2.1 f.2.2.2)] w)
def factsP (ι : Env) (fs : List AFact) : Facts := fs.map (factP ι)
def factsLt (n : Nat) (fs : List AFact) : Bool := fs.all fun f => decide (f.2.1 < n) && ltL n f.2.2.2

theorem drop_factsP (ι : Env) (ws : List Nat) (fs : List AFact) : Facts.drop ws (factsP ι fs) = factsP ι (dropW ws fs) := by
  induction fs with
  | nil => rfl
  | cons f l ih =>
    show Facts.drop ws (factP ι f :: factsP ι l) = _
    have hf : (factP ι f).1 = f.1 := rfl
    simp only [dropW]
    unfold Facts.drop at ih ⊢
    cases h : ws.contains f.1
    · rw [List.filter_cons_of_pos (by rw [hf, h]; rfl), ih, if_neg (by simp)]; rfl
    · rw [List.filter_cons_of_neg (by rw [hf, h]; simp), ih, if_pos rfl]
theorem dropW_mem {ws : List Nat} {fs : List AFact} {f : AFact} (h : f ∈ dropW ws fs) : f ∈ fs := by
  induction fs with
  | nil => exact h
  | cons g l ih =>
    simp only [dropW] at h
    split at h
    · exact List.mem_cons_of_mem _ (ih h)
    · rcases List.mem_cons.1 h with rfl | h
      · exact List.mem_cons_self
      · exact List.mem_cons_of_mem _ (ih h)
theorem factsLt_drop {n : Nat} {ws : List Nat} {fs : List AFact} (h : factsLt n fs = true) : factsLt n (dropW ws fs) = true :=
  List.all_eq_true.2 fun f hf => (List.all_eq_true.1 h) f (dropW_mem hf)
theorem factsLt_mono {n m : Nat} (hnm : n ≤ m) {fs : List AFact} (h : factsLt n fs = true) : factsLt m fs = true :=
  List.all_eq_true.2 fun f hf => by
    have := (List.all_eq_true.1 h) f hf
    simp only [Bool.and_eq_true, decide_eq_true_eq] at this ⊢
    exact ⟨by omega, ltL_mono hnm _ this.2⟩
theorem Env.Agree.symm {n : Nat} {ι ι' : Env} (h : Env.Agree n ι ι') : Env.Agree n ι' ι := ⟨fun i hi => (h.blk i hi).symm, fun i hi => (h.cap i hi).symm⟩
theorem factsP_agree {n : Nat} {ι ι' : Env} (h : Env.Agree n ι ι') {fs : List AFact} (hl : factsLt n fs = true) : factsP ι' fs = factsP ι fs := by
  refine List.map_congr_left fun f hf => ?_
  have := (List.all_eq_true.1 hl) f hf
  simp only [Bool.and_eq_true, decide_eq_true_eq] at this
  have hh : AHeap.lt n [(f.2.1, .ro f.2.2.1 f.2.2.2)] = true := by simp [AHeap.lt, AObj.lt, this.1, this.2]
  simp only [factP, Prod.mk.injEq, true_and]
  funext w
  exact propext ⟨fun hr => hr.agree h.symm hh, fun hr => hr.agree h hh⟩

theorem HR.ro_of {ι : Env} {h : AHeap} {w : World} (hr : HR ι h w) {i off n : Nat} {cs : List AV} (hc : h.cells? i off n = some cs) : HR ι [(i, .ro off cs)] w := by
  have hcells := (hr.cells hc).2
  refine ⟨fun j o hm => ?_, List.pairwise_singleton .., fun j g s cs hm => by simp at hm⟩
  simp only [List.mem_singleton, Prod.mk.injEq] at hm
  obtain ⟨rfl, rfl⟩ := hm
  unfold AHeap.cells? at hc
  have key : ∀ ob, w.heap[ι.blk j]? = some ob → (∃ c e fz, ob = .cells c e fz) → AObj.fits ι ob (.ro off cs) := by
    rintro ob hob ⟨c, e, fz, rfl⟩
    refine ⟨c, e, fz, rfl, fun k v hv => ?_⟩
    have := hcells k v hv
    simpa [World.cell?, hob] using this
  split at hc
  · rename_i cs' e g fz hg
    obtain ⟨ob, hob, hf⟩ := hr.get hg
    refine ⟨ob, hob, key ob hob ?_⟩
    cases g with
    | none => exact ⟨_, _, _, hf⟩
    | some p => obtain ⟨x, es, k⟩ := p; obtain ⟨rest, hf, _⟩ := hf; exact ⟨_, _, _, hf⟩
  · rename_i s cs' hg
    obtain ⟨ob, hob, c, e, fz, hf, _⟩ := hr.get hg
    exact ⟨ob, hob, key ob hob ⟨c, e, fz, hf⟩⟩
  · rename_i g' s cs' hg
    obtain ⟨ob, hob, c, e, fz, hf, _⟩ := hr.get hg
    exact ⟨ob, hob, key ob hob ⟨c, e, fz, hf⟩⟩
  · cases hc

theorem factsOK_hold {ι ι' : Env} {hp' : AHeap} {w' : World} {n : Nat} (hr : HR ι' hp' w') (hag : Env.Agree n ι ι') {fs : List AFact} (hl : factsLt n fs = true) (h : factsOK hp' fs) : (factsP ι fs).Hold w' := by
  rw [← factsP_agree hag hl]
  intro f hf
  simp only [factsP, List.mem_map] at hf
  obtain ⟨g, hg, rfl⟩ := hf
  show HR ι' [(g.2.1, .ro g.2.2.1 g.2.2.2)] w'
  have key : ∀ (l : List AFact), factsOK hp' l → g ∈ l → hp'.cells? g.2.1 g.2.2.1 g.2.2.2.length = some g.2.2.2 := by
    intro l
    induction l with
    | nil => intro _ h; cases h
    | cons x l ih =>
      obtain ⟨k, i, off, cs⟩ := x
      intro h hm
      rcases List.mem_cons.1 hm with rfl | hm
      · exact h.1
      · exact ih h.2 hm
  exact hr.ro_of (key fs h hg)

/- cells of one object alone -/
theorem cells?_ro (i off : Nat) (cs : List AV) : AHeap.cells? [(i, .ro off cs)] i off cs.length = some cs := by
  simp [AHeap.cells?, AHeap.get?]
theorem reads_pv {lo : LOp} {tm : LTm} {hp : AHeap} {i off : Nat} {v : AV} (h : lo.reads tm hp = some (i, off, v)) :
    (hp.cells? i off v.cells.length = some v.cells) ∧ lo.isPure = true ∧ lo.pv tm hp = some v ∧ lo.pv tm [(i, .ro off v.cells)] = some v := by
  unfold LOp.reads at h
  split at h
  · rename_i a
    split at h
    · rename_i j o ha
      split at h
      · rename_i u hc
        split at h
        · rename_i hone
          simp only [Option.some.injEq, Prod.mk.injEq] at h
          obtain ⟨rfl, rfl, rfl⟩ := h
          have hcell : u.cells = [u] := by cases u <;> simp [AV.one, AV.cells] at hone ⊢
          refine ⟨by rw [hcell]; exact hc, rfl, by simp [LOp.pv, ha, hc], ?_⟩
          have := cells?_ro j o [u]
          simp only [List.length_singleton] at this
          simp [LOp.pv, ha, hcell, this]
        · cases h
      · cases h
    · cases h
  · rename_i n a
    split at h
    · rename_i j o ha
      simp only [Option.map_eq_some_iff, Prod.mk.injEq] at h
      obtain ⟨l, hl, rfl, rfl, rfl⟩ := h
      have hlen : l.length = n := by
        unfold AHeap.cells? at hl
        split at hl
        · split at hl
          · simp only [Option.some.injEq] at hl; subst hl; simp; omega
          · cases hl
        · split at hl
          · simp only [Option.some.injEq] at hl; subst hl; simp; omega
          · cases hl
        · split at hl
          · simp only [Option.some.injEq] at hl; subst hl; simp; omega
          · cases hl
        · cases hl
      refine ⟨by simpa [AV.cells, hlen] using hl, rfl, by simp [LOp.pv, ha, hl], ?_⟩
      have := cells?_ro j o l
      rw [hlen] at this
      simp [LOp.pv, ha, AV.cells, this]
    · cases h
  · cases h

theorem pv_nil {lo : LOp} {o : LOper} (ho : o.act = .op lo) (hk : o.kind = 0) (tm : LTm) (hp : AHeap) : lo.isPure = true ∧ lo.pv tm hp = lo.pv tm [] := by
  unfold LOper.kind at hk
  rw [ho] at hk
  cases lo <;> first
    | exact ⟨rfl, rfl⟩
    | (simp at hk; done)
    | (simp [LOp.isPure] at hk; done)
theorem xkind {xo : XOp} {o : LOper} (ho : o.act = .xop xo) (hk : o.kind = 0) : xo.isPure = true := by
  unfold LOper.kind at hk
  rw [ho] at hk
  simpa using hk
theorem kind_op {o : LOper} (hk : o.kind = 0) : (∃ lo, o.act = .op lo) ∨ ∃ xo, o.act = .xop xo := by
  unfold LOper.kind at hk
  split at hk
  · cases hk
  · cases hk
  · rename_i lo _ _ h; exact .inl ⟨lo, h⟩
  · rename_i xo h; exact .inr ⟨xo, h⟩
  · cases hk

/- two acts that differ in some temporaries only -/
structure SameOff (ds : List Nat) (a a' : Act) : Prop where
  sz : a'.tmps.size = a.tmps.size
  df : a'.defers = a.defers
  tm : ∀ t, t ∉ ds → a'.tmps[t]? = a.tmps[t]?
theorem SameOff.put {ds : List Nat} {a a' : Act} {d : Option Nat} {v : Value} (h : SameOff ds (a.put d v) a') (hd : ∀ k, d = some k → k ∈ ds) : SameOff ds a a' := by
  cases d with
  | none => exact h
  | some k =>
    have hk := hd k rfl
    refine ⟨by simpa [Act.put] using h.sz, h.df, fun t ht => ?_⟩
    have hne : k ≠ t := fun e => ht (e ▸ hk)
    simpa [Act.put, Array.getElem?_setIfInBounds_ne hne] using h.tm t ht
theorem SameOff.of_put {ds : List Nat} {a a' : Act} {d : Option Nat} {v : Value} (h : SameOff ds a a') (hd : ∀ k, d = some k → k ∈ ds) : SameOff ds (a.put d v) a' := by
  cases d with
  | none => exact h
  | some k =>
    have hk := hd k rfl
    refine ⟨by simpa [Act.put] using h.sz, h.df, fun t ht => ?_⟩
    have hne : k ≠ t := fun e => ht (e ▸ hk)
    simpa [Act.put, Array.getElem?_setIfInBounds_ne hne] using h.tm t ht
def PanQ (ds : List Nat) (Ψ : Exit → Act → World → Prop) : Exit → Act → World → Prop
  | .panic c, a, w => ∀ a', SameOff ds a a' → Ψ (.panic c) a' w
  | e, a, w => Ψ e a w

theorem resolveOpers_get {P : Program} {N : Nat} {ops : Array Oper} : ∀ (l : List Oper) (los : List LOper), resolveOpers P N ops l = some los → ∀ (i : Nat) (lo : LOper), los[i]? = some lo → ∃ o : Oper, l[i]? = some o ∧ resolveOper P N ops o = some lo
  | [], los, h, i, lo, hi => by simp only [resolveOpers, Option.some.injEq] at h; subst h; cases hi
  | o :: l, los, h, i, lo, hi => by
    simp only [resolveOpers] at h
    split at h
    · rename_i x xs hx hxs
      simp only [Option.some.injEq] at h; subst h
      cases i with
      | zero => simp only [List.getElem?_cons_zero, Option.some.injEq] at hi; subst hi; exact ⟨o, rfl, hx⟩
      | succ i => exact resolveOpers_get l xs hxs i lo (by simpa using hi)
    · cases h

theorem noDefer_spec {ops : Array Oper} (h : noDefer ops = true) (j : Nat) (o : Oper) (c : Call) (ho : ops[j]? = some o) : o.op ≠ .defer c := by
  intro heq
  have := Array.all_eq_true_iff_forall_mem.1 h o (Array.mem_of_getElem? ho)
  simp [heq] at this

section
variable {P : Program} {N : Nat} {ops : Array Oper} {t : WTbl} {los : List LOper}

theorem addTrue {r : Option Nat} {Ψ : Exit → Act → World → Prop} (i : Nat) : ∀ (fuel : Nat) (listed : Array Bool) (fs : Facts) (a : Act) (w : World), wpAnyF r P ops t Ψ fuel listed fs a w → wpAnyF r P ops t Ψ fuel listed ((i, fun _ => True) :: fs) a w
  | 0, _, _, _, _, h => h
  | fuel + 1, listed, fs, a, w, h => by
    refine ⟨h.1, fun j hj => wpOpIn_mono (fun a' w' h' => ?_) (h.2 j hj)⟩
    unfold Facts.drop at h' ⊢
    rw [List.filter_cons]
    split
    · refine ⟨fun g hg => ?_, addTrue i _ _ _ _ _ h'.2⟩
      rcases List.mem_cons.1 hg with rfl | hg
      · trivial
      · exact h'.1 g hg
    · exact h'

theorem ld_sound {r : Option Nat} {Q : AExit → St → Prop} {Ψ : Exit → Act → World → Prop} {tm0 : LTm} {ds : List Nat}
    (hsel : Region.noSelect ops = true) (hdef : noDefer ops = true) (hw : waitsOK ops t = true) (hlos : resolveOpers P N ops ops.toList = some los) (hds : ds = dstsOf los) (htm0 : ∀ p ∈ tm0, p.1 ∉ ds) :
    ∀ (fuel : Nat) (listed : Array Bool) (ld : LD), resolveD ops t los fuel listed = some ld →
    ∀ (ι : Env) (st : St) (a : Act) (w : World) (fs : List AFact), Sat ι N st a w → DownB ops listed → LOpsD P Q tm0 ld fs st → factsLt st.nx fs = true → (factsP ι fs).Hold w → TmR ι tm0 a → tm0.lt st.nx = true →
      (∀ e a' w', APost Q ι N st w e a' w' → Ψ e a' w') → wpAnyF r P ops t (PanQ ds Ψ) fuel listed (factsP ι fs) a w := by
  have hmust := must_of hw
  have hsel' := Region.noSelect_spec hsel
  have hdef' := noDefer_spec hdef
  have hops : ∀ (i : Nat) (lo : LOper), los[i]? = some lo → ∃ o, ops[i]? = some o ∧ resolveOper P N ops o = some lo := fun i lo h => by
    obtain ⟨o, ho, h2⟩ := resolveOpers_get _ _ hlos i lo h
    exact ⟨o, by simpa using ho, h2⟩
  have hdst : ∀ (i : Nat) (lo : LOper), los[i]? = some lo → ∀ k, lo.dst = some k → k ∈ ds := fun i lo h k hk => by
    rw [hds]
    exact List.mem_filterMap.2 ⟨lo, List.mem_of_getElem? h, hk⟩
  have hput0 : ∀ {ι : Env} {a : Act} (d : Option Nat) (v : Value), TmR ι tm0 a → (∀ k, d = some k → k ∈ ds) → TmR ι tm0 (a.put d v) := by
    intro ι a d v h hd i u hu
    have hi := htm0 _ (LTm.get?_mem hu)
    cases d with
    | none => exact h i u hu
    | some k =>
      have hne : k ≠ i := fun e => hi (e ▸ hd k rfl)
      simpa [Act.put, Array.getElem?_setIfInBounds_ne hne] using h i u hu
  have hnorm : ∀ {a : Act} {w : World}, Ψ .normal a w → PanQ ds Ψ .normal a w := fun h => h
  have hQ : ∀ (d : Option Nat) (v : Value), (∀ k, d = some k → k ∈ ds) → ∀ c a w, PanQ ds Ψ (.panic c) (a.put d v) w → PanQ ds Ψ (.panic c) a w :=
    fun d v hd c a w h a' hs => h a' (hs.of_put hd)
  -- an effect that comes up
  intro fuel
  induction fuel with
  | zero =>
    intro listed ld hres ι st a w fs hs hdown h hfl hfh ht0 hl0 hΨ
    simp only [resolveD] at hres
    split at hres
    · rename_i he
      simp only [Option.some.injEq] at hres; subst hres
      exact ⟨by simpa using he, hΨ _ _ _ ⟨.normal, st, ι, rfl, h, hs, rfl, .refl _ _ _ _⟩⟩
    · cases hres
  | succ fuel ih =>
    intro listed ld hres ι st a w fs hs hdown h hfl hfh ht0 hl0 hΨ
    -- an operation with effects: what is to be shown of it
    have heff : ∀ k ld, k ∈ Region.ready .any ops listed → ldEff t los k (resolveD ops t los fuel (listed.setIfInBounds k true)) = some ld → LOpsD P Q tm0 ld fs st →
        wpOpIn (Fw r) 0 P ops (PanQ ds Ψ) k (fun a' w' => (Facts.drop (t.of k) (factsP ι fs)).Hold w' ∧ wpAnyF r P ops t (PanQ ds Ψ) fuel (listed.setIfInBounds k true) (Facts.drop (t.of k) (factsP ι fs)) a' w') a w := by
      intro k ld hk hld h
      unfold ldEff at hld
      split at hld
      · rename_i lo rest hlo hrest
        simp only [Option.some.injEq] at hld; subst hld
        obtain ⟨o, ho, hro⟩ := hops k lo hlo
        obtain ⟨hd1, hd2, hact⟩ := resolveOper_dst hro
        unfold wpOpIn
        simp only [ho]
        simp only [LOpsD] at h
        rw [drop_factsP]
        refine op_sound hro hs h (fun ι1 st1 a1 w1 hs1 h1 hstep ha1 => ?_) (fun v hp' nx' ι' w' hR g1 g2 g3 g4 => ?_)
        · obtain ⟨u, rfl⟩ := ha1
          have hfl' := factsLt_drop (ws := t.of k) hfl
          have hfl1 := factsLt_mono hstep.le hfl'
          have hhold : (factsP ι (dropW (t.of k) fs)).Hold w1 := factsOK_hold hs1.hr hstep.agree hfl' h1.1
          refine ⟨hhold, ?_⟩
          rw [← factsP_agree hstep.agree hfl'] at hhold ⊢
          refine ih _ rest hrest ι1 st1 _ w1 _ hs1 (down_set hdown hk) h1.2 hfl1 hhold ?_ (LTm.lt_mono hstep.le hl0) (fun e a' w' hp => hΨ e a' w' (hp.trans hstep))
          exact (hput0 _ _ ht0 (fun k' hk' => hdst k lo hlo k' (hd1 ▸ hk'))).agree hstep.agree hl0
        · intro a' hsame
          refine hΨ _ _ _ ⟨.panic v, _, ι', rfl, hR, ⟨?_, LTm.lt_mono g4.le hl0, g1, g2, hsame.sz.trans hs.sz, hsame.df.trans (hs.df.trans (defs_agree g4.agree hs.dl).symm), defsLt_mono g4.le hs.dl⟩, g3, g4⟩
          intro i u hu
          rw [hsame.tm i (htm0 _ (LTm.get?_mem hu))]
          exact (ht0.agree g4.agree hl0) i u hu
      · cases hld
    simp only [resolveD] at hres
    split at hres
    · rename_i he
      simp only [Option.some.injEq] at hres; subst hres
      exact wpAnyF_done (Ψ := PanQ ds Ψ) (by simpa using he) (hnorm (hΨ _ _ _ ⟨.normal, st, ι, rfl, h, hs, rfl, .refl _ _ _ _⟩)) _
    · rename_i hne
      have hne' : Region.ready .any ops listed ≠ [] := by simpa using hne
      split at hres
      · -- taken first
        rename_i i hfind
        have hmem := List.mem_of_find?_eq_some hfind
        have hfree := List.find?_some hfind
        simp only [Bool.and_eq_true, decide_eq_true_eq] at hfree
        unfold ldFirst at hres
        split at hres
        · rename_i lo rest hlo hrest
          obtain ⟨o, ho, hro⟩ := hops i lo hlo
          obtain ⟨hd1, hd2, hact⟩ := resolveOper_dst hro
          have hdk : ∀ k, o.dst = some k → k ∈ ds := fun k hk => hdst i lo hlo k (hd1 ▸ hk)
          have hdN : ∀ k, o.dst = some k → k < N := hd2
          have FIRST := fun (v : Value) (p : World → Prop) => wpAnyF_first (r := r) (P := P) (t := t) (Ψ := PanQ ds Ψ) (v := v) (p := p) ho hsel' hdef' hmust (hQ o.dst v hdk) fuel listed (factsP ι fs) a w hdown (Region.free_spec ho hfree.2) hmem
          -- not wanted
          have hskip : lo.wanted st.tm = some false → LOpsD P Q tm0 rest fs (st.put lo.dst (.tuple []) st.hp st.nx) → wpAnyF r P ops t (PanQ ds Ψ) (fuel + 1) listed (factsP ι fs) a w := by
            intro hwant h
            refine FIRST undef (fun _ => True) (.inr ⟨wanted_sound hro hs.tm hwant, rfl⟩) trivial hfh (addTrue i _ _ _ _ _ ?_)
            rw [hd1] at h
            refine ih _ rest hrest ι _ _ w fs (hs.put (v := .tuple []) hdN (.refl _ _) (Nat.le_refl _) hs.hr hs.hl rfl) (down_set hdown hmem) h hfl hfh (hput0 _ _ ht0 hdk) hl0 (fun e a' w' hp => hΨ e a' w' (hp.trans (.refl _ _ _ _)))
          split at hres
          · -- free
            rename_i hk0
            simp only [Option.some.injEq] at hres; subst hres
            simp only [LOpsD, LStep] at h
            split at h
            · exact h.elim
            · rename_i hwant; exact hskip hwant h
            · rename_i hwant
              rcases kind_op hk0 with ⟨lop, hlop⟩ | ⟨xop, hxop⟩
              · rw [hlop] at h hact
                simp only at h
                split at h
                · rename_i v hp' nx' hev
                  obtain ⟨hpu, hnil⟩ := pv_nil hlop hk0 st.tm st.hp
                  obtain ⟨hpv, rfl, rfl⟩ := eval_pure hpu hev
                  have hres1 := act_op hact
                  have hpv' : lop.pv st.tm [] = some v := by rw [← hnil]; exact hpv
                  have hyield : ∀ w', (execOp a.eval o).run P w' = .ok (.value (v.conc ι)) w' := fun w' =>
                    (pure_sound (w := w') hpu hres1 hs.tm hs.tl (hp := []) (n := st.nx) ⟨fun _ _ h => (List.not_mem_nil h).elim, List.Pairwise.nil, fun _ _ _ _ h => (List.not_mem_nil h).elim⟩ rfl hpv').1
                  have hvl : v.lt st.nx = true := (pure_sound (w := w) hpu hres1 hs.tm hs.tl (hp := []) (n := st.nx) ⟨fun _ _ h => (List.not_mem_nil h).elim, List.Pairwise.nil, fun _ _ _ _ h => (List.not_mem_nil h).elim⟩ rfl hpv').2
                  refine FIRST (v.conc ι) (fun _ => True) (.inl ⟨wanted_sound hro hs.tm hwant, fun w' _ => hyield w'⟩) trivial hfh (addTrue i _ _ _ _ _ ?_)
                  rw [hd1] at h
                  exact ih _ rest hrest ι _ _ w fs (hs.put hdN (.refl _ _) (Nat.le_refl _) hs.hr hs.hl hvl) (down_set hdown hmem) h hfl hfh (hput0 _ _ ht0 hdk) hl0 (fun e a' w' hp => hΨ e a' w' (hp.trans (.refl _ _ _ _)))
                · exact h.elim
              · rw [hxop] at h hact
                simp only at h
                split at h
                · rename_i v hp' nx' hev
                  have hpu := xkind hxop hk0
                  obtain ⟨hpv, rfl, rfl⟩ := xeval_pure hpu hev
                  have hres1 := act_xop hact
                  have hyield : ∀ w', (execOp a.eval o).run P w' = .ok (.value (v.conc ι)) w' := fun w' =>
                    (xpure_sound (w := w') (n := st.nx) hpu hres1 hs.tm hs.tl hpv).1
                  have hvl : v.lt st.nx = true := (xpure_sound (w := w) hpu hres1 hs.tm hs.tl hpv).2
                  refine FIRST (v.conc ι) (fun _ => True) (.inl ⟨wanted_sound hro hs.tm hwant, fun w' _ => hyield w'⟩) trivial hfh (addTrue i _ _ _ _ _ ?_)
                  rw [hd1] at h
                  exact ih _ rest hrest ι _ _ w fs (hs.put hdN (.refl _ _) (Nat.le_refl _) hs.hr hs.hl hvl) (down_set hdown hmem) h hfl hfh (hput0 _ _ ht0 hdk) hl0 (fun e a' w' hp => hΨ e a' w' (hp.trans (.refl _ _ _ _)))
                · exact h.elim
          · split at hres
            · -- a load
              simp only [Option.some.injEq] at hres; subst hres
              simp only [LOpsD] at h
              split at h
              · exact h.elim
              · rename_i hwant; exact hskip hwant h
              · rename_i hwant
                split at h
                · rename_i lop hlop
                  split at h
                  · rename_i j off v hrd
                    obtain ⟨hcells, hpu, hpv, hpv'⟩ := reads_pv hrd
                    rw [hlop] at hact
                    have hres1 := act_op hact
                    have hcl := AHeap.cells?_lt hs.hl hcells
                    have hjn : j < st.nx := by
                      unfold AHeap.cells? at hcells
                      split at hcells
                      · rename_i hg; exact (AHeap.lt_get hs.hl hg).1
                      · rename_i hg; exact (AHeap.lt_get hs.hl hg).1
                      · rename_i hg; exact (AHeap.lt_get hs.hl hg).1
                      · cases hcells
                    have hro' : AHeap.lt st.nx [(j, .ro off v.cells)] = true := by simp [AHeap.lt, AObj.lt, hjn, hcl]
                    have hyield : ∀ w', HR ι [(j, .ro off v.cells)] w' → (execOp a.eval o).run P w' = .ok (.value (v.conc ι)) w' := fun w' hr' =>
                      (pure_sound (w := w') hpu hres1 hs.tm hs.tl hr' hro' hpv').1
                    have hhere := hs.hr.ro_of hcells
                    have hvl : v.lt st.nx = true := (pure_sound (w := w) hpu hres1 hs.tm hs.tl hhere hro' hpv').2
                    refine FIRST (v.conc ι) (fun w' => HR ι [(j, .ro off v.cells)] w') (.inl ⟨wanted_sound hro hs.tm hwant, fun w' hr' => hyield w' hr'⟩) hhere hfh ?_
                    rw [hd1] at h
                    have hfl' : factsLt st.nx ((i, j, off, v.cells) :: fs) = true := by simp [factsLt, hjn, hcl]; simpa [factsLt] using hfl
                    have hfh' : (factsP ι ((i, j, off, v.cells) :: fs)).Hold w := fun g hg => by
                      simp only [factsP, List.map_cons, List.mem_cons] at hg
                      rcases hg with rfl | hg
                      · exact hhere
                      · exact hfh g hg
                    exact ih _ rest hrest ι _ _ w _ (hs.put hdN (.refl _ _) (Nat.le_refl _) hs.hr hs.hl hvl) (down_set hdown hmem) h hfl' hfh' (hput0 _ _ ht0 hdk) hl0 (fun e a' w' hp => hΨ e a' w' (hp.trans (.refl _ _ _ _)))
                  · exact h.elim
                · exact h.elim
            · cases hres
        · cases hres
      · split at hres
        · rename_i k hk
          refine ⟨fun h0 => absurd h0 hne', fun j hj => ?_⟩
          have hj' := hj
          rw [hk, List.mem_singleton] at hj'
          subst hj'
          exact heff _ _ hj hres h
        · rename_i k l hk
          refine ⟨fun h0 => absurd h0 hne', fun j hj => ?_⟩
          have hj' := hj
          rw [hk] at hj'
          unfold ldTwo at hres
          split at hres
          · rename_i x y hx hy
            simp only [Option.some.injEq] at hres; subst hres
            simp only [LOpsD] at h
            rcases List.mem_cons.1 hj' with rfl | hj'
            · exact heff _ _ hj hx h.1
            · rw [List.mem_singleton] at hj'
              subst hj'
              exact heff _ _ hj hy h.2
          · cases hres
        · cases hres


theorem draw_sound {r : Option Nat} {Q : AExit → St → Prop} {Ψ : Exit → Act → World → Prop} {id : Nat} {lc : LCode} (hres : resolveDraw P N ops = some lc) {ι : Env} {st : St} {a : Act} {w : World}
    (hs : Sat ι N st a w) (h : LWp P lc Q st) (hΨ : ∀ e a' w', APost Q ι N st w e a' w' → Ψ e a' w') : (Code.region id ops true).wpIn (Fw r) 0 P Ψ a w := by
  unfold resolveDraw at hres
  split at hres
  · rename_i los hlos
    simp only at hres
    split at hres
    · rename_i hc
      simp only [Bool.and_eq_true] at hc
      obtain ⟨⟨⟨hsel, hdef⟩, hw⟩, hm⟩ := hc
      simp only [Option.map_eq_some_iff] at hres
      obtain ⟨ld, hld, rfl⟩ := hres
      simp only [LWp] at h
      have hs' : Sat ι N st a { w with drawn := w.drawn + 1 } := ⟨hs.tm, hs.tl, ⟨hs.hr.fits, hs.hr.apart, hs.hr.glob⟩, hs.hl, hs.sz, hs.df, hs.dl⟩
      have htm0 : ∀ p ∈ (st.tm.filter fun p => !(dstsOf los).contains p.1), p.1 ∉ dstsOf los := fun p hp => by
        have := (List.mem_filter.1 hp).2
        simpa using this
      have hget : ∀ (l : LTm) i v, (LTm.get? (l.filter fun p => !(dstsOf los).contains p.1) i) = some v → l.get? i = some v := by
        intro l i v hv
        have hi : i ∉ dstsOf los := by
          have := (List.mem_filter.1 (LTm.get?_mem hv)).2
          simpa using this
        induction l with
        | nil => exact hv
        | cons p l ih =>
          obtain ⟨k, u⟩ := p
          rw [List.filter_cons] at hv
          split at hv
          · simp only [LTm.get?] at hv ⊢
            split at hv
            · rename_i he; rw [if_pos he]; exact hv
            · rename_i he; rw [if_neg he]; exact ih hv
          · rename_i hk
            simp only [LTm.get?]
            have hne : k ≠ i := fun e => by subst e; simp [hi] at hk
            rw [if_neg hne]; exact ih hv
      have hl0 : LTm.lt st.nx (st.tm.filter fun p => !(dstsOf los).contains p.1) = true :=
        List.all_eq_true.2 fun p hp => (List.all_eq_true.1 hs.tl) p (List.mem_filter.1 hp).1
      have hdown : DownB ops (Array.replicate ops.size false) := by
        intro k o ho hk
        rw [Array.getD_eq_getD_getElem?, Array.getElem?_replicate] at hk
        split at hk <;> simp at hk
      have key := ld_sound (r := r) (Q := Q) (Ψ := Ψ) (ds := dstsOf los) hsel hdef hw hlos rfl htm0 ops.size (Array.replicate ops.size false) ld hld ι st a _ [] hs' hdown h rfl (fun _ h => (List.not_mem_nil h).elim)
        (fun i v hv => hs.tm i v (hget _ _ _ hv)) hl0 (fun e a' w' hp => hΨ e a' w' (by
          obtain ⟨ae, st', ι', h1, h2, h3, h4, h5⟩ := hp
          exact ⟨ae, st', ι', h1, h2, h3, h4, ⟨h5.le, h5.agree, ⟨h5.kept.os, h5.kept.tape, h5.kept.output, h5.kept.size, h5.kept.block⟩, h5.owns⟩⟩))
      refine Code.wpIn_mono (Q := PanQ (dstsOf los) Ψ) (fun e a' w' hp => ?_) (wpIn_region_any hm (wpAnyIn_of_F _ _ _ _ _ key))
      cases e with
      | panic c => exact hp a' ⟨rfl, rfl, fun _ _ => rfl⟩
      | _ => exact hp
    · cases hres
  · cases hres
end
end Go.Ax
