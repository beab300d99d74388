/- Regions that draw their order: one walk, in an order in which what can be done early is done early, serves every order. -/
import Derived.Test.YtgmfnndoaljdbaaGreatDoorAxO
set_option linter.all false
namespace Go.Ax
open Go
set_option maxRecDepth 20000

/- what waits for what, through others -/
def DownB (ops : Array Oper) (listed : Array Bool) : Prop :=
  ∀ k o, ops[k]? = some o → listed.getD k false = true → ∀ e ∈ o.after, Region.binds .any e = true → listed.getD e.on false = true
def Must (ops : Array Oper) (t : WTbl) (j : Nat) : Prop :=
  ∀ i ∈ t.of j, ∀ listed, DownB ops listed → ∀ o, ops[j]? = some o → (∀ e ∈ o.after, Region.binds .any e = true → listed.getD e.on false = true) → listed.getD i false = true
theorem must_of {ops : Array Oper} {t : WTbl} (h : waitsOK ops t = true) : ∀ j, Must ops t j := by
  intro j
  induction j using Nat.strongRecOn with
  | _ j ih =>
    intro i hi listed hd o ho hall
    have hj : j < ops.size := (Array.getElem?_eq_some_iff.1 ho).1
    have := (List.all_eq_true.1 h) j (List.mem_range.2 hj)
    simp only [ho] at this
    have := (List.all_eq_true.1 this) i hi
    rw [Array.any_eq_true] at this
    obtain ⟨x, hx, he⟩ := this
    simp only [Bool.and_eq_true, Bool.or_eq_true, beq_iff_eq, decide_eq_true_eq, List.contains_iff_mem] at he
    have hmem : o.after[x] ∈ o.after := Array.getElem_mem hx
    have hon := hall _ hmem he.1
    rcases he.2 with h1 | ⟨h1, h2⟩
    · rw [← h1]; exact hon
    · have hs : o.after[x].on < ops.size := by omega
      exact ih _ h1 i h2 listed hd _ (Array.getElem?_eq_getElem hs) (hd _ _ (Array.getElem?_eq_getElem hs) hon)

theorem down_set {ops : Array Oper} {listed : Array Bool} (hd : DownB ops listed) {j : Nat} (hj : j ∈ Region.ready .any ops listed) : DownB ops (listed.setIfInBounds j true) := by
  intro k o ho hk e he hb
  obtain ⟨_, oj, hoj, hall⟩ := mem_ready.1 hj
  by_cases hkj : k = j
  · subst hkj
    rw [ho] at hoj; cases hoj
    exact getD_set_true (hall e he hb)
  · refine getD_set_true (hd k o ho ?_ e he hb)
    rwa [getD_set_ne false (Ne.symm hkj)] at hk

abbrev Facts := List (Nat × (World → Prop))
def Facts.Hold (fs : Facts) (w : World) : Prop := ∀ f ∈ fs, f.2 w
def Facts.drop (ws : List Nat) (fs : Facts) : Facts := fs.filter fun f => !ws.contains f.1

section
variable {r : Option Nat} {P : Program} {ops : Array Oper} {Ψ : Exit → Act → World → Prop} {t : WTbl}

def wpAnyF (r : Option Nat) (P : Program) (ops : Array Oper) (t : WTbl) (Ψ : Exit → Act → World → Prop) : Nat → Array Bool → Facts → Act → World → Prop
  | 0, listed, _, a, w => Region.ready .any ops listed = [] ∧ Ψ .normal a w
  | fuel + 1, listed, fs, a, w =>
    (Region.ready .any ops listed = [] → Ψ .normal a w) ∧
    ∀ i ∈ Region.ready .any ops listed, wpOpIn (Fw r) 0 P ops Ψ i (fun a' w' => (fs.drop (t.of i)).Hold w' ∧ wpAnyF r P ops t Ψ fuel (listed.setIfInBounds i true) (fs.drop (t.of i)) a' w') a w

theorem wpAnyIn_of_F : ∀ (fuel : Nat) (listed : Array Bool) (fs : Facts) (a : Act) (w : World), wpAnyF r P ops t Ψ fuel listed fs a w → wpAnyIn (Fw r) 0 P .any ops Ψ fuel listed a w
  | 0, _, _, _, _, h => h
  | fuel + 1, _, _, _, _, h => ⟨h.1, fun i hi => wpOpIn_mono (fun a' w' h' => wpAnyIn_of_F fuel _ _ a' w' h'.2) (h.2 i hi)⟩

theorem drop_cons_ne {ws : List Nat} {i : Nat} {p : World → Prop} {fs : Facts} (h : i ∉ ws) : Facts.drop ws ((i, p) :: fs) = (i, p) :: Facts.drop ws fs := by
  unfold Facts.drop
  rw [List.filter_cons]
  simp [h]
theorem Facts.Hold.drop {fs : Facts} {w : World} (h : fs.Hold w) (ws : List Nat) : (fs.drop ws).Hold w :=
  fun f hf => h f (List.mem_filter.1 hf).1

theorem wpOpIn_putF {j : Nat} {oi oj : Oper} {v : Value} {p : World → Prop} (hj : ops[j]? = some oj) (hap : oi.apart ops oj = true)
    (hsi : ∀ cs b, oi.op ≠ .select cs b) (hsj : ∀ cs b, oj.op ≠ .select cs b) (hdj : ∀ c, oj.op ≠ .defer c)
    (hQ : ∀ c a w, Ψ (.panic c) (a.put oi.dst v) w → Ψ (.panic c) a w) {K : Act → World → Prop} {a : Act} {w : World}
    (hy : YieldsIf P ops p oi v a) (h : wpOpIn (Fw r) 0 P ops Ψ j K (a.put oi.dst v) w) :
    wpOpIn (Fw r) 0 P ops Ψ j (fun a' w' => YieldsIf P ops p oi v a' ∧ K (a'.put oi.dst v) w') a w := by
  obtain ⟨h1, h2, h3⟩ := Oper.apart_spec hap
  have keep : ∀ (a : Act), YieldsIf P ops p oi v a → ∀ u, YieldsIf P ops p oi v (a.put oj.dst u) := fun a hy u =>
    hy.of_same (execOp_put oi hsi a oj.dst u h3) (wanted_put oi a oj.dst u h3)
  have keepD : ∀ d, YieldsIf P ops p oi v { a with defers := d :: a.defers } := fun d => hy.of_same rfl rfl
  unfold wpOpIn at *
  simp only [hj] at *
  rw [wanted_put oj a oi.dst v h1, about_put oj w a oi.dst v h1] at h
  split
  · rename_i hw
    simp only [hw, if_true] at h
    unfold Oper.wpIn at *
    rw [about_put oj w a oi.dst v h1] at h
    refine ⟨h.1, ?_⟩
    have h := h.2
    rw [Oper.semAt_eq _ _ _ hdj, execOp_put oj hsj a oi.dst v h1] at h
    rw [Oper.semAt_eq _ _ _ hdj]
    generalize (execOp a.eval oj).run P w = r at *
    cases r with
    | ok x w' =>
      cases x <;> simp only [Oper.uponIn] at h ⊢
      case value u => exact ⟨keep a hy u, by rw [← Act.put_comm a v u h2]; exact h⟩
      case skip => exact ⟨keep a hy _, by rw [← Act.put_comm a v undef h2]; exact h⟩
      case defer d =>
        refine ⟨keep _ (keepD d) _, ?_⟩
        rw [← Act.put_comm _ v undef h2, ← Act.put_defers]
        exact h
      case enter f args =>
        refine ⟨h.1, CallsIn.mono h.2 fun e w'' he => ?_⟩
        cases e with
        | returned u => exact ⟨keep a hy u, by rw [← Act.put_comm a v u h2]; exact he⟩
        | panicked c => exact hQ _ _ _ he
        | outgrown => exact he
      case row row args => exact ⟨h.1, RowsIn.mono h.2 fun u w'' he => ⟨keep a hy u, by rw [← Act.put_comm a v u h2]; exact he⟩⟩
      case round l f tmps assign body =>
        refine ⟨h.1, RoundIn.mono h.2 fun e w'' he => ?_⟩
        cases e with
        | returned u => exact ⟨keep a hy u, by rw [← Act.put_comm a v u h2]; exact he⟩
        | panicked c => exact hQ _ _ _ he
        | outgrown => exact he
    | halt x w' =>
      cases x <;> simp only [Oper.uponIn] at h ⊢
      case panic u => exact hQ _ _ _ h
  · rename_i hw
    simp only [hw] at h
    exact ⟨h.1, keep a hy _, by rw [← Act.put_comm a v undef h2]; exact h.2⟩

theorem YieldsIf.wpOpInF {i : Nat} {o : Oper} {v : Value} {p : World → Prop} {a : Act} (hi : ops[i]? = some o) (hd : ∀ c, o.op ≠ .defer c) (hy : YieldsIf P ops p o v a)
    {K : Act → World → Prop} {w : World} (hp : p w) (h : K (a.put o.dst v) w) : wpOpIn (Fw r) 0 P ops Ψ i K a w := by
  unfold Go.wpOpIn
  simp only [hi]
  rcases hy with ⟨hw, hv⟩ | ⟨hw, rfl⟩
  · simp only [hw, if_true, Oper.wpIn, Oper.semAt_eq _ _ _ hd, hv w hp, Oper.uponIn]; exact ⟨fun _ _ => trivial, h⟩
  · simp only [hw, Bool.false_eq_true, if_false]; exact ⟨fun _ _ => trivial, h⟩

theorem wpAnyF_first {i : Nat} {oi : Oper} {v : Value} {p : World → Prop} (hi : ops[i]? = some oi) (hsel : ∀ (j : Nat) (o : Oper) cs b, ops[j]? = some o → o.op ≠ .select cs b)
    (hdef : ∀ (j : Nat) (o : Oper) c, ops[j]? = some o → o.op ≠ .defer c) (hmust : ∀ j, Must ops t j)
    (hQ : ∀ c a w, Ψ (.panic c) (a.put oi.dst v) w → Ψ (.panic c) a w) :
    ∀ (fuel : Nat) (listed : Array Bool) (fs : Facts) (a : Act) (w : World), DownB ops listed →
      (∀ j oj, ops[j]? = some oj → j ≠ i → listed.getD j true = false → (∀ e ∈ oj.after, Region.binds .any e = true → e.on ≠ i) → oi.apart ops oj = true) →
      i ∈ Region.ready .any ops listed → YieldsIf P ops p oi v a → p w → fs.Hold w →
      wpAnyF r P ops t Ψ fuel (listed.setIfInBounds i true) ((i, p) :: fs) (a.put oi.dst v) w → wpAnyF r P ops t Ψ (fuel + 1) listed fs a w := by
  have weak : ∀ (fuel : Nat) (listed : Array Bool) (f : Nat × (World → Prop)) (fs : Facts) (a : Act) (w : World), wpAnyF r P ops t Ψ fuel listed (f :: fs) a w → wpAnyF r P ops t Ψ fuel listed fs a w := by
    intro fuel
    induction fuel with
    | zero => intro listed f fs a w h; exact h
    | succ fuel ih =>
      intro listed f fs a w h
      refine ⟨h.1, fun j hj => wpOpIn_mono (fun a' w' h' => ?_) (h.2 j hj)⟩
      unfold Facts.drop at h' ⊢
      rw [List.filter_cons] at h'
      split at h'
      · exact ⟨fun g hg => h'.1 g (List.mem_cons_of_mem _ hg), ih _ _ _ _ _ h'.2⟩
      · exact h'
  intro fuel
  induction fuel with
  | zero =>
    intro listed fs a w _ _ hr hy hp hfs H
    refine ⟨fun h => (by rw [h] at hr; cases hr), fun j hj => ?_⟩
    by_cases hji : j = i
    · subst hji; exact YieldsIf.wpOpInF hi (fun c => hdef _ _ c hi) hy hp ⟨hfs.drop _, H⟩
    · have := ready_mono hj hji
      rw [H.1] at this
      cases this
  | succ fuel ih =>
    intro listed fs a w hdown hfree hr hy hp hfs H
    refine ⟨fun h => (by rw [h] at hr; cases hr), fun j hj => ?_⟩
    by_cases hji : j = i
    · subst hji
      refine YieldsIf.wpOpInF hi (fun c => hdef _ _ c hi) hy hp ⟨hfs.drop _, ?_⟩
      -- forget what j waits for
      have H' := weak _ _ _ _ _ _ H
      have mono : ∀ (fuel : Nat) (listed : Array Bool) (fs gs : Facts) (a : Act) (w : World), gs.Sublist fs → wpAnyF r P ops t Ψ fuel listed fs a w → wpAnyF r P ops t Ψ fuel listed gs a w := by
        intro fuel
        induction fuel with
        | zero => intro listed fs gs a w _ h; exact h
        | succ fuel ih2 =>
          intro listed fs gs a w hs h
          refine ⟨h.1, fun j hj => wpOpIn_mono (fun a' w' h' => ?_) (h.2 j hj)⟩
          have hs' : (gs.drop (t.of j)).Sublist (fs.drop (t.of j)) := hs.filter _
          exact ⟨fun g hg => h'.1 g (hs'.subset hg), ih2 _ _ _ _ _ hs' h'.2⟩
      exact mono _ _ _ _ _ _ List.filter_sublist H'
    · have h1 := H.2 j (ready_mono hj hji)
      obtain ⟨hjun, oj, hoj, hall⟩ := mem_ready.1 hj
      have hiun : listed.getD i false = false := by
        have h0 := (mem_ready.1 hr).1
        rcases Nat.lt_or_ge i listed.size with h' | h'
        · simp [h'] at h0 ⊢; exact h0
        · simp [Array.getElem?_eq_none h']
      have hnw : i ∉ t.of j := fun hm => by
        have := hmust j i hm listed hdown oj hoj hall
        rw [hiun] at this; cases this
      have hnot : ∀ e ∈ oj.after, Region.binds .any e = true → e.on ≠ i := fun e he hb heq => by
        have h1 := hall e he hb
        rw [heq, hiun] at h1; cases h1
      rw [drop_cons_ne hnw] at h1
      have h2 := wpOpIn_putF hoj (hfree j oj hoj hji hjun hnot) (fun cs b => hsel i oi cs b hi) (fun cs b => hsel j oj cs b hoj) (fun c => hdef j oj c hoj) hQ hy h1
      have hfree' : ∀ k ok, ops[k]? = some ok → k ≠ i → (listed.setIfInBounds j true).getD k true = false →
          (∀ e ∈ ok.after, Region.binds .any e = true → e.on ≠ i) → oi.apart ops ok = true := fun k ok hk hki hun hno => by
        refine hfree k ok hk hki ?_ hno
        by_cases hjk : j = k
        · subst hjk; exact hjun
        · rw [getD_set_ne true hjk] at hun; exact hun
      refine wpOpIn_mono (fun a' w' h3 => ?_) h2
      obtain ⟨hy', hhold, hrest⟩ := h3
      have hp' : p w' := hhold _ List.mem_cons_self
      have hfs' : (fs.drop (t.of j)).Hold w' := fun g hg => hhold g (List.mem_cons_of_mem _ hg)
      refine ⟨hfs', ih (listed.setIfInBounds j true) _ a' w' (down_set hdown hj) hfree' (ready_mono hr (Ne.symm hji)) hy' hp' hfs' ?_⟩
      rw [Array.setIfInBounds_comm _ _ hji]
      exact hrest

theorem wpAnyF_done {listed : Array Bool} {fs : Facts} {a : Act} {w : World} (hr : Region.ready .any ops listed = []) (h : Ψ .normal a w) :
    ∀ fuel, wpAnyF r P ops t Ψ fuel listed fs a w
  | 0 => ⟨hr, h⟩
  | _ + 1 => ⟨fun _ => h, by rw [hr]; simp⟩
end
end Go.Ax
