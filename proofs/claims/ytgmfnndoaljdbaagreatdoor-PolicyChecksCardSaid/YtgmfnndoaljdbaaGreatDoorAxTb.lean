/- Tables of functions, as search trees. -/
import Derived.Test.YtgmfnndoaljdbaaGreatDoorAxCC
import Derived.Test.YtgmfnndoaljdbaaGreatDoorAxLp
set_option linter.all false
namespace Go.Ax
open Go
inductive Tree (α : Type) where
  | nil
  | node (l : Tree α) (k : Nat) (v : α) (r : Tree α)
def Tree.get? {α : Type} : Tree α → Nat → Option α
  | .nil, _ => none
  | .node l k v r, i =>
    match Nat.beq i k with
    | true => some v
    | false => match Nat.blt i k with
      | true => l.get? i
      | false => r.get? i
def Tree.All {α : Type} (p : Nat → α → Prop) : Tree α → Prop
  | .nil => True
  | .node l k v r => p k v ∧ l.All p ∧ r.All p
theorem Tree.get_all {α : Type} {p : Nat → α → Prop} : ∀ {t : Tree α} {i : Nat} {v : α}, t.All p → t.get? i = some v → p i v
  | .nil, _, _, _, h => by cases h
  | .node l k u r, i, v, ha, h => by
    simp only [Tree.get?] at h
    split at h
    · rename_i hb
      simp only [Option.some.injEq] at h; subst h
      have := Nat.eq_of_beq_eq_true hb
      subst this
      exact ha.1
    · split at h
      · exact Tree.get_all ha.2.1 h
      · exact Tree.get_all ha.2.2 h
abbrev Ext := List AV → AHeap → Nat → Option (AEnd × AHeap × Nat)
def ExtOK (P : Program) (f : Nat) (s : Ext) : Prop := ∀ args hp n r, s args hp n = some r → ACalls P f args hp n (Is r)
def tabOf (fn : Tree LFn) (dfn : Tree LFnD) (ext : Tree Ext) : Tab := { fn := fn.get?, dfn := dfn.get?, ext := ext.get? }
theorem tabOf_ok {P : Program} {fn : Tree LFn} {dfn : Tree LFnD} {ext : Tree Ext} (h1 : fn.All fun f lf => resolveFn P f = some lf) (h2 : dfn.All fun f lf => resolveFnD P f = some lf) (h3 : ext.All (ExtOK P)) : TabOK P (tabOf fn dfn ext) :=
  ⟨fun _ _ h => Tree.get_all h1 h, fun _ _ h => Tree.get_all h2 h, fun _ _ h => Tree.get_all h3 h⟩
def isTrue (r : Option (AEnd × AHeap × Nat)) : Bool := match r with
  | some (.ret (.bool true), _, _) => true
  | _ => false
theorem isTrue_spec {r : Option (AEnd × AHeap × Nat)} (h : isTrue r = true) : ∃ hp n, r = some (.ret (.bool true), hp, n) := by
  unfold isTrue at h
  split at h
  · exact ⟨_, _, rfl⟩
  · cases h
/- a closed run to true, over known variables alone, is a call that changes nothing, wherever they lie -/
theorem true_of_run {P : Program} {T : Tab} (hT : TabOK P T) {L k f : Nat} {hp0 : AHeap} {n0 : Nat} (hr : isTrue (callY P T L k (.inl f) [] hp0 n0) = true) (hl0 : hp0.lt n0 = true) (hd : Dense n0 hp0 = true)
    {hp : AHeap} {n : Nat} (σ : Nat → Nat) (hc : Cover σ hp0 hp) : ACalls P f [] hp n (Is (.ret (.bool true), hp, n)) := by
  obtain ⟨hp', n', he⟩ := isTrue_spec hr
  refine ACalls.lower (fun hl _ => ⟨rfl, hl⟩) ?_
  refine ACalls.sub ((calls_of_run hT k he).frame (hp := hp) (n := n) σ hl0 rfl hd hc) ?_
  rintro e h k ⟨e0, h0, k0, hI, _, rfl, rfl, rfl⟩
  injection hI with a b
  injection b with b c
  subst a
  exact ⟨hp, List.sublist_append_right _ _, rfl, rfl⟩
end Go.Ax
