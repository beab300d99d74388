/- From a row's reading of its arguments to abstract memories, and back. -/
import Derived.Test.YtgmfnndoaljdbaaGreatDoorAxLp
import Derived.ProofKit
import Derived.OpenShut
import Derived.Carry
import Derived.LaidMore
import Derived.Lay
import Derived.SevenTiedAt
import Derived.Stop.Joined
set_option linter.all false
namespace Go.Ax
open Go Go.RowKit Go.ChangeShapes Go.WideShapes
set_option maxRecDepth 20000

/- a list of what there is for each place -/
theorem list_choose {α : Type} {Q : Nat → α → Prop} : ∀ {n : Nat}, (∀ i, i < n → ∃ a, Q i a) → ∃ l : List α, l.length = n ∧ ∀ i (h : i < l.length), Q i l[i]
  | 0, _ => ⟨[], rfl, fun i h => absurd h (by simp)⟩
  | n + 1, h => by
    obtain ⟨l, hl, hq⟩ := list_choose (n := n) fun i hi => h i (by omega)
    obtain ⟨a, ha⟩ := h n (by omega)
    refine ⟨l ++ [a], by simp [hl], fun i hi => ?_⟩
    by_cases he : i < l.length
    · rw [List.getElem_append_left he]; exact hq i he
    · have : i = n := by simp at hi; omega
      subst this
      rw [List.getElem_append_right (by omega)]
      simpa [hl] using ha
theorem flatten_get {es : Nat} (hes : 0 < es) : ∀ {rows : List (List AV)}, (∀ r ∈ rows, r.length = es) → ∀ j, rows.flatten[j]? = (rows[j / es]?).bind fun r => r[j % es]?
  | [], _, j => by simp
  | r :: rows, h, j => by
    have hr := h r (by simp)
    rw [List.flatten_cons, List.getElem?_append]
    split
    · rename_i hj
      rw [hr] at hj
      rw [Nat.div_eq_of_lt hj, Nat.mod_eq_of_lt hj]; rfl
    · rename_i hj
      rw [hr] at hj ⊢
      rw [flatten_get hes (fun x hx => h x (List.mem_cons_of_mem _ hx))]
      have h1 : j / es = (j - es) / es + 1 := by
        rw [← Nat.sub_add_cancel (show es ≤ j by omega), Nat.add_div_right _ hes]; simp
      have h2 : j % es = (j - es) % es := by
        rw [← Nat.sub_add_cancel (show es ≤ j by omega), Nat.add_mod_right]; simp
      rw [h1, h2, List.getElem?_cons_succ]
theorem flatten_row {es : Nat} {rows : List (List AV)} (h : ∀ r ∈ rows, r.length = es) (j : Nat) (hj : j < rows.length) : (rows.flatten.drop (j * es)).take es = rows[j] ∧ j * es + es ≤ rows.flatten.length := by
  induction rows generalizing j with
  | nil => simp at hj
  | cons r rows ih =>
    have hr := h r (by simp)
    cases j with
    | zero =>
      refine ⟨?_, by simp [hr]⟩
      simp only [Nat.zero_mul, List.drop_zero, List.flatten_cons, List.getElem_cons_zero]
      rw [← hr]; simp
    | succ j =>
      obtain ⟨h1, h2⟩ := ih (fun x hx => h x (List.mem_cons_of_mem _ hx)) j (by simpa using hj)
      refine ⟨?_, by simp only [List.flatten_cons, List.length_append, hr, Nat.add_mul, Nat.one_mul]; omega⟩
      simp only [List.flatten_cons, List.getElem_cons_succ]
      rw [show (j + 1) * es = r.length + j * es by rw [hr, Nat.add_mul, Nat.one_mul, Nat.add_comm], List.drop_append, List.drop_of_length_le (by omega)]
      simpa using h1

section
variable {H : Type} {enc : TypeId × Value → H} {P : Program} {w : World} {base : Nat} {spare : Nat → Bool} {held : Bool} {fuel : Nat} {t : TypeId} {cs : List Value} {x : DataW H × List MemPlace}
/- an array of bytes, opened -/
theorem open_byteArr {n : Nat} {e : TypeId} (ht : P.underlying t = some (.array n e)) (he : P.underlying e = some (.int .u8)) (hce : P.cellsOf e = 1) (hct : P.cellsOf t = n) (h : DataW.trod enc P w base spare held fuel t cs = some x) :
    ∃ s : List UInt8, s.length = n ∧ (∀ ι, cs = concL ι (byteCellsOf s)) ∧ x.1 = .agg (s.map fun b => .lit (.int .u8 b.toNat)) := by
  obtain ⟨xs, m, rfl, rfl, hl, hxl, hel⟩ := DataW.trod_array ht h
  rw [hct] at hl
  have key : ∀ i, i < n → ∃ b : UInt8, cs[i]? = some (.int .u8 b.toNat) ∧ xs[i]? = some (.lit (.int .u8 b.toNat), []) := by
    intro i hi
    have h1 := hel i hi
    rw [List.getElem?_eq_getElem (by omega)] at h1
    obtain ⟨z, e1, e2, e3⟩ := DataW.trod_int he h1
    have hz : IntKind.u8.min ≤ z ∧ z ≤ IntKind.u8.max := by simpa [Lit.wf] using e3
    have hz : 0 ≤ z ∧ z < 256 := by simp [IntKind.min, IntKind.max, IntKind.signed, IntKind.bits] at hz; omega
    have e4 := u8_roundtrip hz
    refine ⟨UInt8.ofNat z.toNat, ?_, ?_⟩
    · rw [e4]
      rw [hce, Nat.mul_one] at e1
      have := congrArg (fun l : List Value => l[0]?) e1
      simpa [List.getElem?_take, List.getElem?_drop] using this
    · rw [e4, List.getElem?_eq_getElem (by omega), e2]
  obtain ⟨s, hs, hq⟩ := list_choose key
  refine ⟨s, hs, fun ι => ?_, ?_⟩
  · apply List.ext_getElem?
    intro i
    rw [concL_getElem?]
    by_cases hi : i < s.length
    · rw [(hq i hi).1]; simp [byteCellsOf, List.getElem?_eq_getElem hi, AV.conc]
    · rw [List.getElem?_eq_none (by omega), List.getElem?_eq_none (by simpa [byteCellsOf] using hi)]; rfl
  · simp only [DataW.agg.injEq]
    apply List.ext_getElem?
    intro i
    rw [List.getElem?_map, List.getElem?_map]
    by_cases hi : i < s.length
    · rw [(hq i hi).2, List.getElem?_eq_getElem hi]; rfl
    · rw [List.getElem?_eq_none (by omega), List.getElem?_eq_none (by omega)]; rfl

/- how a slice lies in memory -/
structure SlRep (w : World) (sv : Value) (b off es : Nat) (rows : List (List AV)) (mk : Nat → AV) : Prop where
  heap : ∃ c e fz, w.heap[b]? = some (.cells c e fz) ∧ ∀ ι j v, rows.flatten[j]? = some v → c[off + j]? = some (v.conc ι)
  conc : ∀ ι : Env, ∀ i, ι.blk i = b → (mk i).conc ι = sv
  lt : ∀ i n, i < n → (mk i).lt n = true
  rows : ∀ hp i, AHeap.get? hp i = some (.ro off rows.flatten) → ARows hp (mk i) es rows

theorem open_rows {α : Type} {row : α → List AV} {ok : α → Prop} {e : TypeId} {es b0 : Nat} (ht : P.underlying t = some (.slice e)) (hce : P.cellsOf e = es) (hes : 0 < es) {sv : Value} (hval : Cell.okWide P w .any 0 t sv)
    (hrow : ∀ a, ok a → (row a).length = es) (helem : ∀ fuel cs x, DataW.trod enc P w base spare held fuel e cs = some x → ∃ a : α, ok a ∧ ∀ ι, cs = concL ι (row a))
    (hb0 : ∃ c e fz, w.heap[b0]? = some (.cells c e fz)) (h : DataW.trod enc P w base spare held fuel t [sv] = some x) :
    ∃ (l : List α) (b off : Nat) (mk : Nat → AV), (∀ a ∈ l, ok a) ∧ SlRep w sv b off es (l.map row) mk := by
  rcases DataW.trod_slice ht h with ⟨h0, _⟩ | ⟨a, len, cap, elems, rest, n, rfl, hcs, _, _, _, _, hlen, hel, _, _⟩
  · simp only [List.cons.injEq, and_true] at h0
    subst h0
    obtain ⟨c, e', fz, hc⟩ := hb0
    refine ⟨[], b0, 0, fun _ => .nilslice, by simp, ⟨⟨c, e', fz, hc, fun ι j v hv => by simp at hv⟩, fun _ _ _ => rfl, fun _ _ _ => rfl, fun hp i hg => .inl ⟨rfl, rfl⟩⟩⟩
  · simp only [List.cons.injEq, and_true] at hcs
    subst hcs
    have hok : w.has P .any 0 a e cap := by
      unfold Cell.okWide at hval
      rw [ht] at hval
      unfold Cell.ok at hval
      simp only [ht] at hval
      exact hval.2.2
    obtain ⟨_, hspot, rw0, cells, hsh, _⟩ := hok
    obtain ⟨ab, ao, asp⟩ := a
    simp only at hspot hsh
    subst hspot
    obtain ⟨c, e', fz, hc⟩ : ∃ c e fz, w.heap[ab]? = some (.cells c e fz) := by
      unfold World.shape? at hsh
      split at hsh
      · rename_i hx; exact ⟨_, _, _, hx⟩
      · cases hsh
    have key : ∀ i, i < len → ∃ x : α, ok x ∧ ∀ ι, w.cells? base (Addr.add ⟨ab, ao, none⟩ (i * es)) es = some (concL ι (row x)) := by
      intro i hi
      have h1 := hel i hi
      rw [hce, List.getElem?_eq_getElem (by omega), Option.bind_eq_some_iff] at h1
      obtain ⟨cs', h2, h3⟩ := h1
      obtain ⟨x, hx, hq⟩ := helem _ _ _ h3
      exact ⟨x, hx, fun ι => by rw [← hq ι]; exact h2⟩
    obtain ⟨l, hl, hq⟩ := list_choose key
    have hlen' : ∀ r ∈ l.map row, r.length = es := by
      intro r hr
      obtain ⟨x, hx, rfl⟩ := List.mem_map.1 hr
      obtain ⟨i, hi, rfl⟩ := List.getElem_of_mem hx
      exact hrow _ (hq i hi).1
    refine ⟨l, ab, ao, fun i => .slice i ao len (.exact cap), ?_, ⟨⟨c, e', fz, hc, ?_⟩, fun ι i hi => by simp [AV.conc, hi, ACap.val], fun i n hi => by simp [AV.lt, ACap.lt, hi], fun hp i hg => .inr ⟨i, ao, .exact cap, by simp [hl], fun j hj => ?_⟩⟩⟩
    · intro a ha
      obtain ⟨i, hi, rfl⟩ := List.getElem_of_mem ha
      exact (hq i hi).1
    · intro ι j v hv
      rw [flatten_get hes hlen' j, Option.bind_eq_some_iff] at hv
      obtain ⟨r, hr, hv⟩ := hv
      rw [List.getElem?_map, Option.map_eq_some_iff] at hr
      obtain ⟨x, hx, rfl⟩ := hr
      obtain ⟨hi, rfl⟩ := List.getElem?_eq_some_iff.1 hx
      have h1 := (hq _ hi).2 ι
      have hlt : j % es < es := Nat.mod_lt _ hes
      have h2 := (World.cells?_some h1).2.2 (j % es) (by simpa [hrow _ (hq _ hi).1] using hlt)
      rw [concL_getElem?, hv] at h2
      rw [add_none, add_none] at h2
      simp only [World.cell?, hc, Option.isSome_none, Bool.false_eq_true, if_false, Option.map_some] at h2
      have : ao + j / es * es + j % es = ao + j := by rw [Nat.add_assoc, Nat.mul_comm, Nat.div_add_mod]
      rw [this] at h2
      exact h2
    · have h1 := flatten_row hlen' j hj
      refine ⟨hlen' _ (List.getElem_mem hj), ?_⟩
      simp only [AHeap.cells?, hg]
      have h2 : ao + j * es - ao = j * es := by omega
      rw [if_pos ⟨by omega, by rw [h2]; exact h1.2⟩, h2, h1.1]
end

/- A CALL'S CONTRACT AS THE MACHINE'S -/
theorem calls_of_acalls {P : Program} {f : FuncId} {args : List AV} {hp h1 : AHeap} {n n1 : Nat} {r : AV} (hent : Enters P f) (h : ACalls P f args hp n (Is (.ret r, h1, n1))) (hl : hp.lt n = true) (ha : ltL n args = true)
    (hno : hp.all (fun p => !p.2.owned) = true) {ι : Env} {w : World} (hr : HR ι hp w) : Calls P f (concL ι args).toArray w fun e w' => (∃ ι', e = .returned (r.conc ι')) ∧ Below w.heap.size w w' := by
  have key : ∀ e w', CPost (Is (.ret r, h1, n1)) ι hp n w e w' → (∃ ι', e = .returned (r.conc ι')) ∧ Below w.heap.size w w' := by
    rintro e w' ⟨ae, hp', n', ι', rfl, hI, _, _, _, hst⟩
    injection hI with a _
    subst a
    refine ⟨⟨ι', rfl⟩, hst.kept.os, hst.kept.tape, hst.kept.output, hst.kept.size, fun k hk => hst.kept.block k hk ?_⟩
    rintro ⟨i, o, hm, ho, _⟩
    have := (List.all_eq_true.1 hno) _ hm
    simp [ho] at this
  rcases h hl ha ι w hr with ⟨_, hc⟩ | ⟨v, w', hv, _⟩
  · exact hc.mono key
  · rw [hent.run] at hv; cases hv

/- THE POST OF A LAW -/
theorem below_trodAll {H : Type} {enc : TypeId × Value → H} {P : Program} (hl : laidOutB P = true) {W W' : World} (hb : Below W.heap.size W W') : ∀ {ts : List TypeId} {vs : List Value} {ds : List (DataW H)} {ps : List MemPlace},
    ts.all (fun t => P.readableRec t && decide (t < P.types.size)) = true → DataW.TrodAll enc P W 0 (fun _ => true) true ts vs ds ps → DataW.TrodAll enc P W' 0 (fun b => decide (b < W.heap.size)) true ts vs ds ps
  | [], [], [], _, _, h => h
  | t :: ts, v :: vs, d :: ds, ps, ht, h => by
    have hlt := DataW.TrodAll.lt h
    obtain ⟨p, q, h1, h2, rfl⟩ := h
    simp only [List.all_cons, Bool.and_eq_true, decide_eq_true_eq] at ht
    exact ⟨p, q, Below.trod hl ht.1.1 ht.1.2 h1 hb (fun x hx => hlt x (List.mem_append_left _ hx)), below_trodAll hl hb ht.2 h2, rfl⟩
theorem law_post {H : Type} {enc : TypeId × Value → H} {P : Program} {fn : Func} {s : ChangeSpec} {W W' : World} {args : Array Value} {ds : List (DataW H)} {before : List MemPlace} {bt : TypeId} (hl : laidOutB P = true)
    (hp : fn.params.toList.all (fun t => P.readableRec t && decide (t < P.types.size)) = true) (hv : s.vars = []) (hW : DataW.Whole enc P fn.params.toList s.vars false W args.toList ds [] before) (hb : Below W.heap.size W W')
    (hfn : s.fn H (ds ++ []) = { results := [.lit (.bool true)], args := ds }) (hres : fn.resultTypes = #[bt]) (hbool : P.underlying bt = some .bool) : s.post enc P fn false true false false W args (.bool true) W' := by
  have hW' := hW
  obtain ⟨p, q, hA, hV, rfl, _, _⟩ := hW
  refine ⟨ds, [], _, [], p, [], hW', ?_, ?_, ?_, Below.frame hb _, fun h => by cases h⟩
  · rw [hfn, hres]; exact trodAll_mk1 (shut_bool hbool _)
  · rw [hfn]; exact below_trodAll hl hb hp hA
  · rw [hfn, hv]; rfl
end Go.Ax
