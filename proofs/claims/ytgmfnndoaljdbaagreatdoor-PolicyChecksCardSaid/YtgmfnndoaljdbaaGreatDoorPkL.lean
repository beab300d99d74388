/- What the listed table gives; the law's end. -/
import Derived.Test.YtgmfnndoaljdbaaGreatDoorPkR
import Derived.Test.YtgmfnndoaljdbaaGreatDoorPkW
set_option linter.all false
namespace Go.Proofs.YtgmfnndoaljdbaaGreatDoor
open Go Go.Ax Go.RowKit Go.ChangeShapes Go.WideShapes Go.ChangeAt
set_option maxRecDepth 100000

theorem own : ownKnob Tryz.prog.godebug = none := by kernel_rfl
theorem laidOut : laidOutB Tryz.prog = true := by kernel_rfl
theorem g64 : Tryz.prog.globalNamed "math/bits.deBruijn64tab" = some 3 := by kernel_rfl
theorem t64 : (Tryz.prog.globals[3]?).map (·.type) = some 251 := by kernel_rfl
theorem k251 : Tryz.prog.cellsOf 251 = 64 := by kernel_rfl
def tabB : List UInt8 := [0, 1, 56, 2, 57, 49, 28, 3, 61, 58, 42, 50, 38, 29, 17, 4, 62, 47, 59, 36, 45, 43, 51, 22, 53, 39, 33, 30, 24, 18, 12, 5, 63, 55, 48, 27, 60, 41, 37, 16, 46, 35, 44, 21, 52, 32, 23, 11, 54, 26, 40, 15, 34, 20, 31, 10, 25, 14, 19, 9, 13, 8, 7, 6]
theorem tab_eq : tab64 = byteCellsOf tabB := by rfl
theorem table3 {W : World} (h : laidMetH Tryz.prog Rows.policyChecksRow.laid W) : ∃ c e fz, W.heap[3]? = some (.cells c e fz) ∧ ∀ (ι : Env) j v, tab64[j]? = some v → c[0 + j]? = some (v.conc ι) := by
  rw [MakeChecks.laidMetH_plain _ _ _ (by kernel_rfl)] at h
  obtain ⟨ps, ⟨g0, t0, cs0, f0, p0, q0, _, _, _, _, ⟨g1, t1, cs1, f1, p1, q1, hg1, ht1, hv1, hd1, _, _⟩, _⟩, _, _⟩ := h
  obtain rfl := Option.some.inj (g64.symm.trans hg1)
  obtain rfl := Option.some.inj (t64.symm.trans ht1)
  obtain ⟨s, hs, hc, hx⟩ := open_byteArr Tryz.underlying251 Tryz.underlying5 k5 k251 hd1
  simp only [World.var?, g64, Option.bind_some] at hv1
  split at hv1
  · rename_i c e fz hb
    simp only [Option.some.injEq] at hv1
    subst hv1
    refine ⟨c, e, fz, hb, fun ι j v hv => ?_⟩
    have hs2 : s = tabB := by
      have h1 : (DataW.agg (tabB.map fun b => DataW.lit (.int .u8 b.toNat)) : DataW Unit) = .agg (s.map fun b => .lit (.int .u8 b.toNat)) := Eq.trans (by rfl) hx
      simp only [DataW.agg.injEq] at h1
      have h2 := congrArg (fun l : List (DataW Unit) => l.map fun d => match d with | .lit (.int _ z) => UInt8.ofNat z.toNat | _ => 0) h1
      simpa [List.map_map, Function.comp_def, UInt8.ofNat_toNat] using h2.symm
    subst hs2
    have h3 := hc ι
    rw [← tab_eq] at h3
    rw [Nat.zero_add, ← Array.getElem?_toList, h3, concL_getElem?, hv]; rfl
  · cases hv1

/- the memory of a policy, the table beside it -/
structure PolMem (W : World) (sv1 sv2 : Value) (cs : List Clr) (rs : List Rel) (ι : Env) (hp : AHeap) (c r : AV) : Prop where
  hr : HR ι hp W
  hl : hp.lt 3 = true
  no : hp.all (fun p => !p.2.owned) = true
  hg : AHeap.get? hp 0 = some (.glob 3 0 tab64)
  c1 : c.conc ι = sv1
  c2 : r.conc ι = sv2
  l1 : c.lt 3 = true
  l2 : r.lt 3 = true
  r1 : ARows hp c 21 (cs.map Clr.row)
  r2 : ARows hp r 22 (rs.map Rel.row)
theorem rows_lt0 {rows : List (List AV)} (h : ∀ r ∈ rows, ltL 0 r = true) (n : Nat) : ltL n rows.flatten = true := by
  rw [ltL_eq, List.all_eq_true]
  intro v hv
  obtain ⟨r, hr, hv⟩ := List.mem_flatten.1 hv
  exact AV.lt_mono (Nat.zero_le n) v (ltL_mem (h r hr) hv)
theorem polMem {W : World} {sv1 sv2 : Value} {cs : List Clr} {rs : List Rel} {b1 o1 b2 o2 : Nat} {mk1 mk2 : Nat → AV} (ht : ∃ c e fz, W.heap[3]? = some (.cells c e fz) ∧ ∀ (ι : Env) j v, tab64[j]? = some v → c[0 + j]? = some (v.conc ι))
    (s1 : SlRep W sv1 b1 o1 21 (cs.map Clr.row) mk1) (s2 : SlRep W sv2 b2 o2 22 (rs.map Rel.row) mk2) : ∃ ι hp c r, PolMem W sv1 sv2 cs rs ι hp c r := by
  obtain ⟨c3, e3, fz3, h3, q3⟩ := ht
  obtain ⟨c1, e1, fz1, h1, q1⟩ := s1.heap
  obtain ⟨c2, e2, fz2, h2, q2⟩ := s2.heap
  refine ⟨{ blk := fun i => if i = 0 then 3 else if i = 1 then b1 else b2, cap := fun _ => 0 }, [(0, .glob 3 0 tab64), (1, .ro o1 (cs.map Clr.row).flatten), (2, .ro o2 (rs.map Rel.row).flatten)], mk1 1, mk2 2, ⟨⟨fun i o hm => ?_, ?_, fun i g s cs' hm => ?_⟩, ?_, rfl, rfl, s1.conc _ 1 rfl, s2.conc _ 2 rfl, s1.lt 1 3 (by decide), s2.lt 2 3 (by decide), s1.rows _ 1 rfl, s2.rows _ 2 rfl⟩⟩
  · simp only [List.mem_cons, Prod.mk.injEq, List.mem_nil_iff, or_false] at hm
    rcases hm with ⟨rfl, rfl⟩ | ⟨rfl, rfl⟩ | ⟨rfl, rfl⟩
    · exact ⟨_, h3, c3, e3, fz3, rfl, q3 _⟩
    · exact ⟨_, h1, c1, e1, fz1, rfl, q1 _⟩
    · exact ⟨_, h2, c2, e2, fz2, rfl, q2 _⟩
  · simp [AObj.owned]
  · simp only [List.mem_cons, Prod.mk.injEq, List.mem_nil_iff, or_false, reduceCtorEq, and_false, AObj.glob.injEq] at hm
    obtain ⟨rfl, rfl, _⟩ := hm
    rfl
  · simp only [AHeap.lt, List.all_cons, List.all_nil, AObj.lt, Bool.and_true, Bool.and_eq_true, decide_eq_true_eq]
    exact ⟨⟨by omega, by rw [tab_eq]; exact byteCellsOf_lt _⟩, ⟨by omega, rows_lt0 (fun r hr => (rows_one r hr).2) 3⟩, ⟨by omega, rows_lt0 (fun r hr => (rows_oneR r hr).2) 3⟩⟩
end Go.Proofs.YtgmfnndoaljdbaaGreatDoor
