/- The row's arguments as abstract values. -/
import Derived.Test.YtgmfnndoaljdbaaGreatDoorAxRow
import Derived.Test.YtgmfnndoaljdbaaGreatDoorPkD
import Derived.Test.YtgmfnndoaljdbaaGreatDoorTie
import Derived.Test.YtgmfnndoaljdbaaGreatDoorCards
set_option linter.all false
namespace Go.Proofs.YtgmfnndoaljdbaaGreatDoor
open Go Go.Ax Go.RowKit Go.ChangeShapes Go.WideShapes Go.ChangeAt
set_option maxRecDepth 100000

theorem k5 : Tryz.prog.cellsOf 5 = 1 := by kernel_rfl
theorem k23 : Tryz.prog.cellsOf 23 = 1 := by kernel_rfl
theorem k24 : Tryz.prog.cellsOf 24 = 1 := by kernel_rfl
theorem k25 : Tryz.prog.cellsOf 25 = 1 := by kernel_rfl
theorem k27 : Tryz.prog.cellsOf 27 = 3 := by kernel_rfl
theorem k29 : Tryz.prog.cellsOf 29 = 20 := by kernel_rfl
theorem k30 : Tryz.prog.cellsOf 30 = 1 := by kernel_rfl
theorem k65 : Tryz.prog.cellsOf 65 = 21 := by kernel_rfl
theorem k67 : Tryz.prog.cellsOf 67 = 22 := by kernel_rfl
theorem ct27 : Tryz.prog.cellTypes Tryz.prog.depth 27 = some [23, 24, 25] := by kernel_rfl
theorem wf_u64 {z : Int} (h : (Lit.int .u64 z).wf = true) : ∃ k : Nat, z = k ∧ k < 18446744073709551616 := by
  have hz : IntKind.u64.min ≤ z ∧ z ≤ IntKind.u64.max := by simpa [Lit.wf] using h
  simp [IntKind.min, IntKind.max, IntKind.signed, IntKind.bits] at hz
  exact ⟨z.toNat, by omega, by omega⟩
theorem wf_u32 {z : Int} (h : (Lit.int .u32 z).wf = true) : ∃ k : Nat, z = k ∧ k < 4294967296 := by
  have hz : IntKind.u32.min ≤ z ∧ z ≤ IntKind.u32.max := by simpa [Lit.wf] using h
  simp [IntKind.min, IntKind.max, IntKind.signed, IntKind.bits] at hz
  exact ⟨z.toNat, by omega, by omega⟩

section
variable {H : Type} {enc : TypeId × Value → H} {w : World} {base : Nat} {spare : Nat → Bool} {held : Bool}
theorem open_clr {fuel : Nat} {cs : List Value} {x : DataW H × List MemPlace} (h : DataW.trod enc Tryz.prog w base spare held fuel 65 cs = some x) : ∃ c : Clr, c.Ok ∧ ∀ ι, cs = concL ι c.row := by
  obtain ⟨xs, n, rfl, _, hl, hxl, hel⟩ := DataW.trod_struct Tryz.underlying65 h
  rw [k65] at hl
  have h0 : DataW.trod enc Tryz.prog w base spare held n 29 ((cs.drop 0).take (Tryz.prog.cellsOf 29)) = xs[0]? := hel 0 _ rfl
  have h1 : DataW.trod enc Tryz.prog w base spare held n 23 ((cs.drop 20).take (Tryz.prog.cellsOf 23)) = xs[1]? := hel 1 _ rfl
  simp only [k29, k23, List.drop_zero] at h0 h1
  have hx : xs.length = 2 := hxl
  rw [List.getElem?_eq_getElem (by omega)] at h0 h1
  obtain ⟨s, hs, hc, _⟩ := open_byteArr Tryz.underlying29 Tryz.underlying5 k5 k29 h0
  obtain ⟨z, e1, _, e3⟩ := DataW.trod_int Tryz.underlying23 h1
  obtain ⟨k, rfl, hk⟩ := wf_u64 e3
  rw [List.take_of_length_le (by simp [hl])] at e1
  refine ⟨⟨s, k⟩, ⟨hs, hk⟩, fun ι => ?_⟩
  rw [← List.take_append_drop 20 cs, e1, hc ι, Clr.row, concL_append]
  rfl
theorem open_rel {fuel : Nat} {cs : List Value} {x : DataW H × List MemPlace} (h : DataW.trod enc Tryz.prog w base spare held fuel 67 cs = some x) : ∃ c : Rel, c.Ok ∧ ∀ ι, cs = concL ι c.row := by
  obtain ⟨xs, n, rfl, _, hl, hxl, hel⟩ := DataW.trod_struct Tryz.underlying67 h
  rw [k67] at hl
  have h0 : DataW.trod enc Tryz.prog w base spare held n 29 ((cs.drop 0).take (Tryz.prog.cellsOf 29)) = xs[0]? := hel 0 _ rfl
  have h1 : DataW.trod enc Tryz.prog w base spare held n 30 ((cs.drop 20).take (Tryz.prog.cellsOf 30)) = xs[1]? := hel 1 _ rfl
  have h2 : DataW.trod enc Tryz.prog w base spare held n 23 ((cs.drop 21).take (Tryz.prog.cellsOf 23)) = xs[2]? := hel 2 _ rfl
  simp only [k29, k23, k30, List.drop_zero] at h0 h1 h2
  have hx : xs.length = 3 := hxl
  rw [List.getElem?_eq_getElem (by omega)] at h0 h1 h2
  obtain ⟨s, hs, hc, _⟩ := open_byteArr Tryz.underlying29 Tryz.underlying5 k5 k29 h0
  obtain ⟨z, e1, _, e3⟩ := DataW.trod_int Tryz.underlying30 h1
  obtain ⟨z', f1, _, f3⟩ := DataW.trod_int Tryz.underlying23 h2
  obtain ⟨k, rfl, hk⟩ := wf_u32 e3
  obtain ⟨k', rfl, hk'⟩ := wf_u64 f3
  rw [List.take_of_length_le (by simp [hl])] at f1
  refine ⟨⟨s, k, k'⟩, ⟨hs, hk, hk'⟩, fun ι => ?_⟩
  have hd : cs.drop 20 = [.int .u32 k, .int .u64 k'] := by
    rw [← List.take_append_drop 1 (cs.drop 20), e1, List.drop_drop, f1]; rfl
  rw [← List.take_append_drop 20 cs, hd, hc ι, Rel.row, concL_append]
  rfl
/- a policy -/
theorem open_pol {b0 : Nat} {v : Value} {d : DataW H} {ps : List MemPlace} (hval : Value.okWide Tryz.prog w .any 0 27 v) (h : DataW.Trod enc Tryz.prog w base spare held 27 v d ps) (hb0 : ∃ c e fz, w.heap[b0]? = some (.cells c e fz)) :
    ∃ (dl : Nat) (sv1 sv2 : Value) (cs : List Clr) (rs : List Rel) (b1 o1 b2 o2 : Nat) (mk1 mk2 : Nat → AV), dl < 18446744073709551616 ∧ v = .agg #[.int .u64 dl, sv1, sv2] ∧ (∀ x ∈ cs, x.Ok) ∧ (∀ x ∈ rs, x.Ok) ∧
      SlRep w sv1 b1 o1 21 (cs.map Clr.row) mk1 ∧ SlRep w sv2 b2 o2 22 (rs.map Rel.row) mk2 := by
  obtain ⟨fuel, hf⟩ := h
  unfold Value.okWide at hval
  rw [Tryz.underlying27] at hval
  obtain ⟨vs, rfl, hsz, ts, hts, _, hcell⟩ := hval
  rw [ct27, Option.some.injEq] at hts
  subst hts
  rw [k27] at hsz
  obtain ⟨l⟩ := vs
  simp only [List.size_toArray] at hsz
  match l, hsz with
  | [v0, v1, v2], _ =>
    obtain ⟨xs, n, rfl, _, _, hxl, hel⟩ := DataW.trod_struct Tryz.underlying27 hf
    have h0 : DataW.trod enc Tryz.prog w base spare held n 23 (([v0, v1, v2].drop 0).take (Tryz.prog.cellsOf 23)) = xs[0]? := hel 0 _ rfl
    have h1 : DataW.trod enc Tryz.prog w base spare held n 24 (([v0, v1, v2].drop 1).take (Tryz.prog.cellsOf 24)) = xs[1]? := hel 1 _ rfl
    have h2 : DataW.trod enc Tryz.prog w base spare held n 25 (([v0, v1, v2].drop 2).take (Tryz.prog.cellsOf 25)) = xs[2]? := hel 2 _ rfl
    have hx : xs.length = 3 := hxl
    simp only [k23, k24, k25, List.drop_zero, List.drop_succ_cons, List.take_succ_cons, List.take_zero] at h0 h1 h2
    rw [List.getElem?_eq_getElem (by omega)] at h0 h1 h2
    obtain ⟨z, e1, _, e3⟩ := DataW.trod_int Tryz.underlying23 h0
    obtain ⟨k, rfl, hk⟩ := wf_u64 e3
    have hv0 : v0 = .int .u64 k := by simpa using e1
    subst hv0
    obtain ⟨u1, hu1, c1⟩ := hcell 1 v1 rfl
    obtain ⟨u2, hu2, c2⟩ := hcell 2 v2 rfl
    have hu1 : 24 = u1 := by simpa using hu1
    have hu2 : 25 = u2 := by simpa using hu2
    subst hu1; subst hu2
    obtain ⟨cs, b1, o1, mk1, ok1, r1⟩ := open_rows (row := Clr.row) (ok := Clr.Ok) Tryz.underlying24 k65 (by decide) c1 (fun _ h => Clr.row_length h) (fun _ _ _ h => open_clr h) hb0 h1
    obtain ⟨rs, b2, o2, mk2, ok2, r2⟩ := open_rows (row := Rel.row) (ok := Rel.Ok) Tryz.underlying25 k67 (by decide) c2 (fun _ h => Rel.row_length h) (fun _ _ _ h => open_rel h) hb0 h2
    exact ⟨k, v1, v2, cs, rs, b1, o1, b2, o2, mk1, mk2, hk, rfl, ok1, ok2, r1, r2⟩
theorem open_addr {v : Value} {d : DataW H} {ps : List MemPlace} (hval : Value.okWide Tryz.prog w .any 0 29 v) (h : DataW.Trod enc Tryz.prog w base spare held 29 v d ps) :
    ∃ s : List UInt8, s.length = 20 ∧ ∀ ι, v = AV.conc ι (.agg (byteCellsOf s)) := by
  obtain ⟨fuel, hf⟩ := h
  unfold Value.okWide at hval
  rw [Tryz.underlying29] at hval
  obtain ⟨vs, rfl, hsz, _⟩ := hval
  obtain ⟨s, hs, hc, _⟩ := open_byteArr Tryz.underlying29 Tryz.underlying5 k5 k29 hf
  refine ⟨s, hs, fun ι => ?_⟩
  have := hc ι
  simp only [Value.cells] at this
  simp only [AV.conc, ← this]
end
end Go.Proofs.YtgmfnndoaljdbaaGreatDoor
