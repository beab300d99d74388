/- PolicyChecks answers true for every policy, address and entry; each argument reads afterwards as it did. Conditions: the listed tables of Go's library lie as the program's text lays them (the card ties them). -/
import Derived.Test.YtgmfnndoaljdbaaGreatDoorPkL
import Derived.Test.YtgmfnndoaljdbaaGreatDoorPkH
set_option linter.all false
namespace Go.Proofs.YtgmfnndoaljdbaaGreatDoor
open Go Go.Ax Go.RowKit Go.ChangeShapes Go.WideShapes Go.ChangeAt
set_option maxRecDepth 100000

theorem checks_calls {W : World} {dl : Nat} {sv1 sv2 : Value} {cs : List Clr} {rs : List Rel} {ι : Env} {hp : AHeap} {c r : AV} {a : List UInt8} {e : Nat} (m : PolMem W sv1 sv2 cs rs ι hp c r) (hd : dl < 18446744073709551616) (ok1 : ∀ x ∈ cs, x.Ok) (ok2 : ∀ x ∈ rs, x.Ok) (ha : a.length = 20) :
    Calls Tryz.prog 3 #[.agg #[.int .u64 dl, sv1, sv2], AV.conc ι (.agg (byteCellsOf a)), .int .u32 e] W fun e w' => e = .returned (.bool true) ∧ Below W.heap.size W w' := by
  have h := lawChecks (hp := hp) (n := 3) (d := dl) (a := a) (e := e) m.r1 m.r2 ok1 ok2 hd ha m.hg
  have h2 := calls_of_acalls (resolveFn_enters rf3) h m.hl (by simp only [ltL, AV.lt, m.l1, m.l2, byteCellsOf_lt]; rfl) m.no m.hr
  have h3 : (concL ι [.agg [.int .u64 dl, c, r], .agg (byteCellsOf a), .int .u32 e]).toArray = #[.agg #[.int .u64 dl, sv1, sv2], AV.conc ι (.agg (byteCellsOf a)), .int .u32 e] := by
    simp only [concL, AV.conc, m.c1, m.c2]
  rw [h3] at h2
  exact h2.mono fun e w' ⟨⟨_, h⟩, hb⟩ => ⟨h, hb⟩

theorem checks_lifted (os : Os) (started : os.Started) (H : Type) (enc : TypeId × Value → H) :
    ReturnsInHanded {} Tryz.checked os 3 .any (fun w args => (Rows.policyChecksSpec.pre enc Tryz.prog Tryz.f3 [] false w args ∧ laidMetH Tryz.prog Rows.policyChecksRow.laid w) ∧ sizedMet enc Tryz.prog Tryz.f3 (OpenSpec.ofChange Rows.policyChecksSpec) false w args)
      (Rows.policyChecksSpec.post enc Tryz.prog Tryz.f3 false true false false) := by
  refine returnsInHanded_of_change_and (C := Tryz.checked) (X := fun w _ => laidMetH Tryz.prog Rows.policyChecksRow.laid w) (fun _ _ _ hh h => h.of_heap hh) own started (by kernel_rfl) Tryz.func3
    (ChangeSpec.witness_shaped (enc := enc) (C := Tryz.checked) (os := os) (X := fun w _ => laidMetH Tryz.prog Rows.policyChecksRow.laid w) false (World.laidAll Tryz.prog os Rows.policyChecksRow.laid) #[.agg #[.int .u64 0, .slice none 0 0, .slice none 0 0], .agg (Array.replicate 20 (.int .u8 0)), .int .u32 0] 8 (World.laidAll_os _ _ _)
      (World.shaped_of_ZipB (by kernel_rfl) (by kernel_rfl)) (by kernel_rfl) (by kernel_rfl) (by kernel_rfl)
      (by rw [MakeChecks.laidMetH_plain _ _ _ (by kernel_rfl)]; exact laidMet_laidAll _ (by kernel_rfl) (by kernel_rfl))) ?_
  intro W base args ds gs before hval0 hW _ _ hL _
  have hval : ∀ (j : Nat) t v, Tryz.f3.params[j]? = some t → args[j]? = some v → Value.okWide Tryz.prog W .any base t v := hval0
  have hW' := hW
  obtain ⟨p, q, hA0, hV, rfl, _, _⟩ := hW
  have hA : DataW.TrodAll enc Tryz.prog W 0 (fun _ => true) true Tryz.f3.params.toList args.toList ds p := hA0
  rw [Tryz.params3] at hA hval
  obtain ⟨v0, v1, v2, d0, d1, d2, p0, p1, p2, rfl, rfl, rfl, h0, h1, h2⟩ := trodAll_three hA
  obtain ⟨rfl, rfl⟩ := trodVars_none hV
  have ht := table3 hL
  obtain ⟨dl, sv1, sv2, cs, rs, b1, o1, b2, o2, mk1, mk2, hd, rfl, ok1, ok2, s1, s2⟩ := open_pol (b0 := 3) (hval 0 27 v0 rfl rfl) h0 (let ⟨c, e, fz, h, _⟩ := ht; ⟨c, e, fz, h⟩)
  obtain ⟨a, ha, hv1⟩ := open_addr (hval 1 29 v1 rfl rfl) h1
  obtain ⟨e, rfl, rfl, rfl, we⟩ := open_int Tryz.underlying30 (hval 2 30 v2 rfl rfl) h2
  obtain ⟨ι, hp, c, r, m⟩ := polMem ht s1 s2
  obtain ⟨k, rfl, hk⟩ := wf_u32 we
  obtain rfl := hv1 ι
  simp only [List.append_nil] at hW'
  refine (checks_calls m hd ok1 ok2 ha).mono fun e W' ⟨he, hb⟩ => ?_
  subst he
  exact ⟨_, rfl, law_post laidOut (by kernel_rfl) rfl hW' hb rfl (by kernel_rfl) Tryz.underlying4⟩

theorem checks_holds : Rows.PolicyChecksSaid :=
  OpenClaim.holds_of_wide 3 Tryz.f3 rfl rfl rfl rfl rfl rfl rfl ⟨rfl, rfl, rfl, rfl, rfl⟩ rfl rfl rfl rfl rfl (by kernel_rfl) Tryz.func3 (by kernel_rfl)
    (of_decide_eq_true (by kernel_rfl)) (by unfold Func.isWrapper; first | (rw [if_pos (by decide +kernel)]; kernel_rfl) | (rw [if_neg (by decide +kernel)]; exact ⟨rfl, rfl⟩))
    (fun os started H enc _ => checks_lifted os started H enc)
theorem checks_card : Rows.PolicyChecksCardSaid :=
  Claim7.holds_tied_plain_at .later [] [.data, .data, .data, .data, .sentinel, .sentinel, .pinned] true (true, "41a3a0ea6603689ced36d89bd5dda9c5b420e094e86c40e998604a19928bd625") true
    checks_holds (fun _ h => by cases h) (by kernel_rfl) (fun _ h => by cases h) policyChecks_row_tie rfl ⟨rfl, rfl⟩ (by kernel_rfl) rfl
    (fun f fn hf hfn => by
      obtain rfl : f = 3 := Option.some.inj ((show Tryz.prog.funcNamed "excise/exciselaw09.PolicyChecks" = some 3 by kernel_rfl).symm.trans hf) |>.symm
      obtain rfl : fn = Tryz.f3 := (Option.some.inj (Tryz.func3.symm.trans hfn)).symm
      exact ⟨by kernel_rfl, fun j t ht => by
        rw [Tryz.params3] at ht
        have hm : t ∈ [27, 29, 30] := by simpa using Array.mem_of_getElem? ht
        have hall : ([27, 29, 30].all fun u => !Tryz.prog.wantsStandIn u) = true := by kernel_rfl
        exact (show Tryz.prog.wantsStandIn t = false by simpa using List.all_eq_true.1 hall t hm)⟩)
    (by kernel_rfl)
#print axioms checks_card
end Go.Proofs.YtgmfnndoaljdbaaGreatDoor
