/- (*strings.Builder).copyCheck, over two walks. -/
import Derived.Test.YtgmfnndoaljdbaaGreatDoorAxZ
set_option linter.all false
namespace Go.Ax
open Go
set_option maxRecDepth 20000
variable {P : Program}

def extCC (T : TypeId) (args : List AV) (hp : AHeap) (n : Nat) : Option (AEnd × AHeap × Nat) :=
  match args with
  | [.ptr b 0] =>
    match hp.get? b with
    | some (.own [.nilptr, v] e none (0, 0)) => if e = T then some (.ret (.tuple []), hp.put b (.own [.ptr b 0, v] e none (0, 0)), n) else none
    | some (.own [.ptr b' 0, _] e none (0, 0)) => if e = T ∧ b' = b then some (.ret (.tuple []), hp, n) else none
    | _ => none
  | _ => none
theorem extCC_ok {f : FuncId} {T : TypeId} (hent : Enters P f)
    (used : ∀ (b : Nat) (w : World), w.cell? ⟨b, 0, none⟩ = some (.pointer (some ⟨b, 0, none⟩)) → Calls P f #[.pointer (some ⟨b, 0, none⟩)] w fun e w' => e = .returned (.tuple #[]) ∧ w' = w)
    (fresh : ∀ (b : Nat) (w : World), w.cell? ⟨b, 0, none⟩ = some (.pointer none) → w.shape? b = some (T, 2) → w.frozen? ⟨b, 0, none⟩ = false → Calls P f #[.pointer (some ⟨b, 0, none⟩)] w fun e w' => e = .returned (.tuple #[]) ∧ w' = w.setCell ⟨b, 0, none⟩ (.pointer (some ⟨b, 0, none⟩)))
    (args : List AV) (hp : AHeap) (n : Nat) (r : AEnd × AHeap × Nat) (h : extCC T args hp n = some r) : ACalls P f args hp n (Is r) := by
  unfold extCC at h
  split at h
  · rename_i b
    split at h
    · rename_i v e hg
      split at h
      · rename_i he
        subst he
        simp only [Option.some.injEq] at h; subst h
        intro hl hal ι w hr
        obtain ⟨ob, hob, hf⟩ := hr.get hg
        simp only [AObj.fits] at hf
        subst hf
        have hlt := AHeap.lt_get hl hg
        simp only [AObj.lt, ltL, Bool.and_true] at hlt
        refine .inl ⟨hent, ?_⟩
        have hc := fresh (ι.blk b) w (by simp [World.cell?, hob, concL, AV.conc]) (by simp [World.shape?, hob, concL]) (by simp [World.frozen?, hob])
        have hargs : (concL ι [AV.ptr b 0]).toArray = #[.pointer (some ⟨ι.blk b, 0, none⟩)] := rfl
        rw [hargs]
        refine hc.mono ?_
        rintro e' w' ⟨rfl, rfl⟩
        have hnew : (w.setCell ⟨ι.blk b, 0, none⟩ (.pointer (some ⟨ι.blk b, 0, none⟩))).heap[ι.blk b]? = some (.cells (concL ι [AV.ptr b 0, v]).toArray e (0, 0)) := by
          simp [World.setCell, Array.getElem?_modify, hob, concL, AV.conc]
        have hother : ∀ k, k ≠ ι.blk b → (w.setCell ⟨ι.blk b, 0, none⟩ (.pointer (some ⟨ι.blk b, 0, none⟩))).heap[k]? = w.heap[k]? := fun k hk => by
          simp [World.setCell, Array.getElem?_modify, Ne.symm hk]
        refine ⟨.ret (.tuple []), _, n, ι, rfl, rfl, hr.put hg rfl rfl _ hnew rfl hother, AHeap.put_lt hl ?_, rfl, stepR_put hg rfl rfl rfl rfl (by simp [World.setCell]) hother⟩
        simp only [AObj.lt, ltL, Bool.and_true, AV.lt, Bool.and_eq_true, decide_eq_true_eq]
        exact ⟨hlt.1, by simpa [AV.lt] using hlt.2⟩
      · cases h
    · rename_i b' v e hg
      split at h
      · rename_i he
        obtain ⟨rfl, rfl⟩ := he
        simp only [Option.some.injEq] at h; subst h
        intro hl hal ι w hr
        obtain ⟨ob, hob, hf⟩ := hr.get hg
        simp only [AObj.fits] at hf
        subst hf
        refine .inl ⟨hent, ?_⟩
        have hc := used (ι.blk b') w (by simp [World.cell?, hob, concL, AV.conc])
        have hargs : (concL ι [AV.ptr b' 0]).toArray = #[.pointer (some ⟨ι.blk b', 0, none⟩)] := rfl
        rw [hargs]
        refine hc.mono ?_
        rintro e' w' ⟨rfl, rfl⟩
        exact ⟨.ret (.tuple []), _, n, ι, rfl, rfl, hr, hl, rfl, .refl _ _ _ _⟩
      · cases h
    · cases h
  · cases h
end Go.Ax
