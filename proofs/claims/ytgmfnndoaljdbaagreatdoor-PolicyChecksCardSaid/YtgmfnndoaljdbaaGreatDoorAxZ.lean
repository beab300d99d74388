/- bytealg.MakeNoZero: a row whose bytes nobody knows. -/
import Derived.Test.YtgmfnndoaljdbaaGreatDoorAxY
import Derived.Lib.MakeNoZero
set_option linter.all false
namespace Go.Ax
open Go
set_option maxRecDepth 20000
variable {P : Program}

def extMake (elem : TypeId) (args : List AV) (hp : AHeap) (n : Nat) : Option (AEnd × AHeap × Nat) :=
  match args with
  | [.int .i64 k] => if 0 ≤ k ∧ k ≤ 281474976710656 then some (.ret (.slice n 0 k.toNat (.var n k.toNat)), (n, .own [] elem (some (n, 1, k.toNat)) (0, 0)) :: hp, n + 1) else none
  | _ => none
theorem extMake_ok {f : FuncId} {fn : Func} {ps : Array TypeId} {t elem : TypeId} (hf : P.funcs[f]? = some fn) (hname : (fn.name == "runtime.NumGoroutine") = false) (hb : fn.body.isNone = true) (hn : Extern.findNext fn = none)
    (he : Extern.find fn = some (Extern.BytealgMakeNoZero.makeNoZero ps #[t])) (ht : P.underlying t = some (.slice elem))
    (args : List AV) (hp : AHeap) (n : Nat) (r : AEnd × AHeap × Nat) (h : extMake elem args hp n = some r) : ACalls P f args hp n (Is r) := by
  unfold extMake at h
  split at h
  · rename_i k
    split at h
    · rename_i hk
      simp only [Option.some.injEq] at h; subst h
      intro hl hal ι w hr
      obtain ⟨cs, hrun, hge, _⟩ := Lib.run_makeNoZero (P := P) (w := w) ps t elem ht k.toNat (by omega)
      have hr1 : HR ι hp w.drew.drew := hr.keep fun _ _ _ => rfl
      have h1 := hr1.new hl (.cells cs elem) (.own [] elem (some (n, 1, k.toNat)) (0, 0)) (cs.size - k.toNat) ⟨cs.toList, by simp [concL], by simp [Env.ext]; omega⟩
      refine .inr ⟨_, _, ?_, .ret (.slice n 0 k.toNat (.var n k.toNat)), _, n + 1, _, rfl, rfl, h1.1, cons_lt hl (by simp [AObj.lt, ltL]), by simp [AEnd.lt, AV.lt, ACap.lt], ?_⟩
      · have hkk : ((k.toNat : Nat) : Int) = k := by omega
        rw [hkk] at hrun
        rw [run_callFunc_extern hf hname hb hn he]
        show (Sem.run P (Extern.BytealgMakeNoZero.makeNoZero ps #[t] #[.int .i64 k]) w).andThen _ = _
        rw [hrun]
        have hb' : (ι.ext n w.heap.size (cs.size - k.toNat)).blk n = w.heap.size := by simp [Env.ext]
        have hc' : (ι.ext n w.heap.size (cs.size - k.toNat)).cap n = cs.size - k.toNat := by simp [Env.ext]
        have hd : w.drew.drew.heap.size = w.heap.size := rfl
        simp only [Result.andThen_ok, AEnd.conc, AV.conc, ACap.val, hd, hb', hc']
        congr 3; omega
      · have := h1.2
        exact ⟨this.le, this.agree, ⟨this.kept.os, this.kept.tape, this.kept.output, this.kept.size, this.kept.block⟩, this.owns⟩
    · cases h
  · cases h
end Go.Ax
