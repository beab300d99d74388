/- Further operations: those that read or change memory. -/
import Derived.Test.YtgmfnndoaljdbaaGreatDoorAxS
import Derived.MapKept
import Derived.Laws.BytesString
import Derived.Lib.ConvBytes
set_option linter.all false
namespace Go.Ax
open Go
set_option maxRecDepth 20000

def bytesOfL : List AV → Option (List UInt8)
  | [] => some []
  | .int .u8 z :: l =>
    match bytesOfL l with
    | some r => if 0 ≤ z ∧ z < 256 then some (UInt8.ofNat z.toNat :: r) else none
    | none => none
  | _ => none
/- the same, of bytes that are bytes -/
def byteCellsOf (l : List UInt8) : List AV := l.map fun b => .int .u8 b.toNat
abbrev MEnt := AV × AV × Nat
def findE (kind : Leaf) (k : AV) : List MEnt → Option (Option AV)
  | [] => some none
  | (k', v, _) :: l =>
    match eq1 kind k k' with
    | some true => some (some v)
    | some false => findE kind k l
    | none => none
def updE (kind : Leaf) (k v : AV) : List MEnt → Option (Option (List MEnt))
  | [] => some none
  | (k', v', b) :: l =>
    match eq1 kind k k' with
    | some true => some (some ((k, v, b) :: l))
    | some false =>
      match updE kind k v l with
      | some (some r) => some (some ((k', v', b) :: r))
      | some none => some none
      | none => none
    | none => none
def isLeaf : Leaf → AV → Bool
  | .b, .bool _ | .i, .int _ _ | .s, .str _ => true
  | _, _ => false

def XOp.eval (tm : LTm) (hp : AHeap) (n : Nat) (o : XOp) : Option (AV × AHeap × Nat) :=
  match o with
  | .b2s x =>
    match x.val tm with
    | some .nilslice => some (.str [], hp, n)
    | some (.slice i off len _) =>
      match (hp.cells? i off len).bind bytesOfL with
      | some s => some (.str s, hp, n)
      | none => none
    | _ => none
  | .s2b x =>
    match x.val tm with
    | some (.str s) => some (.slice n 0 s.length (.var n s.length), (n, .ro 0 (byteCellsOf s)) :: hp, n + 1)
    | _ => none
  | .rangeS x =>
    match x.val tm with
    | some (.str s) => some (.ptr n 0, (n, .siter s 0) :: hp, n + 1)
    | _ => none
  | .nextS x =>
    match x.val tm with
    | some (.ptr i 0) =>
      match hp.get? i with
      | some (.siter s pos) =>
        if pos < s.length then
          some (.tuple [.bool true, .int .i64 pos, .int .i32 (Utf8.decode ⟨s.toArray⟩ pos).1], hp.put i (.siter s (pos + (Utf8.decode ⟨s.toArray⟩ pos).2)), n)
        else some (.tuple [.bool false], hp, n)
      | _ => none
    | _ => none
  | .mkMap => some (.map n, (n, .map [] 0) :: hp, n + 1)
  | .lookup kind ok zero m k =>
    match m.val tm, k.val tm with
    | some .nilmap, some k => if isLeaf kind k then some (if ok then .tuple [zero, .bool false] else zero, hp, n) else none
    | some (.map i), some k =>
      match hp.get? i with
      | some (.map es _) =>
        match findE kind k es with
        | some (some v) => if isLeaf kind k then some (if ok then .tuple [v, .bool true] else v, hp, n) else none
        | some none => if isLeaf kind k then some (if ok then .tuple [zero, .bool false] else zero, hp, n) else none
        | none => none
      | _ => none
    | _, _ => none
  | .mapUp kind m k v =>
    match m.val tm, k.val tm, v.val tm with
    | some (.map i), some k, some v =>
      match hp.get? i with
      | some (.map es clock) =>
        match updE kind k v es with
        | some (some es') => if isLeaf kind k then some (.tuple [], hp.put i (.map es' clock), n) else none
        | some none => if isLeaf kind k then some (.tuple [], hp.put i (.map (es ++ [(k, v, clock)]) (clock + 1)), n) else none
        | none => none
      | _ => none
    | _, _, _ => none
  | .uString el p k =>
    match p.val tm, k.val tm with
    | some .nilptr, some (.int .i64 z) => if z = 0 then some (.str [], hp, n) else none
    | some (.ptr i 0), some (.int .i64 z) =>
      if z = 0 then some (.str [], hp, n) else
      match hp.get? i with
      | some (.own cs e _ (0, 0)) =>
        if e = el ∧ 0 < z ∧ z ≤ 9223372036854775807 ∧ z.toNat ≤ cs.length then
          match bytesOfL (cs.take z.toNat) with
          | some s => some (.str s, hp.del i, n)
          | none => none
        else none
      | _ => none
    | _, _ => none
  | .copy es d s =>
    match d.val tm, s.val tm with
    | some (.slice i off len _), some s =>
      match srcCells hp es s with
      | some (m, news) =>
        match hp.get? i with
        | some (.own cs e g (0, 0)) =>
          if (news.take (min m len * es)).all AV.one = true ∧ off + min m len * es ≤ cs.length then
            some (.int .i64 (min m len), hp.put i (.own (cs.take off ++ news.take (min m len * es) ++ cs.drop (off + min m len * es)) e g (0, 0)), n)
          else none
        | _ => none
      | none => none
    | _, _ => none
  | o => (o.pv tm).map fun v => (v, hp, n)

theorem u8_roundtrip {z : Int} (h : 0 ≤ z ∧ z < 256) : ((UInt8.ofNat z.toNat).toNat : Int) = z := by
  have : (UInt8.ofNat z.toNat).toNat = z.toNat := by simp [UInt8.toNat_ofNat']; omega
  rw [this]; omega
theorem bytesOfL_eq : ∀ {l : List AV} {s : List UInt8}, bytesOfL l = some s → l = byteCellsOf s
  | [], s, h => by simp only [bytesOfL, Option.some.injEq] at h; subst h; rfl
  | .int .u8 z :: l, s, h => by
    simp only [bytesOfL] at h
    split at h
    · rename_i r hr
      split at h
      · rename_i hz
        simp only [Option.some.injEq] at h; subst h
        simp only [byteCellsOf, List.map_cons, List.cons.injEq, AV.int.injEq, true_and]
        exact ⟨(u8_roundtrip hz).symm, bytesOfL_eq hr⟩
      · cases h
    · cases h
theorem bytesOfL_cells (s : List UInt8) : bytesOfL (byteCellsOf s) = some s := by
  induction s with
  | nil => rfl
  | cons b s ih =>
    have hb : (0 : Int) ≤ (b.toNat : Int) ∧ (b.toNat : Int) < 256 := ⟨by omega, by have := b.toNat_lt; omega⟩
    simp only [byteCellsOf, List.map_cons, bytesOfL]
    simp only [byteCellsOf] at ih
    rw [ih]
    simp only [hb, and_self, if_true, Int.toNat_natCast]
    congr 2
    exact UInt8.ofNat_toNat

section
variable {P : Program} {o : Oper} {ι : Env} {tm : LTm} {hp hp' : AHeap} {n n' : Nat} {a : Act} {w : World} {xo : XOp} {v : AV}

theorem xeval_pure (h : xo.isPure = true) (hev : xo.eval tm hp n = some (v, hp', n')) : xo.pv tm = some v ∧ hp' = hp ∧ n' = n := by
  have : xo.eval tm hp n = (xo.pv tm).map fun v => (v, hp, n) := by cases xo <;> first | rfl | (simp [XOp.isPure] at h)
  rw [this, Option.map_eq_some_iff] at hev
  obtain ⟨u, hu, he⟩ := hev
  simp only [Prod.mk.injEq] at he
  obtain ⟨rfl, rfl, rfl⟩ := he
  exact ⟨hu, rfl, rfl⟩

theorem concL_bytes (s : List UInt8) : concL ι (byteCellsOf s) = (s.map fun b => (b.toNat : Int)).map (Value.int .u8) := by
  simp [concL_eq, byteCellsOf, AV.conc, Function.comp_def]
theorem foldl_push (s : List UInt8) (acc : ByteArray) : (s.map fun b => (b.toNat : Int)).foldl (fun r n => r.push (UInt8.ofNat n.toNat)) acc = acc ++ ⟨s.toArray⟩ := by
  induction s generalizing acc with
  | nil => simp only [List.map_nil, List.foldl_nil]; apply ByteArray.ext; simp
  | cons b s ih =>
    simp only [List.map_cons, List.foldl_cons, Int.toNat_natCast]
    rw [ih]
    apply ByteArray.ext
    simp [UInt8.ofNat_toNat]

theorem x_b2s {x : Operand} {lx : LOpd} {sT dT e : TypeId} (ht : TmR ι tm a) (hr : HR ι hp w) (hl : hp.lt n = true) (hop : o.op = .convert sT dT x) (hs : P.underlying sT = some (.slice e)) (hd : P.underlying dT = some .string)
    (he : P.underlying e = some (.int .u8)) (hx : opd x = some lx) (hev : XOp.eval tm hp n (.b2s lx) = some (v, hp', n')) : OpOK P o ι hp n a w v hp' n' := by
  simp only [XOp.eval] at hev
  split at hev
  · rename_i h1
    have e1 := ht.opd hx h1
    simp only [Option.some.injEq, Prod.mk.injEq] at hev
    obtain ⟨rfl, rfl, rfl⟩ := hev
    refine PureOK.op ⟨?_, rfl⟩ hr hl
    simp only [execOp, hop, e1, AV.conc, Sem.run_bind, run_convert_bytes_string w sT dT e none 0 0 hs he hd]
    rfl
  · rename_i i off len c h1
    have e1 := ht.opd hx h1
    split at hev
    · rename_i s hb
      simp only [Option.bind_eq_some_iff] at hb
      obtain ⟨cs, hcs, hb⟩ := hb
      simp only [Option.some.injEq, Prod.mk.injEq] at hev
      obtain ⟨rfl, rfl, rfl⟩ := hev
      refine PureOK.op ⟨?_, rfl⟩ hr hl
      have hload := hr.loadCells (P := P) hcs
      rw [bytesOfL_eq hb, concL_bytes] at hload
      simp only [execOp, hop, e1, AV.conc, Sem.run_bind, run_convert_bytes_string w sT dT e _ _ _ hs he hd, run_bytesToString w _ _ _ _ hload, Result.andThen_ok, Sem.run_pure, foldl_push]
      congr 4
    · cases hev
  · cases hev

theorem byteCellsOf_lt (s : List UInt8) : ltL n (byteCellsOf s) = true := by
  induction s with
  | nil => rfl
  | cons b s ih => simpa [byteCellsOf, ltL, AV.lt] using ih
theorem x_s2b {x : Operand} {lx : LOpd} {sT dT e : TypeId} (ht : TmR ι tm a) (hr : HR ι hp w) (hl : hp.lt n = true) (hop : o.op = .convert sT dT x) (hs : P.underlying sT = some .string) (hd : P.underlying dT = some (.slice e))
    (he : P.underlying e = some (.int .u8)) (hx : opd x = some lx) (hev : XOp.eval tm hp n (.s2b lx) = some (v, hp', n')) : OpOK P o ι hp n a w v hp' n' := by
  simp only [XOp.eval] at hev
  split at hev
  · rename_i s h1
    have e1 := ht.opd hx h1
    simp only [Option.some.injEq, Prod.mk.injEq] at hev
    obtain ⟨rfl, rfl, rfl⟩ := hev
    obtain ⟨W, hW⟩ : ∃ W, W = Lib.bytesWorld w e ⟨s.toArray⟩ := ⟨_, rfl⟩
    obtain ⟨c, hc⟩ : ∃ c, c = grownCap w (⟨s.toArray⟩ : ByteArray).size 0 e - s.length := ⟨_, rfl⟩
    have hge := grownCap_ge w (⟨s.toArray⟩ : ByteArray).size 0 e
    rw [size_str] at hge
    have hcap : s.length + c = grownCap w (⟨s.toArray⟩ : ByteArray).size 0 e := by rw [hc, size_str]; omega
    have hag := Env.ext_agree ι n w.heap.size c
    have hbn : (ι.ext n w.heap.size c).blk n = w.heap.size := by simp [Env.ext]
    have hold : ∀ b, b < w.heap.size → W.heap[b]? = w.heap[b]? := fun b hb => by rw [hW]; exact Lib.bytesWorld_at_old w e _ b hb
    have hsz : W.heap.size = w.heap.size + 1 := by rw [hW]; exact Lib.bytesWorld_size w e _
    have hr2 := (hr.keep (w' := W) fun i o hm => hold _ (hr.blk_lt hm)).agree hag hl
    have hnew : ∀ j u, (byteCellsOf s)[j]? = some u → (Lib.bytesCells w e ⟨s.toArray⟩)[0 + j]? = some (u.conc (ι.ext n w.heap.size c)) := by
      intro j u hu
      simp only [byteCellsOf, List.getElem?_map, Option.map_eq_some_iff] at hu
      obtain ⟨b, hb, rfl⟩ := hu
      have hj : j < s.length := (List.getElem?_eq_some_iff.1 hb).1
      have : s[j] = b := (List.getElem?_eq_some_iff.1 hb).2
      simp [Lib.bytesCells, Array.getElem?_append, hj, this, AV.conc]
    refine ⟨ι.ext n w.heap.size c, W, _, ?_, .inl rfl, ⟨fun i o' hm => ?_, ?_, fun i g s' cs hm => ?_⟩, cons_lt hl (by simp only [AObj.lt]; exact byteCellsOf_lt s), by simp [AV.lt, ACap.lt],
      ⟨Nat.le_succ n, hag, ⟨by rw [hW]; rfl, by rw [hW]; rfl, by rw [hW]; rfl, by omega, fun b hb _ => hold b hb⟩, fun b hb => ?_⟩⟩
    · simp only [execOp, hop, e1, AV.conc, Sem.run_bind, Lib.run_convert_string_bytes w sT dT e _ hs hd he, Result.andThen_ok, Sem.run_pure, ACap.val, hbn, ext_cap, hcap, ← hW, size_str]
    · rcases List.mem_cons.1 hm with e' | hm
      · injection e' with e1 e2
        subst e1; subst e2
        refine ⟨.cells (Lib.bytesCells w e ⟨s.toArray⟩) e ((Lib.bytesCells w e ⟨s.toArray⟩).size, (Lib.bytesCells w e ⟨s.toArray⟩).size + 1), ?_, _, _, _, rfl, hnew⟩
        rw [hbn, hW]; exact Lib.bytesWorld_at_new w e _
      · exact hr2.fits i o' hm
    · refine List.pairwise_cons.2 ⟨fun p hp' _ => ?_, hr2.apart⟩
      have h1 := hr.blk_lt (i := p.1) (o := p.2) hp'
      have h2 : p.1 < n := by have := (List.all_eq_true.1 hl) p hp'; simp at this; exact this.1
      rw [hbn, hag.blk _ h2]; omega
    · rcases List.mem_cons.1 hm with e' | hm
      · injection e' with e1 e2; cases e2
      · exact hr2.glob i g s' cs hm
    · obtain ⟨i, o', hm, ho, rfl⟩ := hb
      rcases List.mem_cons.1 hm with e' | hm
      · injection e' with e1 e2
        subst e2; cases ho
      · have h2 : i < n := by have := (List.all_eq_true.1 hl) _ hm; simp at this; exact this.1
        exact .inl ⟨i, o', hm, ho, (hag.blk i h2).symm⟩
  · cases hev

/- a new object that is no row -/
theorem new_obj (hr : HR ι hp w) (hl : hp.lt n = true) (ob : Obj) (ao : AObj) (hf : ∀ ι, ao.fits ι ob) (hao : ao.lt (n + 1) = true) (hown : ao.isGlob = false := by rfl) :
    HR (ι.ext n w.heap.size 0) ((n, ao) :: hp) (w.alloc ob) ∧ AHeap.lt (n + 1) ((n, ao) :: hp) = true ∧ StepR n ι hp w (n + 1) (ι.ext n w.heap.size 0) ((n, ao) :: hp) (w.alloc ob) := by
  have h := hr.new hl ob ao 0 (hf _) hown
  exact ⟨h.1, cons_lt hl hao, h.2⟩

theorem x_rangeS {x : Operand} {lx : LOpd} {t : TypeId} (ht : TmR ι tm a) (hr : HR ι hp w) (hl : hp.lt n = true) (hop : o.op = .range t x) (hu : P.underlying t = some .string) (hx : opd x = some lx)
    (hev : XOp.eval tm hp n (.rangeS lx) = some (v, hp', n')) : OpOK P o ι hp n a w v hp' n' := by
  simp only [XOp.eval] at hev
  split at hev
  · rename_i s h1
    have e1 := ht.opd hx h1
    simp only [Option.some.injEq, Prod.mk.injEq] at hev
    obtain ⟨rfl, rfl, rfl⟩ := hev
    obtain ⟨g1, g2, g3⟩ := new_obj hr hl (.stringIter ⟨s.toArray⟩ 0) (.siter s 0) (fun _ => rfl) rfl
    refine ⟨_, _, _, ?_, .inl rfl, g1, g2, by simp [AV.lt], g3⟩
    simp only [execOp, hop, Instr.range, Sem.run_bind, run_underlying hu, Result.andThen_ok, e1, AV.conc, Sem.run_pure, ext_blk]
    rfl
  · cases hev

theorem x_nextS {x : Operand} {lx : LOpd} (ht : TmR ι tm a) (hr : HR ι hp w) (hl : hp.lt n = true) (hop : o.op = .next x true) (hx : opd x = some lx)
    (hev : XOp.eval tm hp n (.nextS lx) = some (v, hp', n')) : OpOK P o ι hp n a w v hp' n' := by
  simp only [XOp.eval] at hev
  split at hev
  · rename_i i h1
    have e1 := ht.opd hx h1
    split at hev
    · rename_i s pos hg
      obtain ⟨ob, hob, hf⟩ := hr.get hg
      simp only [AObj.fits] at hf
      subst hf
      have hgo : (getObj (ι.blk i)).run P w = .ok (.stringIter ⟨s.toArray⟩ pos) w := by simp [getObj, Sem.run, hob]
      have hlt : ι.blk i < w.heap.size := (Array.getElem?_eq_some_iff.1 hob).1
      split at hev
      · rename_i hpos
        simp only [Option.some.injEq, Prod.mk.injEq] at hev
        obtain ⟨rfl, rfl, rfl⟩ := hev
        have hso : ∀ ob', (setObj (ι.blk i) ob').run P w = .ok () { w with heap := w.heap.setIfInBounds (ι.blk i) ob' } := fun ob' => by simp [setObj, Sem.run, hob]
        refine ⟨ι, _, _, ?_, .inl rfl, hr.put hg rfl rfl (.stringIter ⟨s.toArray⟩ (pos + (Utf8.decode ⟨s.toArray⟩ pos).2)) (w' := { w with heap := w.heap.setIfInBounds (ι.blk i) (.stringIter ⟨s.toArray⟩ (pos + (Utf8.decode ⟨s.toArray⟩ pos).2)) }) (by simp [hlt]) rfl (fun b hb => by simp [Ne.symm hb]), AHeap.put_lt hl rfl, rfl,
          stepR_put hg rfl rfl rfl rfl (by simp) (fun b hb => by simp [Ne.symm hb])⟩
        simp only [execOp, hop, Instr.next, Sem.run_bind, e1, AV.conc, hgo, Result.andThen_ok]
        have hsz : pos < (⟨s.toArray⟩ : ByteArray).size := by rw [size_str]; exact hpos
        rw [if_pos hsz]
        simp only [Sem.run_bind, hso, Result.andThen_ok, Sem.run_pure, concL, AV.conc, goInt]
      · rename_i hpos
        simp only [Option.some.injEq, Prod.mk.injEq] at hev
        obtain ⟨rfl, rfl, rfl⟩ := hev
        refine PureOK.op ⟨?_, rfl⟩ hr hl
        simp only [execOp, hop, Instr.next, Sem.run_bind, e1, AV.conc, hgo, Result.andThen_ok]
        have hsz : ¬ pos < (⟨s.toArray⟩ : ByteArray).size := by rw [size_str]; exact hpos
        rw [if_neg hsz]
        simp only [Sem.run_pure, Result.andThen_ok, concL, AV.conc]
    · cases hev
  · cases hev

theorem x_mkMap {t : TypeId} (hr : HR ι hp w) (hl : hp.lt n = true) (hop : o.op = .makeMap t none) (hev : XOp.eval tm hp n .mkMap = some (v, hp', n')) : OpOK P o ι hp n a w v hp' n' := by
  simp only [XOp.eval, Option.some.injEq, Prod.mk.injEq] at hev
  obtain ⟨rfl, rfl, rfl⟩ := hev
  obtain ⟨g1, g2, g3⟩ := new_obj hr hl (.map #[] 0) (.map [] 0) (fun _ => rfl) rfl
  refine ⟨_, _, _, ?_, .inl rfl, g1, g2, by simp [AV.lt], g3⟩
  simp only [execOp, hop, Instr.makeMap, Option.map_none, Sem.run_bind, Sem.run_pure, AV.conc, ext_blk]
  rfl

def kindDesc : Leaf → TypeDesc → Prop
  | .b, .bool => True
  | .i, .int _ => True
  | .s, .string => True
  | _, _ => False
theorem leafKind_desc {d : TypeDesc} {k : Leaf} (h : leafKind d = some k) : kindDesc k d := by
  cases d <;> simp [leafKind] at h <;> subst h <;> trivial
theorem leaf_check {kt : TypeId} {d : TypeDesc} {kind : Leaf} (hd : P.underlying kt = some d) (hk : kindDesc kind d) {k : AV} (h : isLeaf kind k = true) (e : Bool) (m : Nat) : (Instr.checkKey e (m + 1) kt (k.conc ι)).run P w = .ok () w := by
  unfold Instr.checkKey
  simp only [Sem.run_bind, run_underlying hd, Result.andThen_ok]
  cases kind <;> cases d <;> simp only [kindDesc] at hk <;> cases k <;> simp [isLeaf] at h <;> simp
theorem leaf_stays {kind : Leaf} {k : AV} (h : isLeaf kind k = true) : (Instr.keyThatStays (k.conc ι) (k.conc ι)).run P w = .ok (k.conc ι) w := by
  have : Instr.sameBits 10000 (k.conc ι) (k.conc ι) = true := by
    cases kind <;> cases k <;> simp [isLeaf] at h <;> simp [AV.conc, Instr.sameBits]
    rw [MapKept.bytes_beq]
  simp [Instr.keyThatStays, this]
theorem sameNow_eq1 {d : TypeDesc} {kind : Leaf} (hk : kindDesc kind d) {a b : AV} {r : Bool} (h : eq1 kind a b = some r) : Instr.sameNow d (a.conc ι) (b.conc ι) = some r := by
  cases kind <;> cases d <;> simp only [kindDesc] at hk <;> cases a <;> cases b <;> simp only [eq1] at h <;> first
    | cases h; done
    | skip
  · simp only [Option.some.injEq] at h; subst h; rfl
  · simp only [AV.conc, Instr.sameNow]; exact h
  · simp only [Option.some.injEq] at h; subst h
    rename_i x y
    simp only [AV.conc, Instr.sameNow, Option.some.injEq]
    rw [Bool.eq_iff_iff, MapKept.bytes_beq]
    simp
theorem eq1_true {kind : Leaf} {a b : AV} (h : eq1 kind a b = some true) : a = b := by
  cases kind <;> cases a <;> cases b <;> simp only [eq1] at h <;> first
    | cases h; done
    | skip
  · simpa using h
  · split at h
    · rename_i hk; subst hk; simpa using h
    · cases h
  · simpa using h

theorem findE_sound {d : TypeDesc} {kind : Leaf} (hk : kindDesc kind d) {k : AV} : ∀ (es : List MEnt) (i : Nat) (r : Option AV), findE kind k es = some r →
    ∃ j, Instr.findNow d (k.conc ι) (es.map (concE ι)) i = some (r.map fun v => (j, v.conc ι))
  | [], i, r, h => by simp only [findE, Option.some.injEq] at h; subst h; exact ⟨0, rfl⟩
  | (k', v', b) :: es, i, r, h => by
    simp only [findE] at h
    split at h
    · rename_i he
      simp only [Option.some.injEq] at h; subst h
      exact ⟨i, by simp [Instr.findNow, concE, sameNow_eq1 hk he]⟩
    · rename_i he
      obtain ⟨j, hj⟩ := findE_sound hk es (i + 1) r h
      exact ⟨j, by simp only [List.map_cons, Instr.findNow, concE, sameNow_eq1 hk he]; exact hj⟩
    · cases h
theorem findE_mem {kind : Leaf} {k v : AV} : ∀ (es : List MEnt), findE kind k es = some (some v) → ∃ k' b, (k', v, b) ∈ es
  | [], h => by simp [findE] at h
  | (k', v', b) :: es, h => by
    simp only [findE] at h
    split at h
    · simp only [Option.some.injEq] at h; subst h; exact ⟨k', b, List.mem_cons_self⟩
    · obtain ⟨k2, b2, hm⟩ := findE_mem es h; exact ⟨k2, b2, List.mem_cons_of_mem _ hm⟩
    · cases h
theorem updE_sound {d : TypeDesc} {kind : Leaf} (hk : kindDesc kind d) {k v : AV} : ∀ (es : List MEnt) (i : Nat) (r : Option (List MEnt)), updE kind k v es = some r →
    match r with
    | none => Instr.findNow d (k.conc ι) (es.map (concE ι)) i = some none
    | some es' => ∃ j v0, Instr.findNow d (k.conc ι) (es.map (concE ι)) i = some (some (i + j, v0)) ∧ j < es.length ∧ ((es.map (concE ι))[j]?).map (·.key) = some (k.conc ι) ∧
        es'.map (concE ι) = (es.map (concE ι)).modify j fun e => { e with key := k.conc ι, val := v.conc ι }
  | [], i, r, h => by simp only [updE, Option.some.injEq] at h; subst h; rfl
  | (k', v', b) :: es, i, r, h => by
    simp only [updE] at h
    split at h
    · rename_i he
      simp only [Option.some.injEq] at h; subst h
      refine ⟨0, v'.conc ι, ?_, by simp, ?_, ?_⟩
      · simp [Instr.findNow, concE, sameNow_eq1 hk he]
      · simp [concE, eq1_true he]
      · simp [concE]
    · rename_i he
      split at h
      · rename_i r' hr'
        simp only [Option.some.injEq] at h; subst h
        obtain ⟨j, v0, h1, h2, h3, h4⟩ := updE_sound hk es (i + 1) (some r') hr'
        refine ⟨j + 1, v0, ?_, by simp; omega, by simpa using h3, ?_⟩
        · simp only [List.map_cons, Instr.findNow, concE, sameNow_eq1 hk he]
          have : i + (j + 1) = i + 1 + j := by omega
          rw [this]; exact h1
        · simp only [List.map_cons, List.modify_succ_cons, h4]
      · rename_i hr'
        simp only [Option.some.injEq] at h; subst h
        have := updE_sound hk es (i + 1) none hr'
        simp only [List.map_cons, Instr.findNow, concE, sameNow_eq1 hk he]; exact this
      · cases h
    · cases h
theorem updE_lt {kind : Leaf} {k v : AV} (hk : k.lt n = true) (hv : v.lt n = true) : ∀ (es es' : List MEnt), updE kind k v es = some (some es') → (es.all fun e => e.1.lt n && e.2.1.lt n) = true → (es'.all fun e => e.1.lt n && e.2.1.lt n) = true
  | [], es', h, _ => by simp [updE] at h
  | (k', v', b) :: es, es', h, hl => by
    simp only [List.all_cons, Bool.and_eq_true] at hl
    simp only [updE] at h
    split at h
    · simp only [Option.some.injEq] at h; subst h
      simp only [List.all_cons, Bool.and_eq_true]; exact ⟨⟨hk, hv⟩, by simpa using hl.2⟩
    · split at h
      · rename_i r' hr'
        simp only [Option.some.injEq] at h; subst h
        simp only [List.all_cons, Bool.and_eq_true]; exact ⟨hl.1, updE_lt hk hv es r' hr' (by simpa using hl.2)⟩
      · cases h
      · cases h
    · cases h

theorem x_lookup {t kt et : TypeId} {d : TypeDesc} {m k : Operand} {ok : Bool} {kind : Leaf} {z : AV} {lm lk : LOpd} (ht : TmR ι tm a) (hr : HR ι hp w) (hl : hp.lt n = true) (hop : o.op = .lookup t m k ok) (hu : P.underlying t = some (.map kt et))
    (hd : P.underlying kt = some d) (hkind : leafKind d = some kind) (hz : zeroAV P et = some z) (hm : opd m = some lm) (hk : opd k = some lk) (hev : XOp.eval tm hp n (.lookup kind ok z lm lk) = some (v, hp', n')) : OpOK P o ι hp n a w v hp' n' := by
  have hkd := leafKind_desc hkind
  obtain ⟨inf, zv, hi, hzv, hzc, hzl⟩ := zero_of (ι := ι) (n := n) hz
  simp only [XOp.eval] at hev
  split at hev
  · rename_i kv h1 h2
    have e1 := ht.opd hm h1
    have e2 := ht.opd hk h2
    split at hev
    · rename_i hleaf
      simp only [Option.some.injEq, Prod.mk.injEq] at hev
      obtain ⟨rfl, rfl, rfl⟩ := hev
      refine PureOK.op ⟨?_, by cases ok <;> simp [AV.lt, ltL, hzl]⟩ hr hl
      simp only [execOp, hop, Instr.lookup, Sem.run_bind, run_underlying hu, Result.andThen_ok, e1, e2, AV.conc, Sem.run_pure, leaf_check hd hkd hleaf _ _, MapKept.run_findKey hd (l := []) (a := none) rfl, run_zeroValue hi hzv, hzc]
      cases ok <;> rfl
    · cases hev
  · rename_i i kv h1 h2
    have e1 := ht.opd hm h1
    have e2 := ht.opd hk h2
    split at hev
    · rename_i es clock hg
      obtain ⟨ob, hob, hf⟩ := hr.get hg
      simp only [AObj.fits] at hf
      subst hf
      have hel := (AHeap.lt_get hl hg).2
      simp only [AObj.lt, List.all_eq_true, Bool.and_eq_true] at hel
      split at hev
      · rename_i u hfe
        split at hev
        · rename_i hleaf
          simp only [Option.some.injEq, Prod.mk.injEq] at hev
          obtain ⟨rfl, rfl, rfl⟩ := hev
          obtain ⟨j, hj⟩ := findE_sound (ι := ι) hkd es 0 _ hfe
          obtain ⟨k', b, hmem⟩ := findE_mem es hfe
          refine PureOK.op ⟨?_, by have := (hel _ hmem).2; cases ok <;> simp [AV.lt, ltL, this]⟩ hr hl
          simp only [execOp, hop, Instr.lookup, Sem.run_bind, run_underlying hu, Result.andThen_ok, e1, e2, AV.conc, Sem.run_pure, MapKept.run_getObj_map hob, leaf_check hd hkd hleaf _ _, MapKept.run_findKey hd hj, Option.map_some]
          cases ok <;> rfl
        · cases hev
      · rename_i hfe
        split at hev
        · rename_i hleaf
          simp only [Option.some.injEq, Prod.mk.injEq] at hev
          obtain ⟨rfl, rfl, rfl⟩ := hev
          obtain ⟨j, hj⟩ := findE_sound (ι := ι) hkd es 0 _ hfe
          refine PureOK.op ⟨?_, by cases ok <;> simp [AV.lt, ltL, hzl]⟩ hr hl
          simp only [execOp, hop, Instr.lookup, Sem.run_bind, run_underlying hu, Result.andThen_ok, e1, e2, AV.conc, Sem.run_pure, MapKept.run_getObj_map hob, leaf_check hd hkd hleaf _ _, MapKept.run_findKey hd hj, Option.map_none, run_zeroValue hi hzv, hzc]
          cases ok <;> rfl
        · cases hev
      · cases hev
    · cases hev
  · cases hev

theorem x_mapUp {t kt et : TypeId} {d : TypeDesc} {m k x : Operand} {kind : Leaf} {lm lk lx : LOpd} (ht : TmR ι tm a) (htl : tm.lt n = true) (hr : HR ι hp w) (hl : hp.lt n = true) (hop : o.op = .mapUpdate t m k x ∨ o.op = .insert t m k x) (hu : P.underlying t = some (.map kt et))
    (hd : P.underlying kt = some d) (hkind : leafKind d = some kind) (hm : opd m = some lm) (hk : opd k = some lk) (hx : opd x = some lx) (hev : XOp.eval tm hp n (.mapUp kind lm lk lx) = some (v, hp', n')) : OpOK P o ι hp n a w v hp' n' := by
  have hkd := leafKind_desc hkind
  simp only [XOp.eval] at hev
  split at hev
  · rename_i i kv xv h1 h2 h3
    have e1 := ht.opd hm h1
    have e2 := ht.opd hk h2
    have e3 := ht.opd hx h3
    have l2 := opd_lt htl hk h2
    have l3 := opd_lt htl hx h3
    have hexec : (execOp a.eval o).run P w = ((Instr.mapUpdate t (.map (some (ι.blk i))) (kv.conc ι) (xv.conc ι)).run P w).andThen fun _ w' => .ok .skip w' := by
      rcases hop with hop | hop <;> simp only [execOp, hop, e1, e2, e3, AV.conc, Sem.run_bind, Sem.run_pure]
    split at hev
    · rename_i es clock hg
      obtain ⟨ob, hob, hf⟩ := hr.get hg
      simp only [AObj.fits] at hf
      subst hf
      have hel := (AHeap.lt_get hl hg).2
      simp only [AObj.lt] at hel
      have hlt : ι.blk i < w.heap.size := (Array.getElem?_eq_some_iff.1 hob).1
      split at hev
      · rename_i es' hup
        split at hev
        · rename_i hleaf
          simp only [Option.some.injEq, Prod.mk.injEq] at hev
          obtain ⟨rfl, rfl, rfl⟩ := hev
          obtain ⟨j, v0, f1, f2, f3, f4⟩ := updE_sound (ι := ι) hkd es 0 _ hup
          refine ⟨ι, { w with heap := w.heap.setIfInBounds (ι.blk i) (.map (es'.map (concE ι)).toArray clock) }, .skip, ?_, .inr ⟨rfl, rfl⟩, hr.put hg rfl rfl _ (by simp [hlt]) rfl (fun b hb => by simp [Ne.symm hb]), AHeap.put_lt hl (updE_lt l2 l3 _ _ hup hel), rfl,
            stepR_put hg rfl rfl rfl rfl (by simp) (fun b hb => by simp [Ne.symm hb])⟩
          rw [hexec]
          have hj : ((es.map (concE ι)).toArray[0 + j]?).map (·.key) = some (kv.conc ι) := by simpa using f3
          have hmod : ((es.map (concE ι)).toArray.modify (0 + j) fun e => { e with key := kv.conc ι, val := xv.conc ι }) = (es'.map (concE ι)).toArray := by
            apply Array.toList_inj.1
            rw [Array.toList_modify, f4]; simp
          simp only [Instr.mapUpdate, Sem.run_bind, run_underlying hu, Result.andThen_ok, MapKept.run_getObj_map hob, leaf_check hd hkd hleaf _ _, MapKept.run_findKey hd f1, hj, Option.getD_some, leaf_stays hleaf, MapKept.run_setObj_map _ hob, hmod]
        · cases hev
      · rename_i hup
        split at hev
        · rename_i hleaf
          simp only [Option.some.injEq, Prod.mk.injEq] at hev
          obtain ⟨rfl, rfl, rfl⟩ := hev
          have f1 := updE_sound (ι := ι) hkd es 0 _ hup
          refine ⟨ι, { w with heap := w.heap.setIfInBounds (ι.blk i) (.map ((es ++ [(kv, xv, clock)]).map (concE ι)).toArray (clock + 1)) }, .skip, ?_, .inr ⟨rfl, rfl⟩, hr.put hg rfl rfl _ (by simp [hlt]) rfl (fun b hb => by simp [Ne.symm hb]), AHeap.put_lt hl ?_, rfl,
            stepR_put hg rfl rfl rfl rfl (by simp) (fun b hb => by simp [Ne.symm hb])⟩
          · rw [hexec]
            have hp : (es.map (concE ι)).toArray.push { key := kv.conc ι, val := xv.conc ι, born := clock } = ((es ++ [(kv, xv, clock)]).map (concE ι)).toArray := by simp [concE]
            simp only [Instr.mapUpdate, Sem.run_bind, run_underlying hu, Result.andThen_ok, MapKept.run_getObj_map hob, leaf_check hd hkd hleaf _ _, MapKept.run_findKey hd f1, MapKept.run_setObj_map _ hob, hp]
          · simp only [AObj.lt, List.all_append, Bool.and_eq_true]; exact ⟨hel, by simp [l2, l3]⟩
        · cases hev
      · cases hev
    · cases hev
  · cases hev

theorem freeze_other (w : World) (p : Addr) (k : Nat) (b : Nat) (hb : b ≠ p.block) : (w.freeze p k).heap[b]? = w.heap[b]? := by
  unfold World.freeze
  split
  · rfl
  · simp [Array.getElem?_modify, Ne.symm hb]
theorem del_heap (hr : HR ι hp w) (hl : hp.lt n = true) {i : Nat} {ao : AObj} (hg : hp.get? i = some ao) (ho : ao.owned = true) {w' : World} (hother : ∀ b, b ≠ ι.blk i → w'.heap[b]? = w.heap[b]?)
    (hos : w'.os = w.os) (ht : w'.tape = w.tape) (hout : w'.output = w.output) (hsz : w.heap.size ≤ w'.heap.size) : HR ι (hp.del i) w' ∧ (hp.del i).lt n = true ∧ StepR n ι hp w n ι (hp.del i) w' := by
  have hm := AHeap.get?_mem hg
  refine ⟨(hr.sub (AHeap.del_sub hp i)).keep fun j aj hj => ?_, AHeap.del_lt hl i, ⟨Nat.le_refl _, .refl _ _, ⟨hos, ht, hout, hsz, fun b _ hno => hother b fun e => hno ⟨i, ao, hm, ho, e.symm⟩⟩, fun _ hb => .inl (hb.sub fun p hp => (AHeap.mem_del hp).1)⟩⟩
  have hd := AHeap.mem_del hj
  exact hother _ (hr.far hd.1 hm hd.2 (.inr ho))

theorem x_uString {c : Call} {p k : Operand} {pt it e : TypeId} {lp lk : LOpd} (ht : TmR ι tm a) (hr : HR ι hp w) (hl : hp.lt n = true) (hop : o.op = .call c) (hb : c.callee = .builtin .unsafeString) (ha : c.args.toList = [p, k]) (hts : c.argTypes.toList = [pt, it])
    (hu : P.underlying pt = some (.pointer e)) (hce : P.cellsOf e = 1) (hp1 : opd p = some lp) (hk : opd k = some lk) (hev : XOp.eval tm hp n (.uString e lp lk) = some (v, hp', n')) : OpOK P o ι hp n a w v hp' n' := by
  have ha' := xb_args ha
  have ht' := xb_types hts
  have hexec : ∀ (x y : Value), a.eval p = x → a.eval k = y → (execOp a.eval o).run P w = ((Builtin.unsafeString_ #[pt, it] o.type #[x, y]).run P w).andThen fun v w' => .ok (.value v) w' := by
    intro x y hx hy
    simp only [execOp, hop, resolve, hb, ha', ht', Sem.run_bind, Sem.run_pure, Result.andThen_ok, invoke, builtin, List.map_toArray, List.map_cons, List.map_nil, hx, hy]
  simp only [XOp.eval] at hev
  split at hev
  · rename_i z h1 h2
    have e1 := ht.opd hp1 h1
    have e2 := ht.opd hk h2
    split at hev
    · rename_i hz
      subst hz
      simp only [Option.some.injEq, Prod.mk.injEq] at hev
      obtain ⟨rfl, rfl, rfl⟩ := hev
      refine PureOK.op ⟨?_, rfl⟩ hr hl
      rw [hexec _ _ e1 e2]
      simp only [AV.conc, Lib.run_unsafeString_none, Result.andThen_ok]
      rfl
    · cases hev
  · rename_i i z h1 h2
    have e1 := ht.opd hp1 h1
    have e2 := ht.opd hk h2
    split at hev
    · rename_i hz
      subst hz
      simp only [Option.some.injEq, Prod.mk.injEq] at hev
      obtain ⟨rfl, rfl, rfl⟩ := hev
      refine PureOK.op ⟨?_, rfl⟩ hr hl
      rw [hexec _ _ e1 e2]
      simp only [AV.conc, Lib.run_unsafeString_none, Result.andThen_ok]
      rfl
    · split at hev
      · rename_i cs el g hg
        split at hev
        · rename_i hc
          obtain ⟨rfl, hz0, hzm, hzl⟩ := hc
          split at hev
          · rename_i s hs
            simp only [Option.some.injEq, Prod.mk.injEq] at hev
            obtain ⟨rfl, rfl, rfl⟩ := hev
            have hcs := bytesOfL_eq hs
            have hslen : s.length = z.toNat := by
              have := congrArg List.length hcs
              simp [byteCellsOf] at this; omega
            have hcell? : hp.cells? i 0 z.toNat = some (byteCellsOf s) := by
              simp only [AHeap.cells?, hg, Nat.zero_add, hzl, if_true, List.drop_zero, hcs]
            have hcells := (hr.cells hcell?).2
            obtain ⟨ob, hob, hf⟩ := hr.get hg
            obtain ⟨k0, hk0, hsh⟩ : ∃ k0, z.toNat ≤ k0 ∧ w.shape? (ι.blk i) = some (el, k0) := by
              cases g with
              | none =>
                simp only [AObj.fits] at hf
                subst hf
                exact ⟨cs.length, hzl, by simp [World.shape?, hob]⟩
              | some q =>
                obtain ⟨x, es, kk⟩ := q
                obtain ⟨rest, hf, _⟩ := hf
                subst hf
                exact ⟨cs.length + rest.length, by omega, by simp [World.shape?, hob]⟩
            obtain ⟨g1, g2, g3⟩ := del_heap hr hl hg rfl (w' := w.freeze ⟨ι.blk i, 0, none⟩ s.length) (fun b hb => freeze_other w _ _ b hb) (by unfold World.freeze; split <;> rfl) (by unfold World.freeze; split <;> rfl) (by unfold World.freeze; split <;> rfl)
              (by unfold World.freeze; split <;> simp)
            refine ⟨ι, w.freeze ⟨ι.blk i, 0, none⟩ s.length, _, ?_, .inl rfl, g1, g2, rfl, g3⟩
            rw [hexec _ _ e1 e2]
            have hz' : z = (s.length : Int) := by omega
            simp only [AV.conc]
            rw [hz', Lib.run_unsafeString_row (P := P) w pt it o.type el hu hce (ι.blk i) k0 hsh s (by intro h; subst h; simp at hslen; omega) (by omega) (by omega) (fun j x hx => by
              rw [add_none]
              exact hcells j (.int .u8 x.toNat) (by simp [byteCellsOf, hx]))]
            rfl
          · cases hev
        · cases hev
      · cases hev
  · cases hev

theorem first_run (hr : HR ι hp w) {es m k : Nat} {x : AV} {news : List AV} (hs : srcCells hp es x = some (m, news)) (hk : k ≤ m) :
    (Builtin.firstCells es k (x.conc ι)).run P w = .ok (concL ι (news.take (k * es))).toArray w := by
  have hle : k * es ≤ m * es := Nat.mul_le_mul_right _ hk
  cases x <;> simp only [srcCells] at hs <;> first
    | cases hs; done
    | skip
  · rename_i s
    split at hs
    · rename_i he
      simp only [Option.some.injEq, Prod.mk.injEq] at hs
      obtain ⟨rfl, rfl⟩ := hs
      simp only [AV.conc, Builtin.firstCells, Sem.run_pure, he, Nat.mul_one]
      congr 1
      apply Array.toList_inj.1
      simp [concL_eq, ByteArray.data_extract, AV.conc, Function.comp_def]
    · cases hs
  · rename_i j o2 l2 c2
    simp only [Option.map_eq_some_iff, Prod.mk.injEq] at hs
    obtain ⟨l, hcl, rfl, rfl⟩ := hs
    have hcl' : hp.cells? j o2 (k * es) = some (l.take (k * es)) := by
      unfold AHeap.cells? at hcl ⊢
      split at hcl
      · split at hcl
        · simp only [Option.some.injEq] at hcl; subst hcl
          rw [if_pos (by omega), List.take_take, Nat.min_eq_left hle]
        · cases hcl
      · split at hcl
        · simp only [Option.some.injEq] at hcl; subst hcl
          rw [if_pos (by omega), List.take_take, Nat.min_eq_left hle]
        · cases hcl
      · split at hcl
        · simp only [Option.some.injEq] at hcl; subst hcl
          rw [if_pos (by omega), List.take_take, Nat.min_eq_left hle]
        · cases hcl
      · cases hcl
    simp only [AV.conc, Builtin.firstCells]
    exact hr.loadCells hcl'
  · simp only [Option.some.injEq, Prod.mk.injEq] at hs
    obtain ⟨rfl, rfl⟩ := hs
    simp [AV.conc, Builtin.firstCells, concL]

theorem x_copy {c : Call} {d s : Operand} {t t' e : TypeId} {inf : TypeInfo} {ld ls : LOpd} (ht : TmR ι tm a) (hr : HR ι hp w) (hl : hp.lt n = true) (hop : o.op = .call c) (hb : c.callee = .builtin .copy) (ha : c.args.toList = [d, s]) (hts : c.argTypes.toList = [t, t'])
    (hu : P.underlying t = some (.slice e)) (hi : P.info? e = some inf) (hd : opd d = some ld) (hs : opd s = some ls) (hev : XOp.eval tm hp n (.copy inf.size ld ls) = some (v, hp', n')) : OpOK P o ι hp n a w v hp' n' := by
  have ha' := xb_args ha
  have ht' := xb_types hts
  have hexec : ∀ (x y : Value), a.eval d = x → a.eval s = y → (execOp a.eval o).run P w = ((Builtin.copy_ #[t, t'] o.type #[x, y]).run P w).andThen fun v w' => .ok (.value v) w' := by
    intro x y hx hy
    simp only [execOp, hop, resolve, hb, ha', ht', Sem.run_bind, Sem.run_pure, Result.andThen_ok, invoke, builtin, List.map_toArray, List.map_cons, List.map_nil, hx, hy]
  simp only [XOp.eval] at hev
  split at hev
  · rename_i i off len cp sv h1 h2
    have e1 := ht.opd hd h1
    have e2 := ht.opd hs h2
    split at hev
    · rename_i m news hsrc
      split at hev
      · rename_i cs el g hg
        split at hev
        · rename_i hc
          simp only [Option.some.injEq, Prod.mk.injEq] at hev
          obtain ⟨rfl, rfl, rfl⟩ := hev
          obtain ⟨s1, _, s3⟩ := src_run (P := P) hr hsrc
          have hnl := srcCells_lt hl hsrc
          have hfirst := first_run (P := P) hr hsrc (Nat.min_le_left m len)
          have hlen : (news.take (min m len * inf.size)).length = min m len * inf.size := by
            rw [List.length_take, s3, Nat.min_eq_left (Nat.mul_le_mul_right _ (Nat.min_le_left _ _))]
          obtain ⟨w', hw, g1, g2, g3⟩ := put_row (P := P) hr hl hg (off := off) (vs := news.take (min m len * inf.size)) (by rw [hlen]; exact hc.2) hc.1 (ltL_take hnl _)
          rw [hlen] at g1 g2 g3
          refine ⟨ι, w', _, ?_, .inl rfl, g1, g2, rfl, g3⟩
          rw [hexec _ _ e1 e2]
          simp only [AV.conc]
          have hfirst' : (Builtin.firstCells inf.size (Nat.min m len) (sv.conc ι)).run P w = .ok (concL ι (news.take (min m len * inf.size))).toArray w := hfirst
          have hmin : ((Nat.min m len : Nat) : Int) = min (m : Int) (len : Int) := by show ((min m len : Nat) : Int) = _; omega
          simp [Builtin.copy_, run_underlying hu, s1, run_sizeOf' hi, hfirst', hw, goInt, hmin]
        · cases hev
      · cases hev
    · cases hev
  · cases hev

theorem xeval_sound (hres : resolveX P o = some xo) (ht : TmR ι tm a) (htl : tm.lt n = true) (hr : HR ι hp w) (hl : hp.lt n = true) (hev : xo.eval tm hp n = some (v, hp', n')) : OpOK P o ι hp n a w v hp' n' := by
  by_cases hpu : xo.isPure = true
  · obtain ⟨h1, rfl, rfl⟩ := xeval_pure hpu hev
    exact (xpure_sound hpu hres ht htl h1).op hr hl
  · unfold resolveX at hres
    split at hres
    · rename_i c hop
      split at hres
      · rename_i b hb
        unfold resolveXB at hres
        split at hres
        · split at hres
          · simp only [Option.some.injEq] at hres; subst hres; simp [XOp.isPure] at hpu
          · cases hres
        · split at hres
          · simp only [Option.some.injEq] at hres; subst hres; simp [XOp.isPure] at hpu
          · cases hres
        · split at hres
          · simp only [Option.some.injEq] at hres; subst hres; simp [XOp.isPure] at hpu
          · cases hres
        · simp only [Option.map_eq_some_iff] at hres
          obtain ⟨_, _, rfl⟩ := hres; simp [XOp.isPure] at hpu
        · rename_i p k pt it ha hts
          split at hres
          · rename_i e lp ln hu hp1 hk1
            split at hres
            · rename_i hce
              simp only [Option.some.injEq] at hres; subst hres
              exact x_uString ht hr hl hop hb ha hts hu hce hp1 hk1 hev
            · cases hres
          · cases hres
        · rename_i d s t t' ha hts
          split at hres
          · rename_i e ld ls hu hd1 hs1
            split at hres
            · rename_i inf hi
              split at hres
              · simp only [Option.some.injEq] at hres; subst hres
                exact x_copy ht hr hl hop hb ha hts hu hi hd1 hs1 hev
              · cases hres
            · cases hres
          · cases hres
        · cases hres
      · cases hres
    · split at hres
      · simp only [Option.some.injEq] at hres; subst hres; simp [XOp.isPure] at hpu
      · cases hres
    · split at hres
      · split at hres
        · simp only [Option.some.injEq] at hres; subst hres; simp [XOp.isPure] at hpu
        · cases hres
      · cases hres
    · rename_i s d x hop
      split at hres
      · rename_i e lx hs1 hd1 hx1
        split at hres
        · rename_i he
          simp only [Option.some.injEq] at hres; subst hres
          exact x_b2s ht hr hl hop hs1 hd1 he hx1 hev
        · cases hres
      · rename_i e lx hs1 hd1 hx1
        split at hres
        · rename_i he
          simp only [Option.some.injEq] at hres; subst hres
          exact x_s2b ht hr hl hop hs1 hd1 he hx1 hev
        · cases hres
      · cases hres
    · rename_i t x hop
      split at hres
      · rename_i lx hu hx1
        simp only [Option.some.injEq] at hres; subst hres
        exact x_rangeS ht hr hl hop hu hx1 hev
      · cases hres
    · rename_i it hop
      simp only [Option.map_eq_some_iff] at hres
      obtain ⟨lx, hx1, rfl⟩ := hres
      exact x_nextS ht hr hl hop hx1 hev
    · rename_i t hop
      simp only [Option.some.injEq] at hres; subst hres
      exact x_mkMap hr hl hop hev
    · rename_i t m k ok hop
      split at hres
      · rename_i kt et lm lk hu hm1 hk1
        split at hres
        · rename_i kind z hkind hz
          simp only [Option.some.injEq] at hres; subst hres
          simp only [Option.bind_eq_some_iff] at hkind
          obtain ⟨d, hd, hkind⟩ := hkind
          exact x_lookup ht hr hl hop hu hd hkind hz hm1 hk1 hev
        · cases hres
      · cases hres
    · rename_i t m k x hop
      split at hres
      · rename_i kt et lm lk lv hu hm1 hk1 hx1
        split at hres
        · rename_i kind hkind
          simp only [Option.some.injEq] at hres; subst hres
          simp only [Option.bind_eq_some_iff] at hkind
          obtain ⟨d, hd, hkind⟩ := hkind
          exact x_mapUp ht htl hr hl (.inl hop) hu hd hkind hm1 hk1 hx1 hev
        · cases hres
      · cases hres
    · rename_i t m k x hop
      split at hres
      · rename_i kt et lm lk lv hu hm1 hk1 hx1
        split at hres
        · rename_i kind hkind
          simp only [Option.some.injEq] at hres; subst hres
          simp only [Option.bind_eq_some_iff] at hkind
          obtain ⟨d, hd, hkind⟩ := hkind
          exact x_mapUp ht htl hr hl (.inr hop) hu hd hkind hm1 hk1 hx1 hev
        · cases hres
      · cases hres
    · cases hres
end
end Go.Ax
