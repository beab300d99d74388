/- Plain facts that contracts lean on. -/
import Derived.Test.YtgmfnndoaljdbaaGreatDoorAxLp
import Derived.Test.YtgmfnndoaljdbaaGreatDoorAxY
import Derived.IntWalk
import Derived.PlainAid
set_option linter.all false
namespace Go.Ax
open Go
set_option maxRecDepth 20000

/- a test of every index below m; the first index that passes -/
def upto (p : Nat → Bool) : Nat → Bool
  | 0 => true
  | m + 1 => upto p m && p m
theorem upto_iff {p : Nat → Bool} : ∀ {m : Nat}, upto p m = true ↔ ∀ i, i < m → p i = true
  | 0 => by simp [upto]
  | m + 1 => by
    simp only [upto, Bool.and_eq_true, upto_iff (m := m)]
    constructor
    · rintro ⟨h1, h2⟩ i hi
      rcases Nat.lt_succ_iff_lt_or_eq.1 hi with h | rfl
      · exact h1 i h
      · exact h2
    · exact fun h => ⟨fun i hi => h i (by omega), h m (by omega)⟩
theorem upto_false {p : Nat → Bool} {m i : Nat} (hi : i < m) (h : p i = false) : upto p m = false := by
  cases hu : upto p m with
  | false => rfl
  | true => rw [upto_iff.1 hu i hi] at h; cases h
def idxOf (p : Nat → Bool) : Nat → Option Nat
  | 0 => none
  | m + 1 => match idxOf p m with
    | some i => some i
    | none => if p m then some m else none
theorem idxOf_none {p : Nat → Bool} : ∀ {m : Nat}, (∀ i, i < m → p i = false) → idxOf p m = none
  | 0, _ => rfl
  | m + 1, h => by simp only [idxOf, idxOf_none (m := m) fun i hi => h i (by omega), h m (by omega)]; rfl
theorem idxOf_some {p : Nat → Bool} {i : Nat} (hp : p i = true) (h : ∀ j, j < i → p j = false) : ∀ {m : Nat}, i < m → idxOf p m = some i
  | 0, hm => by omega
  | m + 1, hm => by
    by_cases he : i = m
    · subst he; simp only [idxOf, idxOf_none h, hp, if_true]
    · simp only [idxOf, idxOf_some hp h (m := m) (by omega)]
theorem idxOf_lt {p : Nat → Bool} {i : Nat} : ∀ {m : Nat}, idxOf p m = some i → i < m ∧ p i = true
  | 0, h => by simp [idxOf] at h
  | m + 1, h => by
    simp only [idxOf] at h
    split at h
    · rename_i j hj
      simp only [Option.some.injEq] at h; subst h
      have := idxOf_lt hj
      exact ⟨by omega, this.2⟩
    · split at h
      · rename_i hp
        simp only [Option.some.injEq] at h; subst h
        exact ⟨by omega, hp⟩
      · cases h
/- an index that may lack -/
def idxI (p : Nat → Bool) (m : Nat) : Int := match idxOf p m with
  | some i => i
  | none => -1

@[simp] theorem byteCellsOf_length (s : List UInt8) : (byteCellsOf s).length = s.length := by simp [byteCellsOf]
theorem byteCellsOf_append (s t : List UInt8) : byteCellsOf (s ++ t) = byteCellsOf s ++ byteCellsOf t := by simp [byteCellsOf]
theorem byteCellsOf_one (s : List UInt8) : (byteCellsOf s).all AV.one = true := by simp [byteCellsOf, List.all_map, AV.one]
theorem byteCellsOf_get? (s : List UInt8) (i : Nat) : (byteCellsOf s)[i]? = (s[i]?).map fun b => .int .u8 b.toNat := by simp [byteCellsOf]
theorem byteCellsOf_drop (s : List UInt8) (i : Nat) : (byteCellsOf s).drop i = byteCellsOf (s.drop i) := by simp [byteCellsOf]
theorem byteCellsOf_take (s : List UInt8) (i : Nat) : (byteCellsOf s).take i = byteCellsOf (s.take i) := by simp [byteCellsOf]
theorem u8_cast_eq (a b : UInt8) : ((a.toNat : Int) == (b.toNat : Int)) = (a == b) := by
  rw [Bool.eq_iff_iff]
  simp only [beq_iff_eq, Int.natCast_inj, UInt8.toNat_inj]
theorem eqCells_bytes : ∀ (k : Nat) (s t : List UInt8), s.length = k → t.length = k → eqCells (List.replicate k .i) (byteCellsOf s) (byteCellsOf t) = some (s == t)
  | 0, [], [], _, _ => rfl
  | k + 1, a :: s, b :: t, hs, ht => by
    simp only [List.length_cons, Nat.add_right_cancel_iff] at hs ht
    have := eqCells_bytes k s t hs ht
    simp only [byteCellsOf] at this
    simp only [List.replicate_succ, byteCellsOf, List.map_cons, eqCells, eq1, this, u8_cast_eq, if_true]
    rfl
theorem eqCells_app2 : ∀ (ks ls : List Leaf) (a b c d : List AV), a.length = ks.length → b.length = ks.length → eqCells (ks ++ ls) (a ++ c) (b ++ d) = match eqCells ks a b, eqCells ls c d with
    | some x, some y => some (x && y)
    | _, _ => none
  | [], ls, [], [], c, d, _, _ => by
    simp only [List.nil_append, eqCells]
    cases eqCells ls c d <;> simp
  | k :: ks, ls, a :: as, b :: bs, c, d, ha, hb => by
    simp only [List.length_cons, Nat.add_right_cancel_iff] at ha hb
    simp only [List.cons_append, eqCells, eqCells_app2 ks ls as bs c d ha hb]
    cases eq1 k a b <;> cases eqCells ks as bs <;> cases eqCells ls c d <;> simp [Bool.and_assoc]
theorem wrap64_nat {m : Nat} (h : m < 9223372036854775808) : IntKind.i64.wrap (m : Int) = m := IntWalk.i64_in _ (by omega)
theorem wrap64_succ {m : Nat} (h : m < 9223372036854775807) : IntKind.i64.wrap ((m : Int) + 1) = ((m + 1 : Nat) : Int) := by rw [IntWalk.i64_in _ (by omega)]; omega
end Go.Ax
namespace Go.Ax
open Go
/- the bounds of a slice expression, by what is given -/
theorem b_nnn (len : Nat) (c : ACap) : boundsAV len c none none none = some (0, len, c) := rfl
theorem b_lnn (len : Nat) (c : ACap) (v : AV) : boundsAV len c (some v) none none = match asBound v with
    | some l => if l ≤ len then some (l, len, c) else none
    | none => none := rfl
theorem b_nhn (len : Nat) (c : ACap) (v : AV) : boundsAV len c none (some v) none = match asBound v with
    | some h => if c.atLeast h then some (0, h, c) else none
    | none => none := by
  unfold boundsAV
  dsimp only
  generalize asBound v = x
  cases x with
  | none => rfl
  | some h => dsimp only; cases c.atLeast h <;> rfl
theorem b_lhn (len : Nat) (c : ACap) (u v : AV) : boundsAV len c (some u) (some v) none = match asBound v with
    | some h => if c.atLeast h then (match asBound u with
      | some l => if l ≤ h then some (l, h, c) else none
      | none => none) else none
    | none => none := by
  unfold boundsAV
  dsimp only
  generalize asBound v = x
  cases x with
  | none => rfl
  | some h => dsimp only; cases c.atLeast h <;> rfl
end Go.Ax

namespace Go.Ax
open Go
theorem bytesAt_slice {hp : AHeap} {i off len : Nat} {c : ACap} {s : List UInt8} (h : hp.cells? i off len = some (byteCellsOf s)) : bytesAt hp (.slice i off len c) = some s := by
  simp only [bytesAt, h, Option.bind_some, bytesOfL_cells]
theorem cells_own {hp : AHeap} {i k : Nat} {cs : List AV} {e : TypeId} {g : Option (Nat × Nat × Nat)} {fz : Nat × Nat} (h : hp.get? i = some (.own cs e g fz)) (hk : cs.length = k) : hp.cells? i 0 k = some cs := by
  subst hk
  simp only [AHeap.cells?, h, Nat.zero_add, Nat.le_refl, if_true, List.drop_zero, List.take_length]
theorem compare_lt : ∀ {a b : List UInt8} {i : Nat} {x y : UInt8}, a.take i = b.take i → a[i]? = some x → b[i]? = some y → x < y → Lib.compareBytes a b = -1
  | [], b, i, x, y, _, h, _, _ => by simp at h
  | a :: as, [], i, x, y, _, _, h, _ => by simp at h
  | a :: as, b :: bs, 0, x, y, _, hx, hy, h => by
    simp only [List.getElem?_cons_zero, Option.some.injEq] at hx hy
    subst hx; subst hy
    simp [Lib.compareBytes, h]
  | a :: as, b :: bs, i + 1, x, y, ht, hx, hy, h => by
    simp only [List.take_succ_cons, List.cons.injEq] at ht
    obtain ⟨rfl, ht⟩ := ht
    simp only [List.getElem?_cons_succ] at hx hy
    simp [Lib.compareBytes, UInt8.lt_irrefl, compare_lt ht hx hy h]
theorem compare_gt : ∀ {a b : List UInt8} {i : Nat} {x y : UInt8}, a.take i = b.take i → a[i]? = some x → b[i]? = some y → y < x → Lib.compareBytes a b = 1
  | [], b, i, x, y, _, h, _, _ => by simp at h
  | a :: as, [], i, x, y, _, _, h, _ => by simp at h
  | a :: as, b :: bs, 0, x, y, _, hx, hy, h => by
    simp only [List.getElem?_cons_zero, Option.some.injEq] at hx hy
    subst hx; subst hy
    simp [Lib.compareBytes, h, UInt8.lt_asymm h]
  | a :: as, b :: bs, i + 1, x, y, ht, hx, hy, h => by
    simp only [List.take_succ_cons, List.cons.injEq] at ht
    obtain ⟨rfl, ht⟩ := ht
    simp only [List.getElem?_cons_succ] at hx hy
    simp [Lib.compareBytes, UInt8.lt_irrefl, compare_gt ht hx hy h]
theorem compare_self : ∀ (a : List UInt8), Lib.compareBytes a a = 0
  | [] => by simp [Lib.compareBytes]
  | a :: as => by simp [Lib.compareBytes, UInt8.lt_irrefl, compare_self as]
theorem compare_zero : ∀ {a b : List UInt8}, Lib.compareBytes a b = 0 → a = b
  | [], [], _ => rfl
  | [], b :: bs, h => by simp [Lib.compareBytes] at h
  | a :: as, [], h => by simp [Lib.compareBytes] at h
  | a :: as, b :: bs, h => by
    simp only [Lib.compareBytes] at h
    split at h
    · simp at h
    · split at h
      · simp at h
      · rename_i h1 h2
        rw [compare_zero h, UInt8.le_antisymm (UInt8.not_lt.1 h2) (UInt8.not_lt.1 h1)]
theorem u8_lt_int (x y : UInt8) : decide ((x.toNat : Int) < (y.toNat : Int)) = decide (x < y) := by
  rw [Bool.eq_iff_iff]
  simp only [decide_eq_true_eq, Int.ofNat_lt]
  exact UInt8.lt_iff_toNat_lt.symm
theorem take_succ_eq {a b : List UInt8} {i : Nat} {x : UInt8} (h : a.take i = b.take i) (hx : a[i]? = some x) (hy : b[i]? = some x) : a.take (i + 1) = b.take (i + 1) := by
  rw [List.take_add_one, List.take_add_one, h, hx, hy]
end Go.Ax
namespace Go.Ax
open Go
theorem cells_at {hp : AHeap} {i k : Nat} {cs : List AV} {v : AV} {e : TypeId} {g : Option (Nat × Nat × Nat)} {fz : Nat × Nat} (h : hp.get? i = some (.own cs e g fz)) (hk : cs[k]? = some v) : hp.cells? i k 1 = some [v] := by
  have hlt : k < cs.length := (List.getElem?_eq_some_iff.1 hk).1
  simp only [AHeap.cells?, h, if_pos (show k + 1 ≤ cs.length by omega), Option.some.injEq]
  rw [List.take_one, List.head?_drop, hk]; rfl
theorem get_some {a : List UInt8} {i : Nat} (h : i < a.length) : ∃ x, a[i]? = some x := ⟨a[i], List.getElem?_eq_getElem h⟩
theorem bytes_at {a : List UInt8} {i : Nat} {x : UInt8} (h : a[i]? = some x) : (byteCellsOf a)[i]? = some (.int .u8 x.toNat) := by rw [byteCellsOf_get?, h]; rfl
end Go.Ax

namespace Go.Ax
open Go
theorem cells_self {hp : AHeap} {n off k : Nat} {cs : List AV} {e : TypeId} {g : Option (Nat × Nat × Nat)} {fz : Nat × Nat} : AHeap.cells? ((n, .own cs e g fz) :: hp) n off k = if off + k ≤ cs.length then some ((cs.drop off).take k) else none := by
  simp only [AHeap.cells?, get_self]
theorem cells_skip {hp : AHeap} {i j off k : Nat} {o : AObj} (h : (j = i) = False) : AHeap.cells? ((j, o) :: hp) i off k = AHeap.cells? hp i off k := cells_cons_ne (by simp [h])
theorem nn1 (n : Nat) : n + 1 + 1 = n + 2 := rfl
theorem nn2 (n : Nat) : n + 2 + 1 = n + 3 := rfl
theorem nn3 (n : Nat) : n + 3 + 1 = n + 4 := rfl
theorem nn4 (n : Nat) : n + 4 + 1 = n + 5 := rfl
theorem nn5 (n : Nat) : n + 5 + 1 = n + 6 := rfl
theorem nn6 (n : Nat) : n + 6 + 1 = n + 7 := rfl
theorem nn7 (n : Nat) : n + 7 + 1 = n + 8 := rfl
theorem nn8 (n : Nat) : n + 8 + 1 = n + 9 := rfl
theorem nne (n k : Nat) : (n + (k + 1) = n) = False := eq_false (by omega)
theorem nne1 (n : Nat) : (n + 1 = n) = False := eq_false (by omega)
theorem nne2 (n : Nat) : (n + 2 = n) = False := eq_false (by omega)
theorem nne3 (n : Nat) : (n + 3 = n) = False := eq_false (by omega)
theorem nne4 (n : Nat) : (n + 4 = n) = False := eq_false (by omega)
theorem nne5 (n : Nat) : (n + 5 = n) = False := eq_false (by omega)
theorem nne6 (n : Nat) : (n + 6 = n) = False := eq_false (by omega)
theorem nne7 (n : Nat) : (n + 7 = n) = False := eq_false (by omega)
theorem nne8 (n : Nat) : (n + 8 = n) = False := eq_false (by omega)
end Go.Ax

namespace Go.Ax
open Go
/- what each plain operation computes -/
def lenV : Option AV → Option AV
  | some (.slice _ _ len _) => some (.int .i64 len)
  | some .nilslice => some (.int .i64 0)
  | _ => none
def ixSV (es : Nat) (x i : Option AV) : Option AV :=
  match x, i with
  | some (.slice j o len _), some (.int _ z) => if 0 ≤ z ∧ z < len then some (.ptr j (o + z.toNat * es)) else none
  | _, _ => none
section
variable {tm : LTm} {hp : AHeap}
theorem pv_mov {x : LOpd} : LOp.pv tm hp (.mov x) = x.val tm := rfl
theorem pv_pick {c : LOpd} {a : LOpd} {b : LOpd} : LOp.pv tm hp (.pick c a b) =
    match c.val tm with
    | some (.bool t) => if t then a.val tm else b.val tm
    | _ => none := rfl
theorem pv_build {zero : List AV} {parts : List (Nat × Nat × LOpd)} : LOp.pv tm hp (.build zero parts) =
    match partVals tm parts with
    | some ps => (fillL zero ps).map .agg
    | none => none := rfl
theorem pv_load1 {a : LOpd} : LOp.pv tm hp (.load1 a) =
    match a.val tm with
    | some (.ptr i off) => match hp.cells? i off 1 with
      | some [v] => some v
      | _ => none
    | some (.gptr g off) => match hp.gcells? g off 1 with
      | some [v] => some v
      | _ => none
    | _ => none := rfl
theorem pv_loadN {n : Nat} {a : LOpd} : LOp.pv tm hp (.loadN n a) =
    match a.val tm with
    | some (.ptr i off) => (hp.cells? i off n).map .agg
    | some (.gptr g off) => (hp.gcells? g off n).map .agg
    | _ => none := rfl
theorem pv_nilchk {x : LOpd} : LOp.pv tm hp (.nilchk x) =
    match x.val tm with
    | some (.ptr i off) => some (.ptr i off)
    | some (.func (.func f) a b) => some (.func (.func f) a b)
    | some (.iface t v) => some (.iface t v)
    | _ => none := rfl
theorem pv_arith {op : BinOp} {x : LOpd} {y : LOpd} : LOp.pv tm hp (.arith op x y) =
    match x.val tm, y.val tm with
    | some a, some b => arithAV op a b
    | _, _ => none := rfl
theorem pv_eqT {neg : Bool} {ks : List Leaf} {x : LOpd} {y : LOpd} : LOp.pv tm hp (.eqT neg ks x y) =
    match x.val tm, y.val tm with
    | some (.agg l), some (.agg m) => (eqCells ks l m).map fun r => .bool (r != neg)
    | _, _ => none := rfl
theorem pv_eqB {neg : Bool} {x : LOpd} {y : LOpd} : LOp.pv tm hp (.eqB neg x y) =
    match x.val tm, y.val tm with
    | some (.bool a), some (.bool b) => some (.bool ((a == b) != neg))
    | _, _ => none := rfl
theorem pv_eqN {neg : Bool} {c : NilC} {x : LOpd} {y : LOpd} : LOp.pv tm hp (.eqN neg c x y) =
    match x.val tm, y.val tm with
    | some a, some b => (eqNil c a b).map fun r => .bool (r != neg)
    | _, _ => none := rfl
theorem pv_un {op : UnOp} {x : LOpd} : LOp.pv tm hp (.un op x) =
    match op, x.val tm with
    | .not, some (.bool b) => some (.bool !b)
    | .neg, some (.int k n) => some (.int k (k.wrap (0 - n)))
    | .xor, some (.int k n) => some (.int k (bits .xor k (if k.signed then -1 else k.max) n))
    | _, _ => none := rfl
theorem pv_cvt {k : IntKind} {x : LOpd} : LOp.pv tm hp (.cvt k x) =
    match x.val tm with
    | some (.int _ n) => some (.int k (k.wrap n))
    | _ => none := rfl
theorem pv_cvS {x : LOpd} : LOp.pv tm hp (.cvS x) =
    match x.val tm with
    | some (.str s) => some (.str s)
    | _ => none := rfl
theorem pv_mkI {t : TypeId} {x : LOpd} : LOp.pv tm hp (.mkI t x) = (x.val tm).map (.iface t) := rfl
theorem pv_mkF {f : Fn} {first : List LOpd} {caps : List LOpd} : LOp.pv tm hp (.mkF f first caps) =
    match LOpd.vals tm first, LOpd.vals tm caps with
    | some a, some b => some (.func f a b)
    | _, _ => none := rfl
theorem pv_slA {n : Nat} {es : Nat} {x : LOpd} {lo : Option LOpd} {hi : Option LOpd} {mx : Option LOpd} : LOp.pv tm hp (.slA n es x lo hi mx) =
    match x.val tm, LOpd.optval tm lo, LOpd.optval tm hi, LOpd.optval tm mx with
    | some (.ptr i off), some lo, some hi, some mx => cutAV i off es (boundsAV n (.exact n) lo hi mx)
    | _, _, _, _ => none := rfl
theorem pv_slS {es : Nat} {x : LOpd} {lo : Option LOpd} {hi : Option LOpd} {mx : Option LOpd} : LOp.pv tm hp (.slS es x lo hi mx) =
    match x.val tm, LOpd.optval tm lo, LOpd.optval tm hi, LOpd.optval tm mx with
    | some (.slice i off len cap), some lo, some hi, some mx => cutAV i off es (boundsAV len cap lo hi mx)
    | some .nilslice, some lo, some hi, some mx => match boundsAV 0 (.exact 0) lo hi mx with | some _ => some .nilslice | none => none
    | _, _, _, _ => none := rfl
theorem pv_slStr {x : LOpd} {lo : Option LOpd} {hi : Option LOpd} : LOp.pv tm hp (.slStr x lo hi) =
    match x.val tm, LOpd.optval tm lo, LOpd.optval tm hi with
    | some (.str s), some lo, some hi =>
      match boundsAV s.length (.exact s.length) lo hi none with
      | some (l, h, _) => some (.str ((s.take h).drop l))
      | none => none
    | _, _, _ => none := rfl
theorem pv_fadd {off : Nat} {x : LOpd} : LOp.pv tm hp (.fadd off x) =
    match x.val tm with
    | some (.ptr i o) => some (.ptr i (o + off))
    | some (.gptr g o) => some (.gptr g (o + off))
    | _ => none := rfl
theorem pv_fld {off : Nat} {sz : Nat} {agg : Bool} {x : LOpd} : LOp.pv tm hp (.fld off sz agg x) =
    match x.val tm with
    | some (.agg l) => if agg then some (.agg ((l.drop off).take sz)) else l[off]?
    | _ => none := rfl
theorem pv_ixA {n : Nat} {es : Nat} {x : LOpd} {i : LOpd} : LOp.pv tm hp (.ixA n es x i) =
    match x.val tm, i.val tm with
    | some (.ptr j o), some (.int _ z) => if 0 ≤ z ∧ z < n then some (.ptr j (o + z.toNat * es)) else none
    | some (.gptr g o), some (.int _ z) => if 0 ≤ z ∧ z < n then some (.gptr g (o + z.toNat * es)) else none
    | _, _ => none := rfl
theorem pv_ixS {es : Nat} {x : LOpd} {i : LOpd} : LOp.pv tm hp (.ixS es x i) = ixSV es (x.val tm) (i.val tm) := rfl
theorem pv_ixV {n : Nat} {es : Nat} {agg : Bool} {x : LOpd} {i : LOpd} : LOp.pv tm hp (.ixV n es agg x i) =
    match x.val tm, i.val tm with
    | some (.agg l), some (.int _ z) =>
      if 0 ≤ z ∧ z < n then (if agg then some (.agg ((l.drop (z.toNat * es)).take es)) else l[z.toNat * es]?) else none
    | _, _ => none := rfl
theorem pv_ixStr {x : LOpd} {i : LOpd} : LOp.pv tm hp (.ixStr x i) =
    match x.val tm, i.val tm with
    | some (.str s), some (.int _ z) => if 0 ≤ z then (s[z.toNat]?).map fun b => .int .u8 b.toNat else none
    | _, _ => none := rfl
theorem pv_lenS {x : LOpd} : LOp.pv tm hp (.lenS x) = lenV (x.val tm) := rfl
theorem pv_lenStr {x : LOpd} : LOp.pv tm hp (.lenStr x) =
    match x.val tm with
    | some (.str s) => some (.int .i64 s.length)
    | _ => none := rfl
theorem pv_lenA {n : Nat} : LOp.pv tm hp (.lenA n) = some (.int .i64 n) := rfl
theorem pv_ext {k : Nat} {x : LOpd} : LOp.pv tm hp (.ext k x) =
    match x.val tm with
    | some (.tuple l) => l[k]?
    | _ => none := rfl
theorem lenV_slice {i off len : Nat} {c : ACap} : lenV (some (.slice i off len c)) = some (.int .i64 len) := rfl
theorem lenV_nil : lenV (some .nilslice) = some (.int .i64 0) := rfl
theorem ixSV_slice {es j o len : Nat} {c : ACap} {k : IntKind} {z : Int} : ixSV es (some (.slice j o len c)) (some (.int k z)) = if 0 ≤ z ∧ z < len then some (.ptr j (o + z.toNat * es)) else none := rfl
end
end Go.Ax

namespace Go.Ax
open Go
/- a slice that shows rows, nil or not -/
structure SliceAt (hp : AHeap) (s : AV) (es : Nat) (rows : List (List AV)) : Prop where
  len : lenV (some s) = some (.int .i64 rows.length)
  at_ : ∀ j (h : j < rows.length), ∃ b o, ixSV es (some s) (some (.int .i64 j)) = some (.ptr b o) ∧ rows[j].length = es ∧ hp.cells? b o es = some rows[j]
theorem ARows.sliceAt {hp : AHeap} {s : AV} {es : Nat} {rows : List (List AV)} (h : ARows hp s es rows) : SliceAt hp s es rows := by
  rcases h with ⟨rfl, rfl⟩ | ⟨i, off, cap, rfl, hr⟩
  · exact ⟨rfl, fun j hj => absurd hj (by simp)⟩
  · refine ⟨rfl, fun j hj => ⟨i, off + j * es, ?_, hr j hj⟩⟩
    simp only [ixSV_slice]
    rw [if_pos ⟨by omega, by omega⟩]
    simp
end Go.Ax
namespace Go.Ax
theorem bft : (false == true) = false := rfl
theorem btf : (true == false) = false := rfl
end Go.Ax

namespace Go.Ax
open Go
/- which values have one cell -/
theorem one_bool {b : Bool} : AV.one (.bool b : AV) = true := rfl
theorem cells_bool {b : Bool} : AV.cells (.bool b : AV) = [(.bool b : AV)] := rfl
theorem one_int {k : IntKind} {z : Int} : AV.one (.int k z : AV) = true := rfl
theorem cells_int {k : IntKind} {z : Int} : AV.cells (.int k z : AV) = [(.int k z : AV)] := rfl
theorem one_str {s : List UInt8} : AV.one (.str s : AV) = true := rfl
theorem cells_str {s : List UInt8} : AV.cells (.str s : AV) = [(.str s : AV)] := rfl
theorem one_ptr {i o : Nat} : AV.one (.ptr i o : AV) = true := rfl
theorem cells_ptr {i o : Nat} : AV.cells (.ptr i o : AV) = [(.ptr i o : AV)] := rfl
theorem one_gptr {i o : Nat} : AV.one (.gptr i o : AV) = true := rfl
theorem cells_gptr {i o : Nat} : AV.cells (.gptr i o : AV) = [(.gptr i o : AV)] := rfl
theorem one_nilptr  : AV.one (.nilptr : AV) = true := rfl
theorem cells_nilptr  : AV.cells (.nilptr : AV) = [(.nilptr : AV)] := rfl
theorem one_slice {i o l : Nat} {c : ACap} : AV.one (.slice i o l c : AV) = true := rfl
theorem cells_slice {i o l : Nat} {c : ACap} : AV.cells (.slice i o l c : AV) = [(.slice i o l c : AV)] := rfl
theorem one_nilslice  : AV.one (.nilslice : AV) = true := rfl
theorem cells_nilslice  : AV.cells (.nilslice : AV) = [(.nilslice : AV)] := rfl
theorem one_map {i : Nat} : AV.one (.map i : AV) = true := rfl
theorem cells_map {i : Nat} : AV.cells (.map i : AV) = [(.map i : AV)] := rfl
theorem one_nilmap  : AV.one (.nilmap : AV) = true := rfl
theorem cells_nilmap  : AV.cells (.nilmap : AV) = [(.nilmap : AV)] := rfl
theorem one_func {f : Fn} {a b : List AV} : AV.one (.func f a b : AV) = true := rfl
theorem cells_func {f : Fn} {a b : List AV} : AV.cells (.func f a b : AV) = [(.func f a b : AV)] := rfl
theorem one_yieldf {i : Nat} : AV.one (.yieldf i : AV) = true := rfl
theorem cells_yieldf {i : Nat} : AV.cells (.yieldf i : AV) = [(.yieldf i : AV)] := rfl
theorem one_nilfunc  : AV.one (.nilfunc : AV) = true := rfl
theorem cells_nilfunc  : AV.cells (.nilfunc : AV) = [(.nilfunc : AV)] := rfl
theorem one_iface {t : TypeId} {v : AV} : AV.one (.iface t v : AV) = true := rfl
theorem cells_iface {t : TypeId} {v : AV} : AV.cells (.iface t v : AV) = [(.iface t v : AV)] := rfl
theorem one_niliface  : AV.one (.niliface : AV) = true := rfl
theorem cells_niliface  : AV.cells (.niliface : AV) = [(.niliface : AV)] := rfl
theorem one_agg {l : List AV} : AV.one (.agg l) = false := rfl
theorem one_tuple {l : List AV} : AV.one (.tuple l) = false := rfl
theorem cells_agg {l : List AV} : AV.cells (.agg l) = l := rfl
theorem cells_tuple {l : List AV} : AV.cells (.tuple l) = [.tuple l] := rfl
theorem cells_of_one {v : AV} (h : v.one = true) : AV.cells v = [v] := by cases v <;> first | rfl | cases h
theorem SliceAt.one {hp : AHeap} {s : AV} {es : Nat} {rows : List (List AV)} (h : SliceAt hp s es rows) : s.one = true := by
  have := h.len
  cases s <;> first | rfl | cases this
theorem lt_cons {hp : AHeap} {n k : Nat} {o : AObj} (hl : hp.lt n = true) (hk : n ≤ k) (ho : o.lt (k + 1) = true) : AHeap.lt (k + 1) ((k, o) :: hp) = true := by
  have := AHeap.lt_mono (Nat.le_trans hk (Nat.le_succ k)) hl
  simp only [AHeap.lt, List.all_cons, Bool.and_eq_true, decide_eq_true_eq] at this ⊢
  exact ⟨⟨Nat.lt_succ_self k, ho⟩, this⟩
end Go.Ax
