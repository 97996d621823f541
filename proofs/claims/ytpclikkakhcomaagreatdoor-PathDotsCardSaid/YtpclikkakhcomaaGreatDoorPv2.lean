/- The interpreter: operations, regions, code, functions. Plain definitions. -/
import Derived.Test.YtpclikkakhcomaaGreatDoorPv1
set_option linter.unusedVariables false
namespace Go.Pv
open Go

def encByte (b : UInt8) : CV := .int .u8 b.toNat
def strBytes (s : ByteArray) : List CV := s.data.toList.map encByte
def isU8 : CV → Bool
  | .int .u8 _ => true
  | _ => false
def bytesOf (xs : List CV) : ByteArray := ⟨(xs.map fun c => UInt8.ofNat c.toInt.toNat).toArray⟩

abbrev KV := PV → Hp → Res

/-! ### Operators -/
def intOp (op : BinOp) (k : IntKind) (a b : Int) (K : CV → Res) : Res :=
  match op with
  | .add => K (.int k (k.wrap (a + b)))
  | .sub => K (.int k (k.wrap (a - b)))
  | .mul => K (.int k (k.wrap (a * b)))
  | .quo => bif' (decide (b = 0)) none (K (.int k (k.wrap (a.tdiv b))))
  | .rem => bif' (decide (b = 0)) none (K (.int k (a.tmod b)))
  | .and => K (.int k (k.wrap ((BitVec.ofInt k.bits a &&& BitVec.ofInt k.bits b).toNat)))
  | .or => K (.int k (k.wrap ((BitVec.ofInt k.bits a ||| BitVec.ofInt k.bits b).toNat)))
  | .xor => K (.int k (k.wrap ((BitVec.ofInt k.bits a ^^^ BitVec.ofInt k.bits b).toNat)))
  | .andNot => K (.int k (k.wrap ((BitVec.ofInt k.bits a &&& ~~~ BitVec.ofInt k.bits b).toNat)))
  | .eql => K (.bool (a == b))
  | .neq => K (.bool (a != b))
  | .lss => K (.bool (decide (a < b)))
  | .leq => K (.bool (decide (a ≤ b)))
  | .gtr => K (.bool (decide (a > b)))
  | .geq => K (.bool (decide (a ≥ b)))
  | _ => none
def shiftOp (op : BinOp) (k : IntKind) (a b : Int) (K : CV → Res) : Res :=
  match op with
  | .shl => bif' (decide (b < 0)) none (K (.int k (k.wrap (a * 2 ^ (min b.toNat k.bits)))))
  | .shr => bif' (decide (b < 0)) none (K (.int k (a.fdiv (2 ^ (min b.toNat k.bits)))))
  | _ => none
def fitsS (n : Nat) : Bool := Nat.ble n 9223372036854775807
def strOp (op : BinOp) (x y : ByteArray) (K : CV → Res) : Res :=
  match op with
  | .add => bif' (fitsS (x.size + y.size)) (K (.str (x ++ y))) none
  | .eql => K (.bool (x.toList == y.toList))
  | .neq => K (.bool (!(x.toList == y.toList)))
  | .lss => K (.bool (Op.bytesLess x.toList y.toList))
  | .leq => K (.bool (Op.bytesLess x.toList y.toList || x.toList == y.toList))
  | .gtr => K (.bool (!(Op.bytesLess x.toList y.toList || x.toList == y.toList)))
  | .geq => K (.bool (!(Op.bytesLess x.toList y.toList)))
  | _ => none

/-- '==' of the fields, one after the other: is all as it must be; are they equal? -/
def eqFields (P : Program) (eq : TypeId → List CV → List CV → Option (Bool × Bool)) : List Field → List CV → List CV → Option (Bool × Bool)
  | [], _, _ => some (true, true)
  | f :: fs, x, y =>
    match tySize P f.type with
    | none => none
    | some n => if f.name == "_" then none else
      match eq f.type ((x.drop f.offset).take n) ((y.drop f.offset).take n), eqFields P eq fs x y with
      | some (a, b), some (a', b') => some (a && a', b && b')
      | _, _ => none
def isInt (k : IntKind) : CV → Bool
  | .int k' _ => k == k'
  | _ => false
/-- '==' of closed values of one type, by their cells. -/
def cveq (P : Program) : Nat → TypeId → List CV → List CV → Option (Bool × Bool)
  | 0, _, _, _ => none
  | d + 1, t, x, y =>
    match P.underlying t with
    | some .bool => match x, y with
      | [.bool a], [.bool b] => some (true, a == b)
      | _, _ => none
    | some (.int _) => match x, y with
      | [.int k a], [.int k' b] => if k = k' then some (true, a == b) else none
      | _, _ => none
    | some .string => match x, y with
      | [.str a], [.str b] => some (true, a == b)
      | _, _ => none
    | some (.struct fs) => if P.stoodInHeld t then none else eqFields P (cveq P d) fs.toList x y
    | some (.array n e) => match P.underlying e with
      | some (.int k) => if tySize P e = some 1 ∧ 0 < d then some (x.length == n && y.length == n && x.all (isInt k) && y.all (isInt k), x.map CV.toInt == y.map CV.toInt) else none
      | _ => none
    | _ => none

/-- Is a value nil? (If the first answer is yes, the second tells.) cst: one of the two stands in the text. -/
def nilEq (P : Program) (t : TypeId) (cst : Bool) (p q : PV) (H : Hp) : Option (Bool × Bool) :=
  match P.underlying t, q with
  | some (.slice _), .c .nilsl => match p with
    | .c .nilsl => some (true, true)
    | .c (.sl _ _ _ xs) => some (!xs.isEmpty, false)
    | .rw r g => match getRow H r g with
      | some (xs, _, _) => some (!xs.isEmpty, false)
      | none => none
    | _ => none
  | some (.pointer _), .c .nilptr => match p with
    | .c .nilptr => some (true, true)
    | .bptr r _ => match H[r]? with
      | some (.box ..) => some (true, false)
      | _ => none
    | .ro _ => some (true, false)
    | _ => none
  | some (.pointer e), .bptr r' o' => match p with
    | .bptr r o => match H[r]?, H[r']?, tySize P e with
      | some (.box ..), some (.box ..), some (_ + 1) => if Nat.beq r r' then some (true, Nat.beq o o') else none
      | _, _, _ => none
    | _ => none
  | some (.func ..), .c .nilfn => match p with
    | .c .nilfn => some (true, true)
    | .c (.fn ..) => some (true, false)
    | .fn .. => some (true, false)
    | _ => none
  | some (.interface _), .c .nilif => match p with
    | .c .nilif => if cst then some (true, true) else none
    | .c .err => some (true, false)
    | _ => none
  | _, _ => none

def binOp' (P : Program) (op : BinOp) (t : TypeId) (cst : Bool) (p q : PV) (H : Hp) (K : KV) : Res :=
  match op, p, q with
  | .shl, .c (.int k a), .c (.int _ b) => shiftOp .shl k a b fun v => K (.c v) H
  | .shr, .c (.int k a), .c (.int _ b) => shiftOp .shr k a b fun v => K (.c v) H
  | op, .c (.int k a), .c (.int k' b) => if k = k' then intOp op k a b fun v => K (.c v) H else none
  | op, .c (.str x), .c (.str y) => strOp op x y fun v => K (.c v) H
  | .eql, .c (.bool a), .c (.bool b) => match P.underlying t with
    | some .bool => K (.c (.bool (a == b))) H
    | _ => none
  | .neq, .c (.bool a), .c (.bool b) => match P.underlying t with
    | some .bool => K (.c (.bool (a != b))) H
    | _ => none
  | .eql, .c (.agg x), .c (.agg y) => if P.eqGuardType P.depth t || tyAgg P t != some true then none else match cveq P 100 t x y with
    | some (a, b) => bif' a (K (.c (.bool b)) H) none
    | none => none
  | .neq, .c (.agg x), .c (.agg y) => if P.eqGuardType P.depth t || tyAgg P t != some true then none else match cveq P 100 t x y with
    | some (a, b) => bif' a (K (.c (.bool (!b))) H) none
    | none => none
  | .eql, p, q => match nilEq P t cst p q H with
    | some (a, b) => bif' a (K (.c (.bool b)) H) none
    | none => none
  | .neq, p, q => match nilEq P t cst p q H with
    | some (a, b) => bif' a (K (.c (.bool (!b))) H) none
    | none => none
  | _, _, _ => none

def unOp' (op : UnOp) (p : PV) (H : Hp) (K : KV) : Res :=
  match op, p with
  | .neg, .c (.int k n) => K (.c (.int k (k.wrap (0 - n)))) H
  | .xor, .c (.int k n) => K (.c (.int k (k.wrap ((BitVec.ofInt k.bits (if k.signed then -1 else k.max) ^^^ BitVec.ofInt k.bits n).toNat)))) H
  | .not, .c (.bool b) => K (.c (.bool (!b))) H
  | _, _ => none

/-- The elements that a slice has. -/
def elemsOf (p : PV) (H : Hp) : Option (Nat × List CV) :=
  match p with
  | .c .nilsl => some (1, [])
  | .c (.sl _ _ k xs) => some (k, xs)
  | .rw r g => match getRow H r g with
    | some (xs, k, _) => some (k, xs)
    | none => none
  | .row r g off len => match getRow H r g with
    | some (xs, k, _) => some (k, (xs.drop off).take len)
    | none => none
  | _ => none

def convert' (P : Program) (src dst : TypeId) (p : PV) (H : Hp) (K : KV) : Res :=
  match P.underlying src, P.underlying dst, p with
  | some (.int _), some (.int k), .c (.int _ n) => K (.c (.int k (k.wrap n))) H
  | some .string, some .string, .c (.str s) => K (.c (.str s)) H
  | some .string, some (.slice e), .c (.str s) => match P.underlying e with
    | some (.int .u8) => K (.rw H.length 0) (H ++ [.row (strBytes s) 1 0 false])
    | _ => none
  | some (.pointer t), some .unsafePointer, .bptr r o => match H[r]?, tySize P t with
    | some (.box _ k), some (_ + 1) => if o < ksz k then K (.bptr r o) H else none
    | _, _ => none
  | some .unsafePointer, some (.pointer u), .bptr r 0 => match H[r]? with
    | some (.box _ k) => if kty k = u + 1 ∧ (P.info? u).isSome = true ∧ liesAt P P.depth u (ksz k / P.cellsOf u) 0 u 1 = true then K (.bptr r 0) H else none
    | _ => none
  | some (.slice e), some .string, p => match P.underlying e, elemsOf p H with
    | some (.int .u8), some (1, xs) => bif' (xs.all isU8) (K (.c (.str (bytesOf xs))) H) none
    | _, _ => none
  | _, _, _ => none

/-! ### Memory -/
/-- A value of type t, by its cells from 'off' on, in a closed value's cells. -/
def readCV (P : Program) (t : TypeId) (cs : List CV) (off : Nat) (H : Hp) (K : KV) : Res :=
  match tyAgg P t, tySize P t with
  | some true, some n => bif' (decide (off + n ≤ cs.length)) (K (.c (.agg ((cs.drop off).take n))) H) none
  | some false, some 1 => match tyZero P t with
    | none => none
    | some z => bif' (decide (off < cs.length)) (bif' (okc z (cs.getD off .nilptr)) (K (.c (rdc z (cs.getD off .nilptr))) H) none) none
  | _, _ => none
def readPV (P : Program) (t : TypeId) (e : PV) (k off : Nat) (H : Hp) (K : KV) : Res :=
  match e with
  | .c v =>
    if off = 0 then match v, tyAgg P t, tySize P t with
      | .agg cs, some true, some n => if n = k then K (.c (.agg cs)) H else readCV P t cs 0 H K
      | v, _, _ => readCV P t v.cl 0 H K
    else readCV P t v.cl off H K
  | .agg ps => match tyAgg P t, tySize P t with
    | some true, some n => if off + n ≤ ps.length then K (.agg ((ps.drop off).take n)) H else none
    | some false, some 1 => match ps[off]? with
      | some p => K p H
      | none => none
    | _, _ => none
  | p => match tyAgg P t, tySize P t, off, p.ncells with
    | some false, some 1, 0, some 1 => K p H
    | _, _, _, _ => none
def load' (P : Program) (t : TypeId) (a : PV) (H : Hp) (K : KV) : Res :=
  match a with
  | .bptr r off => match H[r]? with
    | some (.box e k) => readPV P t e (ksz k) off H K
    | _ => none
  | .rptr r g i off => match getRow H r g with
    | some (xs, k, _) => bif' (decide (i < xs.length)) (readPV P t (.c (xs.getD i .nilptr)) k off H K) none
    | none => none
  | .ro cs => readCV P t cs 0 H K
  | _ => none

/-- A variable's value, some cells of it written. -/
def writePV (e : PV) (k off n : Nat) (x : PV) : Option PV :=
  if off = 0 ∧ n = k then some x else
  match e, x with
  | .c v, .c u => some (.c (.agg (setRange v.cl off u.cl)))
  | e, x => match e.cells, x.cells with
    | some cs, some us => some (.agg (setRange cs off us))
    | _, _ => none
def store' (P : Program) (t : TypeId) (a x : PV) (H : Hp) (K : KV) : Res :=
  match tySize P t, x.ncells with
  | some n, some m =>
    bif' (n == m) (match a with
    | .bptr r off => match H[r]? with
      | some (.box e k) => if off + n ≤ ksz k then match writePV e (ksz k) off n x with
          | some e' => K (.tup []) (H.set r (.box e' k))
          | none => none
        else none
      | _ => none
    | .rptr r g i off => match closeVal x H with
      | some (u, H1) => match getRow H1 r g with
        | some (xs, k, false) => if off + n ≤ k then
            bif' (decide (i < xs.length)) (K (.tup []) (H1.set r (.row (xs.set i (if off = 0 ∧ n = k then u else .agg (setRange (xs.getD i .nilptr).cl off u.cl))) k g false))) none
          else none
        | _ => none
      | none => none
    | _ => none) none
  | _, _ => none

def fieldAddr' (P : Program) (t : TypeId) (a : PV) (f : Nat) (H : Hp) (K : KV) : Res :=
  match tyField P t f with
  | some (off, ft) => match tySize P ft with
    | some 0 => none
    | some _ => match a with
      | .bptr r o => match H[r]? with
        | some (.box ..) => K (.bptr r (o + off)) H
        | _ => none
      | .rptr r g i o => match getRow H r g with
        | some _ => K (.rptr r g i (o + off)) H
        | none => none
      | .ro cs => K (.ro (cs.drop off)) H
      | _ => none
    | none => none
  | none => none
def field' (P : Program) (t : TypeId) (x : PV) (f : Nat) (H : Hp) (K : KV) : Res :=
  match tyField P t f with
  | some (off, ft) => match x with
    | .c (.agg cs) => readCV P ft cs off H K
    | .agg ps => readPV P ft (.agg ps) ps.length off H K
    | _ => none
  | none => none
def indexAddr' (P : Program) (t : TypeId) (x ix : PV) (H : Hp) (K : KV) : Res :=
  match ix with
  | .c (.int _ i) => match P.underlying t with
    | some (.slice e) => match tySize P e, x with
      | some n, .rw r g => match getRow H r g with
        | some (xs, k, _) => if n = k then bif' (decide (0 ≤ i)) (bif' (decide (i < (xs.length : Int))) (K (.rptr r g i.toNat 0) H) none) none else none
        | none => none
      | some n, .row r g off len => match getRow H r g with
        | some (_, k, _) => if n = k then bif' (decide (0 ≤ i)) (bif' (decide (i < (len : Int))) (K (.rptr r g (off + i.toNat) 0) H) none) none else none
        | none => none
      | some n, .c (.sl _ _ k xs) => if n = k then bif' (decide (0 ≤ i)) (bif' (decide (i < (xs.length : Int))) (K (.ro (xs.getD i.toNat .nilptr).cl) H) none) none else none
      | _, _ => none
    | some (.array n e) => match tySize P e, x with
      | some m, .bptr r o => match H[r]? with
        | some (.box ..) => bif' (decide (0 ≤ i)) (bif' (decide (i < (n : Int))) (K (.bptr r (o + i.toNat * m)) H) none) none
        | _ => none
      | some m, .rptr r g j o => match getRow H r g with
        | some _ => bif' (decide (0 ≤ i)) (bif' (decide (i < (n : Int))) (K (.rptr r g j (o + i.toNat * m)) H) none) none
        | none => none
      | some m, .ro cs => bif' (decide (0 ≤ i)) (bif' (decide (i < (n : Int))) (K (.ro (cs.drop (i.toNat * m))) H) none) none
      | _, _ => none
    | _ => none
  | _ => none
def byteAt (s : ByteArray) (i : Nat) : Int := (s.data.toList.getD i 0).toNat
def index' (P : Program) (t : TypeId) (x ix : PV) (H : Hp) (K : KV) : Res :=
  match ix with
  | .c (.int _ i) => match P.underlying t, x with
    | some .string, .c (.str s) => bif' (decide (0 ≤ i)) (bif' (decide (i < (s.size : Int))) (K (.c (.int .u8 (byteAt s i.toNat))) H) none) none
    | some (.array n e), .c (.agg cs) => match tySize P e with
      | some m => bif' (decide (0 ≤ i)) (bif' (decide (i < (n : Int))) (readCV P e cs (i.toNat * m) H K) none) none
      | none => none
    | _, _ => none
  | _ => none

/-- Bounds of a cut, in Go's order: high, then low. -/
def bound (p : Option PV) (d : Int) : Option Int :=
  match p with
  | none => some d
  | some (.c (.int _ i)) => some i
  | _ => none
def slice' (P : Program) (t : TypeId) (x : PV) (lo hi mx : Option PV) (H : Hp) (K : KV) : Res :=
  match P.underlying t, x, mx with
  | some .string, .c (.str s), none => match bound lo 0, bound hi s.size with
    | some l, some h => bif' (decide (0 ≤ l)) (bif' (decide (l ≤ h)) (bif' (decide (h ≤ (s.size : Int))) (K (.c (.str (s.extract l.toNat h.toNat))) H) none) none) none
    | _, _ => none
  | some (.slice e), .rw r g, none => match getRow H r g, tySize P e with
    | some (xs, k, _), some n => if n = k then match bound lo 0, bound hi xs.length with
        | some l, some h => bif' (decide (0 ≤ l)) (bif' (decide (l ≤ h)) (bif' (decide (h ≤ (xs.length : Int))) (K (.row r g l.toNat (h.toNat - l.toNat)) H) none) none) none
        | _, _ => none
      else none
    | _, _ => none
  | some (.slice e), .row r g off len, none => match getRow H r g, tySize P e with
    | some (_, k, _), some n => if n = k then match bound lo 0, bound hi len with
        | some l, some h => bif' (decide (0 ≤ l)) (bif' (decide (l ≤ h)) (bif' (decide (h ≤ (len : Int))) (K (.row r g (off + l.toNat) (h.toNat - l.toNat)) H) none) none) none
        | _, _ => none
      else none
    | _, _ => none
  | some (.slice e), .c (.sl _ full k xs), none => match tySize P e with
    | some n => if n = k then match bound lo 0, bound hi xs.length with
        | some l, some h => bif' (decide (0 ≤ l)) (bif' (decide (l ≤ h)) (bif' (decide (h ≤ (xs.length : Int))) (K (.c (.sl false (full && (match hi with | none => true | _ => false)) k ((xs.drop l.toNat).take (h.toNat - l.toNat)))) H) none) none) none
        | _, _ => none
      else none
    | none => none
  | _, _, _ => none

def zeroCells' (P : Program) (t : TypeId) : Option (List CV) := (tyZero P t).map CV.cl
/-- The parts of a literal laid over its zero value. -/
def fillC (place : Nat → Option (Nat × Nat)) : List (Nat × PV) → List CV → Option (Bool × List CV)
  | [], cs => some (true, cs)
  | (i, .c v) :: ps, cs => match place i with
    | some (off, n) => match fillC place ps (setRange cs off v.cl) with
      | some (b, cs') => if off + n ≤ cs.length then some (v.cl.length == n && b, cs') else none
      | none => none
    | none => none
  | _, _ => none
def fillP (place : Nat → Option (Nat × Nat)) : List (Nat × PV) → List PV → Option (Bool × List PV)
  | [], cs => some (true, cs)
  | (i, p) :: ps, cs => match place i, p.cells with
    | some (off, n), some us => match fillP place ps (setRange cs off us) with
      | some (b, cs') => if off + n ≤ cs.length then some (us.length == n && b, cs') else none
      | none => none
    | _, _ => none
/-- Where the parts of a literal of type t lie. -/
def fieldPlaces (P : Program) : List Field → Option (List (Nat × Nat))
  | [] => some []
  | f :: fs => match tySize P f.type, fieldPlaces P fs with
    | some n, some l => some ((f.offset, n) :: l)
    | _, _ => none
def placeOf (P : Program) (t : TypeId) : Option (Nat → Option (Nat × Nat)) :=
  match P.underlying t with
  | some (.struct fs) => match fieldPlaces P fs.toList with
    | some l => some fun i => l[i]?
    | none => none
  | some (.array _ e) => match tySize P e with
    | some n => some fun i => some (i * n, n)
    | none => none
  | _ => none
def allC : List (Nat × PV) → Bool
  | [] => true
  | (_, .c _) :: ps => allC ps
  | _ => false
def build' (P : Program) (t : TypeId) (parts : List (Nat × PV)) (H : Hp) (K : KV) : Res :=
  match tyZero P t, placeOf P t with
  | some (.agg z), some place =>
    if allC parts then match fillC place parts z with
      | some (b, cs) => bif' b (K (.c (.agg cs)) H) none
      | none => none
    else match fillP place parts (z.map .c) with
      | some (b, cs) => bif' b (K (.agg cs) H) none
      | none => none
  | _, _ => none
def fillE (n : Nat) : List (Nat × PV) → List CV → Hp → Option (Bool × List CV × Hp)
  | [], xs, H => some (true, xs, H)
  | (i, p) :: ps, xs, H => match closeVal p H with
    | some (v, H1) => match fillE n ps (xs.set i v) H1 with
      | some (b, xs', H2) => if i < xs.length then some (v.cl.length == n && b, xs', H2) else none
      | none => none
    | none => none
def buildSlice' (P : Program) (t : TypeId) (len : Nat) (parts : List (Nat × PV)) (H : Hp) (K : KV) : Res :=
  match P.underlying t with
  | some (.slice e) => match tyZero P e, tySize P e with
    | some z, some n => if len * n ≤ 16777216 ∧ z.cl.length = n ∧ 0 < n then match fillE n parts (List.replicate len z) H with
        | some (b, xs, H1) => bif' b (K (.rw H1.length 0) (H1 ++ [.row xs n 0 false])) none
        | none => none
      else none
    | _, _ => none
  | _ => none
def makeSlice' (P : Program) (t : TypeId) (l c : PV) (H : Hp) (K : KV) : Res :=
  match P.underlying t, l, c with
  | some (.slice e), .c (.int .i64 l), .c (.int .i64 c) => match tyZero P e, tySize P e, tyBytes P e with
    | some z, some n, some b => if z.cl.length = n ∧ 0 < n ∧ 0 < b then
        bif' (decide (0 ≤ l)) (bif' (decide (l ≤ c)) (bif' (decide ((b : Int) * c ≤ 281474976710656)) (K (.rw H.length 0) (H ++ [.row (List.replicate l.toNat z) n 0 false])) none) none) none
      else none
    | _, _, _ => none
  | _, _, _ => none

/-! ### Builtins -/
def len' (P : Program) (t : TypeId) (x : PV) (H : Hp) (K : KV) : Res :=
  match P.underlying t, x with
  | some .string, .c (.str s) => K (.c (.int .i64 s.size)) H
  | some (.array n _), _ => K (.c (.int .i64 n)) H
  | some (.slice _), p => match elemsOf p H with
    | some (_, xs) => K (.c (.int .i64 xs.length)) H
    | none => none
  | _, _ => none
/-- A slice's first element's address. -/
def sliceData' (x : PV) (H : Hp) (K : KV) : Res :=
  match x with
  | .c .nilsl => K (.c .nilptr) H
  | .rw r g => match getRow H r g with
    | some (xs, _, _) => bif' (!xs.isEmpty) (K (.rptr r g 0 0) H) none
    | none => none
  | _ => none
/-- A string of an array's first bytes; the array is given up. -/
def unsafeString' (P : Program) (pt : TypeId) (x n : PV) (H : Hp) (K : KV) : Res :=
  match x, n with
  | .c .nilptr, .c (.int _ n) => bif' (decide (n = 0)) (K (.c (.str ⟨#[]⟩)) H) none
  | .rptr r g 0 0, .c (.int _ n) => match P.underlying pt, getRow H r g with
    | some (.pointer e), some (xs, 1, _) => if gty g = e + 1 ∧ P.cellsOf e = 1 then
        bif' (decide (0 < n)) (bif' (decide (n ≤ (xs.length : Int))) (bif' (decide (n ≤ 9223372036854775807)) (bif' ((xs.take n.toNat).all isU8) (K (.c (.str (bytesOf (xs.take n.toNat)))) (H.set r .dead)) none) none) none) none
      else none
    | _, _ => none
  | _, _ => none
/-- What is appended: the elements of a slice, or a string's bytes. -/
def srcOf (p : PV) (H : Hp) : Option (Nat × List CV) :=
  match p with
  | .c (.str s) => some (1, strBytes s)
  | p => elemsOf p H
def append' (P : Program) (t : TypeId) (s x : PV) (H : Hp) (K : KV) : Res :=
  match P.underlying t with
  | some (.slice e) => match tySize P e, tyBytes P e, tyZero P e, srcOf x H with
    | some n, some b, some z, some (k, ys) =>
      if (k = n ∨ ys = []) ∧ 0 < n ∧ 0 < b ∧ z.cl.length = n then match s with
      | .c .nilsl => bif' (decide (ys.length * b ≤ 70368744177664)) (bif' (ys.isEmpty) (K (.c .nilsl) H) (K (.rw H.length (gOf e)) (H ++ [.row ys n (gOf e) false]))) none
      | .c (.sl _ true k' xs) => if k' = n then bif' (decide ((xs.length + ys.length) * b ≤ 70368744177664)) (bif' (ys.isEmpty) (K (.c (.sl false true n xs)) H) (K (.rw H.length 0) (H ++ [.row (xs ++ ys) n 0 false]))) none else none
      | .rw r g => match getRow H r g with
        | some (xs, k', sl) => if k' = n ∧ gok e g = true then bif' (decide ((xs.length + ys.length) * b ≤ 70368744177664)) (K (.rw r (g + 1)) (H.set r (.row (xs ++ ys) n (g + 1) sl))) none else none
        | none => none
      | .row r g 0 len => match getRow H r g with
        | some (xs, k', false) => if k' = n ∧ gok e g = true then bif' (decide ((len + ys.length) * b ≤ 70368744177664)) (K (.rw r (g + 1)) (H.set r (.row (xs.take len ++ ys) n (g + 1) false))) none else none
        | _ => none
      | _ => none
      else none
    | _, _, _, _ => none
  | _ => none

end Go.Pv
