/- An interpreter of the model's code over pure abstract values: what a Go function comes to, without memory addresses, capacities and orders. Plain definitions. -/
import Derived.Orders
import Derived.Lib.Bytealg
import Derived.KernelRfl
import GoSem.Core.Utf8
import Derived.Below
import Derived.Laws.Cells
import Derived.Laws.Entries
import Derived.Laws.BytesArg
import Derived.Lib.ConvBytes
import Derived.Laws.StructEq
import Derived.Laws.Append
import Derived.Laws.AppendOwn
set_option linter.unusedSimpArgs false
set_option linter.unusedVariables false
namespace Go.Pv
open Go
inductive CV where
 | bool (b : Bool)
 | int (k : IntKind) (n : Int)
 | str (s : ByteArray)
 | agg (cs : List CV)
 | aggO (cs : List CV)
 | sl (own full : Bool) (k : Nat) (xs : List CV)
 | nilsl
 | boxv (k : Nat) (e : CV)
 | nilptr
 | fn (f : FuncId) (caps : List CV)
 | nilfn
 | err
 | nilif
 | tup (vs : List CV)
 deriving Inhabited
def CV.cl : CV → List CV
 | .agg cs => cs
 | v => [v]
inductive PV where
 | undef
 | c (v : CV)
 | agg (cs : List PV)
 | rw (r g : Nat)
 | row (r g off len : Nat)
 | bptr (r t : Nat)
 | rptr (r g i t : Nat)
 | ro (cs : List CV)
 | fn (f : FuncId) (caps : List PV)
 | iter (r : Nat)
 | asl (r off len : Nat)
 | tup (vs : List PV)
 deriving Inhabited
inductive AO where
 | box (e : PV) (k : Nat)
 | row (xs : List CV) (k : Nat) (gen : Nat) (sealed : Bool)
 | iter (s : ByteArray) (pos : Nat)
 | dead
 deriving Inhabited
abbrev Hp := List AO
abbrev Res := Option (CV × List CV)
abbrev Env := List PV
abbrev Alts := List (Bool × CV × List CV)
abbrev Fn1 := List CV → Option Alts
abbrev Table := FuncId → Fn1
def pickAlt : Alts → Option (CV × List CV)
 | [] => none
 | (b, rv, outs) :: l => match b with
   | true => some (rv, outs)
   | false => pickAlt l
def picked : Option Alts → Option (CV × List CV)
 | none => none
 | some l => pickAlt l
def ksz (k : Nat) : Nat := k % 4294967296
def kty (k : Nat) : Nat := k / 4294967296
def kOf (n t : Nat) : Nat := n + 4294967296 * (t + 1)
def gty (g : Nat) : Nat := g / 1099511627776
def gOf (t : Nat) : Nat := 1099511627776 * (t + 1)
def gok (t g : Nat) : Bool := Nat.beq (gty (g + 1)) (gty g) && (Nat.beq (gty g) 0 || Nat.beq (gty g) (t + 1))
inductive Ex where
 | normal
 | exit (id : Nat)
 | ret
def bif' {α : Type} (b : Bool) (x y : Option α) : Option α :=
 match b with
 | true => x
 | false => y
def ofCell : Value → Option CV
 | .bool b => some (.bool b)
 | .int k n => some (.int k n)
 | .string s => some (.str s)
 | .pointer none => some .nilptr
 | .slice none 0 0 => some .nilsl
 | .nilFunc => some .nilfn
 | .nilIface => some .nilif
 | _ => none
def ofCells : List Value → Option (List CV)
 | [] => some []
 | v :: vs => match ofCell v, ofCells vs with
   | some x, some xs => some (x :: xs)
   | _, _ => none
def ofVal : Value → Option CV
 | .agg cs => match ofCells cs.toList with
   | some xs => some (.agg xs)
   | none => none
 | v => ofCell v
def evl (env : Env) : Operand → PV
 | .tmp t => env.getD t .undef
 | .const v => match ofVal v with
   | some x => .c x
   | none => .undef
 | .func f => .fn f []
 | .global _ => .undef
def tySize (P : Program) (t : TypeId) : Option Nat := (P.info? t).map (·.size)
def tyBytes (P : Program) (t : TypeId) : Option Nat := (P.info? t).map (·.bytes)
def tyAgg (P : Program) (t : TypeId) : Option Bool :=
 match P.underlying t with
 | some (.struct _) | some (.array _ _) => some true
 | some _ => some false
 | none => none
def tyZero (P : Program) (t : TypeId) : Option CV :=
 match P.info? t with
 | some i => match i.zero with
   | some z => ofVal z
   | none => none
 | none => none
def tyField (P : Program) (t : TypeId) (f : Nat) : Option (Nat × TypeId) :=
 match P.underlying t with
 | some (.struct fs) => match fs[f]? with
   | some x => some (x.offset, x.type)
   | none => none
 | _ => none
def CV.toInt : CV → Int
 | .int _ n => n
 | _ => 0
def CV.toStr : CV → ByteArray
 | .str s => s
 | _ => ⟨#[]⟩
def CV.toBool : CV → Bool
 | .bool b => b
 | _ => false
def okc : CV → CV → Bool
 | .int k _, .int k' _ => k == k'
 | .int _ _, _ => false
 | .str _, .str _ => true
 | .str _, _ => false
 | .bool _, .bool _ => true
 | .bool _, _ => false
 | _, .agg _ => false
 | _, .aggO _ => false
 | _, .tup _ => false
 | _, .boxv _ _ => false
 | _, _ => true
def rdc : CV → CV → CV
 | .int k _, c => .int k c.toInt
 | .str _, c => .str c.toStr
 | .bool _, c => .bool c.toBool
 | _, c => c
def setRange {α : Type} (cs : List α) (off : Nat) (xs : List α) : List α := cs.take off ++ xs ++ cs.drop (off + xs.length)
def PV.cells : PV → Option (List PV)
 | .c (.agg cs) => some (cs.map .c)
 | .c v => some [.c v]
 | .agg cs => some cs
 | .undef | .tup _ | .iter _ => none
 | p => some [p]
def PV.ncells : PV → Option Nat
 | .c v => some v.cl.length
 | .agg cs => some cs.length
 | .undef | .tup _ | .iter _ => none
 | _ => some 1
def getRow (H : Hp) (r g : Nat) : Option (List CV × Nat × Bool) :=
 match H[r]? with
 | some (.row xs k g' s) => if g = g' then some (xs, k, s) else none
 | _ => none
def sealRow (H : Hp) (r : Nat) : Hp :=
 match H[r]? with
 | some (.row xs k g _) => H.set r (.row xs k g true)
 | _ => H
def closeCell (p : PV) (H : Hp) : Option (CV × Hp) :=
 match p with
 | .c v => match v with
   | .agg _ => none
   | v => some (v, H)
 | .rw r g => match getRow H r g with
   | some (xs, k, _) => some (.sl false false k xs, sealRow H r)
   | none => none
 | .row r g off len => match getRow H r g with
   | some (xs, k, _) => some (.sl false false k ((xs.drop off).take len), sealRow H r)
   | none => none
 | .fn f [] => some (.fn f [], H)
 | _ => none
def closeCells : List PV → Hp → Option (List CV × Hp)
 | [], H => some ([], H)
 | p :: ps, H => match closeCell p H with
   | some (v, H1) => match closeCells ps H1 with
     | some (vs, H2) => some (v :: vs, H2)
     | none => none
   | none => none
def closeVal (p : PV) (H : Hp) : Option (CV × Hp) :=
 match p with
 | .c v => some (v, H)
 | .agg cs => match closeCells cs H with
   | some (vs, H1) => some (.agg vs, H1)
   | none => none
 | p => closeCell p H
def ownCell (p : PV) (H : Hp) : Option (CV × Hp) :=
 match p with
 | .rw r g => match getRow H r g with
   | some (xs, k, false) => some (.sl true false k xs, H.set r .dead)
   | some (xs, k, true) => some (.sl false false k xs, H)
   | none => none
 | p => closeCell p H
def ownCells : List PV → Hp → Option (List CV × Hp)
 | [], H => some ([], H)
 | p :: ps, H => match ownCell p H with
   | some (v, H1) => match ownCells ps H1 with
     | some (vs, H2) => some (v :: vs, H2)
     | none => none
   | none => none
def ownVal (p : PV) (H : Hp) : Option (CV × Hp) :=
 match p with
 | .c v => some (v, H)
 | .agg cs => match ownCells cs H with
   | some (vs, H1) => some (.aggO vs, H1)
   | none => none
 | p => ownCell p H
def ownRes (p : PV) (H : Hp) : Option (CV × Hp) :=
 match p with
 | .bptr r 0 => match H[r]? with
   | some (.box e k) => match ownVal e (H.set r .dead) with
     | some (v, H1) => some (.boxv k v, H1)
     | none => none
   | _ => none
 | p => ownVal p H
def ownTup : List PV → Hp → Option (List CV × Hp)
 | [], H => some ([], H)
 | p :: ps, H => match ownRes p H with
   | some (v, H1) => match ownTup ps H1 with
     | some (vs, H2) => some (v :: vs, H2)
     | none => none
   | none => none
def ownAll (p : PV) (H : Hp) : Option (CV × Hp) :=
 match p with
 | .tup ps => match ownTup ps H with
   | some (vs, H1) => some (.tup vs, H1)
   | none => none
 | p => ownRes p H
def openCell (v : CV) (H : Hp) : PV × Hp :=
 match v with
 | .sl true _ k xs => (.rw H.length 0, H ++ [.row xs k 0 false])
 | v => (.c v, H)
def openCells : List CV → Hp → List PV × Hp
 | [], H => ([], H)
 | v :: vs, H =>
   let (p, H1) := openCell v H
   let (ps, H2) := openCells vs H1
   (p :: ps, H2)
def openVal (v : CV) (H : Hp) : PV × Hp :=
 match v with
 | .aggO cs =>
   let (ps, H1) := openCells cs H
   (.agg ps, H1)
 | v => openCell v H
def openRes (v : CV) (H : Hp) : PV × Hp :=
 match v with
 | .boxv k e =>
   let (p, H1) := openVal e (H ++ [.dead])
   (.bptr H.length 0, H1.set H.length (.box p k))
 | v => openVal v H
def openTup : List CV → Hp → List PV × Hp
 | [], H => ([], H)
 | v :: vs, H =>
   let (p, H1) := openRes v H
   let (ps, H2) := openTup vs H1
   (p :: ps, H2)
def openAll (v : CV) (H : Hp) : PV × Hp :=
 match v with
 | .tup vs =>
   let (ps, H1) := openTup vs H
   (.tup ps, H1)
 | v => openRes v H
def capsC : List PV → Option (List CV)
 | [] => some []
 | .c v :: ps => match capsC ps with
   | some vs => some (v :: vs)
   | none => none
 | _ => none
def closeArg (p : PV) (H : Hp) : Option (CV × Hp × List Nat) :=
 match p with
 | .bptr r 0 => match H[r]? with
   | some (.box e k) => match closeVal e H with
     | some (v, H1) => some (.boxv k v, H1, [r])
     | none => none
   | _ => none
 | .fn f caps => match capsC caps with
   | some vs => some (.fn f vs, H, [])
   | none => none
 | p => match closeVal p H with
   | some (v, H1) => some (v, H1, [])
   | none => none
def closeArgs : List PV → Hp → Option (List CV × Hp × List Nat)
 | [], H => some ([], H, [])
 | p :: ps, H => match closeArg p H with
   | some (v, H1, l) => match closeArgs ps H1 with
     | some (vs, H2, l2) => some (v :: vs, H2, l ++ l2)
     | none => none
   | none => none
def noDup : List Nat → Bool
 | [] => true
 | r :: rs => !rs.contains r && noDup rs
def giveBack : List Nat → List CV → Hp → Option Hp
 | [], [], H => some H
 | r :: rs, v :: vs, H => match H[r]? with
   | some (.box _ k) => giveBack rs vs (H.set r (.box (.c v) k))
   | _ => none
 | _, _, _ => none
def openArg (v : CV) (H : Hp) : PV × Hp :=
 match v with
 | .boxv k e => (.bptr H.length 0, H ++ [.box (.c e) k])
 | v => (.c v, H)
def openArgs : List CV → Hp → List PV × Hp
 | [], H => ([], H)
 | v :: vs, H =>
   let (p, H1) := openArg v H
   let (ps, H2) := openArgs vs H1
   (p :: ps, H2)
def lentOf : Hp → List Nat
 | [] => []
 | .box _ k :: H => k :: lentOf H
 | _ :: H => 0 :: lentOf H
end Go.Pv
namespace Go.Pv
open Go
def encByte (b : UInt8) : CV := .int .u8 b.toNat
def strBytes (s : ByteArray) : List CV := s.data.toList.map encByte
def isU8 : CV → Bool
 | .int .u8 _ => true
 | _ => false
def bytesOf (xs : List CV) : ByteArray := ⟨(xs.map fun c => UInt8.ofNat c.toInt.toNat).toArray⟩
abbrev KV := PV → Hp → Res
def intOp (op : BinOp) (k : IntKind) (a b : Int) (K : CV → Res) : Res :=
 match op with
 | .add => K (.int k (k.wrap (a + b)))
 | .sub => K (.int k (k.wrap (a - b)))
 | .mul => K (.int k (k.wrap (a * b)))
 | .quo => bif' (decide (b = 0)) none (K (.int k (k.wrap (a.tdiv b))))
 | .rem => bif' (decide (b = 0)) none (K (.int k (a.tmod b)))
 | .and => K (.int k (k.wrap ((BitVec.ofInt k.bits a &&& BitVec.ofInt k.bits b).toNat)))
 | .or => K (.int k (k.wrap ((BitVec.ofInt k.bits a ||| BitVec.ofInt k.bits b).toNat)))
 | .xor => K (.int k (k.wrap ((BitVec.ofInt k.bits a ^^^ BitVec.ofInt k.bits b).toNat)))
 | .andNot => K (.int k (k.wrap ((BitVec.ofInt k.bits a &&& ~~~ BitVec.ofInt k.bits b).toNat)))
 | .eql => K (.bool (a == b))
 | .neq => K (.bool (a != b))
 | .lss => K (.bool (decide (a < b)))
 | .leq => K (.bool (decide (a ≤ b)))
 | .gtr => K (.bool (decide (a > b)))
 | .geq => K (.bool (decide (a ≥ b)))
 | _ => none
def shiftOp (op : BinOp) (k : IntKind) (a b : Int) (K : CV → Res) : Res :=
 match op with
 | .shl => bif' (decide (b < 0)) none (K (.int k (k.wrap (a * 2 ^ (min b.toNat k.bits)))))
 | .shr => bif' (decide (b < 0)) none (K (.int k (a.fdiv (2 ^ (min b.toNat k.bits)))))
 | _ => none
def fitsS (n : Nat) : Bool := Nat.ble n 9223372036854775807
def strOp (op : BinOp) (x y : ByteArray) (K : CV → Res) : Res :=
 match op with
 | .add => bif' (fitsS (x.size + y.size)) (K (.str (x ++ y))) none
 | .eql => K (.bool (x.toList == y.toList))
 | .neq => K (.bool (!(x.toList == y.toList)))
 | .lss => K (.bool (Op.bytesLess x.toList y.toList))
 | .leq => K (.bool (Op.bytesLess x.toList y.toList || x.toList == y.toList))
 | .gtr => K (.bool (!(Op.bytesLess x.toList y.toList || x.toList == y.toList)))
 | .geq => K (.bool (!(Op.bytesLess x.toList y.toList)))
 | _ => none
def eqFields (P : Program) (eq : TypeId → List CV → List CV → Option (Bool × Bool)) : List Field → List CV → List CV → Option (Bool × Bool)
 | [], _, _ => some (true, true)
 | f :: fs, x, y =>
   match tySize P f.type with
   | none => none
   | some n => if f.name == "_" then none else
     match eq f.type ((x.drop f.offset).take n) ((y.drop f.offset).take n), eqFields P eq fs x y with
     | some (a, b), some (a', b') => some (a && a', b && b')
     | _, _ => none
def isInt (k : IntKind) : CV → Bool
 | .int k' _ => k == k'
 | _ => false
def cveq (P : Program) : Nat → TypeId → List CV → List CV → Option (Bool × Bool)
 | 0, _, _, _ => none
 | d + 1, t, x, y =>
   match P.underlying t with
   | some .bool => match x, y with
     | [.bool a], [.bool b] => some (true, a == b)
     | _, _ => none
   | some (.int _) => match x, y with
     | [.int k a], [.int k' b] => if k = k' then some (true, a == b) else none
     | _, _ => none
   | some .string => match x, y with
     | [.str a], [.str b] => some (true, a == b)
     | _, _ => none
   | some (.struct fs) => if P.stoodInHeld t then none else eqFields P (cveq P d) fs.toList x y
   | some (.array n e) => match P.underlying e with
     | some (.int k) => if tySize P e = some 1 ∧ 0 < d then some (x.length == n && y.length == n && x.all (isInt k) && y.all (isInt k), x.map CV.toInt == y.map CV.toInt) else none
     | _ => none
   | _ => none
def nilEq (P : Program) (t : TypeId) (cst : Bool) (p q : PV) (H : Hp) : Option (Bool × Bool) :=
 match P.underlying t, q with
 | some (.slice _), .c .nilsl => match p with
   | .c .nilsl => some (true, true)
   | .c (.sl _ _ _ xs) => some (!xs.isEmpty, false)
   | .rw r g => match getRow H r g with
     | some (xs, _, _) => some (!xs.isEmpty, false)
     | none => none
   | _ => none
 | some (.pointer _), .c .nilptr => match p with
   | .c .nilptr => some (true, true)
   | .bptr r _ => match H[r]? with
     | some (.box ..) => some (true, false)
     | _ => none
   | .ro _ => some (true, false)
   | _ => none
 | some (.pointer e), .bptr r' o' => match p with
   | .bptr r o => match H[r]?, H[r']?, tySize P e with
     | some (.box ..), some (.box ..), some (_ + 1) => if Nat.beq r r' then some (true, Nat.beq o o') else none
     | _, _, _ => none
   | _ => none
 | some (.func ..), .c .nilfn => match p with
   | .c .nilfn => some (true, true)
   | .c (.fn ..) => some (true, false)
   | .fn .. => some (true, false)
   | _ => none
 | some (.interface _), .c .nilif => match p with
   | .c .nilif => if cst then some (true, true) else none
   | .c .err => some (true, false)
   | _ => none
 | _, _ => none
def binOp' (P : Program) (op : BinOp) (t : TypeId) (cst : Bool) (p q : PV) (H : Hp) (K : KV) : Res :=
 match op, p, q with
 | .shl, .c (.int k a), .c (.int _ b) => shiftOp .shl k a b fun v => K (.c v) H
 | .shr, .c (.int k a), .c (.int _ b) => shiftOp .shr k a b fun v => K (.c v) H
 | op, .c (.int k a), .c (.int k' b) => if k = k' then intOp op k a b fun v => K (.c v) H else none
 | op, .c (.str x), .c (.str y) => strOp op x y fun v => K (.c v) H
 | .eql, .c (.bool a), .c (.bool b) => match P.underlying t with
   | some .bool => K (.c (.bool (a == b))) H
   | _ => none
 | .neq, .c (.bool a), .c (.bool b) => match P.underlying t with
   | some .bool => K (.c (.bool (a != b))) H
   | _ => none
 | .eql, .c (.agg x), .c (.agg y) => if P.eqGuardType P.depth t || tyAgg P t != some true then none else match cveq P 100 t x y with
   | some (a, b) => bif' a (K (.c (.bool b)) H) none
   | none => none
 | .neq, .c (.agg x), .c (.agg y) => if P.eqGuardType P.depth t || tyAgg P t != some true then none else match cveq P 100 t x y with
   | some (a, b) => bif' a (K (.c (.bool (!b))) H) none
   | none => none
 | .eql, p, q => match nilEq P t cst p q H with
   | some (a, b) => bif' a (K (.c (.bool b)) H) none
   | none => none
 | .neq, p, q => match nilEq P t cst p q H with
   | some (a, b) => bif' a (K (.c (.bool (!b))) H) none
   | none => none
 | _, _, _ => none
def unOp' (op : UnOp) (p : PV) (H : Hp) (K : KV) : Res :=
 match op, p with
 | .neg, .c (.int k n) => K (.c (.int k (k.wrap (0 - n)))) H
 | .xor, .c (.int k n) => K (.c (.int k (k.wrap ((BitVec.ofInt k.bits (if k.signed then -1 else k.max) ^^^ BitVec.ofInt k.bits n).toNat)))) H
 | .not, .c (.bool b) => K (.c (.bool (!b))) H
 | _, _ => none
def elemsOf (p : PV) (H : Hp) : Option (Nat × List CV) :=
 match p with
 | .c .nilsl => some (1, [])
 | .c (.sl _ _ k xs) => some (k, xs)
 | .rw r g => match getRow H r g with
   | some (xs, k, _) => some (k, xs)
   | none => none
 | .row r g off len => match getRow H r g with
   | some (xs, k, _) => some (k, (xs.drop off).take len)
   | none => none
 | .asl r off len => match H[r]? with
   | some (.box (.c (.agg cs)) _) => if off + len ≤ cs.length then some (1, (cs.drop off).take len) else none
   | _ => none
 | _ => none
def convert' (P : Program) (src dst : TypeId) (p : PV) (H : Hp) (K : KV) : Res :=
 match P.underlying src, P.underlying dst, p with
 | some (.int _), some (.int k), .c (.int _ n) => K (.c (.int k (k.wrap n))) H
 | some .string, some .string, .c (.str s) => K (.c (.str s)) H
 | some .string, some (.slice e), .c (.str s) => match P.underlying e with
   | some (.int .u8) => K (.rw H.length 0) (H ++ [.row (strBytes s) 1 0 false])
   | _ => none
 | some (.pointer t), some .unsafePointer, .bptr r o => match H[r]?, tySize P t with
   | some (.box _ k), some (_ + 1) => if o < ksz k then K (.bptr r o) H else none
   | _, _ => none
 | some .unsafePointer, some (.pointer u), .bptr r 0 => match H[r]? with
   | some (.box _ k) => if kty k = u + 1 ∧ (P.info? u).isSome = true ∧ liesAt P P.depth u (ksz k / P.cellsOf u) 0 u 1 = true then K (.bptr r 0) H else none
   | _ => none
 | some (.slice e), some .string, p => match P.underlying e, elemsOf p H with
   | some (.int .u8), some (1, xs) => bif' (xs.all isU8) (K (.c (.str (bytesOf xs))) H) none
   | _, _ => none
 | _, _, _ => none
def readCV (P : Program) (t : TypeId) (cs : List CV) (off : Nat) (H : Hp) (K : KV) : Res :=
 match tyAgg P t, tySize P t with
 | some true, some n => bif' (decide (off + n ≤ cs.length)) (K (.c (.agg ((cs.drop off).take n))) H) none
 | some false, some 1 => match tyZero P t with
   | none => none
   | some z => bif' (decide (off < cs.length)) (bif' (okc z (cs.getD off .nilptr)) (K (.c (rdc z (cs.getD off .nilptr))) H) none) none
 | _, _ => none
def readPV (P : Program) (t : TypeId) (e : PV) (k off : Nat) (H : Hp) (K : KV) : Res :=
 match e with
 | .c v => match tyAgg P t, tySize P t, v with
   | some true, some n, .agg cs => if n = k ∧ off = 0 then K (.c (.agg cs)) H else readCV P t cs off H K
   | _, _, v => readCV P t v.cl off H K
 | .agg ps => match tyAgg P t, tySize P t with
   | some true, some n => if off + n ≤ ps.length then K (.agg ((ps.drop off).take n)) H else none
   | some false, some 1 => match ps[off]? with
     | some p => K p H
     | none => none
   | _, _ => none
 | p => match tyAgg P t, tySize P t, off, p.ncells with
   | some false, some 1, 0, some 1 => K p H
   | _, _, _, _ => none
def load' (P : Program) (t : TypeId) (a : PV) (H : Hp) (K : KV) : Res :=
 match a with
 | .bptr r off => match H[r]? with
   | some (.box e k) => readPV P t e (ksz k) off H K
   | _ => none
 | .rptr r g i off => match getRow H r g with
   | some (xs, k, _) => bif' (decide (i < xs.length)) (readPV P t (.c (xs.getD i .nilptr)) k off H K) none
   | none => none
 | .ro cs => readCV P t cs 0 H K
 | _ => none
def writePV (e : PV) (k off n : Nat) (x : PV) : Option PV :=
 if n = k ∧ off = 0 then some x else
 match e, x with
 | .c v, .c u => some (.c (.agg (setRange v.cl off u.cl)))
 | e, x => match e.cells, x.cells with
   | some cs, some us => some (.agg (setRange cs off us))
   | _, _ => none
def store' (P : Program) (t : TypeId) (a x : PV) (H : Hp) (K : KV) : Res :=
 match tySize P t, x.ncells with
 | some n, some m =>
   bif' (n == m) (match a with
   | .bptr r off => match H[r]? with
     | some (.box e k) => bif' (decide (off + n ≤ ksz k)) (match writePV e (ksz k) off n x with
         | some e' => K (.tup []) (H.set r (.box e' k))
         | none => none) none
     | _ => none
   | .rptr r g i off => match closeVal x H with
     | some (u, H1) => match getRow H1 r g with
       | some (xs, k, false) => if off + n ≤ k then
           bif' (decide (i < xs.length)) (K (.tup []) (H1.set r (.row (xs.set i (if off = 0 ∧ n = k then u else .agg (setRange (xs.getD i .nilptr).cl off u.cl))) k g false))) none
         else none
       | _ => none
     | none => none
   | _ => none) none
 | _, _ => none
def fieldAddr' (P : Program) (t : TypeId) (a : PV) (f : Nat) (H : Hp) (K : KV) : Res :=
 match tyField P t f with
 | some (off, ft) => match tySize P ft with
   | some 0 => none
   | some _ => match a with
     | .bptr r o => match H[r]? with
       | some (.box ..) => K (.bptr r (o + off)) H
       | _ => none
     | .rptr r g i o => match getRow H r g with
       | some _ => K (.rptr r g i (o + off)) H
       | none => none
     | .ro cs => K (.ro (cs.drop off)) H
     | _ => none
   | none => none
 | none => none
def field' (P : Program) (t : TypeId) (x : PV) (f : Nat) (H : Hp) (K : KV) : Res :=
 match tyField P t f with
 | some (off, ft) => match x with
   | .c (.agg cs) => readCV P ft cs off H K
   | .agg ps => readPV P ft (.agg ps) ps.length off H K
   | _ => none
 | none => none
def indexAddr' (P : Program) (t : TypeId) (x ix : PV) (H : Hp) (K : KV) : Res :=
 match ix with
 | .c (.int _ i) => match P.underlying t with
   | some (.slice e) => match tySize P e, x with
     | some n, .rw r g => match getRow H r g with
       | some (xs, k, _) => if n = k then bif' (decide (0 ≤ i)) (bif' (decide (i < (xs.length : Int))) (K (.rptr r g i.toNat 0) H) none) none else none
       | none => none
     | some n, .row r g off len => match getRow H r g with
       | some (_, k, _) => if n = k then bif' (decide (0 ≤ i)) (bif' (decide (i < (len : Int))) (K (.rptr r g (off + i.toNat) 0) H) none) none else none
       | none => none
     | some n, .c (.sl _ _ k xs) => if n = k then bif' (decide (0 ≤ i)) (bif' (decide (i < (xs.length : Int))) (K (.ro (xs.getD i.toNat .nilptr).cl) H) none) none else none
     | some n, .asl r off len => match H[r]? with
       | some (.box ..) => if n = 1 then bif' (decide (0 ≤ i)) (bif' (decide (i < (len : Int))) (K (.bptr r (off + i.toNat)) H) none) none else none
       | _ => none
     | _, _ => none
   | some (.array n e) => match tySize P e, x with
     | some m, .bptr r o => match H[r]? with
       | some (.box ..) => bif' (decide (0 ≤ i)) (bif' (decide (i < (n : Int))) (K (.bptr r (o + i.toNat * m)) H) none) none
       | _ => none
     | some m, .rptr r g j o => match getRow H r g with
       | some _ => bif' (decide (0 ≤ i)) (bif' (decide (i < (n : Int))) (K (.rptr r g j (o + i.toNat * m)) H) none) none
       | none => none
     | some m, .ro cs => bif' (decide (0 ≤ i)) (bif' (decide (i < (n : Int))) (K (.ro (cs.drop (i.toNat * m))) H) none) none
     | _, _ => none
   | _ => none
 | _ => none
def byteAt (s : ByteArray) (i : Nat) : Int := (s.data.toList.getD i 0).toNat
def index' (P : Program) (t : TypeId) (x ix : PV) (H : Hp) (K : KV) : Res :=
 match ix with
 | .c (.int _ i) => match P.underlying t, x with
   | some .string, .c (.str s) => bif' (decide (0 ≤ i)) (bif' (decide (i < (s.size : Int))) (K (.c (.int .u8 (byteAt s i.toNat))) H) none) none
   | some (.array n e), .c (.agg cs) => match tySize P e with
     | some m => bif' (decide (0 ≤ i)) (bif' (decide (i < (n : Int))) (readCV P e cs (i.toNat * m) H K) none) none
     | none => none
   | _, _ => none
 | _ => none
def bound (p : Option PV) (d : Int) : Option Int :=
 match p with
 | none => some d
 | some (.c (.int _ i)) => some i
 | _ => none
def slice' (P : Program) (t : TypeId) (x : PV) (lo hi mx : Option PV) (H : Hp) (K : KV) : Res :=
 match P.underlying t, x, mx with
 | some .string, .c (.str s), none => match bound lo 0, bound hi s.size with
   | some l, some h => bif' (decide (0 ≤ l)) (bif' (decide (l ≤ h)) (bif' (decide (h ≤ (s.size : Int))) (K (.c (.str (s.extract l.toNat h.toNat))) H) none) none) none
   | _, _ => none
 | some (.slice e), .rw r g, none => match getRow H r g, tySize P e with
   | some (xs, k, _), some n => if n = k then match bound lo 0, bound hi xs.length with
       | some l, some h => bif' (decide (0 ≤ l)) (bif' (decide (l ≤ h)) (bif' (decide (h ≤ (xs.length : Int))) (K (.row r g l.toNat (h.toNat - l.toNat)) H) none) none) none
       | _, _ => none
     else none
   | _, _ => none
 | some (.slice e), .row r g off len, none => match getRow H r g, tySize P e with
   | some (_, k, _), some n => if n = k then match bound lo 0, bound hi len with
       | some l, some h => bif' (decide (0 ≤ l)) (bif' (decide (l ≤ h)) (bif' (decide (h ≤ (len : Int))) (K (.row r g (off + l.toNat) (h.toNat - l.toNat)) H) none) none) none
       | _, _ => none
     else none
   | _, _ => none
 | some (.slice e), .c (.sl _ full k xs), none => match tySize P e with
   | some n => if n = k then match bound lo 0, bound hi xs.length with
       | some l, some h => bif' (decide (0 ≤ l)) (bif' (decide (l ≤ h)) (bif' (decide (h ≤ (xs.length : Int))) (K (.c (.sl false (full && (match hi with | none => true | _ => false)) k ((xs.drop l.toNat).take (h.toNat - l.toNat)))) H) none) none) none
       | _, _ => none
     else none
   | none => none
 | some (.array n e), .bptr r o, none => match H[r]?, tySize P e with
   | some (.box ..), some 1 => match bound lo 0, bound hi n with
       | some l, some h => bif' (decide (0 ≤ l)) (bif' (decide (l ≤ h)) (bif' (decide (h ≤ (n : Int))) (K (.asl r (o + l.toNat) (h.toNat - l.toNat)) H) none) none) none
       | _, _ => none
   | _, _ => none
 | some (.slice e), .asl r off len, none => match H[r]?, tySize P e with
   | some (.box ..), some 1 => match bound lo 0, bound hi len with
       | some l, some h => bif' (decide (0 ≤ l)) (bif' (decide (l ≤ h)) (bif' (decide (h ≤ (len : Int))) (K (.asl r (off + l.toNat) (h.toNat - l.toNat)) H) none) none) none
       | _, _ => none
   | _, _ => none
 | _, _, _ => none
def fillC (place : Nat → Option (Nat × Nat)) : List (Nat × PV) → List CV → Option (Bool × List CV)
 | [], cs => some (true, cs)
 | (i, .c v) :: ps, cs => match place i with
   | some (off, n) => match fillC place ps (setRange cs off v.cl) with
     | some (b, cs') => if off + n ≤ cs.length then some (v.cl.length == n && b, cs') else none
     | none => none
   | none => none
 | _, _ => none
def fillP (place : Nat → Option (Nat × Nat)) : List (Nat × PV) → List PV → Option (Bool × List PV)
 | [], cs => some (true, cs)
 | (i, p) :: ps, cs => match place i, p.cells with
   | some (off, n), some us => match fillP place ps (setRange cs off us) with
     | some (b, cs') => if off + n ≤ cs.length then some (us.length == n && b, cs') else none
     | none => none
   | _, _ => none
def fieldPlaces (P : Program) : List Field → Option (List (Nat × Nat))
 | [] => some []
 | f :: fs => match tySize P f.type, fieldPlaces P fs with
   | some n, some l => some ((f.offset, n) :: l)
   | _, _ => none
def placeOf (P : Program) (t : TypeId) : Option (Nat → Option (Nat × Nat)) :=
 match P.underlying t with
 | some (.struct fs) => match fieldPlaces P fs.toList with
   | some l => some fun i => l[i]?
   | none => none
 | some (.array _ e) => match tySize P e with
   | some n => some fun i => some (i * n, n)
   | none => none
 | _ => none
def allC : List (Nat × PV) → Bool
 | [] => true
 | (_, .c _) :: ps => allC ps
 | _ => false
def build' (P : Program) (t : TypeId) (parts : List (Nat × PV)) (H : Hp) (K : KV) : Res :=
 match tyZero P t, placeOf P t with
 | some (.agg z), some place =>
   if allC parts then match fillC place parts z with
     | some (b, cs) => bif' b (K (.c (.agg cs)) H) none
     | none => none
   else match fillP place parts (z.map .c) with
     | some (b, cs) => bif' b (K (.agg cs) H) none
     | none => none
 | _, _ => none
def fillE (n : Nat) : List (Nat × PV) → List CV → Hp → Option (Bool × List CV × Hp)
 | [], xs, H => some (true, xs, H)
 | (i, p) :: ps, xs, H => match closeVal p H with
   | some (v, H1) => match fillE n ps (xs.set i v) H1 with
     | some (b, xs', H2) => if i < xs.length then some (v.cl.length == n && b, xs', H2) else none
     | none => none
   | none => none
def buildSlice' (P : Program) (t : TypeId) (len : Nat) (parts : List (Nat × PV)) (H : Hp) (K : KV) : Res :=
 match P.underlying t with
 | some (.slice e) => match tyZero P e, tySize P e with
   | some z, some n => if len * n ≤ 16777216 ∧ z.cl.length = n ∧ 0 < n then match fillE n parts (List.replicate len z) H with
       | some (b, xs, H1) => bif' b (K (.rw H1.length 0) (H1 ++ [.row xs n 0 false])) none
       | none => none
     else none
   | _, _ => none
 | _ => none
def makeSlice' (P : Program) (t : TypeId) (l c : PV) (H : Hp) (K : KV) : Res :=
 match P.underlying t, l, c with
 | some (.slice e), .c (.int .i64 l), .c (.int .i64 c) => match tyZero P e, tySize P e, tyBytes P e with
   | some z, some n, some b => if z.cl.length = n ∧ 0 < n ∧ 0 < b then
       bif' (decide (0 ≤ l)) (bif' (decide (l ≤ c)) (bif' (decide ((b : Int) * c ≤ 281474976710656)) (K (.rw H.length 0) (H ++ [.row (List.replicate l.toNat z) n 0 false])) none) none) none
     else none
   | _, _, _ => none
 | _, _, _ => none
def len' (P : Program) (t : TypeId) (x : PV) (H : Hp) (K : KV) : Res :=
 match P.underlying t, x with
 | some .string, .c (.str s) => K (.c (.int .i64 s.size)) H
 | some (.array n _), _ => K (.c (.int .i64 n)) H
 | some (.slice _), p => match elemsOf p H with
   | some (_, xs) => K (.c (.int .i64 xs.length)) H
   | none => none
 | _, _ => none
def sliceData' (x : PV) (H : Hp) (K : KV) : Res :=
 match x with
 | .c .nilsl => K (.c .nilptr) H
 | .rw r g => match getRow H r g with
   | some (xs, _, _) => bif' (!xs.isEmpty) (K (.rptr r g 0 0) H) none
   | none => none
 | _ => none
def unsafeString' (P : Program) (pt : TypeId) (x n : PV) (H : Hp) (K : KV) : Res :=
 match x, n with
 | .c .nilptr, .c (.int _ n) => bif' (decide (n = 0)) (K (.c (.str ⟨#[]⟩)) H) none
 | .rptr r g 0 0, .c (.int _ n) => match P.underlying pt, getRow H r g with
   | some (.pointer e), some (xs, 1, _) => if gty g = e + 1 ∧ P.cellsOf e = 1 then
       bif' (decide (0 < n)) (bif' (decide (n ≤ (xs.length : Int))) (bif' (decide (n ≤ 9223372036854775807)) (bif' ((xs.take n.toNat).all isU8) (K (.c (.str (bytesOf (xs.take n.toNat)))) (H.set r .dead)) none) none) none) none
     else none
   | _, _ => none
 | _, _ => none
def elemCells' (xs : List CV) : List CV := xs.flatMap CV.cl
def srcOf (p : PV) (H : Hp) : Option (Nat × List CV) :=
 match p with
 | .c (.str s) => some (1, strBytes s)
 | p => elemsOf p H
def append' (P : Program) (t : TypeId) (s x : PV) (H : Hp) (K : KV) : Res :=
 match P.underlying t with
 | some (.slice e) => match tySize P e, tyBytes P e, tyZero P e, srcOf x H with
   | some n, some b, some z, some (k, ys) =>
     if (k = n ∨ ys = []) ∧ 0 < n ∧ 0 < b ∧ z.cl.length = n then match s with
     | .c .nilsl => bif' (decide (ys.length * b ≤ 70368744177664)) (bif' (ys.isEmpty) (K (.c .nilsl) H) (K (.rw H.length (gOf e)) (H ++ [.row ys n (gOf e) false]))) none
     | .c (.sl _ true k' xs) => if k' = n then bif' (decide ((xs.length + ys.length) * b ≤ 70368744177664)) (bif' (ys.isEmpty) (K (.c (.sl false true n xs)) H) (K (.rw H.length 0) (H ++ [.row (xs ++ ys) n 0 false]))) none else none
     | .rw r g => match getRow H r g with
       | some (xs, k', sl) => if k' = n ∧ gok e g = true then bif' (decide ((xs.length + ys.length) * b ≤ 70368744177664)) (K (.rw r (g + 1)) (H.set r (.row (xs ++ ys) n (g + 1) sl))) none else none
       | none => none
     | .row r g 0 len => match getRow H r g with
       | some (xs, k', false) => if k' = n ∧ gok e g = true then bif' (decide ((len + ys.length) * b ≤ 70368744177664)) (K (.rw r (g + 1)) (H.set r (.row (xs.take len ++ ys) n (g + 1) false))) none else none
       | _ => none
     | _ => none
     else none
   | _, _, _, _ => none
 | _ => none
def copy' (P : Program) (t : TypeId) (d x : PV) (H : Hp) (K : KV) : Res :=
 match P.underlying t, d with
 | some (.slice e), .asl r off len => match tySize P e, H[r]?, srcOf x H with
   | some 1, some (.box (.c (.agg cs)) k), some (k', ys) =>
     if (k' = 1 ∨ ys = []) then bif' (decide (off + len ≤ cs.length)) (K (.c (.int .i64 (min ys.length len : Nat))) (H.set r (.box (.c (.agg (setRange cs off (elemCells' (ys.take len))))) k))) none else none
   | _, _, _ => none
 | _, _ => none
end Go.Pv
namespace Go.Pv
open Go
def extNo (P : Program) (f : FuncId) : Nat :=
 match P.funcs[f]? with
 | some fn => if fn.body.isNone && fn.origin == "" then
     if fn.name == "internal/bytealg.IndexByteString" then 1 else if fn.name == "internal/abi.NoEscape" then 2 else 0
   else 0
 | none => 0
def ext' (P : Program) (f : FuncId) (args : List PV) (H : Hp) (K : KV) : Res :=
 match extNo P f with
 | 1 => match args with
   | [.c (.str s), .c (.int .u8 c)] => K (.c (.int .i64 (Lib.indexByte s.data.toList c.toNat.toUInt8))) H
   | _ => none
 | 2 => match args with
   | [p] => K p H
   | _ => none
 | _ => none
def alts' : Alts → (CV → List CV → Res) → Res
 | [], _ => none
 | (b, rv, outs) :: l, K => bif' b (K rv outs) (alts' l K)
abbrev Handler := FuncId → List PV → Hp → KV → Res
def call' (tb : Table) (f : FuncId) (args : List PV) (H : Hp) (K : KV) : Res :=
 match closeArgs args H with
 | none => none
 | some (cargs, H1, lent) => if noDup lent then match tb f cargs with
   | none => none
   | some l => alts' l fun rv outs => match giveBack lent outs H1 with
     | none => none
     | some H2 =>
       let (p, H3) := openAll rv H2
       K p H3
   else none
def plainFn (P : Program) (f : FuncId) : Bool :=
 match P.funcs[f]? with
 | some fn => fn.name != "runtime.NumGoroutine" && fn.body.isSome
 | none => false
def builtin' (P : Program) (b : Builtin) (c : Call) (args : List PV) (H : Hp) (K : KV) : Res :=
 match b, args, c.argTypes.toList with
 | .len, [x], [t] => len' P t x H K
 | .append, [s, x], [t, u] => match P.underlying u with
   | some (.int _) => none
   | some _ => append' P t s x H K
   | none => none
 | .copy, [d, s], [t, _] => copy' P t d s H K
 | .unsafeSliceData, [x], _ => sliceData' x H K
 | .unsafeString, [x, n], [pt, _] => unsafeString' P pt x n H K
 | _, _, _ => none
def plainTy (P : Program) : Nat → TypeId → Bool
 | 0, _ => false
 | d + 1, t => match P.underlying t with
   | some .bool | some .string | some (.int _) => true
   | some (.struct fs) => fs.all fun f => plainTy P d f.type
   | some (.array _ e) => plainTy P d e
   | some (.tuple ts) => ts.all fun e => plainTy P d e
   | _ => false
def pureCall (P : Program) (o : Oper) : Bool :=
 match o.op with
 | .call c => match c.callee with
   | .value (.func _) => c.argTypes.all (plainTy P 10) && plainTy P 10 o.type
   | _ => false
 | _ => false
def dataCells : List PV → Option (List CV)
 | [] => some []
 | .c v :: l => match v with
   | .agg _ => none
   | v => match dataCells l with
     | some vs => some (v :: vs)
     | none => none
 | _ => none
def dataArgs : List PV → Option (List CV)
 | [] => some []
 | .c v :: l => match v with
   | .boxv _ _ => none
   | v => match dataArgs l with
     | some vs => some (v :: vs)
     | none => none
 | .agg ps :: l => match dataCells ps, dataArgs l with
   | some cs, some vs => some (.agg cs :: vs)
   | _, _ => none
 | _ => none
def noBox : List CV → Bool
 | [] => true
 | .boxv _ _ :: _ => false
 | _ :: l => noBox l
def allCV : List PV → Bool
 | [] => true
 | .c _ :: l => allCV l
 | _ => false
def dataPV : PV → Bool
 | .c _ => true
 | .tup ps => allCV ps
 | _ => false
def dataK (K : KV) : KV := fun p H => match dataPV p with
 | true => K p H
 | false => none
def pure' (P : Program) (tb : Handler) (f : PV) (args : List PV) (H : Hp) (K : KV) : Res :=
 match f with
 | .fn f [] => if plainFn P f then match dataArgs args with
     | some cargs => tb f (cargs.map .c) H (dataK K)
     | none => none
   else ext' P f args H K
 | _ => none
def aop (P : Program) (tb : Handler) (o : Oper) (ev : Operand → PV) (H : Hp) (K : KV) : Res :=
 match o.op with
 | .move x | .assign x => K (ev x) H
 | .pick c a b => match ev c with
   | .c (.bool t) => bif' t (K (ev a) H) (K (ev b) H)
   | _ => none
 | .alloc t => match tyZero P t with
   | some z => if z.cl.length < 4294967296 then K (.bptr H.length 0) (H ++ [.box (.c z) (kOf z.cl.length t)]) else none
   | none => none
 | .box t x => match (ev x).ncells with
   | some k => if k < 4294967296 then K (.bptr H.length 0) (H ++ [.box (ev x) (kOf k t)]) else none
   | none => none
 | .build t parts => build' P t (parts.toList.map fun (i, x) => (i, ev x)) H K
 | .buildSlice t len parts => buildSlice' P t len (parts.toList.map fun (i, x) => (i, ev x)) H K
 | .load t a => load' P t (ev a) H K
 | .store t a x => store' P t (ev a) (ev x) H K
 | .nilCheck x => match ev x with
   | .bptr r o => match H[r]? with
     | some (.box ..) => K (.bptr r o) H
     | _ => none
   | .rptr r g i o => match getRow H r g with
     | some _ => K (.rptr r g i o) H
     | none => none
   | .ro cs => K (.ro cs) H
   | .fn f caps => K (.fn f caps) H
   | _ => none
 | .binOp op t x y _ => binOp' P op t (Region.isConst x || Region.isConst y) (ev x) (ev y) H K
 | .unOp op _ x => unOp' op (ev x) H K
 | .convert s d x => convert' P s d (ev x) H K
 | .makeInterface t x => match P.underlying t, ev x with
   | some (.interface _), _ => none
   | some _, .c _ => K (.c .err) H
   | _, _ => none
 | .makeFunc (.func f) first captured => match first.toList with
   | [] => K (.fn f (captured.toList.map ev)) H
   | _ => none
 | .makeSlice t l c => makeSlice' P t (ev l) (ev c) H K
 | .slice t x lo hi mx => slice' P t (ev x) (lo.map ev) (hi.map ev) (mx.map ev) H K
 | .fieldAddr t x f => fieldAddr' P t (ev x) f H K
 | .field t x f => field' P t (ev x) f H K
 | .indexAddr t x i => indexAddr' P t (ev x) (ev i) H K
 | .index t x i => index' P t (ev x) (ev i) H K
 | .range t x => match P.underlying t, ev x with
   | some .string, .c (.str s) => K (.iter H.length) (H ++ [.iter s 0])
   | _, _ => none
 | .next it true => match ev it with
   | .iter r => match H[r]? with
     | some (.iter s pos) => bif' (decide (pos < s.size))
         (K (.tup [.c (.bool true), .c (.int .i64 pos), .c (.int .i32 (Utf8.decode s pos).1)]) (H.set r (.iter s (pos + (Utf8.decode s pos).2))))
         (K (.tup [.c (.bool false)]) H)
     | _ => none
   | _ => none
 | .extract t i => match ev t with
   | .tup ps => match ps[i]? with
     | some p => K p H
     | none => none
   | _ => none
 | .call c => match c.callee with
   | .builtin b => builtin' P b c (c.args.toList.map ev) H K
   | .value f => if pureCall P o then pure' P tb (ev f) (c.args.toList.map ev) H K else match ev f with
     | .fn f caps => if plainFn P f then tb f (c.args.toList.map ev ++ caps) H K else ext' P f (c.args.toList.map ev ++ caps) H K
     | .c (.fn f caps) => if plainFn P f then tb f (c.args.toList.map ev ++ caps.map .c) H K else ext' P f (c.args.toList.map ev ++ caps.map .c) H K
     | _ => none
   | _ => none
 | _ => none
def putE (env : Env) (d : Option Tmp) (p : PV) : Env :=
 match d with
 | some t => env.set t p
 | none => env
abbrev KS := Env → Hp → Res
def guarded (ops : Array Oper) (o : Oper) (env : Env) (yes no : Env → Res) : Res :=
 match o.guard with
 | none => yes env
 | some (j, want) => match ((ops[j]?).bind (·.dst)) with
   | none => no env
   | some t => match env[t]? with
     | some (.c (.bool b)) => bif' b (if want then yes (env.set t (.c (.bool true))) else no (env.set t (.c (.bool true)))) (if want then no (env.set t (.c (.bool false))) else yes (env.set t (.c (.bool false))))
     | some (.tup []) => no env
     | _ => none
def aops (P : Program) (tb : Handler) (ops : Array Oper) : List Nat → Env → Hp → KS → Res
 | [], env, H, K => K env H
 | i :: rest, env, H, K =>
   match ops[i]? with
   | none => aops P tb ops rest env H K
   | some o => guarded ops o env
       (fun env => aop P tb o (evl env) H fun p H => aops P tb ops rest (putE env o.dst p) H K)
       (fun env => aops P tb ops rest (putE env o.dst (.tup [])) H K)
def opClass (P : Program) (o : Oper) : Nat :=
 match o.op with
 | .move _ | .assign _ | .pick .. | .build .. | .unOp .. | .makeInterface .. | .field .. | .index .. | .extract .. => 0
 | .binOp op .. => match op with
   | .eql | .neq => 1
   | _ => 0
 | .convert _ d _ => match P.underlying d with
   | some (.int _) => 0
   | _ => 2
 | .slice t .. => match P.underlying t with
   | some .string => 0
   | _ => 1
 | .load .. | .fieldAddr .. | .indexAddr .. | .nilCheck _ => 1
 | .call c => match c.callee with
   | .builtin .len => 1
   | .builtin .unsafeSliceData => 1
   | _ => if pureCall P o then 0 else 2
 | _ => 2
def ancOf (acc : List Nat) : List Edge → Nat
 | [] => 0
 | e :: es => if Region.binds .any e then (2 ^ e.on ||| acc.getD e.on 0) ||| ancOf acc es else ancOf acc es
def ancGo : List Oper → List Nat → List Nat
 | [], acc => acc
 | o :: os, acc => ancGo os (acc ++ [ancOf acc o.after.toList])
def dstIs (o : Oper) (a : Nat) : Bool := match o.dst with
 | some b => Nat.beq b a
 | none => false
def isDst (l : List Oper) (a : Nat) : Bool := l.any fun o => dstIs o a
def fieldOf (o : Oper) : Option Nat := match o.op with
 | .fieldAddr _ (.tmp t) _ => some t
 | _ => none
def rootSlot : List Oper → Nat → Option Nat
 | [], _ => none
 | o :: l, a => if dstIs o a then fieldOf o else rootSlot l a
def rootAt (l : List Oper) (env : Env) (a : Nat) : Option Nat :=
 if isDst l a then match rootSlot l a with
   | some t => if isDst l t || !(l.all fun o => !dstIs o a || (match fieldOf o with
       | some t' => Nat.beq t' t
       | none => false)) then none else match env[t]? with
     | some (.bptr r _) => match env[a]? with
       | some (.bptr r' _) => if Nat.beq r' r then some r else none
       | some (.rptr ..) => none
       | _ => some r
     | _ => none
   | none => none
 else match env[a]? with
   | some (.bptr r _) => some r
   | _ => none
def turnS (l : List Oper) (env : Env) (x y : Oper) : Bool :=
 match x.op, y.op with
 | .fieldAddr .., .store .. => true
 | .load _ (.tmp b), .store _ (.tmp a) _ => match rootAt l env a, rootAt l env b with
   | some r, some r' => !Nat.beq r r'
   | _, _ => false
 | _, _ => false
def mayTurn (P : Program) (ops : Array Oper) (env : Env) (x y : Oper) : Bool :=
 (opClass P x == 0 || opClass P y == 0 || (opClass P x == 1 && opClass P y == 1) || turnS ops.toList env x y || turnS ops.toList env y x) && Oper.apart ops x y && Oper.apart ops y x
def backOk : Nat → List Oper → Bool
 | _, [] => true
 | i, o :: os => o.after.all (fun e => !Region.binds .any e || decide (e.on < i)) && backOk (i + 1) os
def pairsOk (P : Program) (ops : Array Oper) (env : Env) (anc : List Nat) : Bool :=
 (List.range ops.size).all fun j => (List.range j).all fun i =>
   (anc.getD j 0).testBit i || (match ops[i]?, ops[j]? with
     | some x, some y => mayTurn P ops env x y
     | _, _ => false)
def drawOk (P : Program) (ops : Array Oper) (env : Env) : Bool :=
 P.follows .mixedOrders && backOk 0 ops.toList && pairsOk P ops env (ancGo ops.toList [])
structure Head where
 live : List Nat
 rows : List (Nat × Nat)
 base : Nat
abbrev Ann := Nat → Option Head
def firstRegion : Code → Option Nat
 | .region id _ _ => some id
 | .seq a b => match firstRegion a with
   | some i => some i
   | none => firstRegion b
 | .cond _ a b => match firstRegion a with
   | some i => some i
   | none => firstRegion b
 | .block _ b => firstRegion b
 | .loop b => firstRegion b
 | _ => none
def below' (n : Nat) : PV → Bool
 | .undef | .c _ | .ro _ => true
 | .bptr r _ | .rw r _ | .row r _ _ _ | .rptr r _ _ _ | .iter r | .asl r _ _ => decide (r < n)
 | _ => false
def cellsBelow (n : Nat) : List PV → Bool
 | [] => true
 | p :: ps => below' n p && cellsBelow n ps
def flatBelow (n : Nat) : PV → Bool
 | .agg cs => cellsBelow n cs
 | .fn _ caps => cellsBelow n caps
 | p => below' n p
def objBelow (n : Nat) : AO → Bool
 | .box e _ => flatBelow n e
 | _ => true
def objsBelow (n : Nat) : List AO → Bool
 | [] => true
 | o :: os => objBelow n o && objsBelow n os
def tyG (t : Nat) : Nat := 1099511627776 * t
def takeRows : List (Nat × Nat) → Env → Hp → Option (List AO × Hp)
 | [], _, H => some ([], H)
 | (s, k) :: l, env, H =>
   match env[s]? with
   | some (.c .nilsl) => if 0 < ksz k then match takeRows l env H with
     | some (os, H') => some (.row [] (ksz k) (tyG (kty k)) false :: os, H')
     | none => none
     else none
   | some (.rw r g) => match getRow H r g with
     | some (xs, k', sl) => if k' = ksz k then match takeRows l env (H.set r .dead) with
         | some (os, H') => some (.row xs (ksz k) (tyG (gty g)) sl :: os, H')
         | none => none
       else none
     | none => none
   | some (.row r g 0 len) => match getRow H r g with
     | some (xs, k', false) => if k' = ksz k then match takeRows l env (H.set r .dead) with
         | some (os, H') => some (.row (xs.take len) (ksz k) (tyG (gty g)) false :: os, H')
         | none => none
       else none
     | _ => none
   | _ => none
def setRows : List (Nat × Nat) → List AO → Nat → Env → Env
 | (s, _) :: l, .row _ _ g _ :: os, n, env => setRows l os (n + 1) (env.set s (.rw n g))
 | _, _, _, env => env
def padTo (n : Nat) (H : Hp) : Hp := H.take n ++ List.replicate (n - H.length) .dead
def keepLive (live : List Nat) : Nat → Env → Env
 | _, [] => []
 | i, p :: ps => (if live.contains i then p else .undef) :: keepLive live (i + 1) ps
def slotsBelow (n : Nat) (rows : List (Nat × Nat)) : Nat → Env → Bool
 | _, [] => true
 | i, p :: ps => (rows.any (·.1 == i) || flatBelow n p) && slotsBelow n rows (i + 1) ps
def enterHead0 (live : List Nat) (rows : List (Nat × Nat)) (base : Nat) (env : Env) (H : Hp) : Option (Env × Hp) :=
 match takeRows rows (keepLive live 0 env) H with
 | some (os, H') => if slotsBelow base rows 0 (keepLive live 0 env) && objsBelow base (padTo base H') then
     some (setRows rows os base (keepLive live 0 env), padTo base H' ++ os)
   else none
 | none => none
def enterBox (r0 c k : Nat) (live : List Nat) (rows : List (Nat × Nat)) (base : Nat) (env : Env) (H : Hp) : Option (Env × Hp) :=
 match H[r0]? with
 | some (.box e kb) => match e.cells with
   | some ps => match ps[c]? with
     | some (.c .nilsl) => enterHead0 live rows base env H
     | some p => if r0 < base then match enterHead0 (env.length :: live) ((env.length, k) :: rows) base (env ++ [p]) (H.set r0 (.box (.agg (ps.set c .undef)) kb)) with
         | some (env', H') => match env'[env.length]?, H'[r0]? with
           | some q, some (.box (.agg ps') kb') => some (env'.take env.length, H'.set r0 (.box (.agg (ps'.set c q)) kb'))
           | _, _ => none
         | none => none
       else none
     | none => none
   | none => none
 | _ => none
def enterHead (h : Head) (env : Env) (H : Hp) : Option (Env × Hp) :=
 match h.rows with
 | (s, k) :: rows => if Nat.ble 1000000 s then enterBox ((s - 1000000) / 1000) ((s - 1000000) % 1000) k h.live rows h.base env H else enterHead0 h.live ((s, k) :: rows) h.base env H
 | [] => enterHead0 h.live [] h.base env H
abbrev KX := Ex → Env → Hp → Res
def aloop (hd : Env → Hp → Option (Env × Hp)) (body : Env → Hp → KX → Res) : Nat → Env → Hp → KX → Res
 | 0, _, _, _ => none
 | k + 1, env, H, K =>
   match hd env H with
   | none => none
   | some (env, H) => body env H fun e env H =>
     match e with
     | .normal => aloop hd body k env H K
     | e => K e env H
def atHead (h : Option Head) (R : Env → Hp → Res) (env : Env) (H : Hp) : Res := match h with
 | none => R env H
 | some h => match enterHead h env H with
   | none => none
   | some (e, H) => R e H
def aexec (P : Program) (tb : Handler) (an : Ann) (fuel : Nat) : Code → Env → Hp → KX → Res
 | .skip, env, H, K | .label _, env, H, K => K .normal env H
 | .region id ops draw, env, H, K =>
   atHead (an (id + 500000)) (fun env H => if draw && !drawOk P ops env then none else aops P tb ops (List.range ops.size) env H (K .normal)) env H
 | .seq a b, env, H, K => aexec P tb an fuel a env H fun e env H =>
     match e with
     | .normal => aexec P tb an fuel b env H K
     | e => K e env H
 | .cond c a b, env, H, K =>
   match evl env c with
   | .c (.bool t) => match c with
     | .tmp s => bif' t (aexec P tb an fuel a (env.set s (.c (.bool true))) H K) (aexec P tb an fuel b (env.set s (.c (.bool false))) H K)
     | _ => bif' t (aexec P tb an fuel a env H K) (aexec P tb an fuel b env H K)
   | _ => none
 | .block id b, env, H, K => aexec P tb an fuel b env H fun e env H =>
     match e with
     | .exit id' => if id' = id then K .normal env H else K (.exit id') env H
     | e => K e env H
 | .loop b, env, H, K =>
   match (firstRegion b).bind an with
   | none => aloop (fun env H => some (env, H)) (fun env H K => aexec P tb an fuel b env H K) fuel env H K
   | some h => aloop (enterHead h) (fun env H K => aexec P tb an fuel b env H K) fuel env H K
 | .exit id, env, H, K => K (.exit id) env H
 | .ret, env, H, K => K .ret env H
 | _, _, _, _ => none
def resVals (P : Program) : List ResultVar → Env → Hp → (List PV → Res) → Res
 | [], _, _, K => K []
 | .tmp t :: rs, env, H, K => resVals P rs env H fun ps => K (env.getD t .undef :: ps)
 | .cell a t :: rs, env, H, K => load' P t (env.getD a .undef) H fun p _ => resVals P rs env H fun ps => K (p :: ps)
def lentBack : Nat → List Nat → Hp → Option (List CV × Hp)
 | _, [], H => some ([], H)
 | r, k :: ks, H => match H[r]? with
   | some (.box e k') => if k' = k then match closeVal e H with
     | some (v, H1) => match lentBack (r + 1) ks (H1.set r .dead) with
       | some (vs, H2) => some (v :: vs, H2)
       | none => none
     | none => none
     else none
   | _ => none
def finish (P : Program) (fn : Func) (lent : List Nat) : KX := fun e env H =>
 match e with
 | .exit _ => none
 | _ => resVals P fn.results.toList env H fun ps =>
   match lentBack 0 lent H with
   | none => none
   | some (outs, H1) => match ownAll (match ps with | [p] => p | ps => .tup ps) H1 with
     | some (v, _) => some (v, outs)
     | none => none
def filt (an : Ann) (n : Nat) : Ann := fun i => (an i).filter fun h => decide (n ≤ h.base)
def inl (P : Program) (tb : Handler) (an : Ann) (fuel : Nat) (f : FuncId) (args : List PV) (H : Hp) (K : KV) : Res :=
 if allCV args then none else match P.funcs[f]? with
 | some fn => match fn.body with
   | some body => aexec P tb (filt an H.length) fuel body (args ++ List.replicate (fn.ntmps - args.length) .undef) H fun e env H => match e with
     | .exit _ => none
     | _ => resVals P fn.results.toList env H fun ps => K (match ps with | [p] => p | ps => .tup ps) H
   | none => none
 | none => none
def inls (P : Program) (an : Ann) (fuel : Nat) : List FuncId → Handler → Handler
 | [], tb => tb
 | f :: fs, tb => fun g args H K => if Nat.beq g f then inl P (inls P an fuel fs tb) an fuel f args H K else inls P an fuel fs tb g args H K
def abody (P : Program) (tb : Handler) (an : Ann) (fuel : Nat) (f : FuncId) (cargs : List CV) : Res :=
 match P.funcs[f]? with
 | some fn => match fn.body with
   | some body =>
     match openArgs cargs [] with
     | (ps, H) => aexec P tb (filt an H.length) fuel body (ps ++ List.replicate (fn.ntmps - ps.length) .undef) H (finish P fn (lentOf H))
   | none => none
 | none => none
def loopIn : Code → Option Code
 | .seq a b => match loopIn a with
   | some c => some c
   | none => loopIn b
 | .cond _ a b => match loopIn a with
   | some c => some c
   | none => loopIn b
 | .block _ b => loopIn b
 | .loop b => some b
 | _ => none
def loopOf (c : Code) : Code := match loopIn c with
 | some b => b
 | none => .skip
def cutIn : Code → Option Code
 | .seq a b => match cutIn a with
   | some c => some (.seq c b)
   | none => match cutIn b with
     | some c => some (.seq a c)
     | none => none
 | .cond x a b => match cutIn a with
   | some c => some (.cond x c b)
   | none => match cutIn b with
     | some c => some (.cond x a c)
     | none => none
 | .block id b => match cutIn b with
   | some c => some (.block id c)
   | none => none
 | .loop _ => some (.exit 1000000)
 | _ => none
def cutOf (c : Code) : Code := match cutIn c with
 | some b => b
 | none => .skip
def thenK (k : Env → Hp → Res) (K : KX) : KX := fun e env H => match e with
 | .normal => k env H
 | e => K e env H
def blockK (id : Nat) (K : KX) : KX := fun e env H => match e with
 | .exit id' => if id' = id then K .normal env H else K (.exit id') env H
 | e => K e env H
def restIn (P : Program) (tb : Handler) (an : Ann) (fuel : Nat) : Code → KX → Option KX
 | .seq a b, K => match restIn P tb an fuel a (thenK (fun env H => aexec P tb an fuel b env H K) K) with
   | some k => some k
   | none => restIn P tb an fuel b K
 | .cond _ a b, K => match restIn P tb an fuel a K with
   | some k => some k
   | none => restIn P tb an fuel b K
 | .block id b, K => restIn P tb an fuel b (blockK id K)
 | .loop _, K => some K
 | _, _ => none
def restOf (P : Program) (tb : Handler) (an : Ann) (fuel : Nat) (c : Code) (K : KX) : KX := match restIn P tb an fuel c K with
 | some k => k
 | none => fun _ _ _ => none
def cutK (L : Env → Hp → Res) (K : KX) : KX := fun e env H => match e with
 | .exit id => if Nat.beq id 1000000 then L env H else K (.exit id) env H
 | e => K e env H
def headK (hd : Head) (R : Env → Hp → Res) (env : Env) (H : Hp) : Res := match enterHead hd env H with
 | none => none
 | some (e, H) => R e H
def rounds (P : Program) (tb : Handler) (an : Ann) (fuel : Nat) (hd : Head) (b : Code) : Nat → Env → Hp → KX → Res
 | 0, _, _, _ => none
 | k + 1, env, H, K => aexec P tb an fuel b env H (thenK (headK hd fun env H => rounds P tb an fuel hd b k env H K) K)
def before (P : Program) (tb : Handler) (an : Ann) (fuel : Nat) (c : Code) (env : Env) (H : Hp) (L : Env → Hp → Res) (K : KX) : Res := aexec P tb an fuel (cutOf c) env H (cutK L K)
def round (P : Program) (tb : Handler) (an : Ann) (fuel : Nat) (hd : Head) (c : Code) (env : Env) (H : Hp) (R : Env → Hp → Res) (K : KX) : Res :=
 aexec P tb an fuel (loopOf c) env H (thenK (headK hd R) (restOf P tb an fuel c K))
def roundsOf (P : Program) (tb : Handler) (an : Ann) (fuel : Nat) (hd : Head) (c : Code) (k : Nat) (env : Env) (H : Hp) (K : KX) : Res := rounds P tb an fuel hd (loopOf c) k env H (restOf P tb an fuel c K)
def loopAt (P : Program) (tb : Handler) (an : Ann) (fuel : Nat) (hd : Head) (c : Code) (env : Env) (H : Hp) (K : KX) : Res :=
 aloop (enterHead hd) (fun env H K => aexec P tb an fuel (loopOf c) env H K) fuel env H (restOf P tb an fuel c K)
def slotAt : List (Nat × PV) → Nat → PV
 | [], _ => .undef
 | (j, p) :: l, i => if Nat.beq j i then p else slotAt l i
def mkEnv (n : Nat) (l : List (Nat × PV)) : Env := (List.range n).map (slotAt l)
def codeOf (P : Program) (f : FuncId) : Code := match P.funcs[f]? with
 | some fn => match fn.body with
   | some c => c
   | none => .skip
 | none => .skip
def endOf (P : Program) (f : FuncId) (lent : List Nat) : KX := match P.funcs[f]? with
 | some fn => finish P fn lent
 | none => fun _ _ _ => none
def envOf (P : Program) (f : FuncId) (ps : List PV) : Env := match P.funcs[f]? with
 | some fn => ps ++ List.replicate (fn.ntmps - ps.length) .undef
 | none => []
end Go.Pv
namespace Go.Pv
open Go
inductive All2 {α β : Type} (R : α → β → Prop) : List α → List β → Prop where
 | nil : All2 R [] []
 | cons {a b as bs} : R a b → All2 R as bs → All2 R (a :: as) (b :: bs)
theorem All2.length {α β : Type} {R : α → β → Prop} {as : List α} {bs : List β} (h : All2 R as bs) : as.length = bs.length := by
 induction h with
 | nil => rfl
 | cons _ _ ih => simp [ih]
theorem All2.imp {α β : Type} {R R' : α → β → Prop} {as : List α} {bs : List β} (h : All2 R as bs) (f : ∀ a b, a ∈ as → R a b → R' a b) : All2 R' as bs := by
 induction h with
 | nil => exact .nil
 | cons h1 _ ih => exact .cons (f _ _ (by simp) h1) (ih fun a b ha => f a b (by simp [ha]))
theorem All2.get {α β : Type} {R : α → β → Prop} {as : List α} {bs : List β} (h : All2 R as bs) : ∀ {i : Nat} {a : α}, as[i]? = some a → ∃ b, bs[i]? = some b ∧ R a b := by
 induction h with
 | nil => simp
 | cons h1 _ ih =>
   intro i a ha
   cases i with
   | zero => simp at ha; subst ha; exact ⟨_, by simp, h1⟩
   | succ i => simp at ha; simpa using ih ha
theorem All2.append {α β : Type} {R : α → β → Prop} {as as' : List α} {bs bs' : List β} (h : All2 R as bs) (h' : All2 R as' bs') : All2 R (as ++ as') (bs ++ bs') := by
 induction h with
 | nil => exact h'
 | cons h1 _ ih => exact .cons h1 ih
theorem All2.take {α β : Type} {R : α → β → Prop} {as : List α} {bs : List β} (h : All2 R as bs) : ∀ n, All2 R (as.take n) (bs.take n) := by
 induction h with
 | nil => intro n; simp; exact .nil
 | cons h1 _ ih =>
   intro n
   cases n with
   | zero => exact .nil
   | succ n => exact .cons h1 (ih n)
theorem All2.drop {α β : Type} {R : α → β → Prop} {as : List α} {bs : List β} (h : All2 R as bs) : ∀ n, All2 R (as.drop n) (bs.drop n) := by
 induction h with
 | nil => intro n; simp; exact .nil
 | cons h1 h2 ih =>
   intro n
   cases n with
   | zero => exact .cons h1 h2
   | succ n => exact ih n
theorem All2.set {α β : Type} {R : α → β → Prop} {as : List α} {bs : List β} (h : All2 R as bs) {a : α} {b : β} (hr : R a b) : ∀ n, All2 R (as.set n a) (bs.set n b) := by
 induction h with
 | nil => intro n; simp; exact .nil
 | cons h1 h2 ih =>
   intro n
   cases n with
   | zero => exact .cons hr h2
   | succ n => exact .cons h1 (ih n)
theorem All2.map {α β γ : Type} {R : α → β → Prop} {R' : γ → β → Prop} (f : α → γ) {as : List α} {bs : List β} (h : All2 R as bs) (hf : ∀ a b, R a b → R' (f a) b) : All2 R' (as.map f) bs := by
 induction h with
 | nil => exact .nil
 | cons h1 _ ih => exact .cons (hf _ _ h1) ih
theorem All2.replicate {α β : Type} {R : α → β → Prop} {a : α} {b : β} (h : R a b) : ∀ n, All2 R (List.replicate n a) (List.replicate n b)
 | 0 => .nil
 | n + 1 => .cons h (All2.replicate h n)
structure St where
 w : World
 ι : Nat → Option Nat
 cp : Nat → Nat
 H : Hp
 F : Nat → Nat → Prop
 n0 : Nat
 ng : Nat
def stable (S : St) (b off : Nat) : Prop :=
 ¬ S.F b off ∧ ∀ r, S.ι r = some b → ∃ xs k g, S.H[r]? = some (.row xs k g true) ∧ off < xs.length * k
def ReadsAt (S : St) (a : Addr) (vs : List Value) : Prop :=
 ∀ j v, vs[j]? = some v → a.spot = none ∧ stable S a.block (a.off + j) ∧ S.w.cell? ⟨a.block, a.off + j, none⟩ = some v ∧ v.oneCell' = true
def elemCells (xs : List CV) : List CV := xs.flatMap CV.cl
inductive Vc (S : St) : CV → Value → Prop where
 | bool (b : Bool) : Vc S (.bool b) (.bool b)
 | int (k : IntKind) (n : Int) : Vc S (.int k n) (.int k n)
 | str (s : ByteArray) : Vc S (.str s) (.string s)
 | nilsl : Vc S .nilsl (.slice none 0 0)
 | nilptr : Vc S .nilptr (.pointer none)
 | nilfn : Vc S .nilfn .nilFunc
 | nilif : Vc S .nilif .nilIface
 | err (t : TypeId) (v : Value) : Vc S .err (.iface t v)
 | fn (f : FuncId) (caps : List CV) (vs : Array Value) : All2 (Vc S) caps vs.toList → Vc S (.fn f caps) (.func (.func f) #[] vs)
 | agg (cs : List CV) (vs : Array Value) : All2 (Vc S) cs vs.toList → (∀ v ∈ vs.toList, v.oneCell' = true) → Vc S (.agg cs) (.agg vs)
 | sl (full : Bool) (k : Nat) (xs : List CV) (a : Addr) (c : Nat) (vs : List Value) : (∀ e ∈ xs, e.cl.length = k) → All2 (Vc S) (elemCells xs) vs → ReadsAt S a vs → xs.length ≤ c → (full = true → c = xs.length) →
     Vc S (.sl false full k xs) (.slice (some a) xs.length c)
 | slnil (k : Nat) : Vc S (.sl false false k []) (.slice none 0 0)
def RowV (S : St) (r off len k : Nat) (v : Value) : Prop :=
 (∃ b a, S.ι r = some b ∧ v = .slice (some a) len (S.cp r - off) ∧ (0 < S.cp r - off → a = ⟨b, off * k, none⟩)) ∨ (S.ι r = none ∧ off = 0 ∧ len = 0 ∧ v = .slice none 0 0)
def GenOk (S : St) (r g : Nat) : Prop := r < S.H.length ∧ ∀ xs k g' s, S.H[r]? = some (.row xs k g' s) → g ≤ g'
inductive Vr (S : St) : PV → Value → Prop where
 | undef (v : Value) : Vr S .undef v
 | c {x : CV} {v : Value} : Vc S x v → Vr S (.c x) v
 | agg (cs : List PV) (vs : Array Value) : All2 (Vr S) cs vs.toList → (∀ v ∈ vs.toList, v.oneCell' = true) → Vr S (.agg cs) (.agg vs)
 | rw (r g : Nat) (v : Value) : v.oneCell' = true → GenOk S r g → (∀ xs k s, S.H[r]? = some (.row xs k g s) → RowV S r 0 xs.length k v) → Vr S (.rw r g) v
 | row (r g off len : Nat) (v : Value) : v.oneCell' = true → GenOk S r g → (∀ xs k s, S.H[r]? = some (.row xs k g s) → off + len ≤ xs.length ∧ RowV S r off len k v) → Vr S (.row r g off len) v
 | bptr (r t : Nat) (v : Value) : v.oneCell' = true → r < S.H.length → (∀ e k, S.H[r]? = some (.box e k) → ∃ b, S.ι r = some b ∧ v = .pointer (some ⟨b, t, none⟩)) → Vr S (.bptr r t) v
 | rptr (r g i t : Nat) (v : Value) : v.oneCell' = true → GenOk S r g → (∀ xs k s, S.H[r]? = some (.row xs k g s) → ∃ b, S.ι r = some b ∧ v = .pointer (some ⟨b, i * k + t, none⟩)) → Vr S (.rptr r g i t) v
 | ro (cs : List CV) (a : Addr) (vs : List Value) : All2 (Vc S) cs vs → ReadsAt S a vs → Vr S (.ro cs) (.pointer (some a))
 | fn (f : FuncId) (caps : List PV) (vs : Array Value) : All2 (Vr S) caps vs.toList → Vr S (.fn f caps) (.func (.func f) #[] vs)
 | iter (r : Nat) (v : Value) : v.oneCell' = true → r < S.H.length → (∀ s p, S.H[r]? = some (.iter s p) → ∃ b, S.ι r = some b ∧ v = .pointer (some ⟨b, 0, none⟩)) → Vr S (.iter r) v
 | asl (r off len : Nat) (v : Value) : v.oneCell' = true → r < S.H.length → (∀ e k, S.H[r]? = some (.box e k) → ∃ b a c, S.ι r = some b ∧ v = .slice (some a) len c ∧ len ≤ c ∧ (0 < c → a = ⟨b, off, none⟩)) → Vr S (.asl r off len) v
 | tup (ps : List PV) (vs : Array Value) : All2 (Vr S) ps vs.toList → Vr S (.tup ps) (.tuple vs)
def unfrozen (fr : Nat × Nat) (n : Nat) : Prop := ∀ i, i < n → (decide (fr.1 ≤ i) && decide (i < fr.2)) = false
def bOk (T : TypeId) (fr : Nat × Nat) (n k : Nat) : Prop := unfrozen fr n ∧ (kty k = 0 ∨ T + 1 = kty k)
def rOk (T : TypeId) (fr : Nat × Nat) (n g : Nat) : Prop := unfrozen fr n ∧ (gty g = 0 ∨ T + 1 = gty g)
def ObOk (S : St) (r : Nat) : AO → Prop
 | .box e k => ∃ b cs T fr v, S.ι r = some b ∧ S.w.heap[b]? = some (.cells cs T fr) ∧ bOk T fr cs.size k ∧ e.ncells = some (ksz k) ∧ Vr S e v ∧ v.cells = cs ∧ (∀ v ∈ cs.toList, v.oneCell' = true)
 | .row xs k g s => 0 < k ∧ (∀ e ∈ xs, e.cl.length = k) ∧ ((S.ι r = none ∧ xs = [] ∧ S.cp r = 0) ∨
     ∃ (b : Nat) (cs : Array Value) (T : TypeId) (fr : Nat × Nat) (vs : List Value), S.ι r = some b ∧ S.w.heap[b]? = some (.cells cs T fr) ∧ rOk T fr cs.size g ∧ cs.size = S.cp r * k ∧ xs.length ≤ S.cp r ∧ All2 (Vc S) (elemCells xs) vs ∧ (∀ (j : Nat) (v : Value), vs[j]? = some v → cs[j]? = some v) ∧ (∀ v ∈ vs, v.oneCell' = true))
 | .iter s pos => ∃ b, S.ι r = some b ∧ S.w.heap[b]? = some (.stringIter s pos)
 | .dead => S.ι r = none
structure Ok (S : St) : Prop where
 ob : ∀ r o, S.H[r]? = some o → ObOk S r o
 out : ∀ r, S.H.length ≤ r → S.ι r = none
 inj : ∀ r r' b, S.ι r = some b → S.ι r' = some b → r = r'
 old : ∀ r b, S.ι r = some b → b < S.w.heap.size
 free : ∀ r b off, S.ι r = some b → ¬ S.F b off
 forb : ∀ b off, S.F b off → b < S.n0
 n0 : S.n0 ≤ S.w.heap.size
 glob : ∀ r b, S.ι r = some b → S.ng ≤ b
 ng : S.ng ≤ S.n0
structure Ext (S S' : St) : Prop where
 st : ∀ b off v, stable S b off → S.w.cell? ⟨b, off, none⟩ = some v → stable S' b off ∧ S'.w.cell? ⟨b, off, none⟩ = some v
 len : S.H.length ≤ S'.H.length
 box : ∀ r e' k', r < S.H.length → S'.H[r]? = some (.box e' k') → ∃ e k, S.H[r]? = some (.box e k) ∧ S'.ι r = S.ι r
 iter : ∀ r s' p', r < S.H.length → S'.H[r]? = some (.iter s' p') → ∃ s p, S.H[r]? = some (.iter s p) ∧ S'.ι r = S.ι r
 row : ∀ r xs' k' g' s', r < S.H.length → S'.H[r]? = some (.row xs' k' g' s') → ∃ xs k g s, S.H[r]? = some (.row xs k g s) ∧ g ≤ g' ∧
   (g = g' → k' = k ∧ xs'.length = xs.length ∧ S'.ι r = S.ι r ∧ S'.cp r = S.cp r)
theorem Ext.refl (S : St) : Ext S S :=
 ⟨fun _ _ _ h h' => ⟨h, h'⟩, Nat.le_refl _, fun _ e k _ h => ⟨e, k, h, rfl⟩, fun _ s p _ h => ⟨s, p, h, rfl⟩, fun _ xs k g s _ h => ⟨xs, k, g, s, h, Nat.le_refl _, fun _ => ⟨rfl, rfl, rfl, rfl⟩⟩⟩
theorem Ext.trans {S1 S2 S3 : St} (h : Ext S1 S2) (h' : Ext S2 S3) : Ext S1 S3 where
 st b off v hs hc := by
   obtain ⟨a1, a2⟩ := h.st b off v hs hc
   exact h'.st b off v a1 a2
 len := Nat.le_trans h.len h'.len
 box r e k hr hb := by
   obtain ⟨e1, k1, h1, h2⟩ := h'.box r e k (Nat.lt_of_lt_of_le hr h.len) hb
   obtain ⟨e2, k2, h3, h4⟩ := h.box r e1 k1 hr h1
   exact ⟨e2, k2, h3, h2.trans h4⟩
 iter r e k hr hb := by
   obtain ⟨e1, k1, h1, h2⟩ := h'.iter r e k (Nat.lt_of_lt_of_le hr h.len) hb
   obtain ⟨e2, k2, h3, h4⟩ := h.iter r e1 k1 hr h1
   exact ⟨e2, k2, h3, h2.trans h4⟩
 row r xs k g s hr hb := by
   obtain ⟨x1, k1, g1, s1, h1, hg1, h2⟩ := h'.row r xs k g s (Nat.lt_of_lt_of_le hr h.len) hb
   obtain ⟨x2, k2, g2, s2, h3, hg2, h4⟩ := h.row r x1 k1 g1 s1 hr h1
   refine ⟨x2, k2, g2, s2, h3, by omega, fun e => ?_⟩
   have e1 : g1 = g := by omega
   have e2 : g2 = g1 := by omega
   obtain ⟨a1, a2, a3, a4⟩ := h2 e1
   obtain ⟨b1, b2, b3, b4⟩ := h4 e2
   exact ⟨a1.trans b1, a2.trans b2, a3.trans b3, a4.trans b4⟩
def StExt (S S' : St) : Prop := ∀ b off v, stable S b off → S.w.cell? ⟨b, off, none⟩ = some v → stable S' b off ∧ S'.w.cell? ⟨b, off, none⟩ = some v
theorem ReadsAt.move {S S' : St} (E : StExt S S') {a : Addr} {vs : List Value} (h : ReadsAt S a vs) : ReadsAt S' a vs := by
 intro j v hv
 obtain ⟨h1, h2, h3, h4⟩ := h j v hv
 obtain ⟨h5, h6⟩ := E _ _ _ h2 h3
 exact ⟨h1, h5, h6, h4⟩
theorem ReadsAt.mono {S S' : St} (E : Ext S S') {a : Addr} {vs : List Value} (h : ReadsAt S a vs) : ReadsAt S' a vs := h.move E.st
theorem sizeOf_cl {e c : CV} (h : c ∈ e.cl) : SizeOf.sizeOf c ≤ SizeOf.sizeOf e := by
 cases e with
 | agg cs =>
   have := List.sizeOf_lt_of_mem (show c ∈ cs from h)
   simp only [CV.agg.sizeOf_spec]; omega
 | _ => simp only [CV.cl, List.mem_cons, List.mem_nil_iff, or_false] at h; subst h; exact Nat.le_refl _
theorem mem_elemCells {xs : List CV} {c : CV} (h : c ∈ elemCells xs) : ∃ e ∈ xs, c ∈ e.cl := by
 simpa [elemCells, List.mem_flatMap] using h
theorem Vc.mono' {S S' : St} (E : StExt S S') : ∀ (n : Nat) (x : CV) (v : Value), SizeOf.sizeOf x < n → Vc S x v → Vc S' x v := by
 intro n
 induction n with
 | zero => intro x v h; omega
 | succ n ih =>
   intro x v hn h
   cases h with
   | bool b => exact .bool b
   | int k n => exact .int k n
   | str s => exact .str s
   | nilsl => exact .nilsl
   | nilptr => exact .nilptr
   | nilfn => exact .nilfn
   | nilif => exact .nilif
   | err t v => exact .err t v
   | slnil k => exact .slnil k
   | fn f caps vs h =>
     refine .fn f caps vs (h.imp fun a b ha hr => ih a b ?_ hr)
     have := List.sizeOf_lt_of_mem ha
     simp only [CV.fn.sizeOf_spec] at hn; omega
   | agg cs vs h h1 =>
     refine .agg cs vs (h.imp fun a b ha hr => ih a b ?_ hr) h1
     have := List.sizeOf_lt_of_mem ha
     simp only [CV.agg.sizeOf_spec] at hn; omega
   | sl full k xs a c vs hk h hr hc hf =>
     refine .sl full k xs a c vs hk (h.imp fun a b ha hr => ih a b ?_ hr) (hr.move E) hc hf
     obtain ⟨e, he, hc⟩ := mem_elemCells ha
     have h1 := List.sizeOf_lt_of_mem he
     have h2 := sizeOf_cl hc
     simp only [CV.sl.sizeOf_spec] at hn; omega
theorem Vc.move {S S' : St} (E : StExt S S') {x : CV} {v : Value} (h : Vc S x v) : Vc S' x v := Vc.mono' E _ x v (Nat.lt_succ_self _) h
theorem Vc.mono {S S' : St} (E : Ext S S') {x : CV} {v : Value} (h : Vc S x v) : Vc S' x v := h.move E.st
theorem GenOk.mono {S S' : St} (E : Ext S S') {r g : Nat} (h : GenOk S r g) : GenOk S' r g := by
 refine ⟨Nat.lt_of_lt_of_le h.1 E.len, fun xs k g' s hr => ?_⟩
 obtain ⟨x1, k1, g1, s1, h1, h2, _⟩ := E.row r xs k g' s h.1 hr
 have := h.2 _ _ _ _ h1
 omega
theorem GenOk.same {S S' : St} (E : Ext S S') {r g : Nat} (h : GenOk S r g) {xs k s} (hr : S'.H[r]? = some (.row xs k g s)) :
   ∃ xs0 s0, S.H[r]? = some (.row xs0 k g s0) ∧ xs.length = xs0.length ∧ S'.ι r = S.ι r ∧ S'.cp r = S.cp r := by
 obtain ⟨x1, k1, g1, s1, h1, h2, h3⟩ := E.row r xs k g s h.1 hr
 have e : g1 = g := by have := h.2 _ _ _ _ h1; omega
 obtain ⟨a1, a2, a3, a4⟩ := h3 e
 subst e; subst a1
 exact ⟨x1, s1, h1, a2, a3, a4⟩
theorem RowV.same {S S' : St} {r off len k : Nat} {v : Value} (h : RowV S r off len k v) (h1 : S'.ι r = S.ι r) (h2 : S'.cp r = S.cp r) : RowV S' r off len k v := by
 unfold RowV at *
 rw [h1, h2]; exact h
theorem Vr.mono' {S S' : St} (E : Ext S S') : ∀ (n : Nat) (x : PV) (v : Value), SizeOf.sizeOf x < n → Vr S x v → Vr S' x v := by
 intro n
 induction n with
 | zero => intro x v h; omega
 | succ n ih =>
   intro x v hn h
   cases h with
   | undef v => exact .undef v
   | c h => exact .c (h.mono E)
   | agg cs vs h h1 =>
     refine .agg cs vs (h.imp fun a b ha hr => ih a b ?_ hr) h1
     have := List.sizeOf_lt_of_mem ha
     simp only [PV.agg.sizeOf_spec] at hn; omega
   | rw r g v h1 hg h =>
     refine .rw r g v h1 (hg.mono E) fun xs k s hr => ?_
     obtain ⟨x0, s0, h0, hl, h1, h2⟩ := hg.same E hr
     rw [hl]; exact (h x0 k s0 h0).same h1 h2
   | row r g off len v h1 hg h =>
     refine .row r g off len v h1 (hg.mono E) fun xs k s hr => ?_
     obtain ⟨x0, s0, h0, hl, h1, h2⟩ := hg.same E hr
     rw [hl]; exact ⟨(h x0 k s0 h0).1, (h x0 k s0 h0).2.same h1 h2⟩
   | bptr r t v h1 hr h =>
     refine .bptr r t v h1 (Nat.lt_of_lt_of_le hr E.len) fun e k hb => ?_
     obtain ⟨e1, k1, h1, h2⟩ := E.box r e k hr hb
     obtain ⟨b, hb, hv⟩ := h e1 k1 h1
     exact ⟨b, h2.trans hb, hv⟩
   | rptr r g i t v h1 hg h =>
     refine .rptr r g i t v h1 (hg.mono E) fun xs k s hr => ?_
     obtain ⟨x0, s0, h0, hl, h1, h2⟩ := hg.same E hr
     obtain ⟨b, hb, hv⟩ := h x0 k s0 h0
     exact ⟨b, h1.trans hb, hv⟩
   | ro cs a vs h hr => exact .ro cs a vs (h.imp fun a b _ hr => hr.mono E) (hr.mono E)
   | fn f caps vs h =>
     refine .fn f caps vs (h.imp fun a b ha hr => ih a b ?_ hr)
     have := List.sizeOf_lt_of_mem ha
     simp only [PV.fn.sizeOf_spec] at hn; omega
   | iter r v h1 hr h =>
     refine .iter r v h1 (Nat.lt_of_lt_of_le hr E.len) fun e k hb => ?_
     obtain ⟨e1, k1, h1, h2⟩ := E.iter r e k hr hb
     obtain ⟨b, hb, hv⟩ := h e1 k1 h1
     exact ⟨b, h2.trans hb, hv⟩
   | asl r off len v h1 hr h =>
     refine .asl r off len v h1 (Nat.lt_of_lt_of_le hr E.len) fun e k hb => ?_
     obtain ⟨e1, k1, h1, h2⟩ := E.box r e k hr hb
     obtain ⟨b, a, c, hb, hv⟩ := h e1 k1 h1
     exact ⟨b, a, c, h2.trans hb, hv⟩
   | tup ps vs h =>
     refine .tup ps vs (h.imp fun a b ha hr => ih a b ?_ hr)
     have := List.sizeOf_lt_of_mem ha
     simp only [PV.tup.sizeOf_spec] at hn; omega
theorem Vr.mono {S S' : St} (E : Ext S S') {x : PV} {v : Value} (h : Vr S x v) : Vr S' x v := Vr.mono' E _ x v (Nat.lt_succ_self _) h
end Go.Pv
namespace Go.Pv
open Go
structure Keeps (S S' : St) : Prop where
 os : S'.w.os = S.w.os
 tape : S'.w.tape = S.w.tape
 output : S'.w.output = S.w.output
 size : S.w.heap.size ≤ S'.w.heap.size
 blk : ∀ b, b < S.w.heap.size → (∀ r, S.ι r ≠ some b) → S'.w.heap[b]? = S.w.heap[b]?
 own : ∀ r b, S'.ι r = some b → (∃ r0, S.ι r0 = some b) ∨ S.w.heap.size ≤ b
 F : S'.F = S.F
 n0 : S'.n0 = S.n0
 ng : S'.ng = S.ng
theorem Keeps.refl (S : St) : Keeps S S := ⟨rfl, rfl, rfl, Nat.le_refl _, fun _ _ _ => rfl, fun r b h => .inl ⟨r, h⟩, rfl, rfl, rfl⟩
theorem Keeps.trans {S1 S2 S3 : St} (h : Keeps S1 S2) (h' : Keeps S2 S3) : Keeps S1 S3 where
 os := h'.os.trans h.os
 tape := h'.tape.trans h.tape
 output := h'.output.trans h.output
 size := Nat.le_trans h.size h'.size
 blk b hb hn := by
   rw [h'.blk b (Nat.lt_of_lt_of_le hb h.size) ?_, h.blk b hb hn]
   intro r hr
   rcases h.own r b hr with ⟨r0, h0⟩ | h0
   · exact hn r0 h0
   · omega
 own r b hr := by
   rcases h'.own r b hr with ⟨r0, h0⟩ | h0
   · exact h.own r0 b h0
   · exact .inr (Nat.le_trans h.size h0)
 F := h'.F.trans h.F
 n0 := h'.n0.trans h.n0
 ng := h'.ng.trans h.ng
structure Good (S S' : St) : Prop where
 ok : Ok S'
 ext : Ext S S'
 keeps : Keeps S S'
theorem Good.refl {S : St} (h : Ok S) : Good S S := ⟨h, .refl S, .refl S⟩
theorem Good.trans {S1 S2 S3 : St} (h : Good S1 S2) (h' : Good S2 S3) : Good S1 S3 := ⟨h'.ok, h.ext.trans h'.ext, h.keeps.trans h'.keeps⟩
theorem ObOk.mono {S S' : St} (E : Ext S S') {r : Nat} {o : AO} (h : ObOk S r o) (hi : S'.ι r = S.ι r) (hc : S'.cp r = S.cp r) (hb : ∀ b, S.ι r = some b → S'.w.heap[b]? = S.w.heap[b]?) : ObOk S' r o := by
 cases o with
 | box e k =>
   obtain ⟨b, cs, T, fr, v, h1, h2, h3, h4, h5, h6, h7⟩ := h
   exact ⟨b, cs, T, fr, v, hi.trans h1, (hb b h1).trans h2, h3, h4, h5.mono E, h6, h7⟩
 | row xs k g s =>
   obtain ⟨h0, h1, h⟩ := h
   refine ⟨h0, h1, ?_⟩
   rcases h with ⟨a1, a2, a3⟩ | ⟨b, cs, T, fr, vs, a1, a2, a3, a4, a5, a6, a7⟩
   · exact .inl ⟨hi.trans a1, a2, hc.trans a3⟩
   · exact .inr ⟨b, cs, T, fr, vs, hi.trans a1, (hb b a1).trans a2, a3, by rw [hc]; exact a4, by rw [hc]; exact a5, a6.imp fun _ _ _ h => h.mono E, a7⟩
 | iter s pos =>
   obtain ⟨b, h1, h2⟩ := h
   exact ⟨b, hi.trans h1, (hb b h1).trans h2⟩
 | dead => exact hi.trans h
theorem cell?_heap {w w' : World} {b off : Nat} (h : w'.heap[b]? = w.heap[b]?) : w'.cell? ⟨b, off, none⟩ = w.cell? ⟨b, off, none⟩ := by
 unfold World.cell?; simp only [h]
def St.push (S : St) (o : Obj) (ao : AO) (c : Nat) : St :=
 { w := S.w.alloc o, ι := fun r => if r = S.H.length then some S.w.heap.size else S.ι r, cp := fun r => if r = S.H.length then c else S.cp r, H := S.H ++ [ao], F := S.F, n0 := S.n0, ng := S.ng }
theorem getElem?_snoc_lt {α : Type} {l : List α} {a : α} {i : Nat} (h : i < l.length) : (l ++ [a])[i]? = l[i]? := List.getElem?_append_left h
theorem heap_alloc_lt {w : World} {o : Obj} {b : Nat} (h : b < w.heap.size) : (w.alloc o).heap[b]? = w.heap[b]? := RowKit.Below.heap_alloc w o b h
theorem heap_alloc_new {w : World} {o : Obj} : (w.alloc o).heap[w.heap.size]? = some o := by
 show (w.heap.push o)[w.heap.size]? = _
 simp
theorem push_ext {S : St} (ok : Ok S) (o : Obj) (ao : AO) (c : Nat) : Ext S (S.push o ao c) where
 st b off v hs hc := by
   have hb : b < S.w.heap.size := World.block_lt_of_cell? S.w _ hc
   refine ⟨⟨hs.1, fun r hr => ?_⟩, ?_⟩
   · simp only [St.push] at hr
     split at hr
     · simp at hr; omega
     · obtain ⟨xs, k, g, h1, h2⟩ := hs.2 r hr
       refine ⟨xs, k, g, ?_, h2⟩
       show (S.H ++ [ao])[r]? = _
       rw [getElem?_snoc_lt (List.getElem?_eq_some_iff.1 h1).1]; exact h1
   · rw [← hc]; exact cell?_heap (heap_alloc_lt hb)
 len := by simp [St.push]
 box r e k hr hb := by
   have h1 : S.H[r]? = some (.box e k) := by rw [← hb]; exact (getElem?_snoc_lt hr).symm
   refine ⟨e, k, h1, ?_⟩
   simp only [St.push]; rw [if_neg (by omega)]
 iter r e k hr hb := by
   have h1 : S.H[r]? = some (.iter e k) := by rw [← hb]; exact (getElem?_snoc_lt hr).symm
   refine ⟨e, k, h1, ?_⟩
   simp only [St.push]; rw [if_neg (by omega)]
 row r xs k g s hr hb := by
   have h1 : S.H[r]? = some (.row xs k g s) := by rw [← hb]; exact (getElem?_snoc_lt hr).symm
   refine ⟨xs, k, g, s, h1, Nat.le_refl _, fun _ => ⟨rfl, rfl, ?_, ?_⟩⟩
   · simp only [St.push]; rw [if_neg (by omega)]
   · simp only [St.push]; rw [if_neg (by omega)]
theorem push_good {S : St} (ok : Ok S) (o : Obj) (ao : AO) (c : Nat) (h : ObOk (S.push o ao c) S.H.length ao) : Good S (S.push o ao c) := by
 have E := push_ext ok o ao c
 refine ⟨⟨?_, ?_, ?_, ?_, ?_, ?_, ?_, ?_, ok.ng⟩, E, ⟨rfl, rfl, rfl, by simp [St.push], fun b hb _ => heap_alloc_lt hb, ?_, rfl, rfl, rfl⟩⟩
 · intro r a hr
   have hlt : r < (S.H ++ [ao]).length := (List.getElem?_eq_some_iff.1 hr).1
   simp at hlt
   rcases Nat.lt_or_ge r S.H.length with h1 | h1
   · have h2 : S.H[r]? = some a := by rw [← hr]; exact (getElem?_snoc_lt h1).symm
     refine (ok.ob r a h2).mono E ?_ ?_ fun b hb => heap_alloc_lt (ok.old r b hb)
     · simp only [St.push]; rw [if_neg (by omega)]
     · simp only [St.push]; rw [if_neg (by omega)]
   · obtain rfl : r = S.H.length := by omega
     have : (S.H ++ [ao])[S.H.length]? = some ao := by simp
     have e : a = ao := by
       have hr' : (S.H ++ [ao])[S.H.length]? = some a := hr
       rw [this] at hr'; exact (Option.some.inj hr').symm
     subst e; exact h
 · intro r hr
   simp only [St.push, List.length_append, List.length_cons, List.length_nil] at hr ⊢
   rw [if_neg (by omega)]; exact ok.out r (by omega)
 · intro r r' b h1 h2
   simp only [St.push] at h1 h2
   split at h1 <;> split at h2
   · omega
   · simp at h1; have := ok.old r' b h2; omega
   · simp at h2; have := ok.old r b h1; omega
   · exact ok.inj r r' b h1 h2
 · intro r b hr
   simp only [St.push] at hr ⊢
   rw [World.size_alloc]
   split at hr
   · simp at hr; omega
   · have := ok.old r b hr; omega
 · intro r b off hr
   simp only [St.push] at hr ⊢
   split at hr
   · simp at hr; subst hr
     intro hf
     have := ok.forb _ _ hf; have := ok.n0; omega
   · exact ok.free r b off hr
 · exact ok.forb
 · simp only [St.push, World.size_alloc]; have := ok.n0; omega
 · intro r b hr
   simp only [St.push] at hr ⊢
   split at hr
   · simp at hr; have := ok.ng; have := ok.n0; omega
   · exact ok.glob r b hr
 · intro r b hr
   simp only [St.push] at hr
   split at hr
   · simp at hr; exact .inr (by omega)
   · exact .inl ⟨r, hr⟩
structure Turn (S S' : St) (r : Nat) (ao : AO) : Prop where
 lt : r < S.H.length
 H : S'.H = S.H.set r ao
 ι : ∀ r', r' ≠ r → S'.ι r' = S.ι r'
 cp : ∀ r', r' ≠ r → S'.cp r' = S.cp r'
 ιr : S'.ι r = S.ι r ∨ S'.ι r = none ∨ (∃ b, S'.ι r = some b ∧ S.w.heap.size ≤ b ∧ b < S'.w.heap.size)
 os : S'.w.os = S.w.os
 tape : S'.w.tape = S.w.tape
 output : S'.w.output = S.w.output
 size : S.w.heap.size ≤ S'.w.heap.size
 blk : ∀ b, b < S.w.heap.size → S.ι r ≠ some b → S'.w.heap[b]? = S.w.heap[b]?
 F : S'.F = S.F
 n0 : S'.n0 = S.n0
 ng : S'.ng = S.ng
 /-- what was stable in its block is stable still -/
 st : ∀ b off v, S.ι r = some b → (∃ xs k g, S.H[r]? = some (.row xs k g true) ∧ off < xs.length * k) → S.w.cell? ⟨b, off, none⟩ = some v →
   (S'.ι r = some b → ∃ xs k g, ao = .row xs k g true ∧ off < xs.length * k) ∧ S'.w.cell? ⟨b, off, none⟩ = some v
 box : ∀ e' k', ao = .box e' k' → ∃ e k, S.H[r]? = some (.box e k) ∧ S'.ι r = S.ι r
 iter : ∀ s' p', ao = .iter s' p' → ∃ s p, S.H[r]? = some (.iter s p) ∧ S'.ι r = S.ι r
 row : ∀ xs' k' g' s', ao = .row xs' k' g' s' → ∃ xs k g s, S.H[r]? = some (.row xs k g s) ∧ g ≤ g' ∧
   (g = g' → k' = k ∧ xs'.length = xs.length ∧ S'.ι r = S.ι r ∧ S'.cp r = S.cp r)
theorem set_get_self {α : Type} {l : List α} {r : Nat} {a : α} (h : r < l.length) : (l.set r a)[r]? = some a := by simp [h]
theorem set_get_ne {α : Type} {l : List α} {r r' : Nat} {a : α} (h : r' ≠ r) : (l.set r a)[r']? = l[r']? := List.getElem?_set_ne (fun e => h e.symm)
theorem Turn.ext {S S' : St} (ok : Ok S) {r : Nat} {ao : AO} (h : Turn S S' r ao) : Ext S S' where
 st b off v hs hc := by
   have hb : b < S.w.heap.size := World.block_lt_of_cell? S.w _ hc
   by_cases hrb : S.ι r = some b
   · have h1 := hs.2 r hrb
     obtain ⟨h2, h3⟩ := h.st b off v hrb h1 hc
     refine ⟨⟨by rw [h.F]; exact hs.1, fun r' hr' => ?_⟩, h3⟩
     by_cases e : r' = r
     · subst e
       obtain ⟨xs, k, g, h4, h5⟩ := h2 hr'
       exact ⟨xs, k, g, by rw [h.H, h4]; exact set_get_self h.lt, h5⟩
     · rw [h.ι r' e] at hr'
       exact absurd (ok.inj r' r b hr' hrb) e
   · refine ⟨⟨by rw [h.F]; exact hs.1, fun r' hr' => ?_⟩, by rw [cell?_heap (h.blk b hb hrb)]; exact hc⟩
     by_cases e : r' = r
     · subst e
       rcases h.ιr with h1 | h1 | ⟨b', h1, h2, _⟩
       · rw [h1] at hr'; exact absurd hr' hrb
       · rw [h1] at hr'; cases hr'
       · rw [h1] at hr'; cases hr'; omega
     · rw [h.ι r' e] at hr'
       obtain ⟨xs, k, g, h4, h5⟩ := hs.2 r' hr'
       exact ⟨xs, k, g, by rw [h.H, set_get_ne e]; exact h4, h5⟩
 len := by rw [h.H]; simp
 box r' e k hr hb := by
   rw [h.H] at hb
   by_cases he : r' = r
   · subst he
     rw [set_get_self h.lt] at hb
     exact h.box e k (Option.some.inj hb)
   · rw [set_get_ne he] at hb
     exact ⟨e, k, hb, h.ι r' he⟩
 iter r' e k hr hb := by
   rw [h.H] at hb
   by_cases he : r' = r
   · subst he
     rw [set_get_self h.lt] at hb
     exact h.iter e k (Option.some.inj hb)
   · rw [set_get_ne he] at hb
     exact ⟨e, k, hb, h.ι r' he⟩
 row r' xs k g s hr hb := by
   rw [h.H] at hb
   by_cases he : r' = r
   · subst he
     rw [set_get_self h.lt] at hb
     exact h.row xs k g s (Option.some.inj hb)
   · rw [set_get_ne he] at hb
     exact ⟨xs, k, g, s, hb, Nat.le_refl _, fun _ => ⟨rfl, rfl, h.ι r' he, h.cp r' he⟩⟩
theorem Turn.good {S S' : St} (ok : Ok S) {r : Nat} {ao : AO} (h : Turn S S' r ao) (ho : ObOk S' r ao) : Good S S' := by
 have E := h.ext ok
 have hlen : S'.H.length = S.H.length := by rw [h.H]; simp
 refine ⟨⟨?_, ?_, ?_, ?_, ?_, ?_, ?_, ?_, ?_⟩, E, ⟨h.os, h.tape, h.output, h.size, fun b hb hn => h.blk b hb (hn r), ?_, h.F, h.n0, h.ng⟩⟩
 · intro r' a hr
   rw [h.H] at hr
   by_cases he : r' = r
   · subst he
     rw [set_get_self h.lt] at hr
     obtain rfl := Option.some.inj hr
     exact ho
   · rw [set_get_ne he] at hr
     refine (ok.ob r' a hr).mono E (h.ι r' he) (h.cp r' he) fun b hb => h.blk b (ok.old r' b hb) fun hb' => he (ok.inj r' r b hb hb')
 · intro r' hr
   rw [hlen] at hr
   have := h.lt
   rw [h.ι r' (by omega)]; exact ok.out r' hr
 · intro r1 r2 b h1 h2
   by_cases e1 : r1 = r <;> by_cases e2 : r2 = r
   · omega
   · subst e1
     rw [h.ι r2 e2] at h2
     rcases h.ιr with h3 | h3 | ⟨b', h3, h4, _⟩
     · rw [h3] at h1; exact ok.inj r1 r2 b h1 h2
     · rw [h3] at h1; cases h1
     · rw [h3] at h1; cases h1; have := ok.old r2 b h2; omega
   · subst e2
     rw [h.ι r1 e1] at h1
     rcases h.ιr with h3 | h3 | ⟨b', h3, h4, _⟩
     · rw [h3] at h2; exact ok.inj r1 r2 b h1 h2
     · rw [h3] at h2; cases h2
     · rw [h3] at h2; cases h2; have := ok.old r1 b h1; omega
   · rw [h.ι r1 e1] at h1; rw [h.ι r2 e2] at h2; exact ok.inj r1 r2 b h1 h2
 · intro r' b hr
   by_cases e : r' = r
   · subst e
     rcases h.ιr with h3 | h3 | ⟨b', h3, h4, h5⟩
     · rw [h3] at hr; have := ok.old r' b hr; have := h.size; omega
     · rw [h3] at hr; cases hr
     · rw [h3] at hr; cases hr; exact h5
   · rw [h.ι r' e] at hr; have := ok.old r' b hr; have := h.size; omega
 · intro r' b off hr
   rw [h.F]
   by_cases e : r' = r
   · subst e
     rcases h.ιr with h3 | h3 | ⟨b', h3, h4, h5⟩
     · rw [h3] at hr; exact ok.free r' b off hr
     · rw [h3] at hr; cases hr
     · rw [h3] at hr; cases hr
       intro hf; have := ok.forb _ _ hf; have := ok.n0; omega
   · rw [h.ι r' e] at hr; exact ok.free r' b off hr
 · rw [h.F, h.n0]; exact ok.forb
 · rw [h.n0]; have := ok.n0; have := h.size; omega
 · intro r' b hr
   rw [h.ng]
   by_cases e : r' = r
   · subst e
     rcases h.ιr with h3 | h3 | ⟨b', h3, h4, h5⟩
     · rw [h3] at hr; exact ok.glob r' b hr
     · rw [h3] at hr; cases hr
     · rw [h3] at hr; cases hr; have := ok.ng; have := ok.n0; omega
   · rw [h.ι r' e] at hr; exact ok.glob r' b hr
 · rw [h.ng, h.n0]; exact ok.ng
 · intro r' b hr
   by_cases e : r' = r
   · subst e
     rcases h.ιr with h3 | h3 | ⟨b', h3, h4, h5⟩
     · rw [h3] at hr; exact .inl ⟨r', hr⟩
     · rw [h3] at hr; cases hr
     · rw [h3] at hr; cases hr; exact .inr h4
   · rw [h.ι r' e] at hr; exact .inl ⟨r', hr⟩
def St.drawn (S : St) (n : Nat) : St := { S with w := { S.w with drawn := n } }
theorem drawn_good {S : St} (ok : Ok S) (n : Nat) : Good S (S.drawn n) := by
 have E : Ext S (S.drawn n) := ⟨fun _ _ _ h h' => ⟨h, h'⟩, Nat.le_refl _, fun _ e k _ h => ⟨e, k, h, rfl⟩, fun _ s p _ h => ⟨s, p, h, rfl⟩, fun _ xs k g s _ h => ⟨xs, k, g, s, h, Nat.le_refl _, fun _ => ⟨rfl, rfl, rfl, rfl⟩⟩⟩
 exact ⟨⟨fun r o h => (ok.ob r o h).mono E rfl rfl fun _ _ => rfl, ok.out, ok.inj, ok.old, ok.free, ok.forb, ok.n0, ok.glob, ok.ng⟩, E, ⟨rfl, rfl, rfl, Nat.le_refl _, fun _ _ _ => rfl, fun r b h => .inl ⟨r, h⟩, rfl, rfl, rfl⟩⟩
end Go.Pv
namespace Go.Pv
open Go
theorem bif_some {α : Type} {b : Bool} {x y : Option α} {r : α} (h : bif' b x y = some r) : (b = true ∧ x = some r) ∨ (b = false ∧ y = some r) := by
 cases b
 · exact .inr ⟨rfl, h⟩
 · exact .inl ⟨rfl, h⟩
theorem bif_true {α : Type} {b : Bool} {x : Option α} {r : α} (h : bif' b x none = some r) : b = true ∧ x = some r := by
 rcases bif_some h with h | ⟨_, h⟩
 · exact h
 · cases h
theorem bif_false {α : Type} {b : Bool} {x : Option α} {r : α} (h : bif' b none x = some r) : b = false ∧ x = some r := by
 rcases bif_some h with ⟨_, h⟩ | h
 · cases h
 · exact h
def Does (P : Program) (s : Sem Value) (S : St) (K : KV) (res : CV × List CV) : Prop :=
 ∃ v S' p, s.run P S.w = .ok v S'.w ∧ Good S S' ∧ Vr S' p v ∧ K p S'.H = some res
theorem Does.same {P : Program} {s : Sem Value} {S : St} {K : KV} {res : CV × List CV} (ok : Ok S) {v : Value} {p : PV} (h : s.run P S.w = .ok v S.w) (hv : Vr S p v) (hk : K p S.H = some res) : Does P s S K res :=
 ⟨v, S, p, h, .refl ok, hv, hk⟩
theorem ofCell_Vc {S : St} {v : Value} {x : CV} (h : ofCell v = some x) : Vc S x v ∧ v.oneCell' = true := by
 unfold ofCell at h
 split at h <;> first | (cases h; done) | (obtain rfl := Option.some.inj h; exact ⟨by constructor, rfl⟩)
theorem ofCells_Vc {S : St} : ∀ {vs : List Value} {xs : List CV}, ofCells vs = some xs → All2 (Vc S) xs vs ∧ ∀ v ∈ vs, v.oneCell' = true
 | [], xs, h => by simp [ofCells] at h; subst h; exact ⟨.nil, by simp⟩
 | v :: vs, xs, h => by
   simp only [ofCells] at h
   split at h
   · rename_i x ys h1 h2
     obtain rfl := Option.some.inj h
     obtain ⟨a1, a2⟩ := ofCell_Vc (S := S) h1
     obtain ⟨b1, b2⟩ := ofCells_Vc (S := S) h2
     refine ⟨.cons a1 b1, ?_⟩
     intro u hu
     rcases List.mem_cons.1 hu with rfl | hu
     · exact a2
     · exact b2 u hu
   · cases h
theorem ofVal_Vc {S : St} {v : Value} {x : CV} (h : ofVal v = some x) : Vc S x v := by
 unfold ofVal at h
 split at h
 · split at h
   · rename_i cs xs hx
     obtain rfl := Option.some.inj h
     obtain ⟨a1, a2⟩ := ofCells_Vc (S := S) hx
     exact .agg _ _ a1 a2
   · cases h
 · exact (ofCell_Vc h).1
theorem Vc.cells {S : St} {x : CV} {v : Value} (h : Vc S x v) : All2 (Vc S) x.cl v.cells.toList ∧ ∀ u ∈ v.cells.toList, u.oneCell' = true := by
 have aux : ∀ {x : CV} {v : Value}, Vc S x v → x.cl = [x] → v.cells = #[v] → v.oneCell' = true → All2 (Vc S) x.cl v.cells.toList ∧ ∀ u ∈ v.cells.toList, u.oneCell' = true := by
   intro x v h h1 h2 h3
   rw [h1, h2]
   exact ⟨.cons h .nil, by simp; exact h3⟩
 cases h with
 | agg cs vs h1 h2 => exact ⟨h1, h2⟩
 | bool b => exact aux (.bool b) rfl rfl rfl
 | int k n => exact aux (.int k n) rfl rfl rfl
 | str s => exact aux (.str s) rfl rfl rfl
 | nilsl => exact aux .nilsl rfl rfl rfl
 | nilptr => exact aux .nilptr rfl rfl rfl
 | nilfn => exact aux .nilfn rfl rfl rfl
 | nilif => exact aux .nilif rfl rfl rfl
 | err t v => exact aux (.err t v) rfl rfl rfl
 | slnil k => exact aux (.slnil k) rfl rfl rfl
 | fn f caps vs h => exact aux (.fn f caps vs h) rfl rfl rfl
 | sl full k xs a c vs h1 h2 h3 h4 h5 => exact aux (.sl full k xs a c vs h1 h2 h3 h4 h5) rfl rfl rfl
theorem Vr.one {S : St} {p : PV} {v : Value} (h : Vr S p v) (hn : p.ncells = some 1) (ha : ∀ cs, p ≠ .agg cs) (hc : ∀ cs, p ≠ .c (.agg cs)) : v.cells = #[v] ∧ v.oneCell' = true := by
 cases h with
 | undef => simp [PV.ncells] at hn
 | agg cs => exact absurd rfl (ha cs)
 | tup => simp [PV.ncells] at hn
 | iter r v h1 => simp [PV.ncells] at hn
 | ro cs a vs h => exact ⟨rfl, rfl⟩
 | fn f caps vs h => exact ⟨rfl, rfl⟩
 | c h =>
   cases h with
   | agg cs => exact absurd rfl (hc cs)
   | _ => exact ⟨rfl, rfl⟩
 | rw r g v h1 => cases v <;> first | (simp [Value.oneCell'] at h1; done) | exact ⟨rfl, rfl⟩
 | row r g off len v h1 => cases v <;> first | (simp [Value.oneCell'] at h1; done) | exact ⟨rfl, rfl⟩
 | bptr r t v h1 => cases v <;> first | (simp [Value.oneCell'] at h1; done) | exact ⟨rfl, rfl⟩
 | rptr r g i t v h1 => cases v <;> first | (simp [Value.oneCell'] at h1; done) | exact ⟨rfl, rfl⟩
 | asl r off len v h1 => cases v <;> first | (simp [Value.oneCell'] at h1; done) | exact ⟨rfl, rfl⟩
theorem Vr.ofcl {S : St} {cs : List CV} {vs : List Value} (h : All2 (Vc S) cs vs) : All2 (Vr S) (cs.map .c) vs := h.map _ fun _ _ h => .c h
theorem Vr.cells {S : St} {p : PV} {v : Value} {ps : List PV} (h : Vr S p v) (hp : p.cells = some ps) : All2 (Vr S) ps v.cells.toList ∧ (∀ u ∈ v.cells.toList, u.oneCell' = true) := by
 have aux : p.ncells = some 1 → (∀ cs, p ≠ .agg cs) → (∀ cs, p ≠ .c (.agg cs)) → p.cells = some [p] → All2 (Vr S) ps v.cells.toList ∧ (∀ u ∈ v.cells.toList, u.oneCell' = true) := by
   intro h1 h2 h3 h4
   obtain ⟨h5, h6⟩ := h.one h1 h2 h3
   rw [hp] at h4
   obtain rfl := Option.some.inj h4
   rw [h5]
   exact ⟨.cons h .nil, by simp; exact h6⟩
 cases p with
 | undef => simp [PV.cells] at hp
 | tup => simp [PV.cells] at hp
 | iter => simp [PV.cells] at hp
 | agg cs =>
   simp only [PV.cells] at hp; obtain rfl := Option.some.inj hp
   cases h with
   | agg cs vs h1 h2 => exact ⟨h1, h2⟩
 | c x =>
   cases h with
   | c hx =>
     obtain ⟨h1, h2⟩ := hx.cells
     refine ⟨?_, h2⟩
     have : ps = x.cl.map .c := by
       cases x <;> simp only [PV.cells] at hp <;> exact (Option.some.inj hp).symm
     rw [this]; exact Vr.ofcl h1
 | rw r g => exact aux rfl (by simp) (by simp) rfl
 | row r g off len => exact aux rfl (by simp) (by simp) rfl
 | bptr r t => exact aux rfl (by simp) (by simp) rfl
 | rptr r g i t => exact aux rfl (by simp) (by simp) rfl
 | ro cs => exact aux rfl (by simp) (by simp) rfl
 | asl r off len => exact aux rfl (by simp) (by simp) rfl
 | fn f caps => exact aux rfl (by simp) (by simp) rfl
theorem PV.cells_n {p : PV} {ps : List PV} (h : p.cells = some ps) : p.ncells = some ps.length := by
 cases p with
 | c x => cases x <;> simp only [PV.cells] at h <;> obtain rfl := Option.some.inj h <;> simp [PV.ncells, CV.cl]
 | _ => simp only [PV.cells] at h <;> first | (cases h; done) | (obtain rfl := Option.some.inj h; simp [PV.ncells])
theorem PV.cells_of_n {p : PV} {k : Nat} (h : p.ncells = some k) : ∃ ps, p.cells = some ps ∧ ps.length = k := by
 cases p with
 | c x => cases x <;> simp only [PV.ncells] at h <;> obtain rfl := Option.some.inj h <;> simp [PV.cells, CV.cl]
 | _ => simp only [PV.ncells] at h <;> first | (cases h; done) | (obtain rfl := Option.some.inj h; simp [PV.cells])
theorem Vr.size {S : St} {p : PV} {v : Value} {k : Nat} (h : Vr S p v) (hp : p.ncells = some k) : v.cells.size = k := by
 obtain ⟨ps, h1, h2⟩ := PV.cells_of_n hp
 have := (h.cells h1).1.length
 simp at this; omega
section
variable {P : Program} {t : TypeId} {w : World}
theorem run_size {n : Nat} (h : tySize P t = some n) : (Go.sizeOf t).run P w = .ok n w := by
 unfold tySize at h
 cases hi : P.info? t with
 | none => simp [hi] at h
 | some i =>
   simp [hi] at h
   simp [Go.sizeOf, typeInfo, hi, h]
theorem run_agg {b : Bool} (h : tyAgg P t = some b) : (isAgg t).run P w = .ok b w := by
 unfold tyAgg at h
 cases hi : P.underlying t with
 | none => simp [hi] at h
 | some d =>
   rw [hi] at h
   simp only [isAgg, Sem.run_bind, run_underlying hi, Result.andThen_ok]
   cases d <;> simp at h <;> subst h <;> rfl
theorem run_zero {z : CV} (h : tyZero P t = some z) : ∃ v, (∀ w, (zeroValue t).run P w = .ok v w) ∧ ∀ S, Vc S z v := by
 unfold tyZero at h
 cases hi : P.info? t with
 | none => simp [hi] at h
 | some i =>
   simp only [hi] at h
   cases hz : i.zero with
   | none => simp [hz] at h
   | some v =>
     simp only [hz] at h
     exact ⟨v, fun w => by simp [zeroValue, typeInfo, hi, hz], fun S => ofVal_Vc h⟩
theorem run_bytes {n : Nat} (h : tyBytes P t = some n) : ∃ i, P.info? t = some i ∧ i.bytes = n ∧ ∀ w, (typeInfo t).run P w = .ok i w := by
 unfold tyBytes at h
 cases hi : P.info? t with
 | none => simp [hi] at h
 | some i =>
   simp [hi] at h
   exact ⟨i, rfl, h, fun w => by simp [typeInfo, hi]⟩
end
def Part (P : Program) (t : TypeId) (vs : List Value) (off : Nat) (v : Value) : Prop :=
 (∃ n, tyAgg P t = some true ∧ tySize P t = some n ∧ off + n ≤ vs.length ∧ v = .agg ((vs.drop off).take n).toArray) ∨ (tyAgg P t = some false ∧ tySize P t = some 1 ∧ vs[off]? = some v)
theorem Part.at {P : Program} {t : TypeId} {vs : List Value} {off : Nat} {v : Value} (h : Part P t vs off v) : Part P t (vs.drop off) 0 v := by
 rcases h with ⟨n, h1, h2, h3, h4⟩ | ⟨h1, h2, h3⟩
 · exact .inl ⟨n, h1, h2, by simp; omega, by simpa using h4⟩
 · exact .inr ⟨h1, h2, by simpa using h3⟩
theorem Part.back {P : Program} {t : TypeId} {vs : List Value} {off : Nat} {v : Value} (h : Part P t (vs.drop off) 0 v) (hn : ∀ n, tySize P t = some n → off + n ≤ vs.length) : Part P t vs off v := by
 rcases h with ⟨n, h1, h2, h3, h4⟩ | ⟨h1, h2, h3⟩
 · exact .inl ⟨n, h1, h2, hn n h2, by simpa using h4⟩
 · exact .inr ⟨h1, h2, by simpa using h3⟩
theorem add_at {b o j : Nat} : (⟨b, o, none⟩ : Addr).add j = ⟨b, o + j, none⟩ := by
 unfold Addr.add; split
 · rename_i h; subst h; rfl
 · rfl
theorem add_spot {a : Addr} (h : a.spot = none) {j : Nat} : a.add j = ⟨a.block, a.off + j, none⟩ := by
 obtain ⟨b, o, s⟩ := a
 simp at h; subst h; exact add_at
theorem run_loadVar {P : Program} {t : TypeId} {vs : List Value} {v : Value} {w : World} {a : Addr} (h : Part P t vs 0 v) (hr : ∀ j u, vs[j]? = some u → w.cell? (a.add j) = some u) : (loadVar t a).run P w = .ok v w := by
 rcases h with ⟨n, h1, h2, h3, rfl⟩ | ⟨h1, h2, h3⟩
 · have hl : ((vs.drop 0).take n).length = n := by simp; omega
   have := run_loadCells_list (P := P) w a ((vs.drop 0).take n) (fun j u hu => hr j u (by
     rw [List.getElem?_take] at hu
     split at hu
     · simpa using hu
     · cases hu))
   rw [hl] at this
   simp only [loadVar, Sem.run_bind, run_agg h1, Result.andThen_ok, if_true, run_size h2, this, Sem.run_pure]
 · have := hr 0 v h3
   have e : a.add 0 = a := by simp [Addr.add]
   rw [e] at this
   simp only [loadVar, Sem.run_bind, run_agg h1, Result.andThen_ok]
   simp [this]
theorem run_part {P : Program} {t : TypeId} {cs : Array Value} {off : Nat} {v : Value} {w : World} (h : Part P t cs.toList off v) : (part t cs off).run P w = .ok v w := by
 rcases h with ⟨n, h1, h2, h3, rfl⟩ | ⟨h1, h2, h3⟩
 · simp only [part, Sem.run_bind, run_agg h1, Result.andThen_ok, if_true, run_size h2, Sem.run_pure]
   congr 2
   apply Array.ext'
   simp [Array.toList_extract]
 · have h4 : cs[off]? = some v := by simpa using h3
   simp only [part, Sem.run_bind, run_agg h1, Result.andThen_ok]
   simp [h4]
theorem rdc_of_okc {z c : CV} (h : okc z c = true) : rdc z c = c := by
 cases z <;> first
   | rfl
   | (cases c <;> simp [okc] at h <;> first | rfl | (subst h; rfl))
theorem getD_get {α : Type} {l : List α} {i : Nat} {d : α} (h : i < l.length) : l[i]? = some (l.getD i d) := by
 simp [List.getD_eq_getElem?_getD, List.getElem?_eq_getElem h]
theorem readCV_ok {P : Program} {t : TypeId} {cs : List CV} {vs : List Value} {off : Nat} {H : Hp} {K : KV} {res : CV × List CV} {S : St} (h : All2 (Vc S) cs vs) (h1 : ∀ u ∈ vs, u.oneCell' = true)
   (hr : readCV P t cs off H K = some res) : ∃ p v, K p H = some res ∧ Vr S p v ∧ Part P t vs off v := by
 unfold readCV at hr
 split at hr
 · rename_i n ha hs
   obtain ⟨hb, hk⟩ := bif_true hr
   have hb : off + n ≤ cs.length := by simpa using hb
   refine ⟨_, _, hk, .c (.agg _ ((vs.drop off).take n).toArray ?_ ?_), .inl ⟨n, ha, hs, by rw [← h.length]; exact hb, rfl⟩⟩
   · simpa using (h.drop off).take n
   · intro u hu
     exact h1 u (List.mem_of_mem_drop (List.mem_of_mem_take (by simpa using hu)))
 · rename_i ha hs
   split at hr <;> first | (cases hr; done) | skip
   obtain ⟨hb, hr⟩ := bif_true hr
   obtain ⟨hok, hk⟩ := bif_true hr
   have hb : off < cs.length := by simpa using hb
   obtain ⟨v, hv, hc⟩ := h.get (getD_get (d := .nilptr) hb)
   exact ⟨_, v, hk, by rw [rdc_of_okc hok]; exact .c hc, .inr ⟨ha, hs, hv⟩⟩
 · cases hr
theorem readPV_ok {P : Program} {t : TypeId} {e : PV} {vs : List Value} {k off : Nat} {H : Hp} {K : KV} {res : CV × List CV} {S : St} {ps : List PV} (hp : e.cells = some ps) (hk0 : ps.length = k) (h : All2 (Vr S) ps vs) (h1 : ∀ u ∈ vs, u.oneCell' = true)
   (hc : ∀ x, e = .c x → All2 (Vc S) x.cl vs)
   (hr : readPV P t e k off H K = some res) : ∃ p v, K p H = some res ∧ Vr S p v ∧ Part P t vs off v := by
 have hlen := h.length
 unfold readPV at hr
 split at hr
 · rename_i x
   have hx := hc x rfl
   split at hr
   · rename_i n cs ha hs
     split at hr
     · rename_i hn
       obtain ⟨hn, h0⟩ := hn
       subst h0
       refine ⟨_, .agg vs.toArray, hr, .c (.agg _ _ (by simpa [CV.cl] using hx) (by simpa using h1)), .inl ⟨n, ha, hs, by omega, ?_⟩⟩
       congr 1
       simp [List.take_of_length_le (show vs.length ≤ n by omega)]
     · exact readCV_ok hx h1 hr
   · exact readCV_ok hx h1 hr
 · rename_i ps'
   simp only [PV.cells] at hp; obtain rfl := Option.some.inj hp
   split at hr
   · rename_i n ha hs
     split at hr
     · rename_i hn
       refine ⟨_, .agg ((vs.drop off).take n).toArray, hr, .agg _ _ (by simpa using (h.drop off).take n) ?_, .inl ⟨n, ha, hs, by omega, rfl⟩⟩
       intro u hu
       exact h1 u (List.mem_of_mem_drop (List.mem_of_mem_take (by simpa using hu)))
     · cases hr
   · rename_i ha hs
     split at hr
     · rename_i p hp
       obtain ⟨v, hv, hc⟩ := h.get hp
       exact ⟨p, v, hr, hc, .inr ⟨ha, hs, hv⟩⟩
     · cases hr
   · cases hr
 · rename_i hne1 hne2
   split at hr
   · rename_i ha hs hn
     have hps : ps = [e] := by
       cases e with
       | c x => exact (hne1 x rfl).elim
       | agg cs => exact (hne2 cs rfl).elim
       | undef => simp [PV.cells] at hp
       | tup => simp [PV.cells] at hp
       | iter => simp [PV.cells] at hp
       | _ => exact (Option.some.inj hp).symm
     subst hps
     obtain ⟨v, hv, hc'⟩ := h.get (i := 0) (a := e) (by simp)
     exact ⟨e, v, hr, hc', .inr ⟨ha, hs, hv⟩⟩
   · cases hr
end Go.Pv
namespace Go.Pv
open Go
theorem getRow_some {H : Hp} {r g : Nat} {xs : List CV} {k : Nat} {s : Bool} (h : getRow H r g = some (xs, k, s)) : H[r]? = some (.row xs k g s) := by
 unfold getRow at h
 split at h
 · rename_i xs' k' g' s' hr
   split at h
   · rename_i hg
     subst hg
     simp at h
     obtain ⟨rfl, rfl, rfl⟩ := h
     exact hr
   · cases h
 · cases h
theorem flat_drop {k : Nat} : ∀ {xs : List CV} (n : Nat), (∀ e ∈ xs, e.cl.length = k) → elemCells (xs.drop n) = (elemCells xs).drop (n * k)
 | [], n, _ => by simp [elemCells]
 | x :: xs, 0, _ => by simp
 | x :: xs, n + 1, h => by
   have hx := h x (by simp)
   rw [List.drop_succ_cons, flat_drop n (fun e he => h e (by simp [he]))]
   show _ = List.drop _ (x.cl ++ elemCells xs)
   rw [show (n + 1) * k = x.cl.length + n * k by rw [Nat.add_mul]; omega, List.drop_append, List.drop_of_length_le (l := x.cl) (by omega), List.nil_append, Nat.add_sub_cancel_left]
theorem flat_take {k : Nat} : ∀ {xs : List CV} (n : Nat), (∀ e ∈ xs, e.cl.length = k) → elemCells (xs.take n) = (elemCells xs).take (n * k)
 | [], n, _ => by simp [elemCells]
 | x :: xs, 0, _ => by simp [elemCells]
 | x :: xs, n + 1, h => by
   have hx := h x (by simp)
   rw [List.take_succ_cons]
   show x.cl ++ elemCells (xs.take n) = List.take _ (x.cl ++ elemCells xs)
   rw [flat_take n (fun e he => h e (by simp [he])), show (n + 1) * k = x.cl.length + n * k by rw [Nat.add_mul]; omega, List.take_append, List.take_of_length_le (l := x.cl) (by omega), Nat.add_sub_cancel_left]
theorem flat_len {k : Nat} : ∀ {xs : List CV}, (∀ e ∈ xs, e.cl.length = k) → (elemCells xs).length = xs.length * k
 | [], _ => by simp [elemCells]
 | x :: xs, h => by
   show (x.cl ++ elemCells xs).length = _
   rw [List.length_append, flat_len (fun e he => h e (by simp [he])), h x (by simp), List.length_cons, Nat.add_mul]; omega
theorem flat_get {k : Nat} {xs : List CV} {i : Nat} (h : ∀ e ∈ xs, e.cl.length = k) (hi : i < xs.length) : ((elemCells xs).drop (i * k)).take k = (xs.getD i .nilptr).cl := by
 rw [← flat_drop i h]
 have : xs.drop i = xs.getD i .nilptr :: xs.drop (i + 1) := by
   rw [List.drop_eq_getElem_cons hi]; simp [List.getD_eq_getElem?_getD, hi]
 rw [this]
 show List.take k ((xs.getD i .nilptr).cl ++ _) = _
 have hk : (xs.getD i .nilptr).cl.length = k := h _ (by simp [List.getD_eq_getElem?_getD, hi])
 generalize (xs.getD i .nilptr).cl = l at hk ⊢
 subst hk
 rw [List.take_append, Nat.sub_self, List.take_zero, List.append_nil, List.take_of_length_le (Nat.le_refl _)]
theorem ReadsAt.cell {S : St} {a : Addr} {vs : List Value} (h : ReadsAt S a vs) {j : Nat} {v : Value} (hv : vs[j]? = some v) : S.w.cell? (a.add j) = some v := by
 obtain ⟨h1, _, h3, _⟩ := h j v hv
 rw [add_spot h1]; exact h3
theorem ReadsAt.one {S : St} {a : Addr} {vs : List Value} (h : ReadsAt S a vs) : ∀ u ∈ vs, u.oneCell' = true := by
 intro u hu
 obtain ⟨j, hj⟩ := List.mem_iff_getElem?.1 hu
 exact (h j u hj).2.2.2
theorem ReadsAt.drop {S : St} {a : Addr} {vs : List Value} (h : ReadsAt S a vs) (n : Nat) : ReadsAt S (a.add n) (vs.drop n) := by
 intro j v hv
 rw [List.getElem?_drop] at hv
 obtain ⟨h1, h2, h3, h4⟩ := h _ _ hv
 rw [add_spot h1]
 exact ⟨rfl, by simpa [Nat.add_assoc] using h2, by simpa [Nat.add_assoc] using h3, h4⟩
theorem ReadsAt.take {S : St} {a : Addr} {vs : List Value} (h : ReadsAt S a vs) (n : Nat) : ReadsAt S a (vs.take n) := by
 intro j v hv
 rw [List.getElem?_take] at hv
 split at hv
 · exact h j v hv
 · cases hv
def ElemsAt (S : St) (k : Nat) (xs : List CV) (v : Value) : Prop :=
 ∃ base cap vs, v = .slice base xs.length cap ∧ (∀ e ∈ xs, e.cl.length = k) ∧ All2 (Vc S) (elemCells xs) vs ∧ (∀ u ∈ vs, u.oneCell' = true) ∧
   (∀ a, base = some a → ∀ j u, vs[j]? = some u → S.w.cell? (a.add j) = some u) ∧ (base = none → xs = [])
theorem Vc.lone {S : St} {x : CV} {v : Value} (h : Vc S x v) (h1 : v.oneCell' = true) : x.cl = [x] := by
 cases h <;> first | rfl | (simp [Value.oneCell'] at h1; done)
theorem lone_all {S : St} : ∀ {cs : List CV} {vs : List Value}, All2 (Vc S) cs vs → (∀ u ∈ vs, u.oneCell' = true) → ∀ x ∈ cs, x.cl = [x]
 | _, _, .nil, _ => by simp
 | _, _, .cons h1 h2, h => by
   intro x hx
   rcases List.mem_cons.1 hx with rfl | hx
   · exact h1.lone (h _ (by simp))
   · exact lone_all h2 (fun u hu => h u (by simp [hu])) x hx
theorem lone_flat : ∀ {cs : List CV}, (∀ x ∈ cs, x.cl = [x]) → elemCells cs = cs
 | [], _ => rfl
 | c :: cs, h => by
   have h1 := h c (by simp)
   have ih := lone_flat (cs := cs) fun x hx => h x (by simp [hx])
   unfold elemCells at *
   rw [List.flatMap_cons, ih, h1]; rfl
theorem elemsOf_ok {S : St} (ok : Ok S) {p : PV} {v : Value} {k : Nat} {xs : List CV} (h : Vr S p v) (he : elemsOf p S.H = some (k, xs)) : ElemsAt S k xs v := by
 have full : ∀ {r g off len : Nat} {xs : List CV} {k : Nat} {s : Bool}, S.H[r]? = some (.row xs k g s) → off + len ≤ xs.length → RowV S r off len k v → ElemsAt S k ((xs.drop off).take len) v := by
   intro r g off len xs k s hr hle hv
   obtain ⟨h0, hk, hb⟩ := ok.ob r _ hr
   have hl : ((xs.drop off).take len).length = len := by simp; omega
   have hk' : ∀ e ∈ (xs.drop off).take len, e.cl.length = k := fun e he => hk e (List.mem_of_mem_drop (List.mem_of_mem_take he))
   have hfl : elemCells ((xs.drop off).take len) = ((elemCells xs).drop (off * k)).take (len * k) := by
     rw [flat_take len (fun e he => hk e (List.mem_of_mem_drop he)), flat_drop off hk]
   rcases hv with ⟨b, a, h1, h2, h3⟩ | ⟨h1, h2, h3, h4⟩
   · rcases hb with ⟨a1, _, _⟩ | ⟨b', cs, T, fr, vs, a1, a2, a3, a4, a5, a6, a7, a8⟩
     · rw [a1] at h1; cases h1
     · rw [a1] at h1; cases h1
       refine ⟨some a, S.cp r - off, ((vs.drop (off * k)).take (len * k)), by rw [hl]; exact h2, hk', by rw [hfl]; exact (a6.drop _).take _, ?_, ?_, by simp⟩
       · intro u hu; exact a8 u (List.mem_of_mem_drop (List.mem_of_mem_take hu))
       · intro a' ha' j u hu
         cases ha'
         rw [List.getElem?_take] at hu
         split at hu
         · rename_i hj
           rw [List.getElem?_drop] at hu
           have hlen : 0 < len := by
             rcases Nat.eq_zero_or_pos len with h | h
             · subst h; simp at hj
             · exact h
           have ha := h3 (by omega)
           subst ha
           rw [add_at]
           have := a7 _ _ hu
           simp only [World.cell?, a2]
           simpa using this
         · cases hu
   · rcases hb with ⟨a1, a2, a3⟩ | ⟨b', cs, T, fr, vs, a1, _⟩
     · subst h2; subst h3; subst a2
       exact ⟨none, 0, [], by simpa using h4, by simp, by simp [elemCells]; exact .nil, by simp, by simp, by simp⟩
     · rw [a1] at h1; cases h1
 unfold elemsOf at he
 split at he
 · simp at he; obtain ⟨rfl, rfl⟩ := he
   cases h with
   | c h => cases h with
     | nilsl => exact ⟨none, 0, [], rfl, by simp, .nil, by simp, by simp, by simp⟩
 · rename_i own full k' xs'
   simp at he; obtain ⟨rfl, rfl⟩ := he
   cases h with
   | c h => cases h with
     | sl full k xs a c vs h1 h2 h3 h4 h5 =>
       exact ⟨some a, c, vs, rfl, h1, h2, h3.one, fun a' ha' j u hu => by cases ha'; exact h3.cell hu, by simp⟩
     | slnil k => exact ⟨none, 0, [], rfl, by simp, .nil, by simp, by simp, by simp⟩
 · rename_i r g
   split at he
   · rename_i xs' k' s hr
     simp at he; obtain ⟨rfl, rfl⟩ := he
     have hr' := getRow_some hr
     cases h with
     | rw r g v h1 hg h =>
       have := full (off := 0) (len := xs'.length) hr' (by omega) (h _ _ _ hr')
       simpa using this
   · cases he
 · rename_i r g off len
   split at he
   · rename_i xs' k' s hr
     simp at he; obtain ⟨rfl, rfl⟩ := he
     have hr' := getRow_some hr
     cases h with
     | row r g off len v h1 hg h =>
       obtain ⟨h2, h3⟩ := h _ _ _ hr'
       exact full hr' h2 h3
   · cases he
 · rename_i r off len
   split at he
   · rename_i cs k' hr
     split at he
     · rename_i hle
       simp at he; obtain ⟨rfl, rfl⟩ := he
       obtain ⟨b, cells, T, fr, ve, a1, a2, a3, a4, a5, a6, a7⟩ := ok.ob r _ hr
       cases h with
       | asl r off len v h1 hlt hb =>
         obtain ⟨b', a, c, hb1, rfl, hc, ha⟩ := hb _ _ hr
         rw [a1] at hb1; cases hb1
         cases a5 with
         | c a5 => cases a5 with
           | agg cs vs b1 b2 =>
             have hcells : cells = vs := a6.symm
             subst hcells
             have hl : ((cs.drop off).take len).length = len := by simp; omega
             have hone := lone_all b1 b2
             have hone' : ∀ x ∈ (cs.drop off).take len, x.cl = [x] := fun x hx => hone x (List.mem_of_mem_drop (List.mem_of_mem_take hx))
             refine ⟨some a, c, (cells.toList.drop off).take len, by rw [hl], fun e he => by rw [hone' e he]; rfl, ?_, ?_, ?_, by simp⟩
             · rw [lone_flat hone']; exact (b1.drop _).take _
             · intro u hu; exact b2 u (List.mem_of_mem_drop (List.mem_of_mem_take hu))
             · intro a' ha' j u hu
               cases ha'
               rw [List.getElem?_take] at hu
               split at hu
               · rename_i hj
                 rw [List.getElem?_drop] at hu
                 have ha := ha (by omega)
                 subst ha
                 rw [add_at]
                 simp only [World.cell?, a2]
                 simpa using hu
               · cases hu
     · cases he
   · cases he
 · cases he
theorem heap_cell {w : World} {b off : Nat} {cs : Array Value} {T : TypeId} {fr : Nat × Nat} (h : w.heap[b]? = some (.cells cs T fr)) : w.cell? ⟨b, off, none⟩ = cs[off]? := by
 simp [World.cell?, h]
theorem load_pure {P : Program} {t : TypeId} {a : PV} {S : St} {K : KV} {res : CV × List CV} {v : Value} (ok : Ok S) (ha : Vr S a v) (h : load' P t a S.H K = some res) :
   ∃ u p, (Instr.loadAt t v).run P S.w = .ok u S.w ∧ Vr S p u ∧ K p S.H = some res := by
 unfold load' at h
 split at h
 · rename_i r off
   split at h
   · rename_i e k hr
     obtain ⟨b, cs, T, fr, ve, h1, h2, h3, h4, h5, h6, h7⟩ := ok.ob r _ hr
     obtain ⟨ps, hp, hpl⟩ := PV.cells_of_n h4
     obtain ⟨c1, c2⟩ := h5.cells hp
     subst h6
     obtain ⟨p, u, hk, hv, hpart⟩ := readPV_ok hp hpl c1 c2 (fun x hx => by subst hx; cases h5 with | c hx => exact hx.cells.1) h
     cases ha with
     | bptr r t v h1' hlt hb =>
       obtain ⟨b', hb1, rfl⟩ := hb e k hr
       rw [h1] at hb1; cases hb1
       refine ⟨_, _, ?_, hv, hk⟩
       simp only [Instr.loadAt, Instr.sureAddr, Sem.run_bind, Sem.run_pure, Result.andThen_ok]
       refine run_loadVar hpart.at fun j x hx => ?_
       rw [add_at, heap_cell h2]
       simpa using hx
   · cases h
 · rename_i r g i off
   split at h
   · rename_i xs k s hr
     obtain ⟨hi, h⟩ := bif_true h
     have hi : i < xs.length := by simpa using hi
     have hr' := getRow_some hr
     obtain ⟨h0, hk, hb⟩ := ok.ob r _ hr'
     cases ha with
     | rptr r g i t v h1' hg hb' =>
       obtain ⟨b, hb1, rfl⟩ := hb' _ _ _ hr'
       rcases hb with ⟨a1, _, _⟩ | ⟨b', cs, T, fr, vs, a1, a2, a3, a4, a5, a6, a7, a8⟩
       · rw [a1] at hb1; cases hb1
       · rw [a1] at hb1; cases hb1
         have hel : All2 (Vc S) (xs.getD i .nilptr).cl ((vs.drop (i * k)).take k) := by
           rw [← flat_get hk hi]; exact (a6.drop _).take _
         have hl : (xs.getD i .nilptr).cl.length = k := hk _ (by simp [List.getD_eq_getElem?_getD, hi])
         obtain ⟨ps, hp, hpl⟩ := PV.cells_of_n (p := .c (xs.getD i .nilptr)) (k := k) (congrArg some hl)
         have hps : ps = (xs.getD i .nilptr).cl.map .c := by
           generalize xs.getD i .nilptr = x at hp
           cases x <;> simp only [PV.cells] at hp <;> exact (Option.some.inj hp).symm
         have h1 : ∀ u ∈ ((vs.drop (i * k)).take k), u.oneCell' = true := fun u hu => a8 u (List.mem_of_mem_drop (List.mem_of_mem_take hu))
         obtain ⟨p, u, hk', hv, hpart⟩ := readPV_ok hp hpl (by rw [hps]; exact Vr.ofcl hel) h1 (fun x hx => by cases hx; exact hel) h
         refine ⟨_, _, ?_, hv, hk'⟩
         simp only [Instr.loadAt, Instr.sureAddr, Sem.run_bind, Sem.run_pure, Result.andThen_ok]
         refine run_loadVar hpart.at fun j x hx => ?_
         rw [add_at, heap_cell a2]
         rw [List.getElem?_drop, List.getElem?_take] at hx
         split at hx
         · rw [List.getElem?_drop] at hx
           have := a7 _ _ hx
           simpa [Nat.add_assoc] using this
         · cases hx
   · cases h
 · rename_i cs
   cases ha with
   | ro cs a vs h1 h2 =>
     obtain ⟨p, u, hk, hv, hpart⟩ := readCV_ok h1 h2.one h
     refine ⟨_, _, ?_, hv, hk⟩
     simp only [Instr.loadAt, Instr.sureAddr, Sem.run_bind, Sem.run_pure, Result.andThen_ok]
     exact run_loadVar hpart fun j x hx => h2.cell hx
 · cases h
theorem load_ok {P : Program} {t : TypeId} {a : PV} {S : St} {K : KV} {res : CV × List CV} {v : Value} (ok : Ok S) (ha : Vr S a v) (h : load' P t a S.H K = some res) :
   Does P (Instr.loadAt t v) S K res := by
 obtain ⟨u, p, h1, h2, h3⟩ := load_pure ok ha h
 exact .same ok h1 h2 h3
theorem tyField_some {P : Program} {t : TypeId} {f off : Nat} {ft : TypeId} (h : tyField P t f = some (off, ft)) : ∃ fs x, P.underlying t = some (.struct fs) ∧ fs[f]? = some x ∧ x.offset = off ∧ x.type = ft := by
 unfold tyField at h
 split at h
 · rename_i fs hu
   split at h
   · rename_i x hx
     simp at h
     exact ⟨fs, x, hu, hx, h.1, h.2⟩
   · cases h
 · cases h
theorem fieldAddr_ok {P : Program} {t : TypeId} {f : Nat} {a : PV} {S : St} {K : KV} {res : CV × List CV} {v : Value} (ok : Ok S) (ha : Vr S a v) (h : fieldAddr' P t a f S.H K = some res) :
   Does P (Instr.fieldAt t v f) S K res := by
 unfold fieldAddr' at h
 split at h
 · rename_i off ft hf
   obtain ⟨fs, x, hu, hx, hoff, hft⟩ := tyField_some hf
   cases hs : tySize P ft with
   | none => simp [hs] at h
   | some hn =>
     rcases Nat.eq_zero_or_pos hn with hz | hpos
     · subst hz; simp [hs] at h
     obtain ⟨hn', rfl⟩ : ∃ m, hn = m + 1 := ⟨hn - 1, by omega⟩
     simp only [hs] at h
     have hplace : ∀ (a : Addr), (fieldPlace a x).run P S.w = .ok (a.add off) S.w := by
       intro a
       subst hft; subst hoff
       simp only [fieldPlace, Sem.run_bind, run_size hs, Result.andThen_ok]
       rw [if_neg (by omega)]; rfl
     split at h
     · rename_i r o
       split at h <;> first | (cases h; done) | skip
       rename_i e k hr
       cases ha with
       | bptr r t v h1 hlt hb =>
         obtain ⟨b, hb1, rfl⟩ := hb e k hr
         refine .same ok (v := .pointer (some ⟨b, o + off, none⟩)) (p := .bptr r (o + off)) ?_ ?_ h
         · simp only [Instr.fieldAt, Sem.run_bind, run_underlying hu, Result.andThen_ok, hx]
           simp [Instr.sureAddr, hplace, add_at]
         · exact .bptr _ _ _ rfl hlt fun _ _ _ => ⟨b, hb1, rfl⟩
     · rename_i r g i o
       split at h <;> first | (cases h; done) | skip
       rename_i q hr0
       obtain ⟨xs, k, s⟩ := q
       have hr := getRow_some hr0
       cases ha with
       | rptr r g i t v h1 hg hb =>
         obtain ⟨b, hb1, rfl⟩ := hb _ _ _ hr
         refine .same ok (v := .pointer (some ⟨b, i * k + o + off, none⟩)) (p := .rptr r g i (o + off)) ?_ ?_ h
         · simp only [Instr.fieldAt, Sem.run_bind, run_underlying hu, Result.andThen_ok, hx]
           simp [Instr.sureAddr, hplace, add_at]
         · refine .rptr _ _ _ _ _ rfl hg fun xs' k' s' hr' => ⟨b, hb1, ?_⟩
           rw [hr] at hr'; cases hr'; rw [Nat.add_assoc]
     · rename_i cs
       cases ha with
       | ro cs a vs h1 h2 =>
         refine .same ok (v := .pointer (some (a.add off))) (p := .ro (cs.drop off)) ?_ (.ro _ _ (vs.drop off) (h1.drop _) (h2.drop _)) h
         simp only [Instr.fieldAt, Sem.run_bind, run_underlying hu, Result.andThen_ok, hx]
         simp [Instr.sureAddr, hplace]
     · cases h
 · cases h
end Go.Pv
namespace Go.Pv
open Go
section
variable {P : Program} {t : TypeId} {S : St} {K : KV} {res : CV × List CV}
theorem int_of {S : St} {k : IntKind} {n : Int} {v : Value} (h : Vr S (.c (.int k n)) v) : v = .int k n := by
 cases h with | c h => cases h; rfl
theorem str_of {S : St} {s : ByteArray} {v : Value} (h : Vr S (.c (.str s)) v) : v = .string s := by
 cases h with | c h => cases h; rfl
theorem bool_of {S : St} {b : Bool} {v : Value} (h : Vr S (.c (.bool b)) v) : v = .bool b := by
 cases h with | c h => cases h; rfl
theorem Vi (S : St) (k : IntKind) (n : Int) : Vr S (.c (.int k n)) (.int k n) := .c (.int k n)
theorem Vb (S : St) (b : Bool) : Vr S (.c (.bool b)) (.bool b) := .c (.bool b)
theorem Vs (S : St) (s : ByteArray) : Vr S (.c (.str s)) (.string s) := .c (.str s)
theorem indexAddr_ok {x ix : PV} {v vi : Value} (ok : Ok S) (hx : Vr S x v) (hi : Vr S ix vi) (h : indexAddr' P t x ix S.H K = some res) : Does P (Instr.indexAt t v vi) S K res := by
 unfold indexAddr' at h
 split at h <;> first | (cases h; done) | skip
 rename_i ik i
 obtain rfl := int_of hi
 split at h <;> first | (cases h; done) | skip
 · rename_i e hu
   split at h <;> first | (cases h; done) | skip
   · rename_i n r g hs
     split at h <;> first | (cases h; done) | skip
     rename_i xs k s hr0
     have hr := getRow_some hr0
     split at h <;> first | (cases h; done) | skip
     rename_i hnk; subst hnk
     obtain ⟨hi0, h⟩ := bif_true h
     obtain ⟨hi1, h⟩ := bif_true h
     have hi0 : 0 ≤ i := by simpa using hi0
     have hi1 : i < xs.length := by simpa using hi1
     obtain ⟨h0, hk, hb⟩ := ok.ob r _ hr
     cases hx with
     | rw r g v h1 hg hv =>
       rcases hv _ _ _ hr with ⟨b, a, hb1, rfl, ha⟩ | ⟨_, _, h3, _⟩
       · rcases hb with ⟨a1, _, _⟩ | ⟨b', cs, T, fr, vs, a1, a2, a3, a4, a5, _⟩
         · rw [a1] at hb1; cases hb1
         · have ha := ha (by omega)
           subst ha
           refine .same ok (v := .pointer (some ⟨b, i.toNat * n, none⟩)) (p := .rptr r g i.toNat 0) ?_ (.rptr _ _ _ _ _ rfl hg fun xs' k' s' hr' => ⟨b, hb1, ?_⟩) h
           · simp only [Instr.indexAt, asIntOf, Sem.run_bind, Sem.run_pure, Result.andThen_ok, run_underlying hu]
             rw [if_pos ⟨hi0, by exact_mod_cast hi1⟩]
             simp [run_size hs, add_at]
           · rw [hr] at hr'; cases hr'; rfl
       · omega
   · rename_i n r g off len hs
     split at h <;> first | (cases h; done) | skip
     rename_i xs k s hr0
     have hr := getRow_some hr0
     split at h <;> first | (cases h; done) | skip
     rename_i hnk; subst hnk
     obtain ⟨hi0, h⟩ := bif_true h
     obtain ⟨hi1, h⟩ := bif_true h
     have hi0 : 0 ≤ i := by simpa using hi0
     have hi1 : i < len := by simpa using hi1
     obtain ⟨h0, hk, hb⟩ := ok.ob r _ hr
     cases hx with
     | row r g off len v h1 hg hv =>
       obtain ⟨hle, hv⟩ := hv _ _ _ hr
       rcases hv with ⟨b, a, hb1, rfl, ha⟩ | ⟨_, _, h3, _⟩
       · rcases hb with ⟨a1, _, _⟩ | ⟨b', cs, T, fr, vs, a1, a2, a3, a4, a5, _⟩
         · rw [a1] at hb1; cases hb1
         · have ha := ha (by omega)
           subst ha
           refine .same ok (v := .pointer (some ⟨b, off * n + i.toNat * n, none⟩)) (p := .rptr r g (off + i.toNat) 0) ?_ (.rptr _ _ _ _ _ rfl hg fun xs' k' s' hr' => ⟨b, hb1, ?_⟩) h
           · simp only [Instr.indexAt, asIntOf, Sem.run_bind, Sem.run_pure, Result.andThen_ok, run_underlying hu]
             rw [if_pos ⟨hi0, by exact_mod_cast hi1⟩]
             simp [run_size hs, add_at]
           · rw [hr] at hr'; cases hr'; simp [Nat.add_mul]
       · omega
   · rename_i n own full k xs hs
     split at h <;> first | (cases h; done) | skip
     rename_i hnk; subst hnk
     obtain ⟨hi0, h⟩ := bif_true h
     obtain ⟨hi1, h⟩ := bif_true h
     have hi0 : 0 ≤ i := by simpa using hi0
     have hi1 : i < xs.length := by simpa using hi1
     cases hx with
     | c hx => cases hx with
       | sl full k xs a c vs h1 h2 h3 h4 h5 =>
         have hlt : i.toNat < xs.length := by omega
         refine .same ok (v := .pointer (some (a.add (i.toNat * n)))) (p := .ro _) ?_ (.ro _ _ ((vs.drop (i.toNat * n)).take n) ?_ ((h3.drop _).take _)) h
         · simp only [Instr.indexAt, asIntOf, Sem.run_bind, Sem.run_pure, Result.andThen_ok, run_underlying hu]
           rw [if_pos ⟨hi0, by exact_mod_cast hi1⟩]
           simp [run_size hs]
         · rw [← flat_get h1 hlt]; exact (h2.drop _).take _
       | slnil k => simp at hi1; omega
   · rename_i n r off len hs
     split at h <;> first | (cases h; done) | skip
     rename_i e' k' hr
     split at h <;> first | (cases h; done) | skip
     rename_i hn; subst hn
     obtain ⟨hi0, h⟩ := bif_true h
     obtain ⟨hi1, h⟩ := bif_true h
     have hi0 : 0 ≤ i := by simpa using hi0
     have hi1 : i < len := by simpa using hi1
     cases hx with
     | asl r off len v h1 hlt hb =>
       obtain ⟨b, a, c, hb1, rfl, hc, ha⟩ := hb _ _ hr
       have ha := ha (by omega)
       subst ha
       refine .same ok (v := .pointer (some ⟨b, off + i.toNat, none⟩)) (p := .bptr r (off + i.toNat)) ?_ (.bptr _ _ _ rfl hlt fun _ _ _ => ⟨b, hb1, rfl⟩) h
       simp only [Instr.indexAt, asIntOf, Sem.run_bind, Sem.run_pure, Result.andThen_ok, run_underlying hu]
       rw [if_pos ⟨hi0, by exact_mod_cast hi1⟩]
       simp [run_size hs, add_at]
 · rename_i n e hu
   have goal : ∀ (a : Addr) (p : PV) (m : Nat), v = .pointer (some a) → tySize P e = some m → 0 ≤ i → i < n → Vr S p (.pointer (some (a.add (i.toNat * m)))) → K p S.H = some res → Does P (Instr.indexAt t v (.int ik i)) S K res := by
     intro a p m hv hs hi0 hi1 hp hk
     subst hv
     refine .same ok (v := .pointer (some (a.add (i.toNat * m)))) ?_ hp hk
     simp only [Instr.indexAt, asIntOf, Sem.run_bind, Sem.run_pure, Result.andThen_ok, run_underlying hu, Instr.sureAddr]
     rw [if_pos ⟨hi0, hi1⟩]
     simp [run_size hs]
   split at h <;> first | (cases h; done) | skip
   · rename_i m r o hs
     split at h <;> first | (cases h; done) | skip
     rename_i e' k' hr
     obtain ⟨hi0, h⟩ := bif_true h
     obtain ⟨hi1, h⟩ := bif_true h
     cases hx with
     | bptr r o v h1 hlt hb =>
       obtain ⟨b, hb1, rfl⟩ := hb _ _ hr
       refine goal _ _ m rfl hs (by simpa using hi0) (by simpa using hi1) ?_ h
       rw [add_at]; exact .bptr _ _ _ rfl hlt fun _ _ _ => ⟨b, hb1, rfl⟩
   · rename_i m r g j o hs
     split at h <;> first | (cases h; done) | skip
     rename_i q hr0
     obtain ⟨xs, k, s⟩ := q
     have hr := getRow_some hr0
     obtain ⟨hi0, h⟩ := bif_true h
     obtain ⟨hi1, h⟩ := bif_true h
     cases hx with
     | rptr r g i o v h1 hg hb =>
       obtain ⟨b, hb1, rfl⟩ := hb _ _ _ hr
       refine goal _ _ m rfl hs (by simpa using hi0) (by simpa using hi1) ?_ h
       rw [add_at]; exact .rptr _ _ _ _ _ rfl hg fun xs' k' s' hr' => ⟨b, hb1, by rw [hr] at hr'; cases hr'; rw [Nat.add_assoc]⟩
   · rename_i m cs hs
     obtain ⟨hi0, h⟩ := bif_true h
     obtain ⟨hi1, h⟩ := bif_true h
     cases hx with
     | ro cs a vs h1 h2 => exact goal _ _ m rfl hs (by simpa using hi0) (by simpa using hi1) (.ro _ _ _ (h1.drop _) (h2.drop _)) h
theorem byte_get {s : ByteArray} {i : Nat} (h : i < s.size) : s[i]? = some (s.data.toList.getD i 0) := by
 have h' : i < s.data.size := h
 simp [h, List.getD_eq_getElem?_getD]
 rfl
theorem index_ok {x ix : PV} {v vi : Value} (ok : Ok S) (hx : Vr S x v) (hi : Vr S ix vi) (h : index' P t x ix S.H K = some res) : Does P (Instr.index t v vi) S K res := by
 unfold index' at h
 split at h <;> first | (cases h; done) | skip
 rename_i ik i
 obtain rfl := int_of hi
 split at h <;> first | (cases h; done) | skip
 · rename_i s hu
   obtain rfl := str_of hx
   obtain ⟨hi0, h⟩ := bif_true h
   obtain ⟨hi1, h⟩ := bif_true h
   have hi0 : 0 ≤ i := by simpa using hi0
   have hi1 : i < s.size := by simpa using hi1
   refine .same ok (v := .int .u8 (byteAt s i.toNat)) ?_ (Vi ..) h
   have hlt : i.toNat < s.size := by omega
   simp only [Instr.index, asIntOf, Sem.run_bind, Sem.run_pure, Result.andThen_ok, run_underlying hu, if_pos hi0, byte_get hlt]
   rfl
 · rename_i n e cs hu
   split at h <;> first | (cases h; done) | skip
   rename_i m hs
   obtain ⟨hi0, h⟩ := bif_true h
   obtain ⟨hi1, h⟩ := bif_true h
   have hi0 : 0 ≤ i := by simpa using hi0
   have hi1 : i < n := by simpa using hi1
   cases hx with
   | c hx => cases hx with
     | agg cs vs h1 h2 =>
       obtain ⟨p, u, hk, hv, hpart⟩ := readCV_ok h1 h2 h
       refine .same ok ?_ hv hk
       simp only [Instr.index, asIntOf, Sem.run_bind, Sem.run_pure, Result.andThen_ok, run_underlying hu]
       rw [if_pos ⟨hi0, hi1⟩]
       simp only [Sem.run_bind, run_size hs, Result.andThen_ok]
       exact run_part hpart
theorem field_ok {x : PV} {f : Nat} {v : Value} (ok : Ok S) (hx : Vr S x v) (h : field' P t x f S.H K = some res) : Does P (Instr.field t v f) S K res := by
 unfold field' at h
 split at h <;> first | (cases h; done) | skip
 rename_i off ft hf
 obtain ⟨fs, y, hu, hy, hoff, hft⟩ := tyField_some hf
 subst hoff; subst hft
 have goal : ∀ (cs : Array Value) (u : Value) (p : PV), v = .agg cs → Part P y.type cs.toList y.offset u → Vr S p u → K p S.H = some res → Does P (Instr.field t v f) S K res := by
   intro cs u p hv hp hu' hk
   subst hv
   refine .same ok ?_ hu' hk
   simp only [Instr.field, Sem.run_bind, run_underlying hu, Result.andThen_ok, hy, asAgg, Sem.run_pure]
   exact run_part hp
 split at h <;> first | (cases h; done) | skip
 · cases hx with
   | c hx => cases hx with
     | agg cs vs h1 h2 =>
       obtain ⟨p, u, hk, hv, hpart⟩ := readCV_ok h1 h2 h
       exact goal _ _ _ rfl hpart hv hk
 · rename_i ps
   cases hx with
   | agg ps vs h1 h2 =>
     obtain ⟨p, u, hk, hv, hpart⟩ := readPV_ok (e := .agg ps) rfl rfl h1 h2 (fun x hx => by cases hx) h
     exact goal _ _ _ rfl hpart hv hk
def OptR (S : St) : Option PV → Option Value → Prop
 | none, none => True
 | some p, some v => Vr S p v
 | _, _ => False
theorem bound_some {p : PV} {d i : Int} (h : bound (some p) d = some i) : ∃ k, p = .c (.int k i) := by
 unfold bound at h
 split at h
 · rename_i heq; cases heq
 · rename_i k i' heq
   cases heq; cases h; exact ⟨_, rfl⟩
 · cases h
theorem bound_cases {S : St} {lo : Option PV} {vlo : Option Value} {d i : Int} (hr : OptR S lo vlo) (h : bound lo d = some i) : (vlo = none ∧ i = d) ∨ ∃ k, vlo = some (.int k i) := by
 cases lo with
 | none =>
   cases vlo with
   | none => simp [bound] at h; exact .inl ⟨rfl, h.symm⟩
   | some v => exact hr.elim
 | some p =>
   cases vlo with
   | none => exact hr.elim
   | some v =>
     obtain ⟨k, rfl⟩ := bound_some h
     exact .inr ⟨k, by rw [int_of hr]⟩
theorem run_bound {P : Program} {w : World} {k : IntKind} {i : Int} {y : Nat} {code : BoundsCode} (h0 : 0 ≤ i) (h1 : i ≤ y) : (Instr.sliceBound (.int k i) y code).run P w = .ok i.toNat w := by
 simp only [Instr.sliceBound, asIntOf, Sem.run_bind, Sem.run_pure, Result.andThen_ok]
 rw [if_pos ⟨h0, h1⟩]; rfl
theorem run_bounds {P : Program} {w : World} {S : St} {lo hi : Option PV} {vlo vhi : Option Value} {l h : Int} {isS : Bool} {len cap : Nat} (hl : OptR S lo vlo) (hh : OptR S hi vhi) (bl : bound lo 0 = some l) (bh : bound hi len = some h) (h0 : 0 ≤ l) (h1 : l ≤ h) (h2 : h ≤ cap) :
   (Instr.sliceBounds isS len cap vlo vhi none).run P w = .ok (l.toNat, h.toNat, cap) w := by
 have e1 : l ≤ h.toNat := by omega
 rcases bound_cases hl bl with ⟨rfl, rfl⟩ | ⟨k, rfl⟩ <;> rcases bound_cases hh bh with ⟨rfl, rfl⟩ | ⟨k', rfl⟩
 · simp [Instr.sliceBounds]
 · simp [Instr.sliceBounds, run_bound (P := P) (w := w) (k := k') (i := h) (y := cap) (by omega) h2]
 · have := fun code => run_bound (P := P) (w := w) (k := k) (i := l) (y := len) (code := code) h0 (by omega)
   simp [Instr.sliceBounds, this]
 · have := fun code => run_bound (P := P) (w := w) (k := k) (i := l) (y := h.toNat) (code := code) h0 e1
   simp [Instr.sliceBounds, run_bound (P := P) (w := w) (k := k') (i := h) (y := cap) (by omega) h2, this]
theorem slice_ok {x : PV} {lo hi mx : Option PV} {v : Value} {vlo vhi vmx : Option Value} (ok : Ok S) (hx : Vr S x v) (hl : OptR S lo vlo) (hh : OptR S hi vhi) (hm : OptR S mx vmx) (h : slice' P t x lo hi mx S.H K = some res) :
   Does P (Instr.sliceAt t v vlo vhi vmx) S K res := by
 have none_of : OptR S (none : Option PV) vmx → vmx = none := by
   intro h; cases vmx with
   | none => rfl
   | some v => exact h.elim
 unfold slice' at h
 split at h <;> first | (cases h; done) | skip
 · rename_i s hu
   obtain rfl := none_of hm
   obtain rfl := str_of hx
   split at h <;> first | (cases h; done) | skip
   rename_i l hh' bl bh
   obtain ⟨q0, h⟩ := bif_true h
   obtain ⟨q1, h⟩ := bif_true h
   obtain ⟨q2, h⟩ := bif_true h
   refine .same ok (v := .string (s.extract l.toNat hh'.toNat)) ?_ (Vs ..) h
   simp only [Instr.sliceAt, Sem.run_bind, run_underlying hu, Result.andThen_ok, Instr.slice, Option.isSome_none, Bool.false_eq_true, if_false, Sem.run_pure]
   rw [run_bounds (S := S) hl hh bl bh (by simpa using q0) (by simpa using q1) (by simpa using q2)]
   simp
 · rename_i e r g hu
   obtain rfl := none_of hm
   split at h <;> first | (cases h; done) | skip
   rename_i xs k s n hr0 hs
   have hr := getRow_some hr0
   split at h <;> first | (cases h; done) | skip
   rename_i hnk; subst hnk
   split at h <;> first | (cases h; done) | skip
   rename_i l hh' bl bh
   obtain ⟨q0, h⟩ := bif_true h
   obtain ⟨q1, h⟩ := bif_true h
   obtain ⟨q2, h⟩ := bif_true h
   have q0 : 0 ≤ l := by simpa using q0
   have q1 : l ≤ hh' := by simpa using q1
   have q2 : hh' ≤ xs.length := by simpa using q2
   obtain ⟨h0, hk, hb⟩ := ok.ob r _ hr
   cases hx with
   | rw r g v h1 hg hv =>
     rcases hv _ _ _ hr with ⟨b, a, hb1, rfl, ha⟩ | ⟨h3, _, h4, rfl⟩
     · have hcap : xs.length ≤ S.cp r := by
         rcases hb with ⟨a1, _, _⟩ | ⟨b', cs, T, fr, vs, a1, a2, a3, a4, a5, _⟩
         · rw [a1] at hb1; cases hb1
         · exact a5
       refine .same ok (v := .slice (if S.cp r - 0 = l.toNat then some a else some (a.add (l.toNat * n))) (hh'.toNat - l.toNat) (S.cp r - 0 - l.toNat)) ?_ ?_ h
       · simp only [Instr.sliceAt, Sem.run_bind, run_underlying hu, Result.andThen_ok, Instr.slice]
         rw [run_bounds (S := S) hl hh bl bh q0 q1 (by omega)]
         simp only [Result.andThen_ok, run_size hs, Sem.run_pure, Option.map_some]
       · refine .row _ _ _ _ _ rfl hg fun xs' k' s' hr' => ?_
         rw [hr] at hr'; cases hr'
         refine ⟨by omega, .inl ⟨b, if S.cp r - 0 = l.toNat then a else a.add (l.toNat * n), hb1, ?_, fun hlt => ?_⟩⟩
         · congr 1
           split <;> rfl
         · rw [if_neg (by omega), ha (by omega), add_at]; simp
     · refine .same ok (v := .slice none 0 0) ?_ ?_ h
       · simp only [Instr.sliceAt, Sem.run_bind, run_underlying hu, Result.andThen_ok, Instr.slice]
         have e1 : l = 0 := by omega
         have e2 : hh' = 0 := by omega
         try rw [h4] at bh
         rw [run_bounds (S := S) hl hh bl bh q0 q1 (by omega)]
         simp [run_size hs]
         omega
       · refine .row _ _ _ _ _ rfl hg fun xs' k' s' hr' => ?_
         rw [hr] at hr'; cases hr'
         exact ⟨by omega, .inr ⟨h3, by omega, by omega, rfl⟩⟩
 · rename_i e r g off len hu
   obtain rfl := none_of hm
   split at h <;> first | (cases h; done) | skip
   rename_i xs k s n hr0 hs
   have hr := getRow_some hr0
   split at h <;> first | (cases h; done) | skip
   rename_i hnk; subst hnk
   split at h <;> first | (cases h; done) | skip
   rename_i l hh' bl bh
   obtain ⟨q0, h⟩ := bif_true h
   obtain ⟨q1, h⟩ := bif_true h
   obtain ⟨q2, h⟩ := bif_true h
   have q0 : 0 ≤ l := by simpa using q0
   have q1 : l ≤ hh' := by simpa using q1
   have q2 : hh' ≤ len := by simpa using q2
   obtain ⟨h0, hk, hb⟩ := ok.ob r _ hr
   cases hx with
   | row r g off len v h1 hg hv =>
     obtain ⟨hle, hv⟩ := hv _ _ _ hr
     rcases hv with ⟨b, a, hb1, rfl, ha⟩ | ⟨h3, h5, h4, rfl⟩
     · have hcap : xs.length ≤ S.cp r := by
         rcases hb with ⟨a1, _, _⟩ | ⟨b', cs, T, fr, vs, a1, a2, a3, a4, a5, _⟩
         · rw [a1] at hb1; cases hb1
         · exact a5
       refine .same ok (v := .slice (if S.cp r - off = l.toNat then some a else some (a.add (l.toNat * n))) (hh'.toNat - l.toNat) (S.cp r - off - l.toNat)) ?_ ?_ h
       · simp only [Instr.sliceAt, Sem.run_bind, run_underlying hu, Result.andThen_ok, Instr.slice]
         rw [run_bounds (S := S) hl hh bl bh q0 q1 (by omega)]
         simp only [Result.andThen_ok, run_size hs, Sem.run_pure, Option.map_some]
       · refine .row _ _ _ _ _ rfl hg fun xs' k' s' hr' => ?_
         rw [hr] at hr'; cases hr'
         refine ⟨by omega, .inl ⟨b, if S.cp r - off = l.toNat then a else a.add (l.toNat * n), hb1, ?_, fun hlt => ?_⟩⟩
         · rw [show S.cp r - (off + l.toNat) = S.cp r - off - l.toNat by omega]
           congr 1
           split <;> rfl
         · rw [if_neg (by omega), ha (by omega), add_at, Nat.add_mul]
     · refine .same ok (v := .slice none 0 0) ?_ ?_ h
       · simp only [Instr.sliceAt, Sem.run_bind, run_underlying hu, Result.andThen_ok, Instr.slice]
         have e1 : l = 0 := by omega
         have e2 : hh' = 0 := by omega
         try rw [h4] at bh
         rw [run_bounds (S := S) hl hh bl bh q0 q1 (by omega)]
         simp [run_size hs]
         omega
       · refine .row _ _ _ _ _ rfl hg fun xs' k' s' hr' => ?_
         rw [hr] at hr'; cases hr'
         exact ⟨by omega, .inr ⟨h3, by omega, by omega, rfl⟩⟩
 · rename_i e own full k xs hu
   obtain rfl := none_of hm
   split at h <;> first | (cases h; done) | skip
   rename_i n hs
   split at h <;> first | (cases h; done) | skip
   rename_i hnk; subst hnk
   split at h <;> first | (cases h; done) | skip
   rename_i l hh' bl bh
   obtain ⟨q0, h⟩ := bif_true h
   obtain ⟨q1, h⟩ := bif_true h
   obtain ⟨q2, h⟩ := bif_true h
   have q0 : 0 ≤ l := by simpa using q0
   have q1 : l ≤ hh' := by simpa using q1
   have q2 : hh' ≤ xs.length := by simpa using q2
   cases hx with
   | c hx => cases hx with
     | sl full k xs a c vs h1 h2 h3 h4 h5 =>
       have hl' : ((xs.drop l.toNat).take (hh'.toNat - l.toNat)).length = hh'.toNat - l.toNat := by simp; omega
       refine .same ok (v := .slice (some (if c = l.toNat then a else a.add (l.toNat * n))) ((xs.drop l.toNat).take (hh'.toNat - l.toNat)).length (c - l.toNat)) ?_ (.c (.sl _ _ _ _ _ (((vs.drop (l.toNat * n)).take ((hh'.toNat - l.toNat) * n))) ?_ ?_ ?_ (by omega) ?_)) h
       · simp only [Instr.sliceAt, Sem.run_bind, run_underlying hu, Result.andThen_ok, Instr.slice]
         rw [run_bounds (S := S) hl hh bl bh q0 q1 (by omega), hl']
         simp only [Result.andThen_ok, run_size hs, Sem.run_pure, Option.map_some]
         congr 2
         split <;> rfl
       · intro e he; exact h1 e (List.mem_of_mem_drop (List.mem_of_mem_take he))
       · rw [flat_take _ (fun e he => h1 e (List.mem_of_mem_drop he)), flat_drop _ h1]; exact (h2.drop _).take _
       · split
         · rename_i hc
           intro j u hu
           have : (hh'.toNat - l.toNat) = 0 := by omega
           rw [this] at hu; simp at hu
         · exact (h3.drop _).take _
       · intro hf
         simp only [Bool.and_eq_true] at hf
         obtain ⟨hf1, hf2⟩ := hf
         have := h5 hf1
         cases hi with
         | none =>
           simp [bound] at bh
           omega
         | some p => simp at hf2
     | slnil k =>
       have e1 : l = 0 := by simp at q2; omega
       have e2 : hh' = 0 := by simp at q2; omega
       subst e1; subst e2
       refine .same ok (v := .slice none 0 0) ?_ (.c ?_) h
       · simp only [Instr.sliceAt, Sem.run_bind, run_underlying hu, Result.andThen_ok, Instr.slice]
         rw [run_bounds (S := S) (len := 0) hl hh bl bh (by omega) (by omega) (by omega)]
         simp [run_size hs]
       · simp; exact .slnil _
 · rename_i n e r o hu
   obtain rfl := none_of hm
   split at h <;> first | (cases h; done) | skip
   rename_i e' k' hr hs
   split at h <;> first | (cases h; done) | skip
   rename_i l hh' bl bh
   obtain ⟨q0, h⟩ := bif_true h
   obtain ⟨q1, h⟩ := bif_true h
   obtain ⟨q2, h⟩ := bif_true h
   have q0 : 0 ≤ l := by simpa using q0
   have q1 : l ≤ hh' := by simpa using q1
   have q2 : hh' ≤ n := by simpa using q2
   cases hx with
   | bptr r o v h1 hlt hb =>
     obtain ⟨b, hb1, rfl⟩ := hb _ _ hr
     refine .same ok (v := .slice (some (if n = l.toNat then ⟨b, o, none⟩ else (⟨b, o, none⟩ : Addr).add (l.toNat * 1))) (hh'.toNat - l.toNat) (n - l.toNat)) ?_ (.asl _ _ _ _ rfl hlt fun _ _ _ => ⟨b, _, _, hb1, rfl, by omega, fun hlt' => ?_⟩) h
     · simp only [Instr.sliceAt, Sem.run_bind, run_underlying hu, Result.andThen_ok, Instr.sureAddr, Sem.run_pure]
       rw [run_bounds (S := S) hl hh bl bh q0 q1 (by omega)]
       simp only [Result.andThen_ok, run_size hs, Sem.run_pure]
     · rw [if_neg (by omega), add_at]; simp
 · rename_i e r off len hu
   obtain rfl := none_of hm
   split at h <;> first | (cases h; done) | skip
   rename_i e' k' hr hs
   split at h <;> first | (cases h; done) | skip
   rename_i l hh' bl bh
   obtain ⟨q0, h⟩ := bif_true h
   obtain ⟨q1, h⟩ := bif_true h
   obtain ⟨q2, h⟩ := bif_true h
   have q0 : 0 ≤ l := by simpa using q0
   have q1 : l ≤ hh' := by simpa using q1
   have q2 : hh' ≤ len := by simpa using q2
   cases hx with
   | asl r off len v h1 hlt hb =>
     obtain ⟨b, a, c, hb1, rfl, hc, ha⟩ := hb _ _ hr
     refine .same ok (v := .slice (some (if c = l.toNat then a else a.add (l.toNat * 1))) (hh'.toNat - l.toNat) (c - l.toNat)) ?_ (.asl _ _ _ _ rfl hlt fun _ _ _ => ⟨b, _, _, hb1, rfl, by omega, fun hlt' => ?_⟩) h
     · simp only [Instr.sliceAt, Sem.run_bind, run_underlying hu, Result.andThen_ok, Instr.slice]
       rw [run_bounds (S := S) hl hh bl bh q0 q1 (by omega)]
       simp only [Result.andThen_ok, run_size hs, Sem.run_pure, Option.map_some]
       congr 2
       split <;> rfl
     · rw [if_neg (by omega), ha (by omega), add_at]; simp
theorem len_ok {x : PV} {v : Value} (ok : Ok S) (hx : Vr S x v) (ty : TypeId) (h : len' P t x S.H K = some res) : Does P (Builtin.len_ #[t] ty #[v]) S K res := by
 unfold len' at h
 split at h <;> first | (cases h; done) | skip
 · rename_i s hu
   obtain rfl := str_of hx
   exact .same ok (by simp [Builtin.len_, run_underlying hu, goInt]) (Vi ..) h
 · rename_i n e hu
   refine .same ok (v := .int .i64 n) ?_ (Vi ..) h
   simp [Builtin.len_, run_underlying hu, goInt]
 · rename_i e hu
   split at h <;> first | (cases h; done) | skip
   rename_i k xs he
   obtain ⟨base, cap, vs, rfl, _⟩ := elemsOf_ok ok hx he
   exact .same ok (by simp [Builtin.len_, run_underlying hu, goInt]) (Vi ..) h
end
end Go.Pv
namespace Go.Pv
open Go
section
variable {P : Program} {t : TypeId} {S : St} {res : CV × List CV}
theorem intOp_ok {op : BinOp} {k : IntKind} {a b : Int} {K : CV → Res} {w : World} (h : intOp op k a b K = some res) (hop : op ≠ .shl ∧ op ≠ .shr) :
   ∃ c v, (binOp op t (.int k a) (.int k b)).run P w = .ok v w ∧ (∀ S, Vc S c v) ∧ K c = some res := by
 have quo : ∀ (r : Int) (op : BinOp), b ≠ 0 → (binOp op t (.int k a) (.int k b)).run P w = .ok (.int k r) w → K (.int k r) = some res →
     ∃ c v, (binOp op t (.int k a) (.int k b)).run P w = .ok v w ∧ (∀ S, Vc S c v) ∧ K c = some res :=
   fun r op _ h1 h2 => ⟨_, _, h1, fun S => .int _ _, h2⟩
 have bl : ∀ (r : Bool) (op : BinOp), (binOp op t (.int k a) (.int k b)).run P w = .ok (.bool r) w → K (.bool r) = some res →
     ∃ c v, (binOp op t (.int k a) (.int k b)).run P w = .ok v w ∧ (∀ S, Vc S c v) ∧ K c = some res :=
   fun r op h1 h2 => ⟨_, _, h1, fun S => .bool _, h2⟩
 have it : ∀ (r : Int) (op : BinOp), (binOp op t (.int k a) (.int k b)).run P w = .ok (.int k r) w → K (.int k r) = some res →
     ∃ c v, (binOp op t (.int k a) (.int k b)).run P w = .ok v w ∧ (∀ S, Vc S c v) ∧ K c = some res :=
   fun r op h1 h2 => ⟨_, _, h1, fun S => .int _ _, h2⟩
 unfold intOp at h
 cases op <;> simp only at h
 case add => exact it _ _ (by simp [binOp, Op.intArith]) h
 case sub => exact it _ _ (by simp [binOp, Op.intArith]) h
 case mul => exact it _ _ (by simp [binOp, Op.intArith]) h
 case quo =>
   obtain ⟨hb, h⟩ := bif_false h
   have hb : ¬ b = 0 := by simpa using hb
   exact it _ _ (by simp [binOp, Op.intDiv, hb]) h
 case rem =>
   obtain ⟨hb, h⟩ := bif_false h
   have hb : ¬ b = 0 := by simpa using hb
   exact it _ _ (by simp [binOp, Op.intDiv, hb]) h
 case and => exact it _ _ (by simp [binOp, Op.intBits]) h
 case or => exact it _ _ (by simp [binOp, Op.intBits]) h
 case xor => exact it _ _ (by simp [binOp, Op.intBits]) h
 case andNot => exact it _ _ (by simp [binOp, Op.intBits]) h
 case eql => exact bl _ _ (by simp [binOp, Op.intCmp]) h
 case neq => exact bl _ _ (by simp [binOp, Op.intCmp]) h
 case lss => exact bl _ _ (by simp [binOp, Op.intCmp]) h
 case leq => exact bl _ _ (by simp [binOp, Op.intCmp]) h
 case gtr => exact bl _ _ (by simp [binOp, Op.intCmp]) h
 case geq => exact bl _ _ (by simp [binOp, Op.intCmp]) h
 all_goals cases h
theorem shiftOp_ok {op : BinOp} {k k' : IntKind} {a b : Int} {K : CV → Res} {w : World} (h : shiftOp op k a b K = some res) :
   ∃ c v, (binOp op t (.int k a) (.int k' b)).run P w = .ok v w ∧ (∀ S, Vc S c v) ∧ K c = some res := by
 unfold shiftOp at h
 split at h
 · obtain ⟨hb, h⟩ := bif_false h
   have hb : ¬ b < 0 := by simpa using hb
   exact ⟨_, _, by simp only [binOp, Op.shift, if_neg hb]; rfl, fun S => .int _ _, h⟩
 · obtain ⟨hb, h⟩ := bif_false h
   have hb : ¬ b < 0 := by simpa using hb
   exact ⟨_, _, by simp only [binOp, Op.shift, if_neg hb]; rfl, fun S => .int _ _, h⟩
 · cases h
theorem strOp_ok {op : BinOp} {x y : ByteArray} {K : CV → Res} {w : World} (h : strOp op x y K = some res) :
   ∃ c v, (binOp op t (.string x) (.string y)).run P w = .ok v w ∧ (∀ S, Vc S c v) ∧ K c = some res := by
 unfold strOp at h
 split at h
 · obtain ⟨hb, h⟩ := bif_true h
   have hb : ((x.size + y.size : Nat) : Int) ≤ 9223372036854775807 := by have := Nat.le_of_ble_eq_true hb; omega
   refine ⟨_, .string (x ++ y), ?_, fun S => .str _, h⟩
   have e : IntKind.i64.max = 9223372036854775807 := by decide
   simp only [binOp, Op.stringOp, e]
   rw [if_neg (by omega)]; rfl
 · exact ⟨_, _, rfl, fun S => .bool _, h⟩
 · exact ⟨_, _, rfl, fun S => .bool _, h⟩
 · exact ⟨_, _, rfl, fun S => .bool _, h⟩
 · exact ⟨_, _, rfl, fun S => .bool _, h⟩
 · exact ⟨_, _, rfl, fun S => .bool _, h⟩
 · exact ⟨_, _, rfl, fun S => .bool _, h⟩
 · cases h
theorem run_elems_eq {P : Program} {w : World} {e : TypeId} {k : IntKind} {d : Nat} (hu : P.underlying e = some (.int k)) (hs : tySize P e = some 1) (ha : tyAgg P e = some false) :
   ∀ (xs ys : List Int) (A B : Array Value) (i : Nat), xs.length = ys.length → (∀ j x, xs[j]? = some x → A[i + j]? = some (Value.int k x)) → (∀ j y, ys[j]? = some y → B[i + j]? = some (Value.int k y)) →
     (forIn (List.range' i xs.length) ((none, ()) : Option Bool × Unit) (fun (i : Nat) (_ : Option Bool × Unit) => (do
       let a ← part e A (i * 1)
       let b ← part e B (i * 1)
       let q ← Op.equalIn (d + 1) e a b
       if (!q) = true then pure (ForInStep.done (some false, ())) else pure (ForInStep.yield (none, ())) : Sem (ForInStep (Option Bool × Unit))))).run P w = .ok (if xs == ys then (none, ()) else (some false, ())) w
 | [], [], A, B, i, _, _, _ => by simp
 | x :: xs, y :: ys, A, B, i, h2, h3, h4 => by
   have hx := h3 0 x (by simp)
   have hy := h4 0 y (by simp)
   simp at hx hy
   have ih := run_elems_eq (w := w) (d := d) hu hs ha xs ys A B (i + 1) (by simpa using h2) (fun j z hj => by have := h3 (j + 1) z (by simpa using hj); rw [← this]; congr 1; omega) (fun j z hj => by have := h4 (j + 1) z (by simpa using hj); rw [← this]; congr 1; omega)
   have px : (part e A (i * 1)).run P w = .ok (.int k x) w := run_part (.inr ⟨ha, hs, by simpa using hx⟩)
   have py : (part e B (i * 1)).run P w = .ok (.int k y) w := run_part (.inr ⟨ha, hs, by simpa using hy⟩)
   have pq : (Op.equalIn (d + 1) e (.int k x) (.int k y)).run P w = .ok (x == y) w := by
     simp only [Op.equalIn, Sem.run_bind, run_underlying hu, Result.andThen_ok, if_true, Sem.run_pure]
   simp only [List.length_cons, List.range'_succ, List.forIn_cons, Sem.run_bind, px, py, Result.andThen_ok, pq]
   by_cases e : x = y
   · subst e
     simp only [beq_self_eq_true, Bool.not_true, Bool.false_eq_true, if_false, Sem.run_pure, Result.andThen_ok, ih]
     simp
   · have e' : (x == y) = false := by simpa using e
     simp [e']
def VT (P : Program) (t : TypeId) (vs : List Value) (v : Value) : Prop :=
 (tyAgg P t = some true ∧ v = .agg vs.toArray) ∨ (tyAgg P t = some false ∧ vs = [v])
theorem VT.agg {P : Program} {t : TypeId} {vs : List Value} {v : Value} (h : VT P t vs v) (ha : tyAgg P t = some true) : v = .agg vs.toArray := by
 rcases h with ⟨_, h⟩ | ⟨h, _⟩
 · exact h
 · rw [ha] at h; cases h
theorem run_part2 {P : Program} {t : TypeId} {cs : List Value} {off n : Nat} {v : Value} {w : World} (hn : tySize P t = some n) (h : VT P t ((cs.drop off).take n) v) : (part t cs.toArray off).run P w = .ok v w := by
 rcases h with ⟨h1, rfl⟩ | ⟨h1, h2⟩
 · simp only [part, Sem.run_bind, run_agg h1, Result.andThen_ok, if_true, run_size hn, Sem.run_pure]
   congr 2
   apply Array.ext'
   simp
 · have h4 : cs[off]? = some v := by
     have : ((cs.drop off).take n)[0]? = some v := by rw [h2]; rfl
     rw [List.getElem?_take] at this
     split at this
     · simpa using this
     · cases this
   simp only [part, Sem.run_bind, run_agg h1, Result.andThen_ok]
   simp [h4]
theorem fieldsOf_eq {P : Program} {t : TypeId} {fs : Array Field} (h : P.underlying t = some (.struct fs)) : P.underlying t = some (.struct (P.fieldsOf t)) ∧ P.fieldsOf t = fs := by
 have : P.fieldsOf t = fs := by simp [Program.fieldsOf, h]
 exact ⟨by rw [this]; exact h, this⟩
theorem all_ints {S : St} {k : IntKind} {xs : List CV} {vs : List Value} (h : All2 (Vc S) xs vs) (hk : xs.all (isInt k) = true) : ∀ (j : Nat) (x : Int), (xs.map CV.toInt)[j]? = some x → vs[j]? = some (Value.int k x) := by
 induction h with
 | nil => intro j x h; simp at h
 | cons h1 h2 ih =>
   rename_i a b as bs
   simp only [List.all_cons, Bool.and_eq_true] at hk
   intro j x hj
   cases j with
   | zero =>
     simp at hj ⊢
     cases a <;> simp [isInt] at hk
     rename_i k' n
     obtain ⟨rfl, _⟩ := hk
     cases h1
     simp [CV.toInt] at hj; rw [hj]
   | succ j => simpa using ih hk.2 j x (by simpa using hj)
theorem cveq_ok {P : Program} {S : St} {w : World} : ∀ (d : Nat) (t : TypeId) (x y : List CV) (b : Bool) (lx ly : List Value) (vx vy : Value) (D : Nat), cveq P d t x y = some (true, b) → All2 (Vc S) x lx → All2 (Vc S) y ly → VT P t lx vx → VT P t ly vy → d ≤ D →
   (Op.equalIn D t vx vy).run P w = .ok b w := by
 intro d
 induction d with
 | zero => intro t x y b lx ly vx vy D h; simp [cveq] at h
 | succ d ih =>
   intro t x y b lx ly vx vy D h hx hy tx ty hD
   obtain ⟨D, rfl⟩ : ∃ m, D = m + 1 := ⟨D - 1, by omega⟩
   have one : ∀ {c : CV} {l : List Value} {v : Value}, tyAgg P t = some false → All2 (Vc S) [c] l → VT P t l v → Vc S c v := by
     intro c l v ha hl ht
     rcases ht with ⟨h1, _⟩ | ⟨_, rfl⟩
     · rw [ha] at h1; cases h1
     · cases hl with | cons h _ => exact h
   unfold cveq at h
   split at h
   · rename_i hu
     have ha : tyAgg P t = some false := by simp [tyAgg, hu]
     split at h <;> first | (cases h; done) | skip
     cases h
     have := one ha hx tx; cases this
     have := one ha hy ty; cases this
     simp [Op.equalIn, run_underlying hu]
   · rename_i hu
     have ha : tyAgg P t = some false := by simp [tyAgg, hu]
     split at h <;> first | (cases h; done) | skip
     split at h <;> first | (cases h; done) | skip
     rename_i hk
     cases h
     have := one ha hx tx; cases this
     have := one ha hy ty; cases this
     simp [Op.equalIn, run_underlying hu, hk]
   · rename_i hu
     have ha : tyAgg P t = some false := by simp [tyAgg, hu]
     split at h <;> first | (cases h; done) | skip
     cases h
     have := one ha hx tx; cases this
     have := one ha hy ty; cases this
     simp [Op.equalIn, run_underlying hu]
   · rename_i fs hu
     have ha : tyAgg P t = some true := by simp [tyAgg, hu]
     split at h <;> first | (cases h; done) | skip
     rename_i hst
     obtain rfl := tx.agg ha
     obtain rfl := ty.agg ha
     obtain ⟨hf1, hf2⟩ := fieldsOf_eq hu
     rw [run_equalIn_struct w D t _ _ hf1 (by simpa using hst), hf2]
     generalize fs.toList = l at h
     clear hf1 hf2 hu
     induction l generalizing b with
     | nil => simp [eqFields] at h; subst h; simp [Op.eqFields]
     | cons f l ihl =>
       simp only [eqFields] at h
       split at h <;> first | (cases h; done) | skip
       rename_i n hn
       split at h <;> first | (cases h; done) | skip
       rename_i hname
       split at h <;> first | (cases h; done) | skip
       rename_i a1 b1 a2 b2 e1 e2
       simp only [Option.some.injEq, Prod.mk.injEq, Bool.and_eq_true] at h
       obtain ⟨⟨rfl, rfl⟩, rfl⟩ := h
       have hname' : f.name ≠ "_" := by simpa using hname
       have hx' := (hx.drop f.offset).take n
       have hy' := (hy.drop f.offset).take n
       have val : ∀ {z : List CV} {l : List Value}, All2 (Vc S) z l → (cveq P d f.type z ((y.drop f.offset).take n) = some (true, b1) ∨ cveq P d f.type ((x.drop f.offset).take n) z = some (true, b1)) → ∃ v, VT P f.type l v := by
         intro z l hz hc
         cases hag : tyAgg P f.type with
         | none =>
           cases d with
           | zero => simp [cveq] at hc
           | succ d =>
             have hun : P.underlying f.type = none := by
               unfold tyAgg at hag
               split at hag <;> first | (cases hag; done) | assumption
             simp [cveq, hun] at hc
         | some ag =>
           cases ag with
           | true => exact ⟨_, .inl ⟨hag, rfl⟩⟩
           | false =>
             have : z.length = 1 := by
               cases d with
               | zero => simp [cveq] at hc
               | succ d =>
                 unfold tyAgg at hag
                 rcases hc with hc | hc <;> unfold cveq at hc <;> (split at hc <;> first | (cases hc; done) | skip) <;> first
                   | (rename_i hu; rw [hu] at hag; simp at hag; done)
                   | (split at hc <;> first | (cases hc; done) | rfl)
             rw [hz.length] at this
             obtain ⟨v, rfl⟩ : ∃ v, l = [v] := by
               match l, this with
               | [v], _ => exact ⟨v, rfl⟩
             exact ⟨v, .inr ⟨hag, rfl⟩⟩
       obtain ⟨vx', hvx⟩ := val hx' (.inl e1)
       obtain ⟨vy', hvy⟩ := val hy' (.inr e1)
       have q := ih f.type _ _ b1 _ _ vx' vy' D e1 hx' hy' hvx hvy (by omega)
       simp only [Op.eqFields, hname', ne_eq, not_false_eq_true, if_true, Sem.run_bind, run_part2 hn hvx, run_part2 hn hvy, Result.andThen_ok, q]
       cases b1
       · simp
       · simp only [Bool.not_true, Bool.false_eq_true, if_false, Bool.true_and]
         exact ihl b2 e2
   · rename_i n e hu
     have ha : tyAgg P t = some true := by simp [tyAgg, hu]
     split at h <;> first | (cases h; done) | skip
     rename_i k hk
     split at h <;> first | (cases h; done) | skip
     rename_i hs1
     obtain ⟨hs1, hd0⟩ := hs1
     simp only [Option.some.injEq, Prod.mk.injEq, Bool.and_eq_true, beq_iff_eq] at h
     obtain ⟨⟨⟨⟨q1, q2⟩, q3⟩, q4⟩, rfl⟩ := h
     obtain rfl := tx.agg ha
     obtain rfl := ty.agg ha
     have hs : tySize P e = some 1 := hs1
     have hae : tyAgg P e = some false := by simp [tyAgg, hk]
     simp only [Op.equalIn, Sem.run_bind, run_underlying hu, Result.andThen_ok, run_size hs, Std.Legacy.Range.forIn_eq_forIn_range']
     have hsz : [:n].size = (x.map CV.toInt).length := by simp [Std.Legacy.Range.size, q1]
     rw [hsz]
     cases D with
     | zero => omega
     | succ D =>
       rw [run_elems_eq (w := w) (d := D) hk hs hae (x.map CV.toInt) (y.map CV.toInt) lx.toArray ly.toArray 0 (by simp [q1, q2]) (fun j z hj => by simpa using all_ints hx q3 j z hj) (fun j z hj => by simpa using all_ints hy q4 j z hj)]
       cases hxy : (x.map CV.toInt == y.map CV.toInt) <;> simp
   · cases h
theorem run_equal {P : Program} {S : St} {w : World} {t : TypeId} {x y : List CV} {vx vy : Array Value} {b : Bool} (ha : tyAgg P t = some true) (h : cveq P 100 t x y = some (true, b)) (hx : All2 (Vc S) x vx.toList) (hy : All2 (Vc S) y vy.toList) :
   (Op.equal t (.agg vx) (.agg vy)).run P w = .ok b w :=
 cveq_ok 100 t x y b _ _ _ _ Op.maxDepth h hx hy (.inl ⟨ha, by simp⟩) (.inl ⟨ha, by simp⟩) (by decide)
theorem c_of {S : St} {x : CV} {v : Value} (h : Vr S (.c x) v) : Vc S x v := by
 cases h with | c h => exact h
def both : Value → Value → Bool
 | .nilIface, .nilIface => true
 | .agg _, .agg _ => true
 | _, _ => false
theorem run_guard {P : Program} {w : World} {op : BinOp} {t : TypeId} {x y : Operand} {v u : Value} (h : both v u = false) : (eqGuard op t x y v u).run P w = .ok () w := by
 unfold eqGuard
 cases op <;> cases v <;> cases u <;> first | rfl | (simp [both] at h; done)
theorem guard_nil {P : Program} {w : World} {op : BinOp} {t : TypeId} {x y : Operand} (h : (Region.isConst x || Region.isConst y) = true) : (eqGuard op t x y .nilIface .nilIface).run P w = .ok () w := by
 unfold eqGuard
 cases op <;> simp <;> cases x <;> cases y <;> simp [Region.isConst] at h ⊢
theorem guard_agg {P : Program} {w : World} {op : BinOp} {t : TypeId} {x y : Operand} {v u : Array Value} (h : P.eqGuardType P.depth t = false) : (eqGuard op t x y (.agg v) (.agg u)).run P w = .ok () w := by
 unfold eqGuard
 cases op <;> simp [h]
theorem equal_of {P : Program} {w : World} {t : TypeId} {v u : Value} {b : Bool} (h : ∀ D, (Op.equalIn (D + 1) t v u).run P w = .ok b w) : (Op.equal t v u).run P w = .ok b w := h 9999
theorem nilEq_ok {P : Program} {S : St} {t : TypeId} {x y : Operand} {p q : PV} {v u : Value} {op : BinOp} {a b : Bool} {w : World} (ok : Ok S) (hv : Vr S p v) (hu : Vr S q u) (h : nilEq P t (Region.isConst x || Region.isConst y) p q S.H = some (a, b)) (ha : a = true) :
   (eqGuard op t x y v u).run P w = .ok () w ∧ (Op.equal t v u).run P w = .ok b w ∧ (∀ w, (binOp .eql t v u).run P w = ((Op.equal t v u).run P w).andThen fun b w => .ok (.bool b) w) ∧ (∀ w, (binOp .neq t v u).run P w = ((Op.equal t v u).run P w).andThen fun b w => .ok (.bool (!b)) w) := by
 have fin : ∀ {v u : Value} {b : Bool}, (eqGuard op t x y v u).run P w = .ok () w → (Op.equal t v u).run P w = .ok b w → (∀ w, (binOp .eql t v u).run P w = ((Op.equal t v u).run P w).andThen fun b w => .ok (.bool b) w) → (∀ w, (binOp .neq t v u).run P w = ((Op.equal t v u).run P w).andThen fun b w => .ok (.bool (!b)) w) →
     (eqGuard op t x y v u).run P w = .ok () w ∧ (Op.equal t v u).run P w = .ok b w ∧ (∀ w, (binOp .eql t v u).run P w = ((Op.equal t v u).run P w).andThen fun b w => .ok (.bool b) w) ∧ (∀ w, (binOp .neq t v u).run P w = ((Op.equal t v u).run P w).andThen fun b w => .ok (.bool (!b)) w) := fun h1 h2 h3 h4 => ⟨h1, h2, h3, h4⟩
 unfold nilEq at h
 split at h <;> first | (cases h; done) | skip
 · rename_i e hun
   cases c_of hu
   split at h <;> first | (cases h; done) | skip
   · cases h
     cases c_of hv
     exact fin (run_guard rfl) (equal_of fun D => by simp only [Op.equalIn, Sem.run_bind, run_underlying hun, Result.andThen_ok]; rfl) (fun w => by simp [binOp]) (fun w => by simp [binOp])
   · cases h
     cases c_of hv with
     | sl => exact fin (run_guard rfl) (equal_of fun D => by simp only [Op.equalIn, Sem.run_bind, run_underlying hun, Result.andThen_ok]; rfl) (fun w => by simp [binOp]) (fun w => by simp [binOp])
     | slnil => simp at ha
   · rename_i r g
     split at h <;> first | (cases h; done) | skip
     rename_i xs k s hr0
     have hr := getRow_some hr0
     cases h
     cases hv with
     | rw r g v h1 hg hv =>
       rcases hv _ _ _ hr with ⟨b, a, _, rfl, _⟩ | ⟨_, _, h3, rfl⟩
       · exact fin (run_guard rfl) (equal_of fun D => by simp only [Op.equalIn, Sem.run_bind, run_underlying hun, Result.andThen_ok]; rfl) (fun w => by simp [binOp]) (fun w => by simp [binOp])
       · have : xs = [] := by simpa using h3
         subst this; simp at ha
 · rename_i e hun
   cases c_of hu
   split at h <;> first | (cases h; done) | skip
   · cases h
     cases c_of hv
     exact fin (run_guard rfl) (equal_of fun D => by simp only [Op.equalIn, Sem.run_bind, run_underlying hun, Result.andThen_ok]; rfl) (fun w => by simp [binOp]) (fun w => by simp [binOp])
   · split at h <;> first | (cases h; done) | skip
     rename_i r t' _ e' k' hr
     cases h
     cases hv with
     | bptr r t v h1 hlt hb =>
       obtain ⟨b, _, rfl⟩ := hb _ _ hr
       exact fin (run_guard rfl) (equal_of fun D => by simp only [Op.equalIn, Sem.run_bind, run_underlying hun, Result.andThen_ok]; rfl) (fun w => by simp [binOp]) (fun w => by simp [binOp])
   · cases h
     cases hv with
     | ro cs a vs _ _ => exact fin (run_guard rfl) (equal_of fun D => by simp only [Op.equalIn, Sem.run_bind, run_underlying hun, Result.andThen_ok]; rfl) (fun w => by simp [binOp]) (fun w => by simp [binOp])
 · rename_i e r' o' hun
   split at h <;> first | (cases h; done) | skip
   rename_i r o
   split at h <;> first | (cases h; done) | skip
   rename_i e1 k1 e2 k2 sz h1 h2 hsz
   split at h <;> first | (cases h; done) | skip
   rename_i hrr
   obtain rfl := Nat.eq_of_beq_eq_true hrr
   cases h
   cases hv with
   | bptr _ _ _ _ _ hb =>
     cases hu with
     | bptr _ _ _ _ _ hb' =>
       obtain ⟨B, hB, rfl⟩ := hb _ _ h1
       obtain ⟨B', hB', rfl⟩ := hb' _ _ h2
       rw [hB] at hB'; cases hB'
       refine fin (run_guard rfl) (equal_of fun D => ?_) (fun w => by simp [binOp]) (fun w => by simp [binOp])
       simp only [Op.equalIn, Sem.run_bind, run_underlying hun, Result.andThen_ok, run_size hsz]
       have he : ((⟨B, o, none⟩ : Addr) == ⟨B, o', none⟩) = Nat.beq o o' := by
         rw [Bool.eq_iff_iff]
         simp [beq_iff_eq, Nat.beq_eq]
       simp [sameAddr, he]
 · rename_i hun
   cases c_of hu
   split at h <;> first | (cases h; done) | skip
   · cases h
     cases c_of hv
     exact fin (run_guard rfl) (equal_of fun D => by simp only [Op.equalIn, Sem.run_bind, run_underlying hun, Result.andThen_ok]; rfl) (fun w => by simp [binOp]) (fun w => by simp [binOp])
   · cases h
     cases c_of hv
     exact fin (run_guard rfl) (equal_of fun D => by simp only [Op.equalIn, Sem.run_bind, run_underlying hun, Result.andThen_ok]; rfl) (fun w => by simp [binOp]) (fun w => by simp [binOp])
   · cases h
     cases hv with
     | fn => exact fin (run_guard rfl) (equal_of fun D => by simp only [Op.equalIn, Sem.run_bind, run_underlying hun, Result.andThen_ok]; rfl) (fun w => by simp [binOp]) (fun w => by simp [binOp])
 · rename_i hun
   cases c_of hu
   split at h <;> first | (cases h; done) | skip
   · split at h <;> first | (cases h; done) | skip
     rename_i hc
     cases h
     cases c_of hv
     exact fin (guard_nil hc) (equal_of fun D => by simp only [Op.equalIn, Sem.run_bind, run_underlying hun, Result.andThen_ok]; rfl) (fun w => by simp [binOp]) (fun w => by simp [binOp])
   · cases h
     cases c_of hv
     exact fin (run_guard rfl) (equal_of fun D => by simp only [Op.equalIn, Sem.run_bind, run_underlying hun, Result.andThen_ok]; rfl) (fun w => by simp [binOp]) (fun w => by simp [binOp])
theorem binOp_ok {P : Program} {S : St} {op : BinOp} {t : TypeId} {x y : Operand} {p q : PV} {v u : Value} {K : KV} {res : CV × List CV} (ok : Ok S) (hv : Vr S p v) (hu : Vr S q u)
   (h : binOp' P op t (Region.isConst x || Region.isConst y) p q S.H K = some res) : Does P (do eqGuard op t x y v u; binOp op t v u) S K res := by
 have fin : ∀ {c : CV} {r : Value}, (eqGuard op t x y v u).run P S.w = .ok () S.w → (binOp op t v u).run P S.w = .ok r S.w → (∀ S, Vc S c r) → K (.c c) S.H = some res → Does P (do eqGuard op t x y v u; binOp op t v u) S K res := by
   intro c r h1 h2 h3 h4
   exact .same ok (by simp only [Sem.run_bind, h1, Result.andThen_ok, h2]) (.c (h3 S)) h4
 unfold binOp' at h
 split at h
 · obtain rfl := int_of hv; obtain rfl := int_of hu
   obtain ⟨c, r, h1, h2, h3⟩ := shiftOp_ok (P := P) (t := t) (w := S.w) h
   exact fin (run_guard rfl) h1 h2 h3
 · obtain rfl := int_of hv; obtain rfl := int_of hu
   obtain ⟨c, r, h1, h2, h3⟩ := shiftOp_ok (P := P) (t := t) (w := S.w) h
   exact fin (run_guard rfl) h1 h2 h3
 · rename_i n1 n2
   obtain rfl := int_of hv; obtain rfl := int_of hu
   split at h <;> first | (cases h; done) | skip
   rename_i hk; subst hk
   obtain ⟨c, r, h1, h2, h3⟩ := intOp_ok (P := P) (t := t) (w := S.w) h ⟨n1, n2⟩
   exact fin (run_guard rfl) h1 h2 h3
 · obtain rfl := str_of hv; obtain rfl := str_of hu
   obtain ⟨c, r, h1, h2, h3⟩ := strOp_ok (P := P) (t := t) (w := S.w) h
   exact fin (run_guard rfl) h1 h2 h3
 · obtain rfl := bool_of hv; obtain rfl := bool_of hu
   split at h <;> first | (cases h; done) | skip
   rename_i hun
   exact fin (run_guard rfl) (by have := @equal_of P S.w; simp only [binOp, Sem.run_bind]; rw [equal_of fun D => by simp only [Op.equalIn, Sem.run_bind, run_underlying hun, Result.andThen_ok]; rfl]; rfl) (fun S => .bool _) h
 · obtain rfl := bool_of hv; obtain rfl := bool_of hu
   split at h <;> first | (cases h; done) | skip
   rename_i hun
   exact fin (run_guard rfl) (by have := @equal_of P S.w; simp only [binOp, Sem.run_bind]; rw [equal_of fun D => by simp only [Op.equalIn, Sem.run_bind, run_underlying hun, Result.andThen_ok]; rfl]; rfl) (fun S => .bool _) h
 · split at h <;> first | (cases h; done) | skip
   rename_i hg
   simp only [Bool.or_eq_true, not_or, bne_iff_ne, ne_eq, Bool.not_eq_true, Decidable.not_not] at hg
   split at h <;> first | (cases h; done) | skip
   rename_i a b hq
   obtain ⟨rfl, h⟩ := bif_true h
   cases hv with | c hv => cases hv with | agg xs vs hx1 hx2 =>
     cases hu with | c hu => cases hu with | agg ys us hy1 hy2 =>
       have := run_equal (w := S.w) hg.2 hq hx1 hy1
       exact fin (guard_agg hg.1) (r := .bool b) (by simp [binOp, this]) (fun S => .bool _) h
 · split at h <;> first | (cases h; done) | skip
   rename_i hg
   simp only [Bool.or_eq_true, not_or, bne_iff_ne, ne_eq, Bool.not_eq_true, Decidable.not_not] at hg
   split at h <;> first | (cases h; done) | skip
   rename_i a b hq
   obtain ⟨rfl, h⟩ := bif_true h
   cases hv with | c hv => cases hv with | agg xs vs hx1 hx2 =>
     cases hu with | c hu => cases hu with | agg ys us hy1 hy2 =>
       have := run_equal (w := S.w) hg.2 hq hx1 hy1
       exact fin (guard_agg hg.1) (r := .bool (!b)) (by simp [binOp, this]) (fun S => .bool _) h
 · split at h <;> first | (cases h; done) | skip
   rename_i a b hq
   obtain ⟨ha, h⟩ := bif_true h
   obtain ⟨g1, g2, g3, g4⟩ := nilEq_ok (op := .eql) (w := S.w) ok hv hu hq ha
   exact fin g1 (by rw [g3, g2]; rfl) (fun S => .bool _) h
 · split at h <;> first | (cases h; done) | skip
   rename_i a b hq
   obtain ⟨ha, h⟩ := bif_true h
   obtain ⟨g1, g2, g3, g4⟩ := nilEq_ok (op := .neq) (w := S.w) ok hv hu hq ha
   exact fin g1 (by rw [g4, g2]; rfl) (fun S => .bool _) h
 · cases h
theorem unOp_ok {P : Program} {S : St} {op : UnOp} {p : PV} {v : Value} {K : KV} {res : CV × List CV} (ok : Ok S) (hv : Vr S p v) (h : unOp' op p S.H K = some res) : Does P (Op.unary op v) S K res := by
 unfold unOp' at h
 split at h <;> first | (cases h; done) | skip
 · obtain rfl := int_of hv
   exact .same ok rfl (Vi ..) h
 · obtain rfl := int_of hv
   exact .same ok rfl (Vi ..) h
 · obtain rfl := bool_of hv
   exact .same ok rfl (Vb ..) h
end
end Go.Pv
namespace Go.Pv
open Go
def St.withH (S : St) (H : Hp) : St := { S with H := H }
theorem set_self {α : Type} {l : List α} {r : Nat} {a : α} (h : l[r]? = some a) : l.set r a = l := by
 apply List.ext_getElem?
 intro i
 by_cases e : i = r
 · subst e
   rw [set_get_self (List.getElem?_eq_some_iff.1 h).1, h]
 · exact set_get_ne e
theorem sealRow_eq {H : Hp} {r : Nat} {xs : List CV} {k g : Nat} {s : Bool} (h : H[r]? = some (.row xs k g s)) : sealRow H r = H.set r (.row xs k g true) := by
 simp [sealRow, h]
theorem seal_good {S : St} (ok : Ok S) {r : Nat} {xs : List CV} {k g : Nat} {s : Bool} (h : S.H[r]? = some (.row xs k g s)) :
   Good S (S.withH (sealRow S.H r)) ∧ (S.withH (sealRow S.H r)).H[r]? = some (.row xs k g true) := by
 have hlt : r < S.H.length := (List.getElem?_eq_some_iff.1 h).1
 have ho := ok.ob r _ h
 have T : Turn S (S.withH (sealRow S.H r)) r (.row xs k g true) := by
   refine ⟨hlt, by rw [sealRow_eq h]; rfl, fun _ _ => rfl, fun _ _ => rfl, .inl rfl, rfl, rfl, rfl, Nat.le_refl _, fun _ _ _ => rfl, rfl, rfl, rfl, ?_, ?_, ?_, ?_⟩
   · intro b off v hb hs hc
     obtain ⟨xs', k', g', h1, h2⟩ := hs
     rw [h] at h1; cases h1
     exact ⟨fun _ => ⟨xs, k, g, rfl, h2⟩, hc⟩
   · intro e' k' he; cases he
   · intro e' k' he; cases he
   · intro xs' k' g' s' he
     cases he
     exact ⟨xs, k, g, s, h, Nat.le_refl _, fun _ => ⟨rfl, rfl, rfl, rfl⟩⟩
 have E := T.ext ok
 refine ⟨T.good ok ?_, by rw [sealRow_eq h]; exact set_get_self hlt⟩
 obtain ⟨h0, h1, hb⟩ := ho
 refine ⟨h0, h1, ?_⟩
 rcases hb with hb | ⟨b, cs, T', fr, vs, a1, a2, a3, a4, a5, a6, a7⟩
 · exact .inl hb
 · exact .inr ⟨b, cs, T', fr, vs, a1, a2, a3, a4, a5, a6.imp fun _ _ _ h => h.mono E, a7⟩
theorem frozen_part {S : St} (ok : Ok S) {r off len : Nat} {xs : List CV} {k g : Nat} {v : Value} (hr : S.H[r]? = some (.row xs k g true)) (hle : off + len ≤ xs.length) (hv : RowV S r off len k v) : Vc S (.sl false false k ((xs.drop off).take len)) v := by
 obtain ⟨h0, hk, hb⟩ := ok.ob r _ hr
 have hl : ((xs.drop off).take len).length = len := by simp; omega
 rcases hv with ⟨b, a, h1, rfl, h3⟩ | ⟨h1, rfl, rfl, rfl⟩
 · rcases hb with ⟨a1, _, _⟩ | ⟨b', cs, T, fr, vs, a1, a2, a3, a4, a5, a6, a7, a8⟩
   · rw [a1] at h1; cases h1
   · rw [a1] at h1; cases h1
     have key : Vc S (.sl false false k ((xs.drop off).take len)) (.slice (some a) ((xs.drop off).take len).length (S.cp r - off)) := by
       refine .sl false k _ a (S.cp r - off) ((vs.drop (off * k)).take (len * k)) (fun e he => hk e (List.mem_of_mem_drop (List.mem_of_mem_take he))) ?_ ?_ (by rw [hl]; omega) (by simp)
       · rw [flat_take len (fun e he => hk e (List.mem_of_mem_drop he)), flat_drop off hk]; exact (a6.drop _).take _
       · intro j v hj
         rw [List.getElem?_take] at hj
         split at hj <;> first | (cases hj; done) | skip
         rename_i hjk
         rw [List.getElem?_drop] at hj
         have hlen : 0 < len := by
           rcases Nat.eq_zero_or_pos len with h | h
           · subst h; simp at hjk
           · exact h
         have := h3 (by omega)
         subst this
         have hlt : off * k + j < xs.length * k := by
           have h5 : (off + len) * k ≤ xs.length * k := Nat.mul_le_mul_right _ hle
           rw [Nat.add_mul] at h5; omega
         refine ⟨rfl, ⟨ok.free r b _ a1, fun r' hr' => ?_⟩, ?_, a8 _ (List.mem_of_getElem? hj)⟩
         · obtain rfl := ok.inj r r' b a1 hr'
           exact ⟨xs, k, g, hr, hlt⟩
         · rw [heap_cell a2]; exact a7 _ _ hj
     rw [hl] at key; exact key
 · simp; exact .slnil _
structure Marked (S S' : St) : Prop where
 good : Good S S'
 w : S'.w = S.w
 ι : S'.ι = S.ι
 cp : S'.cp = S.cp
theorem Marked.refl {S : St} (ok : Ok S) : Marked S S := ⟨.refl ok, rfl, rfl, rfl⟩
theorem Marked.trans {S1 S2 S3 : St} (h : Marked S1 S2) (h' : Marked S2 S3) : Marked S1 S3 := ⟨h.good.trans h'.good, h'.w.trans h.w, h'.ι.trans h.ι, h'.cp.trans h.cp⟩
theorem closeCell_ok {S : St} (ok : Ok S) {p : PV} {v : Value} {x : CV} {H' : Hp} (hv : Vr S p v) (h : closeCell p S.H = some (x, H')) :
   ∃ S', S'.H = H' ∧ Marked S S' ∧ Vc S' x v ∧ x.cl = [x] := by
 unfold closeCell at h
 split at h <;> first | (cases h; done) | skip
 · rename_i y
   split at h <;> first | (cases h; done) | skip
   rename_i hna
   cases h
   refine ⟨S, rfl, .refl ok, c_of hv, ?_⟩
   cases x <;> first | rfl | exact (hna _ rfl).elim
 · rename_i r g
   split at h <;> first | (cases h; done) | skip
   rename_i xs k s hr0
   have hr := getRow_some hr0
   cases h
   obtain ⟨G, hr'⟩ := seal_good ok hr
   refine ⟨_, rfl, ⟨G, rfl, rfl, rfl⟩, ?_, rfl⟩
   cases hv.mono G.ext with
   | rw r g v h1 hg h =>
     have := frozen_part G.ok (off := 0) (len := xs.length) hr' (by omega) (h _ _ _ hr')
     simpa using this
 · rename_i r g off len
   split at h <;> first | (cases h; done) | skip
   rename_i xs k s hr0
   have hr := getRow_some hr0
   cases h
   obtain ⟨G, hr'⟩ := seal_good ok hr
   refine ⟨_, rfl, ⟨G, rfl, rfl, rfl⟩, ?_, rfl⟩
   cases hv.mono G.ext with
   | row r g off len v h1 hg h =>
     obtain ⟨h2, h3⟩ := h _ _ _ hr'
     exact frozen_part G.ok hr' h2 h3
 · cases h
   refine ⟨S, rfl, .refl ok, ?_, rfl⟩
   cases hv with
   | fn f caps vs h =>
     cases hvs : vs.toList with
     | nil => exact .fn _ _ _ (by rw [hvs]; exact .nil)
     | cons a l => rw [hvs] at h; cases h
theorem closeCells_ok : ∀ {S : St} (ok : Ok S) {ps : List PV} {vs : List Value} {xs : List CV} {H' : Hp} (hv : All2 (Vr S) ps vs) (h : closeCells ps S.H = some (xs, H')),
   ∃ S', S'.H = H' ∧ Marked S S' ∧ All2 (Vc S') xs vs ∧ ∀ x ∈ xs, x.cl = [x]
 | S, ok, [], vs, xs, H', hv, h => by
   cases hv; cases h
   exact ⟨S, rfl, .refl ok, .nil, by simp⟩
 | S, ok, p :: ps, vs, xs, H', hv, h => by
   cases hv with
   | cons h1 h2 =>
     simp only [closeCells] at h
     split at h <;> first | (cases h; done) | skip
     rename_i x H1 hx
     split at h <;> first | (cases h; done) | skip
     rename_i xs' H2 hxs
     cases h
     obtain ⟨S1, e1, M1, c1, l1⟩ := closeCell_ok ok h1 hx
     subst e1
     obtain ⟨S2, e2, M2, c2, l2⟩ := closeCells_ok M1.good.ok (h2.imp fun _ _ _ h => h.mono M1.good.ext) hxs
     refine ⟨S2, e2, M1.trans M2, .cons (c1.mono M2.good.ext) c2, ?_⟩
     intro y hy
     rcases List.mem_cons.1 hy with rfl | hy
     · exact l1
     · exact l2 y hy
theorem closeVal_ok {S : St} (ok : Ok S) {p : PV} {v : Value} {x : CV} {H' : Hp} (hv : Vr S p v) (h : closeVal p S.H = some (x, H')) :
   ∃ S', S'.H = H' ∧ Marked S S' ∧ Vc S' x v := by
 unfold closeVal at h
 split at h <;> first | (cases h; done) | skip
 · cases h
   exact ⟨S, rfl, .refl ok, c_of hv⟩
 · split at h <;> first | (cases h; done) | skip
   rename_i vs' H1 hc
   cases h
   cases hv with
   | agg ps vs h1 h2 =>
     obtain ⟨S', e, M, c, _⟩ := closeCells_ok ok h1 hc
     exact ⟨S', e, M, .agg _ _ c h2⟩
 · obtain ⟨S', e, M, c, _⟩ := closeCell_ok ok hv h
   exact ⟨S', e, M, c⟩
theorem unfrozen_none (n : Nat) : unfrozen (0, 0) n := fun i _ => by simp
theorem new_box {S : St} (ok : Ok S) {e : PV} {k : Nat} {v : Value} {T : TypeId} (hv : Vr S e v) (hk : e.ncells = some (ksz k)) (hT : kty k = 0 ∨ T + 1 = kty k) :
   Good S (S.push (.cells v.cells T) (.box e k) 0) ∧ Vr (S.push (.cells v.cells T) (.box e k) 0) (.bptr S.H.length 0) (.pointer (some ⟨S.w.heap.size, 0, none⟩)) := by
 have E := push_ext ok (.cells v.cells T) (.box e k) 0
 obtain ⟨ps, hp, _⟩ := PV.cells_of_n hk
 have G := push_good ok (.cells v.cells T) (.box e k) 0 ⟨S.w.heap.size, v.cells, T, (0, 0), v, by simp [St.push], heap_alloc_new, ⟨unfrozen_none _, hT⟩, hk, hv.mono E, rfl, (hv.cells hp).2⟩
 refine ⟨G, .bptr _ _ _ rfl (by simp [St.push]) fun _ _ _ => ⟨S.w.heap.size, by simp [St.push], rfl⟩⟩
theorem run_newVar {P : Program} {t : TypeId} {v : Value} {w : World} : (newVar t v).run P w = .ok ⟨w.heap.size, 0, none⟩ (w.alloc (.cells v.cells t)) := by
 simp [newVar, newRow]
theorem ksz_of {n t : Nat} (h : n < 4294967296) : ksz (kOf n t) = n := by unfold ksz kOf; omega
theorem kty_of {n t : Nat} (h : n < 4294967296) : kty (kOf n t) = t + 1 := by unfold kty kOf; omega
theorem alloc_ok {P : Program} {S : St} {t : TypeId} {z : CV} {K : KV} {res : CV × List CV} (ok : Ok S) (hz : tyZero P t = some z) (hl : z.cl.length < 4294967296) (h : K (.bptr S.H.length 0) (S.H ++ [.box (.c z) (kOf z.cl.length t)]) = some res) :
   Does P (Instr.alloc t true (.tuple #[])) S K res := by
 obtain ⟨v, hv, hc⟩ := run_zero hz
 obtain ⟨G, hp⟩ := new_box (T := t) ok (.c (hc S)) (k := kOf z.cl.length t) (by rw [ksz_of hl]; rfl) (.inr (kty_of hl).symm)
 refine ⟨_, _, _, ?_, G, hp, h⟩
 simp [Instr.alloc, hv, run_newVar, St.push]
theorem box_ok {P : Program} {S : St} {t : TypeId} {p : PV} {v : Value} {k : Nat} {K : KV} {res : CV × List CV} (ok : Ok S) (hv : Vr S p v) (hk : p.ncells = some k) (hl : k < 4294967296) (h : K (.bptr S.H.length 0) (S.H ++ [.box p (kOf k t)]) = some res) :
   Does P (Instr.box t v) S K res := by
 obtain ⟨G, hp⟩ := new_box (T := t) ok hv (by rw [ksz_of hl]; exact hk) (.inr (kty_of hl).symm)
 refine ⟨_, _, _, ?_, G, hp, h⟩
 simp [Instr.box, run_newVar, St.push]
def cellsSet (cs : Array Value) (off : Nat) : List Value → Array Value
 | [] => cs
 | v :: vs => cellsSet (cs.setIfInBounds off v) (off + 1) vs
theorem cellsSet_size : ∀ (vs : List Value) (cs : Array Value) (off : Nat), (cellsSet cs off vs).size = cs.size
 | [], _, _ => rfl
 | v :: vs, cs, off => by simp [cellsSet, cellsSet_size vs]
theorem cellsSet_get : ∀ (vs : List Value) (cs : Array Value) (off j : Nat), (cellsSet cs off vs)[j]? = if off ≤ j ∧ j < off + vs.length ∧ j < cs.size then vs[j - off]? else cs[j]?
 | [], cs, off, j => by
   simp only [cellsSet, List.length_nil, Nat.add_zero]
   rw [if_neg (by omega)]
 | v :: vs, cs, off, j => by
   simp only [cellsSet, cellsSet_get vs, Array.size_setIfInBounds, List.length_cons]
   by_cases h1 : j = off
   · subst h1
     by_cases h2 : j < cs.size
     · rw [if_neg (by omega), if_pos (by omega)]; simp [h2]
     · rw [if_neg (by omega), if_neg (by omega)]; simp [h2]
   · by_cases h2 : off + 1 ≤ j ∧ j < off + 1 + vs.length ∧ j < cs.size
     · rw [if_pos h2, if_pos (by omega), show j - off = (j - (off + 1)) + 1 by omega]; rfl
     · rw [if_neg h2, if_neg (by omega)]
       rw [Array.getElem?_setIfInBounds_ne (by omega)]
theorem cellsSet_list (vs : List Value) (cs : Array Value) (off : Nat) (h : off + vs.length ≤ cs.size) : (cellsSet cs off vs).toList = setRange cs.toList off vs := by
 apply List.ext_getElem?
 intro j
 have h1 := cellsSet_get vs cs off j
 rw [Array.getElem?_toList, h1]
 unfold setRange
 by_cases h2 : j < off
 · rw [if_neg (by omega), List.append_assoc, List.getElem?_append_left (by simp; omega), List.getElem?_take, if_pos h2]; simp
 · by_cases h3 : j < off + vs.length
   · rw [if_pos (by omega), List.append_assoc, List.getElem?_append_right (by simp; omega), List.getElem?_append_left (by simp; omega)]
     congr 1; simp; omega
   · rw [if_neg (by omega), List.getElem?_append_right (by simp; omega), List.getElem?_drop]
     simp; congr 1; omega
theorem setCell_heap {w : World} {b off : Nat} {v : Value} {cs : Array Value} {T : TypeId} {fr : Nat × Nat} (h : w.heap[b]? = some (.cells cs T fr)) :
   (w.setCell ⟨b, off, none⟩ v).heap[b]? = some (.cells (cs.setIfInBounds off v) T fr) := by
 simp [World.setCell, Array.getElem?_modify, h]
theorem setCell_other {w : World} {b b' off : Nat} {v : Value} (h : b' ≠ b) : (w.setCell ⟨b, off, none⟩ v).heap[b']? = w.heap[b']? := RowKit.Below.heap_setCell w _ v b' h
theorem run_storeCells {P : Program} {b : Nat} {T : TypeId} {fr : Nat × Nat} : ∀ (vs : List Value) (w : World) (cs : Array Value) (off i : Nat), w.heap[b]? = some (.cells cs T fr) → unfrozen fr cs.size → off + i + vs.length ≤ cs.size → (∀ v ∈ vs, v.oneCell' = true) →
   ∃ w', (storeCells ⟨b, off, none⟩ vs i).run P w = .ok () w' ∧ w'.heap[b]? = some (.cells (cellsSet cs (off + i) vs) T fr) ∧ (∀ b', b' ≠ b → w'.heap[b']? = w.heap[b']?) ∧ w'.heap.size = w.heap.size ∧ w'.os = w.os ∧ w'.tape = w.tape ∧ w'.output = w.output
 | [], w, cs, off, i, h, _, _, _ => ⟨w, rfl, h, fun _ _ => rfl, rfl, rfl, rfl, rfl⟩
 | v :: vs, w, cs, off, i, h, hf, hl, h1 => by
   simp only [List.length_cons] at hl
   have hc : w.cell? ⟨b, off + i, none⟩ = some (cs[off + i]'(by omega)) := by
     rw [heap_cell h]; simp [show off + i < cs.size by omega]
   have hfr : w.frozen? ⟨b, off + i, none⟩ = false := by
     simp only [World.frozen?, h]; exact hf (off + i) (by omega)
   obtain ⟨w', r1, r2, r3, r4, r5, r6, r7⟩ := run_storeCells vs (w.setCell ⟨b, off + i, none⟩ v) (cs.setIfInBounds (off + i) v) off (i + 1) (setCell_heap h) (by simpa using hf) (by simp; omega) (fun u hu => h1 u (by simp [hu]))
   refine ⟨w', ?_, ?_, ?_, ?_, r5, r6, r7⟩
   · simp only [storeCells, Sem.run_bind, add_at, run_store P w _ v .plain (h1 v (by simp)), hc, hfr, Bool.false_eq_true, if_false, Result.andThen_ok]
     exact r1
   · rw [r2]; simp only [cellsSet, Nat.add_assoc]
   · intro b' hb'; rw [r3 b' hb', setCell_other hb']
   · rw [r4, World.size_setCell]
theorem run_storeVar {P : Program} {t : TypeId} {v : Value} {w : World} {b off : Nat} {cs : Array Value} {T : TypeId} {fr : Nat × Nat} {n : Nat} (hn : tySize P t = some n) (hv : v.cells.size = n) (h1 : ∀ u ∈ v.cells.toList, u.oneCell' = true)
   (h : w.heap[b]? = some (.cells cs T fr)) (hf : unfrozen fr cs.size) (hl : off + n ≤ cs.size) :
   ∃ w', (storeVar t ⟨b, off, none⟩ v).run P w = .ok () w' ∧ w'.heap[b]? = some (.cells (cellsSet cs off v.cells.toList) T fr) ∧ (∀ b', b' ≠ b → w'.heap[b']? = w.heap[b']?) ∧ w'.heap.size = w.heap.size ∧ w'.os = w.os ∧ w'.tape = w.tape ∧ w'.output = w.output := by
 obtain ⟨w', r1, r2, r3⟩ := run_storeCells (P := P) v.cells.toList w cs off 0 h hf (by simp; omega) h1
 refine ⟨w', ?_, by simpa using r2, r3⟩
 simp only [storeVar, Sem.run_bind, run_size hn, Result.andThen_ok]
 rw [if_neg (by rw [hv]; simp)]
 exact r1
theorem All2.setRange {α β : Type} {R : α → β → Prop} {as us : List α} {bs vs : List β} {off : Nat} (h : All2 R as bs) (h' : All2 R us vs) : All2 R (setRange as off us) (setRange bs off vs) := by
 unfold Pv.setRange
 rw [h'.length]
 exact ((h.take _).append h').append (h.drop _)
theorem write_ok {S : St} {e x e' : PV} {ve v : Value} {k off n : Nat} (he : Vr S e ve) (hek : e.ncells = some k) (hx : Vr S x v) (hxn : x.ncells = some n) (hle : off + n ≤ k) (h : writePV e k off n x = some e') :
   ∃ u, Vr S e' u ∧ e'.ncells = some k ∧ u.cells = cellsSet ve.cells off v.cells.toList := by
 obtain ⟨ps, hps, hpl⟩ := PV.cells_of_n hek
 obtain ⟨us, hus, hul⟩ := PV.cells_of_n hxn
 obtain ⟨p1, p2⟩ := he.cells hps
 obtain ⟨u1, u2⟩ := hx.cells hus
 have hs1 : ve.cells.size = k := he.size hek
 have hs2 : v.cells.size = n := hx.size hxn
 have hset : (cellsSet ve.cells off v.cells.toList).toList = setRange ve.cells.toList off v.cells.toList := cellsSet_list _ _ _ (by simp; omega)
 have h1 : ∀ u ∈ (cellsSet ve.cells off v.cells.toList).toList, u.oneCell' = true := by
   intro u hu
   rw [hset] at hu
   simp only [setRange, List.mem_append] at hu
   rcases hu with (hu | hu) | hu
   · exact p2 u (List.mem_of_mem_take hu)
   · exact u2 u hu
   · exact p2 u (List.mem_of_mem_drop hu)
 unfold writePV at h
 split at h
 · rename_i hc
   obtain ⟨hc1, hc2⟩ := hc
   subst hc1; subst hc2
   cases h
   refine ⟨v, hx, hxn, ?_⟩
   apply Array.ext'
   rw [hset]
   simp only [setRange, List.take_zero, List.nil_append]
   rw [List.drop_of_length_le (by simp; omega), List.append_nil]
 · split at h <;> first | (cases h; done) | skip
   · rename_i y z
     cases h
     have hy := (c_of he).cells.1
     have hz := (c_of hx).cells.1
     refine ⟨.agg (cellsSet ve.cells off v.cells.toList), .c (.agg _ _ (by rw [hset]; exact hy.setRange hz) h1), ?_, rfl⟩
     have ly : y.cl.length = k := by rw [hy.length]; simp; omega
     have lz : z.cl.length = n := by rw [hz.length]; simp; omega
     show some (Pv.setRange y.cl off z.cl).length = some k
     simp only [Pv.setRange, List.length_append, List.length_take, List.length_drop, ly, lz]
     congr 1; omega
   · split at h <;> first | (cases h; done) | skip
     rename_i cs us' hcs hus'
     cases h
     rw [hps] at hcs; cases hcs
     rw [hus] at hus'; cases hus'
     refine ⟨.agg (cellsSet ve.cells off v.cells.toList), .agg _ _ (by rw [hset]; exact p1.setRange u1) h1, ?_, rfl⟩
     simp only [PV.ncells, setRange, List.length_append, List.length_take, List.length_drop, hpl, hul]
     congr 1; omega
end Go.Pv
namespace Go.Pv
open Go
theorem store_box {P : Program} {S : St} {t : TypeId} {r off k n : Nat} {e x e' : PV} {v a : Value} {K : KV} {res : CV × List CV} (ok : Ok S) (hr : S.H[r]? = some (.box e k)) (ha : Vr S (.bptr r off) a) (hx : Vr S x v) (hn : tySize P t = some n) (hxn : x.ncells = some n) (hle : off + n ≤ ksz k)
   (hw : writePV e (ksz k) off n x = some e') (h : K (.tup []) (S.H.set r (.box e' k)) = some res) :
   ∃ S' , (Instr.storeAt t a v).run P S.w = .ok () S'.w ∧ Good S S' ∧ K (.tup []) S'.H = some res := by
 have hlt : r < S.H.length := (List.getElem?_eq_some_iff.1 hr).1
 obtain ⟨b, cs, T, fr, ve, h1, h2, h3, h4, h5, h6, h7⟩ := ok.ob r _ hr
 cases ha with
 | bptr r t' v' h1' hlt' hb =>
   obtain ⟨b', hb1, rfl⟩ := hb _ _ hr
   rw [h1] at hb1; cases hb1
   have hsz : v.cells.size = n := hx.size hxn
   have hcs : cs.size = ksz k := by rw [← h6]; exact h5.size h4
   obtain ⟨us, hus, _⟩ := PV.cells_of_n hxn
   obtain ⟨w', r1, r2, r3, r4, r5, r6, r7⟩ := run_storeVar (P := P) hn hsz (hx.cells hus).2 h2 h3.1 (by omega : off + n ≤ cs.size)
   obtain ⟨u, hu1, hu2, hu3⟩ := write_ok h5 h4 hx hxn hle hw
   let S' : St := { S with w := w', H := S.H.set r (.box e' k) }
   have T' : Turn S S' r (.box e' k) := by
     refine ⟨hlt, rfl, fun _ _ => rfl, fun _ _ => rfl, .inl rfl, r5, r6, r7, by show _ ≤ w'.heap.size; omega, fun b' _ hb' => r3 b' (fun e => hb' (by rw [e]; exact h1)), rfl, rfl, rfl, ?_, ?_, ?_, ?_⟩
     · intro b' off' v' _ hs
       obtain ⟨xs, k', g, hrow, _⟩ := hs
       rw [hr] at hrow; cases hrow
     · intro e1 k1 he; exact ⟨e, k, hr, rfl⟩
     · intro s p he; cases he
     · intro xs k g s he; cases he
   have E := T'.ext ok
   refine ⟨S', ?_, T'.good ok ⟨b, _, T, fr, u, h1, r2, ?_, hu2, hu1.mono E, ?_, ?_⟩, h⟩
   · simp only [Instr.storeAt, Instr.sureAddr, Sem.run_bind, Sem.run_pure, Result.andThen_ok]
     exact r1
   · rw [cellsSet_size]; exact h3
   · rw [hu3, h6]
   · rw [cellsSet_list _ _ _ (by simp; omega)]
     intro u' hu'
     simp only [setRange, List.mem_append] at hu'
     rcases hu' with (hu' | hu') | hu'
     · exact h7 u' (List.mem_of_mem_take hu')
     · exact (hx.cells hus).2 u' hu'
     · exact h7 u' (List.mem_of_mem_drop hu')
theorem flat_append (xs ys : List CV) : elemCells (xs ++ ys) = elemCells xs ++ elemCells ys := by simp [elemCells]
theorem flat_set {xs : List CV} {i : Nat} {e : CV} (hi : i < xs.length) : elemCells (xs.set i e) = elemCells (xs.take i) ++ e.cl ++ elemCells (xs.drop (i + 1)) := by
 rw [List.set_eq_take_append_cons_drop, if_pos hi, flat_append]
 simp [elemCells]
theorem setRange_get {α : Type} {cs us : List α} {off j : Nat} (h : off + us.length ≤ cs.length) : (setRange cs off us)[j]? = if off ≤ j ∧ j < off + us.length then us[j - off]? else cs[j]? := by
 unfold setRange
 by_cases h2 : j < off
 · rw [if_neg (by omega), List.append_assoc, List.getElem?_append_left (by simp; omega), List.getElem?_take, if_pos h2]
 · by_cases h3 : j < off + us.length
   · rw [if_pos (by omega), List.append_assoc, List.getElem?_append_right (by simp; omega), List.getElem?_append_left (by simp; omega)]
     congr 1; simp; omega
   · rw [if_neg (by omega), List.getElem?_append_right (by simp; omega), List.getElem?_drop]
     congr 1; simp; omega
theorem store_row {P : Program} {S : St} {t : TypeId} {r g i off k n : Nat} {xs : List CV} {u : CV} {v a : Value} (ok : Ok S) (hr : S.H[r]? = some (.row xs k g false)) (ha : Vr S (.rptr r g i off) a) (hx : Vc S u v) (hn : tySize P t = some n) (hxn : u.cl.length = n) (hle : off + n ≤ k) (hi : i < xs.length) :
   ∃ S' , (Instr.storeAt t a v).run P S.w = .ok () S'.w ∧ Good S S' ∧ S'.H = S.H.set r (.row (xs.set i (if off = 0 ∧ n = k then u else .agg (setRange (xs.getD i .nilptr).cl off u.cl))) k g false) := by
 have hlt : r < S.H.length := (List.getElem?_eq_some_iff.1 hr).1
 obtain ⟨h0, hk, hb⟩ := ok.ob r _ hr
 cases ha with
 | rptr r g i t' v' h1' hg hb' =>
   obtain ⟨b, hb1, rfl⟩ := hb' _ _ _ hr
   rcases hb with ⟨a1, _, _⟩ | ⟨b', cs, T, fr, vs, a1, a2, a3, a4, a5, a6, a7, a8⟩
   · rw [a1] at hb1; cases hb1
   rw [a1] at hb1; cases hb1
   have hel : (xs.getD i .nilptr).cl.length = k := hk _ (by simp [List.getD_eq_getElem?_getD, hi])
   obtain ⟨c1, c2⟩ := hx.cells
   have hvn : v.cells.size = n := by have := c1.length; simp at this; omega
   have hik : i * k + k ≤ xs.length * k := by
     have : (i + 1) * k ≤ xs.length * k := Nat.mul_le_mul_right _ hi
     rw [Nat.add_mul] at this; omega
   have hcap : xs.length * k ≤ cs.size := by rw [a4]; exact Nat.mul_le_mul_right _ a5
   have hvl : vs.length = xs.length * k := by rw [← a6.length, flat_len hk]
   obtain ⟨w', r1, r2, r3, r4, r5, r6, r7⟩ := run_storeVar (P := P) hn hvn c2 a2 a3.1 (by omega : i * k + off + n ≤ cs.size)
   generalize he' : (if off = 0 ∧ n = k then u else .agg (setRange (xs.getD i .nilptr).cl off u.cl)) = e'
   have hcl : e'.cl = setRange (xs.getD i .nilptr).cl off u.cl := by
     subst he'
     split
     · rename_i hc
       obtain ⟨rfl, rfl⟩ := hc
       simp only [setRange, List.take_zero, List.nil_append]
       rw [List.drop_of_length_le (by omega), List.append_nil]
     · rfl
   have hcll : e'.cl.length = k := by
     rw [hcl]; simp only [setRange, List.length_append, List.length_take, List.length_drop, hel]; omega
   let S' : St := { S with w := w', H := S.H.set r (.row (xs.set i e') k g false) }
   have T' : Turn S S' r (.row (xs.set i e') k g false) := by
     refine ⟨hlt, rfl, fun _ _ => rfl, fun _ _ => rfl, .inl rfl, r5, r6, r7, by show _ ≤ w'.heap.size; omega, fun b' _ hb' => r3 b' (fun e => hb' (by rw [e]; exact a1)), rfl, rfl, rfl, ?_, ?_, ?_, ?_⟩
     · intro b' off' v' _ hs
       obtain ⟨xs, k', g, hrow, _⟩ := hs
       rw [hr] at hrow; cases hrow
     · intro e1 k1 he; cases he
     · intro s p he; cases he
     · intro xs' k' g' s he
       cases he
       exact ⟨xs, k, g, false, hr, Nat.le_refl _, fun _ => ⟨rfl, by simp, rfl, rfl⟩⟩
   have E := T'.ext ok
   let evs := (vs.drop (i * k)).take k
   have hevs : All2 (Vc S) (xs.getD i .nilptr).cl evs := by rw [← flat_get hk hi]; exact (a6.drop _).take _
   have hel2 : evs.length = k := by rw [← hevs.length, hel]
   let vs' := vs.take (i * k) ++ setRange evs off v.cells.toList ++ vs.drop ((i + 1) * k)
   have hrel : All2 (Vc S) (elemCells (xs.set i e')) vs' := by
     rw [flat_set hi, hcl]
     refine ((?_ : All2 (Vc S) (elemCells (xs.take i)) (vs.take (i * k))).append (hevs.setRange c1)).append ?_
     · rw [flat_take i hk]; exact a6.take _
     · rw [flat_drop (i + 1) hk]; exact a6.drop _
   have hev : ∀ j, evs[j]? = if j < k then vs[i * k + j]? else none := by
     intro j; show ((vs.drop (i * k)).take k)[j]? = _
     rw [List.getElem?_take]; split
     · rw [List.getElem?_drop]
     · rfl
   have hl1 : (vs.take (i * k)).length = i * k := by simp; omega
   have hl2 : (setRange evs off v.cells.toList).length = k := by
     simp only [setRange, List.length_append, List.length_take, List.length_drop, hel2, Array.length_toList]; omega
   refine ⟨S', ?_, T'.good ok ⟨h0, ?_, .inr ⟨b, _, T, fr, vs', a1, r2, ?_, ?_, by simpa using a5, hrel.imp fun _ _ _ h => h.mono E, ?_, ?_⟩⟩, rfl⟩
   · simp only [Instr.storeAt, Instr.sureAddr, Sem.run_bind, Sem.run_pure, Result.andThen_ok]
     exact r1
   · intro y hy
     rcases List.mem_or_eq_of_mem_set hy with hy | rfl
     · exact hk y hy
     · exact hcll
   · rw [cellsSet_size]; exact a3
   · rw [cellsSet_size]; exact a4
   · intro j z hj
     rw [cellsSet_get]
     simp only [Array.length_toList, hvn]
     by_cases q1 : j < i * k
     · rw [if_neg (by omega)]
       refine a7 j z ?_
       have : vs'[j]? = vs[j]? := by
         show (vs.take (i * k) ++ setRange evs off v.cells.toList ++ vs.drop ((i + 1) * k))[j]? = _
         rw [List.append_assoc, List.getElem?_append_left (by omega), List.getElem?_take, if_pos q1]
       rw [← this]; exact hj
     · by_cases q2 : j < i * k + k
       · have : vs'[j]? = (setRange evs off v.cells.toList)[j - i * k]? := by
           show (vs.take (i * k) ++ setRange evs off v.cells.toList ++ vs.drop ((i + 1) * k))[j]? = _
           rw [List.append_assoc, List.getElem?_append_right (by omega), List.getElem?_append_left (by omega), hl1]
         rw [this, setRange_get (by simp; omega)] at hj
         simp only [Array.length_toList, hvn] at hj
         by_cases q3 : off ≤ j - i * k ∧ j - i * k < off + n
         · rw [if_pos q3] at hj
           rw [if_pos (by omega), show j - (i * k + off) = j - i * k - off by omega]
           exact hj
         · rw [if_neg q3, hev, if_pos (by omega), show i * k + (j - i * k) = j by omega] at hj
           rw [if_neg (by omega)]; exact a7 j z hj
       · have : vs'[j]? = vs[j]? := by
           show (vs.take (i * k) ++ setRange evs off v.cells.toList ++ vs.drop ((i + 1) * k))[j]? = _
           rw [List.getElem?_append_right (by rw [List.length_append]; omega), List.getElem?_drop, List.length_append, hl1, hl2]
           congr 1; rw [Nat.add_mul]; omega
         rw [if_neg (by omega)]
         exact a7 j z (by rw [← this]; exact hj)
   · intro z hz
     simp only [vs', List.mem_append] at hz
     rcases hz with (hz | hz) | hz
     · exact a8 z (List.mem_of_mem_take hz)
     · simp only [setRange, List.mem_append] at hz
       rcases hz with (hz | hz) | hz
       · exact a8 z (List.mem_of_mem_drop (List.mem_of_mem_take (List.mem_of_mem_take hz)))
       · exact c2 z hz
       · exact a8 z (List.mem_of_mem_drop (List.mem_of_mem_take (List.mem_of_mem_drop hz)))
     · exact a8 z (List.mem_of_mem_drop hz)
theorem store_ok {P : Program} {S : St} {t : TypeId} {a x : PV} {va v : Value} {K : KV} {res : CV × List CV} (ok : Ok S) (ha : Vr S a va) (hx : Vr S x v) (h : store' P t a x S.H K = some res) :
   ∃ S', (Instr.storeAt t va v).run P S.w = .ok () S'.w ∧ Good S S' ∧ K (.tup []) S'.H = some res := by
 unfold store' at h
 split at h <;> first | (cases h; done) | skip
 rename_i n m hn hm
 have hh := bif_true h
 clear h
 obtain ⟨hnm, h⟩ := hh
 obtain rfl : n = m := by simpa using hnm
 split at h <;> first | (cases h; done) | skip
 · rename_i r off
   split at h <;> first | (cases h; done) | skip
   rename_i e k hr
   obtain ⟨hle, h⟩ := bif_true h
   have hle : off + n ≤ ksz k := of_decide_eq_true hle
   split at h <;> first | (cases h; done) | skip
   rename_i e' hw
   exact store_box ok hr ha hx hn hm hle hw h
 · rename_i r g i off
   split at h <;> first | (cases h; done) | skip
   rename_i u H1 hc
   obtain ⟨S1, e1, M, hu⟩ := closeVal_ok ok hx hc
   subst e1
   split at h <;> first | (cases h; done) | skip
   rename_i xs k hr0
   have hr := getRow_some hr0
   split at h <;> first | (cases h; done) | skip
   rename_i hle
   obtain ⟨hi, h⟩ := bif_true h
   have hi : i < xs.length := by simpa using hi
   have hul : u.cl.length = n := by
     rw [hu.cells.1.length]; simp; exact hx.size hm
   obtain ⟨S2, s1, s2, s3⟩ := store_row (P := P) M.good.ok hr (ha.mono M.good.ext) hu hn hul hle hi
   rw [M.w] at s1
   exact ⟨S2, s1, M.good.trans s2, by rw [s3]; exact h⟩
end Go.Pv
namespace Go.Pv
open Go
theorem fold_set (off : Nat) : ∀ (vs : List Value) (i : Nat) (cs : Array Value), (vs.zipIdx i).foldl (fun cs (x : Value × Nat) => cs.setIfInBounds (off + x.2) x.1) cs = cellsSet cs (off + i) vs
 | [], i, cs => rfl
 | v :: vs, i, cs => by
   simp only [List.zipIdx_cons, List.foldl_cons, cellsSet]
   rw [fold_set off vs (i + 1), Nat.add_assoc]
theorem fill_cons {place : Nat → Option (Nat × Nat)} {cells : Array Value} {i off n : Nat} {v : Value} {rest : List (Nat × Value)} (hp : place i = some (off, n)) (hs : v.cells.size = n) (hl : off + n ≤ cells.size) :
   Instr.fill place cells ((i, v) :: rest) = Instr.fill place (cellsSet cells off v.cells.toList) rest := by
 simp only [Instr.fill, hp]
 rw [if_neg (by simp [hs]; omega)]
 congr 1
 have := fold_set off v.cells.toList 0 cells
 rw [Nat.add_zero] at this
 rw [← this, ← Array.foldl_toList]
 simp
def PartsR (S : St) : List (Nat × PV) → List (Nat × Value) → Prop := All2 fun a b => a.1 = b.1 ∧ Vr S a.2 b.2
theorem fillC_ok {S : St} {place : Nat → Option (Nat × Nat)} : ∀ {ps : List (Nat × PV)} {vs : List (Nat × Value)} {cs cs' : List CV} {cells : Array Value} {b : Bool}, PartsR S ps vs → fillC place ps cs = some (b, cs') → b = true → All2 (Vc S) cs cells.toList → (∀ u ∈ cells.toList, u.oneCell' = true) →
   ∃ cells', Instr.fill place cells vs = some cells' ∧ All2 (Vc S) cs' cells'.toList ∧ (∀ u ∈ cells'.toList, u.oneCell' = true)
 | [], vs, cs, cs', cells, b, hp, h, hb, hc, h1 => by
   cases hp
   simp [fillC] at h
   exact ⟨cells, rfl, by rw [← h.2]; exact hc, h1⟩
 | (i, p) :: ps, vs, cs, cs', cells, b, hp, h, hb, hc, h1 => by
   cases hp with
   | cons h2 h3 =>
     rename_i q vs
     obtain ⟨j, v⟩ := q
     obtain ⟨e, hv⟩ := h2
     simp only at e hv; subst e
     cases p with
     | c x =>
       simp only [fillC] at h
       split at h <;> first | (cases h; done) | skip
       rename_i off n hpl
       split at h <;> first | (cases h; done) | skip
       rename_i b' cs'' hf
       split at h <;> first | (cases h; done) | skip
       rename_i hle
       cases h
       simp only [Bool.and_eq_true, beq_iff_eq] at hb
       obtain ⟨c1, c2⟩ := (c_of hv).cells
       have hn : v.cells.size = n := by have := c1.length; simp at this; omega
       have hcl := hc.length
       simp at hcl
       have hl : off + n ≤ cells.size := by omega
       have hset := cellsSet_list v.cells.toList cells off (by simp; omega)
       obtain ⟨cells', f1, f2, f3⟩ := fillC_ok (cells := cellsSet cells off v.cells.toList) h3 hf hb.2 (by rw [hset]; exact hc.setRange c1) (by
         intro u hu
         rw [hset] at hu
         simp only [setRange, List.mem_append] at hu
         rcases hu with (hu | hu) | hu
         · exact h1 u (List.mem_of_mem_take hu)
         · exact c2 u hu
         · exact h1 u (List.mem_of_mem_drop hu))
       exact ⟨cells', by rw [fill_cons hpl hn hl]; exact f1, f2, f3⟩
     | _ => simp [fillC] at h
theorem fillP_ok {S : St} {place : Nat → Option (Nat × Nat)} : ∀ {ps : List (Nat × PV)} {vs : List (Nat × Value)} {cs cs' : List PV} {cells : Array Value} {b : Bool}, PartsR S ps vs → fillP place ps cs = some (b, cs') → b = true → All2 (Vr S) cs cells.toList → (∀ u ∈ cells.toList, u.oneCell' = true) →
   ∃ cells', Instr.fill place cells vs = some cells' ∧ All2 (Vr S) cs' cells'.toList ∧ (∀ u ∈ cells'.toList, u.oneCell' = true)
 | [], vs, cs, cs', cells, b, hp, h, hb, hc, h1 => by
   cases hp
   simp [fillP] at h
   exact ⟨cells, rfl, by rw [← h.2]; exact hc, h1⟩
 | (i, p) :: ps, vs, cs, cs', cells, b, hp, h, hb, hc, h1 => by
   cases hp with
   | cons h2 h3 =>
     rename_i q vs
     obtain ⟨j, v⟩ := q
     obtain ⟨e, hv⟩ := h2
     simp only at e hv; subst e
     simp only [fillP] at h
     split at h <;> first | (cases h; done) | skip
     rename_i off n us hpl hus
     split at h <;> first | (cases h; done) | skip
     rename_i b' cs'' hf
     split at h <;> first | (cases h; done) | skip
     rename_i hle
     cases h
     simp only [Bool.and_eq_true, beq_iff_eq] at hb
     obtain ⟨c1, c2⟩ := hv.cells hus
     have hn : v.cells.size = n := by have := c1.length; simp at this; omega
     have hcl := hc.length
     simp at hcl
     have hl : off + n ≤ cells.size := by omega
     have hset := cellsSet_list v.cells.toList cells off (by simp; omega)
     obtain ⟨cells', f1, f2, f3⟩ := fillP_ok (cells := cellsSet cells off v.cells.toList) h3 hf hb.2 (by rw [hset]; exact hc.setRange c1) (by
       intro u hu
       rw [hset] at hu
       simp only [setRange, List.mem_append] at hu
       rcases hu with (hu | hu) | hu
       · exact h1 u (List.mem_of_mem_take hu)
       · exact c2 u hu
       · exact h1 u (List.mem_of_mem_drop hu))
     exact ⟨cells', by rw [fill_cons hpl hn hl]; exact f1, f2, f3⟩
theorem run_places {P : Program} {w : World} : ∀ (fs : List Field) (l : List (Nat × Nat)), fieldPlaces P fs = some l → (fs.mapM (fun f => do pure (f.offset, ← Go.sizeOf f.type) : Field → Sem (Nat × Nat))).run P w = .ok l w
 | [], l, h => by simp [fieldPlaces] at h; subst h; simp
 | f :: fs, l, h => by
   simp only [fieldPlaces] at h
   split at h <;> first | (cases h; done) | skip
   rename_i n l' hn hl
   cases h
   simp only [List.mapM_cons, Sem.run_bind, run_size hn, Result.andThen_ok, Sem.run_pure, run_places fs l' hl]
theorem build_ok {P : Program} {S : St} {t : TypeId} {ps : List (Nat × PV)} {vs : Array (Nat × Value)} {K : KV} {res : CV × List CV} (ok : Ok S) (hp : PartsR S ps vs.toList) (h : build' P t ps S.H K = some res) : Does P (Instr.build t vs) S K res := by
 unfold build' at h
 split at h <;> first | (cases h; done) | skip
 rename_i z place hz hpl
 obtain ⟨zv, hz1, hz2⟩ := run_zero hz
 obtain ⟨z1, z2⟩ := (hz2 S).cells
 have fin : ∀ (cells : Array Value), Instr.fill place zv.cells vs.toList = some cells → (Instr.build t vs).run P S.w = .ok (.agg cells) S.w := by
   intro cells hf
   unfold placeOf at hpl
   split at hpl <;> first | (cases hpl; done) | skip
   · rename_i fs hu
     split at hpl <;> first | (cases hpl; done) | skip
     rename_i l hl
     cases hpl
     have hm : (fs.mapM (fun f => do pure (f.offset, ← Go.sizeOf f.type) : Field → Sem (Nat × Nat))).run P S.w = .ok l.toArray S.w := by
       rw [Array.mapM_eq_mapM_toList]
       simp only [Sem.run_map, run_places _ _ hl, Result.andThen_ok]
     simp only [Instr.build, Sem.run_bind, hz1, Result.andThen_ok, run_underlying hu, hm]
     have e : (fun (i : Nat) => l.toArray[i]?) = fun (i : Nat) => l[i]? := by funext i; simp
     rw [e, hf]; rfl
   · rename_i n e hu
     split at hpl <;> first | (cases hpl; done) | skip
     rename_i n hn
     cases hpl
     simp only [Instr.build, Sem.run_bind, hz1, Result.andThen_ok, run_underlying hu, run_size hn]
     rw [hf]; rfl
 split at h
 · split at h <;> first | (cases h; done) | skip
   rename_i b cs hf
   obtain ⟨hb, h⟩ := bif_true h
   obtain ⟨cells', f1, f2, f3⟩ := fillC_ok hp hf hb z1 z2
   exact .same ok (fin _ f1) (.c (.agg _ _ f2 f3)) h
 · split at h <;> first | (cases h; done) | skip
   rename_i b cs hf
   obtain ⟨hb, h⟩ := bif_true h
   obtain ⟨cells', f1, f2, f3⟩ := fillP_ok hp hf hb (Vr.ofcl z1) z2
   exact .same ok (fin _ f1) (.agg _ _ f2 f3) h
theorem new_rowG {S : St} (ok : Ok S) (g0 : Nat) {xs : List CV} {k cap : Nat} {vs : List Value} {cs : Array Value} {T : TypeId} {fr : Nat × Nat} (hk0 : 0 < k) (hk : ∀ e ∈ xs, e.cl.length = k) (hvs : All2 (Vc S) (elemCells xs) vs) (h1 : ∀ u ∈ vs, u.oneCell' = true)
   (hcs : ∀ (j : Nat) (v : Value), vs[j]? = some v → cs[j]? = some v) (hsz : cs.size = cap * k) (hcap : xs.length ≤ cap) (hfr : unfrozen fr cs.size) (hT : gty g0 = 0 ∨ T + 1 = gty g0) :
   Good S (S.push (.cells cs T fr) (.row xs k g0 false) cap) ∧ Vr (S.push (.cells cs T fr) (.row xs k g0 false) cap) (.rw S.H.length g0) (.slice (some ⟨S.w.heap.size, 0, none⟩) xs.length cap) := by
 have E := push_ext ok (.cells cs T fr) (.row xs k g0 false) cap
 have G := push_good ok (.cells cs T fr) (.row xs k g0 false) cap ⟨hk0, hk, .inr ⟨S.w.heap.size, cs, T, fr, vs, by simp [St.push], heap_alloc_new, ⟨hfr, hT⟩, by simp [St.push]; exact hsz, by simp [St.push]; exact hcap, hvs.imp fun _ _ _ h => h.mono E, hcs, h1⟩⟩
 refine ⟨G, .rw _ _ _ rfl ⟨by simp [St.push], fun xs' k' g' s' hr => by
   have hr' : (S.H ++ [AO.row xs k g0 false])[S.H.length]? = some (.row xs' k' g' s') := hr
   simp at hr'
   omega⟩ fun xs' k' s' hr => ?_⟩
 have hr' : (S.H ++ [AO.row xs k g0 false])[S.H.length]? = some (.row xs' k' g0 s') := hr
 simp at hr'
 obtain ⟨rfl, rfl, rfl⟩ := hr'
 exact .inl ⟨S.w.heap.size, ⟨S.w.heap.size, 0, none⟩, by simp [St.push], by simp [St.push], fun _ => by simp⟩
theorem new_row {S : St} (ok : Ok S) {xs : List CV} {k cap : Nat} {vs : List Value} {cs : Array Value} {T : TypeId} {fr : Nat × Nat} (hk0 : 0 < k) (hk : ∀ e ∈ xs, e.cl.length = k) (hvs : All2 (Vc S) (elemCells xs) vs) (h1 : ∀ u ∈ vs, u.oneCell' = true)
   (hcs : ∀ (j : Nat) (v : Value), vs[j]? = some v → cs[j]? = some v) (hsz : cs.size = cap * k) (hcap : xs.length ≤ cap) (hfr : unfrozen fr cs.size) :
   Good S (S.push (.cells cs T fr) (.row xs k 0 false) cap) ∧ Vr (S.push (.cells cs T fr) (.row xs k 0 false) cap) (.rw S.H.length 0) (.slice (some ⟨S.w.heap.size, 0, none⟩) xs.length cap) := new_rowG ok 0 hk0 hk hvs h1 hcs hsz hcap hfr (.inl rfl)
theorem get_flatten {l : List Value} {k : Nat} (hl : l.length = k) (hk : 0 < k) : ∀ (n j : Nat), ((List.replicate n l).flatten)[j]? = if j < n * k then l[j % k]? else none
 | 0, j => by simp
 | n + 1, j => by
   rw [List.replicate_succ, List.flatten_cons]
   by_cases h : j < k
   · rw [List.getElem?_append_left (by omega), if_pos (by rw [Nat.add_mul]; omega), Nat.mod_eq_of_lt h]
   · rw [List.getElem?_append_right (by omega), hl, get_flatten hl hk n (j - k)]
     have e : j % k = (j - k) % k := by rw [Nat.mod_eq_sub_mod (by omega)]
     by_cases h2 : j - k < n * k
     · rw [if_pos h2, if_pos (by rw [Nat.add_mul]; omega), e]
     · rw [if_neg h2, if_neg (by rw [Nat.add_mul]; omega)]
theorem All2.flat_rep {S : St} {z : CV} {l : List Value} (h : All2 (Vc S) z.cl l) : ∀ n, All2 (Vc S) (elemCells (List.replicate n z)) (List.replicate n l).flatten
 | 0 => .nil
 | n + 1 => by
   show All2 (Vc S) (z.cl ++ elemCells (List.replicate n z)) (l ++ (List.replicate n l).flatten)
   exact h.append (All2.flat_rep h n)
theorem wrap_id {n : Int} (h0 : 0 ≤ n) (h1 : n ≤ 9223372036854775807) : IntKind.i64.wrap n = n := by
 have e1 : (2 ^ IntKind.i64.bits : Int) = 18446744073709551616 := by decide
 have e2 : (2 ^ (IntKind.i64.bits - 1) : Int) = 9223372036854775808 := by decide
 simp only [IntKind.wrap, e1, e2]
 rw [Int.emod_eq_of_lt h0 (by omega), if_neg (by simp; omega)]
theorem makeSlice_ok {P : Program} {S : St} {t : TypeId} {l c : PV} {vl vc : Value} {K : KV} {res : CV × List CV} (ok : Ok S) (hl : Vr S l vl) (hc : Vr S c vc) (h : makeSlice' P t l c S.H K = some res) : Does P (Instr.makeSlice t vl vc) S K res := by
 unfold makeSlice' at h
 split at h <;> first | (cases h; done) | skip
 rename_i e l c hu
 obtain rfl := int_of hl
 obtain rfl := int_of hc
 split at h <;> first | (cases h; done) | skip
 rename_i z n b hz hn hb
 split at h <;> first | (cases h; done) | skip
 rename_i hzn
 obtain ⟨hzn, hn0, hb0⟩ := hzn
 obtain ⟨q0, h⟩ := bif_true h
 obtain ⟨q1, h⟩ := bif_true h
 obtain ⟨q2, h⟩ := bif_true h
 have q0 : 0 ≤ l := by simpa using q0
 have q1 : l ≤ c := by simpa using q1
 have q2 : (b : Int) * c ≤ 281474976710656 := of_decide_eq_true q2
 have hc0 : c ≤ (b : Int) * c := by
   have h1 : (1 : Int) * c ≤ b * c := Int.mul_le_mul_of_nonneg_right (by omega) (by omega)
   omega
 obtain ⟨zv, hz1, hz2⟩ := run_zero hz
 obtain ⟨z1, z2⟩ := (hz2 S).cells
 have hzs : zv.cells.size = n := by have := z1.length; simp at this; omega
 obtain ⟨i, _, hbi, hti⟩ := run_bytes hb
 have wl : IntKind.i64.wrap l = l := wrap_id q0 (by omega)
 have wc : IntKind.i64.wrap c = c := wrap_id (by omega) (by omega)
 let cs : Array Value := (Array.range (c.toNat * n)).map (zv.cells[· % zv.cells.size]!)
 have hcs : ∀ j, cs[j]? = if j < c.toNat * n then zv.cells[j % n]? else none := by
   intro j
   simp only [cs, Array.getElem?_map, Array.getElem?_range, hzs]
   split
   · have : j % n < zv.cells.size := by rw [hzs]; exact Nat.mod_lt _ hn0
     simp [this]
   · rfl
 have hln : l.toNat ≤ c.toNat := by omega
 have hlen : (List.replicate l.toNat z).length = l.toNat := List.length_replicate
 obtain ⟨G, hp⟩ := new_row (T := e) (fr := (0, 0)) (cap := c.toNat) ok hn0 (xs := List.replicate l.toNat z) (fun x hx => by rw [List.eq_of_mem_replicate hx]; exact hzn) (All2.flat_rep z1 l.toNat) (cs := cs)
   (by
     intro u hu
     rw [List.mem_flatten] at hu
     obtain ⟨l', h1, h2⟩ := hu
     rw [List.eq_of_mem_replicate h1] at h2
     exact z2 u h2)
   (by
     intro j v hj
     rw [get_flatten (by simpa using hzs) hn0] at hj
     split at hj <;> first | (cases hj; done) | skip
     rename_i hjl
     have : l.toNat * n ≤ c.toNat * n := Nat.mul_le_mul_right _ hln
     rw [hcs, if_pos (by omega)]
     simpa using hj)
   (by simp [cs]) (by rw [hlen]; exact hln) (unfrozen_none _)
 rw [hlen] at hp
 refine ⟨_, _, _, ?_, G, hp, h⟩
 simp only [Instr.makeSlice, Sem.run_bind, run_underlying hu, Result.andThen_ok, asInt, asIntOf, Sem.run_pure, hti, wl, wc, hbi]
 rw [if_neg (by simp; omega)]
 simp only [run_askRoom, Sem.run_bind, Result.andThen_ok, run_size hn]
 by_cases h0 : c.toNat * n = 0
 · rw [if_pos h0]
   have hcs' : (Array.range (c.toNat * n)).map ((#[] : Array Value)[· % (#[] : Array Value).size]!) = cs := by simp [cs, h0]
   simp only [Sem.run_bind, Sem.run_pure, Result.andThen_ok, newRow, run_newObj, hcs']
   rfl
 · rw [if_neg h0]
   simp only [Sem.run_bind, hz1, Sem.run_pure, Result.andThen_ok, newRow, run_newObj]
   rfl
end Go.Pv
namespace Go.Pv
open Go
def SrcAt (P : Program) (w : World) (n : Nat) (ys : List CV) (v : Value) (vs : List Value) : Prop :=
 (∀ w', (∀ a, w.cell? a = w'.cell? a) → (Builtin.firstCells n ys.length v).run P w' = .ok vs.toArray w') ∧ (Builtin.lenOf v).run P w = .ok ys.length w
theorem bytes_flat (s : ByteArray) : elemCells (strBytes s) = strBytes s := by
 unfold strBytes elemCells
 induction s.data.toList with
 | nil => rfl
 | cons b l ih => simp only [List.map_cons, List.flatMap_cons, ih]; rfl
theorem bytes_len (s : ByteArray) : (strBytes s).length = s.size := by simp [strBytes]
theorem bytes_rel (S : St) (s : ByteArray) : All2 (Vc S) (strBytes s) (s.data.toList.map fun b => Value.int .u8 b.toNat) := by
 unfold strBytes
 induction s.data.toList with
 | nil => exact .nil
 | cons b l ih => exact .cons (.int _ _) ih
theorem src_ok {P : Program} {S : St} (ok : Ok S) {p : PV} {v : Value} {k n : Nat} {ys : List CV} (hv : Vr S p v) (h : srcOf p S.H = some (k, ys)) (hkn : k = n ∨ ys = []) :
   ∃ vs, SrcAt P S.w n ys v vs ∧ (∀ e ∈ ys, e.cl.length = n) ∧ All2 (Vc S) (elemCells ys) vs ∧ (∀ u ∈ vs, u.oneCell' = true) := by
 unfold srcOf at h
 split at h
 · rename_i s
   simp only [Option.some.injEq, Prod.mk.injEq] at h
   obtain ⟨rfl, rfl⟩ := h
   obtain rfl := str_of hv
   have hlen := bytes_len s
   refine ⟨s.data.toList.map fun b => Value.int .u8 b.toNat, ⟨fun w' _ => ?_, by simp [Builtin.lenOf, hlen]⟩, ?_, by rw [bytes_flat]; exact bytes_rel S s, ?_⟩
   · simp only [Builtin.firstCells, hlen, Sem.run_pure]
     congr 1
     apply Array.ext'
     simp
   · rcases hkn with rfl | h0
     · intro e he
       simp only [strBytes, List.mem_map] at he
       obtain ⟨b, _, rfl⟩ := he; rfl
     · rw [h0]; simp
   · intro u hu
     simp only [List.mem_map] at hu
     obtain ⟨b, _, rfl⟩ := hu; rfl
 · obtain ⟨base, cap, vs, rfl, h1, h2, h3, h4, h5⟩ := elemsOf_ok ok hv h
   have h1' : ∀ e ∈ ys, e.cl.length = n := by
     rcases hkn with rfl | h0
     · exact h1
     · rw [h0]; simp
   refine ⟨vs, ⟨fun w' hw => ?_, by simp [Builtin.lenOf]⟩, h1', h2, h3⟩
   have hl : vs.length = ys.length * n := by rw [← h2.length, flat_len h1']
   cases base with
   | none =>
     have := h5 rfl
     subst this
     have : vs = [] := by cases vs with | nil => rfl | cons _ _ => simp at hl
     subst this
     simp [Builtin.firstCells]
   | some a => exact run_firstCells_some w' n ys.length a _ cap vs hl fun j u hu => by rw [← hw]; exact h4 a rfl j u hu
section
variable {P : Program} {t ty e u : TypeId} {n b : Nat} {zv : Value}
theorem run_fit {w : World} {base : Option Addr} {sLen sCap : Nat} {ys : List CV} {v : Value} {vs : List Value} (ht : P.underlying t = some (.slice e)) (hn : tySize P e = some n) (hu : ∃ d, P.underlying u = some d ∧ ∀ k, d ≠ .int k)
   (hs : SrcAt P w n ys v vs) (hf : sLen + ys.length ≤ sCap) {w' : World} (hst : ∀ a, base = some a → (storeCells (a.add (sLen * n)) vs).run P w = .ok () w') (hno : base = none → w' = w) :
   (Builtin.append_ #[t, u] ty #[.slice base sLen sCap, v]).run P w = .ok (.slice base (sLen + ys.length) sCap) w' := by
 obtain ⟨d, h1, h2⟩ := hu
 have h3 := hs.1 w fun _ => rfl
 cases base with
 | none =>
   obtain rfl := hno rfl
   simp [Builtin.append_, run_underlying ht, run_size hn, run_underlying h1, hs.2, hf, h3]
 | some a =>
   have := hst a rfl
   simp [Builtin.append_, run_underlying ht, run_size hn, run_underlying h1, hs.2, hf, h3, this]
theorem run_grow {w : World} {base : Option Addr} {sLen sCap : Nat} {ys : List CV} {v : Value} {vs olds : List Value} (ht : P.underlying t = some (.slice e)) (hn : tySize P e = some n) (hb : tyBytes P e = some b) (hu : ∃ d, P.underlying u = some d ∧ ∀ k, d ≠ .int k)
   (hz : ∀ w, (zeroValue e).run P w = .ok zv w) (hs : SrcAt P w n ys v vs) (hg : sCap < sLen + ys.length) (hb0 : 0 < b) (hfit : (sLen + ys.length) * b ≤ 70368744177664)
   (hold : ∀ w', (∀ a, w.cell? a = w'.cell? a) → (Builtin.firstCells n sLen (.slice base sLen sCap)).run P w' = .ok olds.toArray w') :
   (Builtin.append_ #[t, u] ty #[.slice base sLen sCap, v]).run P w = .ok (.slice (some ⟨w.heap.size, 0, none⟩) (sLen + ys.length) (grownCap w (sLen + ys.length) sCap e))
     (w.drew.alloc (.cells (olds.toArray ++ vs.toArray ++ Builtin.zeroCells zv.cells (grownCap w (sLen + ys.length) sCap e - (sLen + ys.length))) e)) := by
 obtain ⟨d, h1, h2⟩ := hu
 obtain ⟨i, hi, hbi, hti⟩ := run_bytes hb
 have hle : sLen + ys.length ≤ (sLen + ys.length) * b := Nat.le_mul_of_pos_right _ hb0
 have hn' : ¬ (sLen + ys.length ≤ sCap) := by omega
 have h63 : ¬ (9223372036854775807 < ((sLen : Int) + (ys.length : Int))) := by omega
 have h48 : ¬ (281474976710656 < Builtin.nextslicecap (sLen + ys.length) sCap * b) := by
   have := growslice_fits (bytes := b) hg (by omega)
   omega
 have h3 := hs.1 w.drew fun _ => rfl
 have h4 := hold w.drew fun _ => rfl
 simp [Builtin.append_, run_underlying ht, run_size hn, run_underlying h1, hs.2, hn', hti, hbi, h63, h48, Question.forced, h3, h4, hz, newRow, grownCap]
 congr 2
 apply Array.ext'
 simp [List.append_assoc]
theorem zero_cells {z : Array Value} {k m : Nat} (hz : z.size = k) : (Builtin.zeroCells z m).size = m * k := by
 simp [Builtin.zeroCells, hz]
theorem grown_cells {S : St} {xs ys : List CV} {vx vy : List Value} {Z : Array Value} {j : Nat} {v : Value} (h : (vx ++ vy)[j]? = some v) : (vx.toArray ++ vy.toArray ++ Z)[j]? = some v := by
 have hlt : j < (vx ++ vy).length := (List.getElem?_eq_some_iff.1 h).1
 rw [Array.getElem?_append_left (by simpa using hlt)]
 simpa using h
theorem append_new {K : KV} {res : CV × List CV} {S : St} (ok : Ok S) (g0 : Nat) (hT : gty g0 = 0 ∨ e + 1 = gty g0) {xs ys : List CV} {vx vy : List Value} {base : Option Addr} {sLen sCap : Nat} {v : Value} (ht : P.underlying t = some (.slice e)) (hn : tySize P e = some n) (hb : tyBytes P e = some b) (hu : ∃ d, P.underlying u = some d ∧ ∀ k, d ≠ .int k)
   {z : CV} (hz : tyZero P e = some z) (hzn : z.cl.length = n) (hn0 : 0 < n) (hb0 : 0 < b) (hs : SrcAt P S.w n ys v vy) (hg : sCap < sLen + ys.length) (hfit : (sLen + ys.length) * b ≤ 70368744177664) (hlen : xs.length = sLen)
   (hx : ∀ e ∈ xs, e.cl.length = n) (hy : ∀ e ∈ ys, e.cl.length = n) (rx : All2 (Vc S) (elemCells xs) vx) (ry : All2 (Vc S) (elemCells ys) vy) (ox : ∀ u ∈ vx, u.oneCell' = true) (oy : ∀ u ∈ vy, u.oneCell' = true)
   (hold : ∀ w', (∀ a, S.w.cell? a = w'.cell? a) → (Builtin.firstCells n sLen (.slice base sLen sCap)).run P w' = .ok vx.toArray w')
   (h : K (.rw S.H.length g0) (S.H ++ [.row (xs ++ ys) n g0 false]) = some res) :
   Does P (Builtin.append_ #[t, u] ty #[.slice base sLen sCap, v]) S K res := by
 obtain ⟨zv, hz1, hz2⟩ := run_zero hz
 have hzs : zv.cells.size = n := by have := (hz2 S).cells.1.length; simp at this; omega
 have hrun := run_grow (ty := ty) ht hn hb hu hz1 hs hg hb0 hfit hold
 have hge := grownCap_ge S.w (sLen + ys.length) sCap e
 have hrel : All2 (Vc S) (elemCells (xs ++ ys)) (vx ++ vy) := by rw [flat_append]; exact rx.append ry
 have hxy : ∀ e ∈ xs ++ ys, e.cl.length = n := by
   intro e he
   rcases List.mem_append.1 he with he | he
   · exact hx e he
   · exact hy e he
 have hvl : (vx ++ vy).length = (sLen + ys.length) * n := by
   rw [← hrel.length, flat_len hxy, List.length_append, hlen]
 have D := drawn_good ok (S.w.drawn + 1)
 obtain ⟨G, hp⟩ := new_rowG (T := e) (fr := (0, 0)) (cap := grownCap S.w (sLen + ys.length) sCap e) D.ok g0 hn0 hxy (hrel.imp fun _ _ _ h => h.mono D.ext)
   (cs := vx.toArray ++ vy.toArray ++ Builtin.zeroCells zv.cells (grownCap S.w (sLen + ys.length) sCap e - (sLen + ys.length)))
   (by intro u hu; rcases List.mem_append.1 hu with hu | hu; exact ox u hu; exact oy u hu)
   (fun j u hj => grown_cells (S := S) (xs := xs) (ys := ys) hj)
   (by
     have e1 : (vx.toArray ++ vy.toArray).size = (sLen + ys.length) * n := by rw [← hvl]; simp
     rw [Array.size_append, zero_cells hzs, e1, ← Nat.add_mul]
     congr 1; omega)
   (by rw [List.length_append, hlen]; exact hge) (unfrozen_none _) hT
 refine ⟨_, _, _, ?_, D.trans G, hp, h⟩
 rw [hrun, List.length_append, hlen]
 rfl
end
end Go.Pv
