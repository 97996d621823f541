/- An interpreter of the model's code over pure abstract values: what a Go function comes to, without memory addresses, capacities and orders. Plain definitions. -/
import Derived.Orders
import Derived.Lib.Bytealg
import Derived.KernelRfl
import GoSem.Core.Utf8
set_option linter.unusedVariables false
namespace Go.Pv
open Go

/-- Closed values: data without a place in memory. 'sl own full k xs': a slice of elements of k cells; own: nobody else writes to it or reads it; full: its capacity is its length. 'aggO': a struct of which a part is owned. 'boxv': a variable that a pointer leads to. -/
inductive CV where
  | bool (b : Bool)
  | int (k : IntKind) (n : Int)
  | str (s : ByteArray)
  | agg (cs : List CV)
  | aggO (cs : List CV)
  | sl (own full : Bool) (k : Nat) (xs : List CV)
  | nilsl
  | boxv (k : Nat) (e : CV)
  | nilptr
  | fn (f : FuncId) (caps : List CV)
  | nilfn
  | err
  | nilif
  | tup (vs : List CV)
  deriving Inhabited

def CV.cl : CV → List CV
  | .agg cs => cs
  | v => [v]

/-- Values while a function runs: handles of what it owns, beside closed values. -/
inductive PV where
  | undef
  | c (v : CV)
  | agg (cs : List PV)
  | rw (r g : Nat)
  | row (r g off len : Nat)
  | bptr (r t : Nat)
  | rptr (r g i t : Nat)
  | ro (cs : List CV)
  | fn (f : FuncId) (caps : List PV)
  | iter (r : Nat)
  | tup (vs : List PV)
  deriving Inhabited

/-- What a function owns: a variable; the array of a slice; an iterator over a string; nothing any more. -/
inductive AO where
  | box (e : PV) (k : Nat)
  | row (xs : List CV) (k : Nat) (gen : Nat) (sealed : Bool)
  | iter (s : ByteArray) (pos : Nat)
  | dead
  deriving Inhabited

abbrev Hp := List AO
abbrev Res := Option (CV × List CV)
abbrev Env := List PV
/-- What is known of callees: the first of some cases whose condition holds: the result, and what the variables that were handed over then hold. -/
abbrev Alts := List (Bool × CV × List CV)
abbrev Fn1 := List CV → Option Alts
abbrev Table := FuncId → Fn1
def pickAlt : Alts → Option (CV × List CV)
  | [] => none
  | (b, rv, outs) :: l => match b with
    | true => some (rv, outs)
    | false => pickAlt l
def picked : Option Alts → Option (CV × List CV)
  | none => none
  | some l => pickAlt l

/-! ### Numbers that bear a type -/
/-- How many cells a variable has; one more than its type's number, where that is known: both stand in one number. -/
def ksz (k : Nat) : Nat := k % 4294967296
def kty (k : Nat) : Nat := k / 4294967296
def kOf (n t : Nat) : Nat := n + 4294967296 * (t + 1)
/-- One more than the number of the type of an array's elements, where that is known: it stands in the array's count of turns. -/
def gty (g : Nat) : Nat := g / 1099511627776
def gOf (t : Nat) : Nat := 1099511627776 * (t + 1)
def gok (t g : Nat) : Bool := Nat.beq (gty (g + 1)) (gty g) && (Nat.beq (gty g) 0 || Nat.beq (gty g) (t + 1))

inductive Ex where
  | normal
  | exit (id : Nat)
  | ret

def bif' {α : Type} (b : Bool) (x y : Option α) : Option α :=
  match b with
  | true => x
  | false => y

/-! ### Values of the code's text -/
def ofCell : Value → Option CV
  | .bool b => some (.bool b)
  | .int k n => some (.int k n)
  | .string s => some (.str s)
  | .pointer none => some .nilptr
  | .slice none 0 0 => some .nilsl
  | .nilFunc => some .nilfn
  | .nilIface => some .nilif
  | _ => none

def ofCells : List Value → Option (List CV)
  | [] => some []
  | v :: vs => match ofCell v, ofCells vs with
    | some x, some xs => some (x :: xs)
    | _, _ => none

def ofVal : Value → Option CV
  | .agg cs => match ofCells cs.toList with
    | some xs => some (.agg xs)
    | none => none
  | v => ofCell v

def evl (env : Env) : Operand → PV
  | .tmp t => env.getD t .undef
  | .const v => match ofVal v with
    | some x => .c x
    | none => .undef
  | .func f => .fn f []
  | .global _ => .undef

/-! ### Types -/
def tySize (P : Program) (t : TypeId) : Option Nat := (P.info? t).map (·.size)
def tyBytes (P : Program) (t : TypeId) : Option Nat := (P.info? t).map (·.bytes)
def tyAgg (P : Program) (t : TypeId) : Option Bool :=
  match P.underlying t with
  | some (.struct _) | some (.array _ _) => some true
  | some _ => some false
  | none => none
def tyZero (P : Program) (t : TypeId) : Option CV :=
  match P.info? t with
  | some i => match i.zero with
    | some z => ofVal z
    | none => none
  | none => none
def tyField (P : Program) (t : TypeId) (f : Nat) : Option (Nat × TypeId) :=
  match P.underlying t with
  | some (.struct fs) => match fs[f]? with
    | some x => some (x.offset, x.type)
    | none => none
  | _ => none

/-! ### Cells, read by their type -/
def CV.toInt : CV → Int
  | .int _ n => n
  | _ => 0
def CV.toStr : CV → ByteArray
  | .str s => s
  | _ => ⟨#[]⟩
def CV.toBool : CV → Bool
  | .bool b => b
  | _ => false
/-- Is the cell of the kind that the zero value z has? -/
def okc : CV → CV → Bool
  | .int k _, .int k' _ => k == k'
  | .int _ _, _ => false
  | .str _, .str _ => true
  | .str _, _ => false
  | .bool _, .bool _ => true
  | .bool _, _ => false
  | _, .agg _ => false
  | _, .aggO _ => false
  | _, .tup _ => false
  | _, .boxv _ _ => false
  | _, _ => true
def rdc : CV → CV → CV
  | .int k _, c => .int k c.toInt
  | .str _, c => .str c.toStr
  | .bool _, c => .bool c.toBool
  | _, c => c

def setRange {α : Type} (cs : List α) (off : Nat) (xs : List α) : List α := cs.take off ++ xs ++ cs.drop (off + xs.length)

def PV.cells : PV → Option (List PV)
  | .c (.agg cs) => some (cs.map .c)
  | .c v => some [.c v]
  | .agg cs => some cs
  | .undef | .tup _ | .iter _ => none
  | p => some [p]
def PV.ncells : PV → Option Nat
  | .c v => some v.cl.length
  | .agg cs => some cs.length
  | .undef | .tup _ | .iter _ => none
  | _ => some 1

/-! ### Closing and opening -/
def getRow (H : Hp) (r g : Nat) : Option (List CV × Nat × Bool) :=
  match H[r]? with
  | some (.row xs k g' s) => if g = g' then some (xs, k, s) else none
  | _ => none
def sealRow (H : Hp) (r : Nat) : Hp :=
  match H[r]? with
  | some (.row xs k g _) => H.set r (.row xs k g true)
  | _ => H

/-- A cell as data; the row that it leads to is never written to again. -/
def closeCell (p : PV) (H : Hp) : Option (CV × Hp) :=
  match p with
  | .c v => match v with
    | .agg _ => none
    | v => some (v, H)
  | .rw r g => match getRow H r g with
    | some (xs, k, _) => some (.sl false false k xs, sealRow H r)
    | none => none
  | .row r g off len => match getRow H r g with
    | some (xs, k, _) => some (.sl false false k ((xs.drop off).take len), sealRow H r)
    | none => none
  | .fn f [] => some (.fn f [], H)
  | _ => none
def closeCells : List PV → Hp → Option (List CV × Hp)
  | [], H => some ([], H)
  | p :: ps, H => match closeCell p H with
    | some (v, H1) => match closeCells ps H1 with
      | some (vs, H2) => some (v :: vs, H2)
      | none => none
    | none => none
def closeVal (p : PV) (H : Hp) : Option (CV × Hp) :=
  match p with
  | .c v => some (v, H)
  | .agg cs => match closeCells cs H with
    | some (vs, H1) => some (.agg vs, H1)
    | none => none
  | p => closeCell p H

/-- A cell as data, handed over for good. -/
def ownCell (p : PV) (H : Hp) : Option (CV × Hp) :=
  match p with
  | .rw r g => match getRow H r g with
    | some (xs, k, false) => some (.sl true false k xs, H.set r .dead)
    | some (xs, k, true) => some (.sl false false k xs, H)
    | none => none
  | p => closeCell p H
def ownCells : List PV → Hp → Option (List CV × Hp)
  | [], H => some ([], H)
  | p :: ps, H => match ownCell p H with
    | some (v, H1) => match ownCells ps H1 with
      | some (vs, H2) => some (v :: vs, H2)
      | none => none
    | none => none
def ownVal (p : PV) (H : Hp) : Option (CV × Hp) :=
  match p with
  | .c v => some (v, H)
  | .agg cs => match ownCells cs H with
    | some (vs, H1) => some (.aggO vs, H1)
    | none => none
  | p => ownCell p H
/-- A result: a pointer to a variable of the function's own hands the variable over. -/
def ownRes (p : PV) (H : Hp) : Option (CV × Hp) :=
  match p with
  | .bptr r 0 => match H[r]? with
    | some (.box e k) => match ownVal e (H.set r .dead) with
      | some (v, H1) => some (.boxv k v, H1)
      | none => none
    | _ => none
  | p => ownVal p H
def ownTup : List PV → Hp → Option (List CV × Hp)
  | [], H => some ([], H)
  | p :: ps, H => match ownRes p H with
    | some (v, H1) => match ownTup ps H1 with
      | some (vs, H2) => some (v :: vs, H2)
      | none => none
    | none => none
def ownAll (p : PV) (H : Hp) : Option (CV × Hp) :=
  match p with
  | .tup ps => match ownTup ps H with
    | some (vs, H1) => some (.tup vs, H1)
    | none => none
  | p => ownRes p H

def openCell (v : CV) (H : Hp) : PV × Hp :=
  match v with
  | .sl true _ k xs => (.rw H.length 0, H ++ [.row xs k 0 false])
  | v => (.c v, H)
def openCells : List CV → Hp → List PV × Hp
  | [], H => ([], H)
  | v :: vs, H =>
    let (p, H1) := openCell v H
    let (ps, H2) := openCells vs H1
    (p :: ps, H2)
def openVal (v : CV) (H : Hp) : PV × Hp :=
  match v with
  | .aggO cs =>
    let (ps, H1) := openCells cs H
    (.agg ps, H1)
  | v => openCell v H
def openRes (v : CV) (H : Hp) : PV × Hp :=
  match v with
  | .boxv k e =>
    let (p, H1) := openVal e (H ++ [.dead])
    (.bptr H.length 0, H1.set H.length (.box p k))
  | v => openVal v H
def openTup : List CV → Hp → List PV × Hp
  | [], H => ([], H)
  | v :: vs, H =>
    let (p, H1) := openRes v H
    let (ps, H2) := openTup vs H1
    (p :: ps, H2)
def openAll (v : CV) (H : Hp) : PV × Hp :=
  match v with
  | .tup vs =>
    let (ps, H1) := openTup vs H
    (.tup ps, H1)
  | v => openRes v H

/-- A call's arguments: a variable that a pointer leads to is lent. -/
def capsC : List PV → Option (List CV)
  | [] => some []
  | .c v :: ps => match capsC ps with
    | some vs => some (v :: vs)
    | none => none
  | _ => none
def closeArg (p : PV) (H : Hp) : Option (CV × Hp × List Nat) :=
  match p with
  | .bptr r 0 => match H[r]? with
    | some (.box e k) => match closeVal e H with
      | some (v, H1) => some (.boxv k v, H1, [r])
      | none => none
    | _ => none
  | .fn f caps => match capsC caps with
    | some vs => some (.fn f vs, H, [])
    | none => none
  | p => match closeVal p H with
    | some (v, H1) => some (v, H1, [])
    | none => none
def closeArgs : List PV → Hp → Option (List CV × Hp × List Nat)
  | [], H => some ([], H, [])
  | p :: ps, H => match closeArg p H with
    | some (v, H1, l) => match closeArgs ps H1 with
      | some (vs, H2, l2) => some (v :: vs, H2, l ++ l2)
      | none => none
    | none => none
def noDup : List Nat → Bool
  | [] => true
  | r :: rs => !rs.contains r && noDup rs
/-- What was lent comes back. -/
def giveBack : List Nat → List CV → Hp → Option Hp
  | [], [], H => some H
  | r :: rs, v :: vs, H => match H[r]? with
    | some (.box _ k) => giveBack rs vs (H.set r (.box (.c v) k))
    | _ => none
  | _, _, _ => none

/-- The arguments, as a function meets them; which variables were lent, and how many cells they have. -/
def openArg (v : CV) (H : Hp) : PV × Hp :=
  match v with
  | .boxv k e => (.bptr H.length 0, H ++ [.box (.c e) k])
  | v => (.c v, H)
def openArgs : List CV → Hp → List PV × Hp
  | [], H => ([], H)
  | v :: vs, H =>
    let (p, H1) := openArg v H
    let (ps, H2) := openArgs vs H1
    (p :: ps, H2)
/-- The variables that were lent stand at the beginning. -/
def lentOf : Hp → List Nat
  | [] => []
  | .box _ k :: H => k :: lentOf H
  | _ :: H => 0 :: lentOf H

end Go.Pv
