/- The interpreter, continued: one operation, regions, code, functions. Plain definitions. -/
import Derived.Test.YtpclikkakhcomaaGreatDoorPv2
set_option linter.unusedVariables false
namespace Go.Pv
open Go

/-- Which known entry is a function without a body? -/
def extNo (P : Program) (f : FuncId) : Nat :=
  match P.funcs[f]? with
  | some fn => if fn.body.isNone && fn.origin == "" then
      if fn.name == "internal/bytealg.IndexByteString" then 1 else if fn.name == "internal/abi.NoEscape" then 2 else 0
    else 0
  | none => 0
def ext' (P : Program) (f : FuncId) (args : List PV) (H : Hp) (K : KV) : Res :=
  match extNo P f with
  | 1 => match args with
    | [.c (.str s), .c (.int .u8 c)] => K (.c (.int .i64 (Lib.indexByte s.data.toList c.toNat.toUInt8))) H
    | _ => none
  | 2 => match args with
    | [p] => K p H
    | _ => none
  | _ => none

def alts' : Alts → (CV → List CV → Res) → Res
  | [], _ => none
  | (b, rv, outs) :: l, K => bif' b (K rv outs) (alts' l K)

/-- How calls are answered. -/
abbrev Handler := FuncId → List PV → Hp → KV → Res
/-- A call of a function that the table knows. -/
def call' (tb : Table) (f : FuncId) (args : List PV) (H : Hp) (K : KV) : Res :=
  match closeArgs args H with
  | none => none
  | some (cargs, H1, lent) => if noDup lent then match tb f cargs with
    | none => none
    | some l => alts' l fun rv outs => match giveBack lent outs H1 with
      | none => none
      | some H2 =>
        let (p, H3) := openAll rv H2
        K p H3
    else none

def plainFn (P : Program) (f : FuncId) : Bool :=
  match P.funcs[f]? with
  | some fn => fn.name != "runtime.NumGoroutine" && fn.body.isSome
  | none => false

def argTy (c : Call) (i : Nat) : TypeId := c.argTypes.getD i 0

def builtin' (P : Program) (b : Builtin) (c : Call) (args : List PV) (H : Hp) (K : KV) : Res :=
  match b, args, c.argTypes.toList with
  | .len, [x], [t] => len' P t x H K
  | .append, [s, x], [t, u] => match P.underlying u with
    | some (.int _) => none
    | some _ => append' P t s x H K
    | none => none
  | .unsafeSliceData, [x], _ => sliceData' x H K
  | .unsafeString, [x, n], [pt, _] => unsafeString' P pt x n H K
  | _, _, _ => none

/-! ### Calls of functions of data -/
/-- Has a type neither pointers nor slices nor functions? -/
def plainTy (P : Program) : Nat → TypeId → Bool
  | 0, _ => false
  | d + 1, t => match P.underlying t with
    | some .bool | some .string | some (.int _) => true
    | some (.struct fs) => fs.all fun f => plainTy P d f.type
    | some (.array _ e) => plainTy P d e
    | some (.tuple ts) => ts.all fun e => plainTy P d e
    | _ => false
def pureCall (P : Program) (o : Oper) : Bool :=
  match o.op with
  | .call c => match c.callee with
    | .value (.func _) => c.argTypes.all (plainTy P 10) && plainTy P 10 o.type
    | _ => false
  | _ => false
def dataCells : List PV → Option (List CV)
  | [] => some []
  | .c v :: l => match v with
    | .agg _ => none
    | v => match dataCells l with
      | some vs => some (v :: vs)
      | none => none
  | _ => none
def dataArgs : List PV → Option (List CV)
  | [] => some []
  | .c v :: l => match v with
    | .boxv _ _ => none
    | v => match dataArgs l with
      | some vs => some (v :: vs)
      | none => none
  | .agg ps :: l => match dataCells ps, dataArgs l with
    | some cs, some vs => some (.agg cs :: vs)
    | _, _ => none
  | _ => none
/-- No argument is a variable. -/
def noBox : List CV → Bool
  | [] => true
  | .boxv _ _ :: _ => false
  | _ :: l => noBox l
def allCV : List PV → Bool
  | [] => true
  | .c _ :: l => allCV l
  | _ => false
def dataPV : PV → Bool
  | .c _ => true
  | .tup ps => allCV ps
  | _ => false
def dataK (K : KV) : KV := fun p H => match dataPV p with
  | true => K p H
  | false => none
def pure' (P : Program) (tb : Handler) (f : PV) (args : List PV) (H : Hp) (K : KV) : Res :=
  match f with
  | .fn f [] => if plainFn P f then match dataArgs args with
      | some cargs => tb f (cargs.map .c) H (dataK K)
      | none => none
    else ext' P f args H K
  | _ => none

def aop (P : Program) (tb : Handler) (o : Oper) (ev : Operand → PV) (H : Hp) (K : KV) : Res :=
  match o.op with
  | .move x | .assign x => K (ev x) H
  | .pick c a b => match ev c with
    | .c (.bool t) => bif' t (K (ev a) H) (K (ev b) H)
    | _ => none
  | .alloc t => match tyZero P t with
    | some z => if z.cl.length < 4294967296 then K (.bptr H.length 0) (H ++ [.box (.c z) (kOf z.cl.length t)]) else none
    | none => none
  | .box t x => match (ev x).ncells with
    | some k => if k < 4294967296 then K (.bptr H.length 0) (H ++ [.box (ev x) (kOf k t)]) else none
    | none => none
  | .build t parts => build' P t (parts.toList.map fun (i, x) => (i, ev x)) H K
  | .buildSlice t len parts => buildSlice' P t len (parts.toList.map fun (i, x) => (i, ev x)) H K
  | .load t a => load' P t (ev a) H K
  | .store t a x => store' P t (ev a) (ev x) H K
  | .nilCheck x => match ev x with
    | .bptr r o => match H[r]? with
      | some (.box ..) => K (.bptr r o) H
      | _ => none
    | .rptr r g i o => match getRow H r g with
      | some _ => K (.rptr r g i o) H
      | none => none
    | .ro cs => K (.ro cs) H
    | .fn f caps => K (.fn f caps) H
    | _ => none
  | .binOp op t x y _ => binOp' P op t (Region.isConst x || Region.isConst y) (ev x) (ev y) H K
  | .unOp op _ x => unOp' op (ev x) H K
  | .convert s d x => convert' P s d (ev x) H K
  | .makeInterface t x => match P.underlying t, ev x with
    | some (.interface _), _ => none
    | some _, .c _ => K (.c .err) H
    | _, _ => none
  | .makeFunc (.func f) first captured => match first.toList with
    | [] => K (.fn f (captured.toList.map ev)) H
    | _ => none
  | .makeSlice t l c => makeSlice' P t (ev l) (ev c) H K
  | .slice t x lo hi mx => slice' P t (ev x) (lo.map ev) (hi.map ev) (mx.map ev) H K
  | .fieldAddr t x f => fieldAddr' P t (ev x) f H K
  | .field t x f => field' P t (ev x) f H K
  | .indexAddr t x i => indexAddr' P t (ev x) (ev i) H K
  | .index t x i => index' P t (ev x) (ev i) H K
  | .range t x => match P.underlying t, ev x with
    | some .string, .c (.str s) => K (.iter H.length) (H ++ [.iter s 0])
    | _, _ => none
  | .next it true => match ev it with
    | .iter r => match H[r]? with
      | some (.iter s pos) => bif' (decide (pos < s.size))
          (K (.tup [.c (.bool true), .c (.int .i64 pos), .c (.int .i32 (Utf8.decode s pos).1)]) (H.set r (.iter s (pos + (Utf8.decode s pos).2))))
          (K (.tup [.c (.bool false)]) H)
      | _ => none
    | _ => none
  | .extract t i => match ev t with
    | .tup ps => match ps[i]? with
      | some p => K p H
      | none => none
    | _ => none
  | .call c => match c.callee with
    | .builtin b => builtin' P b c (c.args.toList.map ev) H K
    | .value f => if pureCall P o then pure' P tb (ev f) (c.args.toList.map ev) H K else match ev f with
      | .fn f caps => if plainFn P f then tb f (c.args.toList.map ev ++ caps) H K else ext' P f (c.args.toList.map ev ++ caps) H K
      | .c (.fn f caps) => if plainFn P f then tb f (c.args.toList.map ev ++ caps.map .c) H K else ext' P f (c.args.toList.map ev ++ caps.map .c) H K
      | _ => none
    | _ => none
  | _ => none

def putE (env : Env) (d : Option Tmp) (p : PV) : Env :=
  match d with
  | some t => env.set t p
  | none => env

abbrev KS := Env → Hp → Res

/-- Is an operation wanted (its guard)? The guard's slot then holds the answer. -/
def guarded (ops : Array Oper) (o : Oper) (env : Env) (yes no : Env → Res) : Res :=
  match o.guard with
  | none => yes env
  | some (j, want) => match ((ops[j]?).bind (·.dst)) with
    | none => no env
    | some t => match env[t]? with
      | some (.c (.bool b)) => bif' b (if want then yes (env.set t (.c (.bool true))) else no (env.set t (.c (.bool true)))) (if want then no (env.set t (.c (.bool false))) else yes (env.set t (.c (.bool false))))
      | some (.tup []) => no env
      | _ => none

def aops (P : Program) (tb : Handler) (ops : Array Oper) : List Nat → Env → Hp → KS → Res
  | [], env, H, K => K env H
  | i :: rest, env, H, K =>
    match ops[i]? with
    | none => aops P tb ops rest env H K
    | some o => guarded ops o env
        (fun env => aop P tb o (evl env) H fun p H => aops P tb ops rest (putE env o.dst p) H K)
        (fun env => aops P tb ops rest (putE env o.dst (.tup [])) H K)

/-! ### May a region's operations be taken in the text's order? -/
/-- 0: touches no memory; 1: reads; 2: what else. -/
def opClass (P : Program) (o : Oper) : Nat :=
  match o.op with
  | .move _ | .assign _ | .pick .. | .build .. | .unOp .. | .makeInterface .. | .field .. | .index .. | .extract .. => 0
  | .binOp op .. => match op with
    | .eql | .neq => 1
    | _ => 0
  | .convert _ d _ => match P.underlying d with
    | some (.int _) => 0
    | _ => 2
  | .slice t .. => match P.underlying t with
    | some .string => 0
    | _ => 1
  | .load .. | .fieldAddr .. | .indexAddr .. | .nilCheck _ => 1
  | .call c => match c.callee with
    | .builtin .len => 1
    | .builtin .unsafeSliceData => 1
    | _ => if pureCall P o then 0 else 2
  | _ => 2
/-- What stands ahead of each operation, by the edges that always bind. -/
def ancOf (acc : List Nat) : List Edge → Nat
  | [] => 0
  | e :: es => if Region.binds .any e then (2 ^ e.on ||| acc.getD e.on 0) ||| ancOf acc es else ancOf acc es
def ancGo : List Oper → List Nat → List Nat
  | [], acc => acc
  | o :: os, acc => ancGo os (acc ++ [ancOf acc o.after.toList])
def dstIs (o : Oper) (a : Nat) : Bool := match o.dst with
  | some b => Nat.beq b a
  | none => false
def isDst (l : List Oper) (a : Nat) : Bool := l.any fun o => dstIs o a
def fieldOf (o : Oper) : Option Nat := match o.op with
  | .fieldAddr _ (.tmp t) _ => some t
  | _ => none
/-- The slot whose variable's field a slot's address is. -/
def rootSlot : List Oper → Nat → Option Nat
  | [], _ => none
  | o :: l, a => if dstIs o a then fieldOf o else rootSlot l a
/-- The variable that a slot's address leads to (or the slot holds no address), whichever operations of a region are done. -/
def rootAt (l : List Oper) (env : Env) (a : Nat) : Option Nat :=
  if isDst l a then match rootSlot l a with
    | some t => if isDst l t || !(l.all fun o => !dstIs o a || (match fieldOf o with
        | some t' => Nat.beq t' t
        | none => false)) then none else match env[t]? with
      | some (.bptr r _) => match env[a]? with
        | some (.bptr r' _) => if Nat.beq r' r then some r else none
        | some (.rptr ..) => none
        | _ => some r
      | _ => none
    | none => none
  else match env[a]? with
    | some (.bptr r _) => some r
    | _ => none
/-- Are an operation that reads and a store about different things? -/
def turnS (l : List Oper) (env : Env) (x y : Oper) : Bool :=
  match x.op, y.op with
  | .fieldAddr .., .store .. => true
  | .load _ (.tmp b), .store _ (.tmp a) _ => match rootAt l env a, rootAt l env b with
    | some r, some r' => !Nat.beq r r'
    | _, _ => false
  | _, _ => false
/-- May two operations change places? -/
def mayTurn (P : Program) (ops : Array Oper) (env : Env) (x y : Oper) : Bool :=
  (opClass P x == 0 || opClass P y == 0 || (opClass P x == 1 && opClass P y == 1) || turnS ops.toList env x y || turnS ops.toList env y x) && Oper.apart ops x y && Oper.apart ops y x
def backOk : Nat → List Oper → Bool
  | _, [] => true
  | i, o :: os => o.after.all (fun e => !Region.binds .any e || decide (e.on < i)) && backOk (i + 1) os
def pairsOk (P : Program) (ops : Array Oper) (env : Env) (anc : List Nat) : Bool :=
  (List.range ops.size).all fun j => (List.range j).all fun i =>
    (anc.getD j 0).testBit i || (match ops[i]?, ops[j]? with
      | some x, some y => mayTurn P ops env x y
      | _, _ => false)
def drawOk (P : Program) (ops : Array Oper) (env : Env) : Bool :=
  P.follows .mixedOrders && backOk 0 ops.toList && pairsOk P ops env (ancGo ops.toList [])

/-! ### Loops -/
/-- What a loop's head keeps: the slots that live; the slots whose arrays get a place of their own (cells of an element); how many objects stand ahead of the loop. -/
structure Head where
  live : List Nat
  rows : List (Nat × Nat)
  base : Nat
abbrev Ann := Nat → Option Head

def firstRegion : Code → Option Nat
  | .region id _ _ => some id
  | .seq a b => match firstRegion a with
    | some i => some i
    | none => firstRegion b
  | .cond _ a b => match firstRegion a with
    | some i => some i
    | none => firstRegion b
  | .block _ b => firstRegion b
  | .loop b => firstRegion b
  | _ => none

/-- Does a value lead to no object from n on? -/
def below' (n : Nat) : PV → Bool
  | .undef | .c _ | .ro _ => true
  | .bptr r _ | .rw r _ | .row r _ _ _ | .rptr r _ _ _ | .iter r => decide (r < n)
  | _ => false
def cellsBelow (n : Nat) : List PV → Bool
  | [] => true
  | p :: ps => below' n p && cellsBelow n ps
def flatBelow (n : Nat) : PV → Bool
  | .agg cs => cellsBelow n cs
  | .fn _ caps => cellsBelow n caps
  | p => below' n p
def objBelow (n : Nat) : AO → Bool
  | .box e _ => flatBelow n e
  | _ => true
def objsBelow (n : Nat) : List AO → Bool
  | [] => true
  | o :: os => objBelow n o && objsBelow n os

/-- The rows that a head keeps; what is left. -/
def takeRows : List (Nat × Nat) → Env → Hp → Option (List AO × Hp)
  | [], _, H => some ([], H)
  | (s, k) :: l, env, H =>
    match env[s]? with
    | some (.c .nilsl) => if 0 < k then match takeRows l env H with
      | some (os, H') => some (.row [] k 0 false :: os, H')
      | none => none
      else none
    | some (.rw r g) => match getRow H r g with
      | some (xs, k', sl) => if k' = k then match takeRows l env (H.set r .dead) with
          | some (os, H') => some (.row xs k 0 sl :: os, H')
          | none => none
        else none
      | none => none
    | some (.row r g 0 len) => match getRow H r g with
      | some (xs, k', false) => if k' = k then match takeRows l env (H.set r .dead) with
          | some (os, H') => some (.row (xs.take len) k 0 false :: os, H')
          | none => none
        else none
      | _ => none
    | _ => none
def setRows : List (Nat × Nat) → Nat → Env → Env
  | [], _, env => env
  | (s, _) :: l, n, env => setRows l (n + 1) (env.set s (.rw n 0))
def padTo (n : Nat) (H : Hp) : Hp := H.take n ++ List.replicate (n - H.length) .dead
def keepLive (live : List Nat) : Nat → Env → Env
  | _, [] => []
  | i, p :: ps => (if live.contains i then p else .undef) :: keepLive live (i + 1) ps
def slotsBelow (n : Nat) (rows : List (Nat × Nat)) : Nat → Env → Bool
  | _, [] => true
  | i, p :: ps => (rows.any (·.1 == i) || flatBelow n p) && slotsBelow n rows (i + 1) ps
def enterHead (h : Head) (env : Env) (H : Hp) : Option (Env × Hp) :=
  match takeRows h.rows (keepLive h.live 0 env) H with
  | some (os, H') => if slotsBelow h.base h.rows 0 (keepLive h.live 0 env) && objsBelow h.base (padTo h.base H') then
      some (setRows h.rows h.base (keepLive h.live 0 env), padTo h.base H' ++ os)
    else none
  | none => none

abbrev KX := Ex → Env → Hp → Res

def aloop (hd : Env → Hp → Option (Env × Hp)) (body : Env → Hp → KX → Res) : Nat → Env → Hp → KX → Res
  | 0, _, _, _ => none
  | k + 1, env, H, K =>
    match hd env H with
    | none => none
    | some (env, H) => body env H fun e env H =>
      match e with
      | .normal => aloop hd body k env H K
      | e => K e env H

/-! ### Code -/
def aexec (P : Program) (tb : Handler) (an : Ann) (fuel : Nat) : Code → Env → Hp → KX → Res
  | .skip, env, H, K | .label _, env, H, K => K .normal env H
  | .region _ ops draw, env, H, K =>
    if draw && !drawOk P ops env then none else aops P tb ops (List.range ops.size) env H (K .normal)
  | .seq a b, env, H, K => aexec P tb an fuel a env H fun e env H =>
      match e with
      | .normal => aexec P tb an fuel b env H K
      | e => K e env H
  | .cond c a b, env, H, K =>
    match evl env c with
    | .c (.bool t) => match c with
      | .tmp s => bif' t (aexec P tb an fuel a (env.set s (.c (.bool true))) H K) (aexec P tb an fuel b (env.set s (.c (.bool false))) H K)
      | _ => bif' t (aexec P tb an fuel a env H K) (aexec P tb an fuel b env H K)
    | _ => none
  | .block id b, env, H, K => aexec P tb an fuel b env H fun e env H =>
      match e with
      | .exit id' => if id' = id then K .normal env H else K (.exit id') env H
      | e => K e env H
  | .loop b, env, H, K =>
    match (firstRegion b).bind an with
    | none => aloop (fun env H => some (env, H)) (fun env H K => aexec P tb an fuel b env H K) fuel env H K
    | some h => aloop (enterHead h) (fun env H K => aexec P tb an fuel b env H K) fuel env H K
  | .exit id, env, H, K => K (.exit id) env H
  | .ret, env, H, K => K .ret env H
  | _, _, _, _ => none

/-- The results, out of the slots, or of the variables that hold them. -/
def resVals (P : Program) : List ResultVar → Env → Hp → (List PV → Res) → Res
  | [], _, _, K => K []
  | .tmp t :: rs, env, H, K => resVals P rs env H fun ps => K (env.getD t .undef :: ps)
  | .cell a t :: rs, env, H, K => load' P t (env.getD a .undef) H fun p _ => resVals P rs env H fun ps => K (p :: ps)
/-- The lent variables' values, from number i on; they are then given up. -/
def lentBack : Nat → List Nat → Hp → Option (List CV × Hp)
  | _, [], H => some ([], H)
  | r, k :: ks, H => match H[r]? with
    | some (.box e k') => if k' = k then match closeVal e H with
      | some (v, H1) => match lentBack (r + 1) ks (H1.set r .dead) with
        | some (vs, H2) => some (v :: vs, H2)
        | none => none
      | none => none
      else none
    | _ => none
def finish (P : Program) (fn : Func) (lent : List Nat) : KX := fun e env H =>
  match e with
  | .exit _ => none
  | _ => resVals P fn.results.toList env H fun ps =>
    match lentBack 0 lent H with
    | none => none
    | some (outs, H1) => match ownAll (match ps with | [p] => p | ps => .tup ps) H1 with
      | some (v, _) => some (v, outs)
      | none => none
def filt (an : Ann) (n : Nat) : Ann := fun i => (an i).filter fun h => decide (n ≤ h.base)
/-- A call, the callee's body run in place, on the same objects. -/
def inl (P : Program) (tb : Handler) (an : Ann) (fuel : Nat) (f : FuncId) (args : List PV) (H : Hp) (K : KV) : Res :=
  if allCV args then none else match P.funcs[f]? with
  | some fn => match fn.body with
    | some body => aexec P tb (filt an H.length) fuel body (args ++ List.replicate (fn.ntmps - args.length) .undef) H fun e env H => match e with
      | .exit _ => none
      | _ => resVals P fn.results.toList env H fun ps => K (match ps with | [p] => p | ps => .tup ps) H
    | none => none
  | none => none
/-- Some functions are run in place, each by those behind it. -/
def inls (P : Program) (an : Ann) (fuel : Nat) : List FuncId → Handler → Handler
  | [], tb => tb
  | f :: fs, tb => fun g args H K => if Nat.beq g f then inl P (inls P an fuel fs tb) an fuel f args H K else inls P an fuel fs tb g args H K
def abody (P : Program) (tb : Handler) (an : Ann) (fuel : Nat) (f : FuncId) (cargs : List CV) : Res :=
  match P.funcs[f]? with
  | some fn => match fn.body with
    | some body =>
      match openArgs cargs [] with
      | (ps, H) => aexec P tb (filt an H.length) fuel body (ps ++ List.replicate (fn.ntmps - ps.length) .undef) H (finish P fn (lentOf H))
    | none => none
  | none => none


/-! ### Loops, taken apart -/
/-- The first loop's body. -/
def loopIn : Code → Option Code
  | .seq a b => match loopIn a with
    | some c => some c
    | none => loopIn b
  | .cond _ a b => match loopIn a with
    | some c => some c
    | none => loopIn b
  | .block _ b => loopIn b
  | .loop b => some b
  | _ => none
def loopOf (c : Code) : Code := match loopIn c with
  | some b => b
  | none => .skip
/-- The code, its first loop left undone. -/
def cutIn : Code → Option Code
  | .seq a b => match cutIn a with
    | some c => some (.seq c b)
    | none => match cutIn b with
      | some c => some (.seq a c)
      | none => none
  | .cond x a b => match cutIn a with
    | some c => some (.cond x c b)
    | none => match cutIn b with
      | some c => some (.cond x a c)
      | none => none
  | .block id b => match cutIn b with
    | some c => some (.block id c)
    | none => none
  | .loop _ => some (.exit 1000000)
  | _ => none
def cutOf (c : Code) : Code := match cutIn c with
  | some b => b
  | none => .skip
def thenK (k : Env → Hp → Res) (K : KX) : KX := fun e env H => match e with
  | .normal => k env H
  | e => K e env H
def blockK (id : Nat) (K : KX) : KX := fun e env H => match e with
  | .exit id' => if id' = id then K .normal env H else K (.exit id') env H
  | e => K e env H
/-- What runs behind the first loop. -/
def restIn (P : Program) (tb : Handler) (an : Ann) (fuel : Nat) : Code → KX → Option KX
  | .seq a b, K => match restIn P tb an fuel a (thenK (fun env H => aexec P tb an fuel b env H K) K) with
    | some k => some k
    | none => restIn P tb an fuel b K
  | .cond _ a b, K => match restIn P tb an fuel a K with
    | some k => some k
    | none => restIn P tb an fuel b K
  | .block id b, K => restIn P tb an fuel b (blockK id K)
  | .loop _, K => some K
  | _, _ => none
def restOf (P : Program) (tb : Handler) (an : Ann) (fuel : Nat) (c : Code) (K : KX) : KX := match restIn P tb an fuel c K with
  | some k => k
  | none => fun _ _ _ => none
def cutK (L : Env → Hp → Res) (K : KX) : KX := fun e env H => match e with
  | .exit id => if Nat.beq id 1000000 then L env H else K (.exit id) env H
  | e => K e env H
def headK (hd : Head) (R : Env → Hp → Res) (env : Env) (H : Hp) : Res := match enterHead hd env H with
  | none => none
  | some (e, H) => R e H
/-- The rounds of a loop, from behind its head on. -/
def rounds (P : Program) (tb : Handler) (an : Ann) (fuel : Nat) (hd : Head) (b : Code) : Nat → Env → Hp → KX → Res
  | 0, _, _, _ => none
  | k + 1, env, H, K => aexec P tb an fuel b env H (thenK (headK hd fun env H => rounds P tb an fuel hd b k env H K) K)
/-- Ahead of the first loop. -/
def before (P : Program) (tb : Handler) (an : Ann) (fuel : Nat) (c : Code) (env : Env) (H : Hp) (L : Env → Hp → Res) (K : KX) : Res := aexec P tb an fuel (cutOf c) env H (cutK L K)
/-- One round. -/
def round (P : Program) (tb : Handler) (an : Ann) (fuel : Nat) (hd : Head) (c : Code) (env : Env) (H : Hp) (R : Env → Hp → Res) (K : KX) : Res :=
  aexec P tb an fuel (loopOf c) env H (thenK (headK hd R) (restOf P tb an fuel c K))
/-- All of the loop, from behind its head on. -/
def roundsOf (P : Program) (tb : Handler) (an : Ann) (fuel : Nat) (hd : Head) (c : Code) (k : Nat) (env : Env) (H : Hp) (K : KX) : Res := rounds P tb an fuel hd (loopOf c) k env H (restOf P tb an fuel c K)
def loopAt (P : Program) (tb : Handler) (an : Ann) (fuel : Nat) (hd : Head) (c : Code) (env : Env) (H : Hp) (K : KX) : Res :=
  aloop (enterHead hd) (fun env H K => aexec P tb an fuel (loopOf c) env H K) fuel env H (restOf P tb an fuel c K)
def slotAt : List (Nat × PV) → Nat → PV
  | [], _ => .undef
  | (j, p) :: l, i => if Nat.beq j i then p else slotAt l i
/-- n slots, those of the list filled. -/
def mkEnv (n : Nat) (l : List (Nat × PV)) : Env := (List.range n).map (slotAt l)
def codeOf (P : Program) (f : FuncId) : Code := match P.funcs[f]? with
  | some fn => match fn.body with
    | some c => c
    | none => .skip
  | none => .skip
def endOf (P : Program) (f : FuncId) (lent : List Nat) : KX := match P.funcs[f]? with
  | some fn => finish P fn lent
  | none => fun _ _ _ => none
def envOf (P : Program) (f : FuncId) (ps : List PV) : Env := match P.funcs[f]? with
  | some fn => ps ++ List.replicate (fn.ntmps - ps.length) .undef
  | none => []

end Go.Pv
