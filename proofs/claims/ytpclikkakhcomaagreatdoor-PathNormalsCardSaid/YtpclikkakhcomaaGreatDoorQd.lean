/- Addresses: four numbers, groups: specs and trees. -/
import Derived.Test.YtpclikkakhcomaaGreatDoorQc
set_option linter.unusedSimpArgs false
set_option linter.unusedVariables false
namespace Go.Pv
set_option maxRecDepth 100000
open Go Go.Proofs
def octOk (p : List UInt8) : Bool := numOk 10 p && (decide (numL 10 p < 256) && !(decide (1 < p.length) && (p.getD 0 0 == 48)))
def goF : List (List UInt8) → List Nat × Bool
 | [] => ([], true)
 | p :: ps => if octOk p then (numL 10 p :: (goF ps).1, (goF ps).2) else ([], false)
def fourP (ps : List (List UInt8)) : List Nat × Bool := if ps.length = 4 then goF ps else ([], false)
def f4 (s : ByteArray) : Bool := (fourP (splitL 46 s.data.toList)).2
def f4b (s : ByteArray) (i : Nat) : Int := (((fourP (splitL 46 s.data.toList)).1.getD i 0 : Nat) : Int)
def f4r (s : ByteArray) : Int := if f4 s then ((f4b s 0 * 256 + f4b s 1) * 256 + f4b s 2) * 256 + f4b s 3 else -1
def grpOk (p : List UInt8) : Bool := numOk 16 p && (decide (numL 16 p < 65536) && decide (p.length ≤ 4))
def grL (tail : Bool) : List (List UInt8) → Option (List Nat)
 | [] => some []
 | p :: ps => if tail && (ps.isEmpty && (fourP (splitL 46 p)).2) then some (fourP (splitL 46 p)).1 else if grpOk p then (match grL tail ps with
   | some r => some (numL 16 p / 256 :: numL 16 p % 256 :: r)
   | none => none) else none
def byCV (n : Nat) : CV := .int .u8 (n : Int)
def gOk (s : ByteArray) (t : Bool) : Bool := (grL t (splitL 58 s.data.toList)).isSome
def gB (s : ByteArray) (t : Bool) : List CV := ((grL t (splitL 58 s.data.toList)).getD []).map byCV
def L70 : Fn1 := fun x => match x with
 | [.str s, .str ⟨⟨[c]⟩⟩] => some [(decide (s.size ≤ 10000), .sl false false 1 (spS s c), [])]
 | _ => none
def L56 : Fn1 := fun x => match x with
 | [.str s] => some [(decide (s.size ≤ 10000), .tup [.agg [.int .u8 (f4b s 0), .int .u8 (f4b s 1), .int .u8 (f4b s 2), .int .u8 (f4b s 3)], .bool (f4 s)], [])]
 | _ => none
def L63 : Fn1 := fun x => match x with
 | [.str s] => some [(decide (s.size ≤ 10000), .int .i64 (f4r s), [])]
 | _ => none
def L72 : Fn1 := fun x => match x with
 | [.str s, .bool t] => some [(decide (s.size ≤ 10000) && decide (s.size = 0), .tup [.nilsl, .bool true], []), (decide (s.size ≤ 10000) && gOk s t, .tup [.sl true false 1 (gB s t), .bool true], []), (decide (s.size ≤ 10000), .tup [.nilsl, .bool false], [])]
 | _ => none
def B70 : Table := fun g => if Nat.beq g 132 then L70 else B64 g
def B56 : Table := fun g => if Nat.beq g 114 then L56 else B70 g
def B63 : Table := fun g => if Nat.beq g 90 then L63 else B56 g
def B72 : Table := fun g => if Nat.beq g 134 then L72 else B63 g
def kA4 : Nat := 4 + 4294967296 * (128 + 1)
noncomputable def c56 : Code := codeOf Tryz.prog 114
noncomputable def c63 : Code := codeOf Tryz.prog 90
def h56 : Head := ⟨[2, 4, 5], [], 2⟩
def hL56 : Head := ⟨[2, 4, 16, 17, 18], [], 2⟩
def an56 : Ann := fun i => if Nat.beq i 500005 then some h56 else if Nat.beq i 6 then some hL56 else none
def h63 : Head := ⟨[3], [(3, 1)], 0⟩
def hL63 : Head := ⟨[3, 4, 5], [(3, 1)], 0⟩
def an63 : Ann := fun i => if Nat.beq i 500004 then some h63 else if Nat.beq i 6 then some hL63 else none
def hL72 : Head := ⟨[1, 6, 7, 18, 19, 20], [(6, 1)], 0⟩
def aL72 : Ann := fun i => if Nat.beq i 6 then some hL72 else none
abbrev zA4 : AO := .box (.c (.agg [.int .u8 0, .int .u8 0, .int .u8 0, .int .u8 0])) kA4
theorem ip56 (s : ByteArray) (n : Nat) (L : Env → Hp → Res) : aexec Tryz.prog (call' B70) (filt an56 0) n (prefC 4 c56) (envOf Tryz.prog 114 [.c (.str s)]) [] (thenK (headK h56 L) (endOf Tryz.prog 114 [])) =
 bif' (decide (s.size ≤ 10000)) (bif' ((↑(spS s 46).length : Int) != 4) (some (CV.tup [CV.agg [CV.int .u8 (.ofNat 0), CV.int .u8 (.ofNat 0), CV.int .u8 (.ofNat 0), CV.int .u8 (.ofNat 0)], CV.bool false], [])) (L (mkEnv 47 [(2, .bptr 0 0), (4, .bptr 1 0), (5, .c (CV.sl false false 1 (spS s 46)))]) [.box (.c (CV.agg [CV.int .u8 (.ofNat 0), CV.int .u8 (.ofNat 0), CV.int .u8 (.ofNat 0), CV.int .u8 (.ofNat 0)])) kA4, .box (.c (CV.agg [CV.int .u8 (.ofNat 0), CV.int .u8 (.ofNat 0), CV.int .u8 (.ofNat 0), CV.int .u8 (.ofNat 0)])) kA4])) none := by kernel_rfl
theorem iq56 (xs : List CV) (n : Nat) (R : Env → Hp → Res) : partsB Tryz.prog (call' B70) (filt an56 0) n (tailC 4 c56) (mkEnv 47 [(2, .bptr 0 0), (4, .bptr 1 0), (5, .c (.sl false false 1 xs))]) [zA4, zA4] (fun _ => headK hL56 R) (endOf Tryz.prog 114 []) =
 R (mkEnv 47 [(2, .bptr 0 0), (4, .bptr 1 0), (16, .c (CV.sl false false 1 xs)), (17, .c (CV.int .i64 (↑xs.length : Int))), (18, .c (CV.int .i64 (.ofNat 0)))]) [.box (.c (CV.agg [CV.int .u8 (.ofNat 0), CV.int .u8 (.ofNat 0), CV.int .u8 (.ofNat 0), CV.int .u8 (.ofNat 0)])) kA4, .box (.c (CV.agg [CV.int .u8 (.ofNat 0), CV.int .u8 (.ofNat 0), CV.int .u8 (.ofNat 0), CV.int .u8 (.ofNat 0)])) kA4] := by kernel_rfl
theorem ic56 (xs cs : List CV) (m i : Int) (n : Nat) (R : Env → Hp → Res) : aexec Tryz.prog (call' B70) (filt an56 0) n (bodyN 0 (tailC 4 c56)) (mkEnv 47 [(2, .bptr 0 0), (4, .bptr 1 0), (16, .c (.sl false false 1 xs)), (17, .c (.int .i64 m)), (18, .c (.int .i64 i))]) [zA4, .box (.c (.agg cs)) kA4] (thenK (headK hL56 R) (restN Tryz.prog (call' B70) (filt an56 0) n 0 (tailC 4 c56) (endOf Tryz.prog 114 []))) =
 bif' (decide (i < m)) (bif' (decide (0 ≤ i)) (bif' (decide (i < (↑xs.length : Int))) (bif' (decide (0 < (xs.getD i.toNat CV.nilptr).cl.length)) (bif' (okc (CV.str (ByteArray.mk #[])) ((xs.getD i.toNat CV.nilptr).cl.getD 0 CV.nilptr)) (bif' (decide (((xs.getD i.toNat CV.nilptr).cl.getD 0 CV.nilptr).toStr.size ≤ 10000) && (true && (true && (true && (true && (nOk ((xs.getD i.toNat CV.nilptr).cl.getD 0 CV.nilptr).toStr 10 && decide ((↑(nV ((xs.getD i.toNat CV.nilptr).cl.getD 0 CV.nilptr).toStr 10) : Int) < 256))))))) (bif' (decide ((↑((xs.getD i.toNat CV.nilptr).cl.getD 0 CV.nilptr).toStr.size : Int) > 1)) (bif' (decide (0 < (↑((xs.getD i.toNat CV.nilptr).cl.getD 0 CV.nilptr).toStr.size : Int))) (bif' (byteAt ((xs.getD i.toNat CV.nilptr).cl.getD 0 CV.nilptr).toStr 0 == 48) (bif' (4 == (CV.agg cs).cl.length) (some (CV.tup [CV.agg cs, CV.bool false], [])) none) (bif' (decide (0 ≤ i)) (bif' (decide (i < (↑4 : Int))) (bif' (decide (0 + i.toNat * 1 + 1 ≤ 4)) (R (mkEnv 47 [(2, .bptr 0 0), (4, .bptr 1 0), (16, .c (CV.sl false false 1 xs)), (17, .c (CV.int .i64 m)), (18, .c (CV.int .i64 (IntKind.i64.wrap (i + 1))))]) [.box (.c (CV.agg [CV.int .u8 (.ofNat 0), CV.int .u8 (.ofNat 0), CV.int .u8 (.ofNat 0), CV.int .u8 (.ofNat 0)])) kA4, .box (.c (CV.agg (setRange (CV.agg cs).cl (0 + i.toNat * 1) (CV.int .u8 (IntKind.u8.wrap (↑(nV ((xs.getD i.toNat CV.nilptr).cl.getD 0 CV.nilptr).toStr 10) : Int))).cl))) kA4]) none) none) none)) none) (bif' (decide (0 ≤ i)) (bif' (decide (i < (↑4 : Int))) (bif' (decide (0 + i.toNat * 1 + 1 ≤ 4)) (R (mkEnv 47 [(2, .bptr 0 0), (4, .bptr 1 0), (16, .c (CV.sl false false 1 xs)), (17, .c (CV.int .i64 m)), (18, .c (CV.int .i64 (IntKind.i64.wrap (i + 1))))]) [.box (.c (CV.agg [CV.int .u8 (.ofNat 0), CV.int .u8 (.ofNat 0), CV.int .u8 (.ofNat 0), CV.int .u8 (.ofNat 0)])) kA4, .box (.c (CV.agg (setRange (CV.agg cs).cl (0 + i.toNat * 1) (CV.int .u8 (IntKind.u8.wrap (↑(nV ((xs.getD i.toNat CV.nilptr).cl.getD 0 CV.nilptr).toStr 10) : Int))).cl))) kA4]) none) none) none)) (bif' (decide (((xs.getD i.toNat CV.nilptr).cl.getD 0 CV.nilptr).toStr.size ≤ 10000) && true) (bif' (4 == (CV.agg cs).cl.length) (some (CV.tup [CV.agg cs, CV.bool false], [])) none) none)) none) none) none) none) (bif' (4 == (CV.agg cs).cl.length) (some (CV.tup [CV.agg cs, CV.bool true], [])) none) := by kernel_rfl
theorem ip63 (s : ByteArray) (n : Nat) (L : Env → Hp → Res) : aexec Tryz.prog (call' B56) (filt an63 0) n (prefC 3 c63) (envOf Tryz.prog 90 [.c (.str s)]) [] (thenK (headK h63 L) (endOf Tryz.prog 90 [])) =
 bif' (decide (s.size ≤ 10000) && true) (bif' ((↑(spS s (Nat.toUInt8 46)).length : Int) != 4) (some (CV.int .i64 (Int.negSucc 0), [])) (L (mkEnv 48 [(3, .rw 0 0)]) [.row (spS s (Nat.toUInt8 46)) 1 0 false])) none := by kernel_rfl
theorem iq63 (xs : List CV) (n : Nat) (R : Env → Hp → Res) : partsB Tryz.prog (call' B56) (filt an63 0) n (tailC 3 c63) (mkEnv 48 [(3, .rw 0 0)]) [.row xs 1 0 false] (fun _ => headK hL63 R) (endOf Tryz.prog 90 []) =
 R (mkEnv 48 [(3, .rw 0 0), (4, .c (CV.int .i64 (.ofNat 0))), (5, .c (CV.int .i64 (.ofNat 0)))]) [.row xs 1 0 false] := by kernel_rfl
theorem ic63 (xs : List CV) (v i : Int) (n : Nat) (R : Env → Hp → Res) : aexec Tryz.prog (call' B56) (filt an63 0) n (bodyN 0 (tailC 3 c63)) (mkEnv 48 [(3, .rw 0 0), (4, .c (.int .i64 v)), (5, .c (.int .i64 i))]) [.row xs 1 0 false] (thenK (headK hL63 R) (restN Tryz.prog (call' B56) (filt an63 0) n 0 (tailC 3 c63) (endOf Tryz.prog 90 []))) =
 bif' (decide (i < 4)) (bif' (decide (0 ≤ i)) (bif' (decide (i < (↑xs.length : Int))) (bif' (decide (i.toNat < xs.length)) (bif' (decide (0 < (xs.getD i.toNat CV.nilptr).cl.length)) (bif' (okc (CV.str (ByteArray.mk #[])) ((xs.getD i.toNat CV.nilptr).cl.getD 0 CV.nilptr)) (bif' (decide (((xs.getD i.toNat CV.nilptr).cl.getD 0 CV.nilptr).toStr.size ≤ 10000) && true) (bif' (decide (nR ((xs.getD i.toNat CV.nilptr).cl.getD 0 CV.nilptr).toStr 10 < 0)) (some (CV.int .i64 (Int.negSucc 0), [])) (bif' (decide (nR ((xs.getD i.toNat CV.nilptr).cl.getD 0 CV.nilptr).toStr 10 > 255)) (some (CV.int .i64 (Int.negSucc 0), [])) (bif' (decide (0 ≤ i)) (bif' (decide (i < (↑xs.length : Int))) (bif' (decide (i.toNat < xs.length)) (bif' (decide (0 < (xs.getD i.toNat CV.nilptr).cl.length)) (bif' (okc (CV.str (ByteArray.mk #[])) ((xs.getD i.toNat CV.nilptr).cl.getD 0 CV.nilptr)) (bif' (decide ((↑((xs.getD i.toNat CV.nilptr).cl.getD 0 CV.nilptr).toStr.size : Int) > 1)) (bif' (decide (0 ≤ i)) (bif' (decide (i < (↑xs.length : Int))) (bif' (decide (i.toNat < xs.length)) (bif' (decide (0 < (xs.getD i.toNat CV.nilptr).cl.length)) (bif' (okc (CV.str (ByteArray.mk #[])) ((xs.getD i.toNat CV.nilptr).cl.getD 0 CV.nilptr)) (bif' (decide (0 < (↑((xs.getD i.toNat CV.nilptr).cl.getD 0 CV.nilptr).toStr.size : Int))) (bif' (byteAt ((xs.getD i.toNat CV.nilptr).cl.getD 0 CV.nilptr).toStr 0 == 48) (some (CV.int .i64 (Int.negSucc 0), [])) (R (mkEnv 48 [(3, .rw 0 0), (4, .c (CV.int .i64 (IntKind.i64.wrap (IntKind.i64.wrap (v * 256) + nR ((xs.getD i.toNat CV.nilptr).cl.getD 0 CV.nilptr).toStr 10)))), (5, .c (CV.int .i64 (IntKind.i64.wrap (i + 1))))]) [.row xs 1 0 false])) none) none) none) none) none) none) (R (mkEnv 48 [(3, .rw 0 0), (4, .c (CV.int .i64 (IntKind.i64.wrap (IntKind.i64.wrap (v * 256) + nR ((xs.getD i.toNat CV.nilptr).cl.getD 0 CV.nilptr).toStr 10)))), (5, .c (CV.int .i64 (IntKind.i64.wrap (i + 1))))]) [.row xs 1 0 false])) none) none) none) none) none))) none) none) none) none) none) none) (some (CV.int .i64 v, [])) := by kernel_rfl
theorem ib72 (s : ByteArray) (t : Bool) (n : Nat) (R : Env → Hp → Res) : parts Tryz.prog (call' B63) (filt aL72 0) n (codeOf Tryz.prog 134) (envOf Tryz.prog 134 [.c (.str s), .c (.bool t)]) [] (fun _ => headK hL72 R) (endOf Tryz.prog 134 []) =
 bif' (s.toList == (ByteArray.mk #[]).toList) (some (CV.tup [CV.nilsl, CV.bool true], [])) (bif' (decide (s.size ≤ 10000)) (R (mkEnv 66 [(1, .c (CV.bool t)), (6, .rw 0 0), (7, .c (CV.sl false false 1 (spS s 58))), (18, .c (CV.sl false false 1 (spS s 58))), (19, .c (CV.int .i64 (↑(spS s 58).length : Int))), (20, .c (CV.int .i64 (.ofNat 0)))]) [.row [] 1 0 false]) none) := by kernel_rfl
theorem ic72 (t : Bool) (xs ys : List CV) (m i : Int) (n : Nat) (R : Env → Hp → Res) : aexec Tryz.prog (call' B63) (filt aL72 0) n (bodyN 0 (codeOf Tryz.prog 134)) (mkEnv 66 [(1, .c (.bool t)), (6, .rw 0 0), (7, .c (.sl false false 1 xs)), (18, .c (.sl false false 1 xs)), (19, .c (.int .i64 m)), (20, .c (.int .i64 i))]) [.row ys 1 0 false] (thenK (headK hL72 R) (restN Tryz.prog (call' B63) (filt aL72 0) n 0 (codeOf Tryz.prog 134) (endOf Tryz.prog 134 []))) =
 bif' (decide (i < m)) (bif' (decide (0 ≤ i)) (bif' (decide (i < (↑xs.length : Int))) (bif' (decide (0 < (xs.getD i.toNat CV.nilptr).cl.length)) (bif' (okc (CV.str (ByteArray.mk #[])) ((xs.getD i.toNat CV.nilptr).cl.getD 0 CV.nilptr)) (bif' (decide (((xs.getD i.toNat CV.nilptr).cl.getD 0 CV.nilptr).toStr.size ≤ 10000)) (bif' (f4 ((xs.getD i.toNat CV.nilptr).cl.getD 0 CV.nilptr).toStr) (bif' t (bif' (i == IntKind.i64.wrap ((↑xs.length : Int) - 1)) (bif' (decide ((ys.length + (List.take 4 (List.drop 0 [CV.int .u8 (f4b ((xs.getD i.toNat CV.nilptr).cl.getD 0 CV.nilptr).toStr 0), CV.int .u8 (f4b ((xs.getD i.toNat CV.nilptr).cl.getD 0 CV.nilptr).toStr 1), CV.int .u8 (f4b ((xs.getD i.toNat CV.nilptr).cl.getD 0 CV.nilptr).toStr 2), CV.int .u8 (f4b ((xs.getD i.toNat CV.nilptr).cl.getD 0 CV.nilptr).toStr 3)])).length) * 1 ≤ 70368744177664)) (some (CV.tup [CV.sl true false 1 (ys ++ List.take 4 (List.drop 0 [CV.int .u8 (f4b ((xs.getD i.toNat CV.nilptr).cl.getD 0 CV.nilptr).toStr 0), CV.int .u8 (f4b ((xs.getD i.toNat CV.nilptr).cl.getD 0 CV.nilptr).toStr 1), CV.int .u8 (f4b ((xs.getD i.toNat CV.nilptr).cl.getD 0 CV.nilptr).toStr 2), CV.int .u8 (f4b ((xs.getD i.toNat CV.nilptr).cl.getD 0 CV.nilptr).toStr 3)])), CV.bool true], [])) none) (bif' (decide (((xs.getD i.toNat CV.nilptr).cl.getD 0 CV.nilptr).toStr.size ≤ 10000) && (true && (true && (true && (true && (nOk ((xs.getD i.toNat CV.nilptr).cl.getD 0 CV.nilptr).toStr 16 && decide ((↑(nV ((xs.getD i.toNat CV.nilptr).cl.getD 0 CV.nilptr).toStr 16) : Int) < 65536))))))) (bif' (decide ((↑((xs.getD i.toNat CV.nilptr).cl.getD 0 CV.nilptr).toStr.size : Int) > 4)) (some (CV.tup [CV.nilsl, CV.bool false], [])) (bif' (decide ((ys.length + (((List.replicate 2 (CV.int .u8 0)).set 0 (CV.int .u8 (IntKind.u8.wrap ((↑(nV ((xs.getD i.toNat CV.nilptr).cl.getD 0 CV.nilptr).toStr 16) : Int).fdiv (2 ^ 8))))).set 1 (CV.int .u8 (IntKind.u8.wrap (↑(nV ((xs.getD i.toNat CV.nilptr).cl.getD 0 CV.nilptr).toStr 16) : Int)))).length) * 1 ≤ 70368744177664)) (R (mkEnv 66 [(1, .c (CV.bool t)), (6, .rw 0 0), (7, .c (CV.sl false false 1 xs)), (18, .c (CV.sl false false 1 xs)), (19, .c (CV.int .i64 m)), (20, .c (CV.int .i64 (IntKind.i64.wrap (i + 1))))]) [.row (ys ++ ((List.replicate 2 (CV.int .u8 0)).set 0 (CV.int .u8 (IntKind.u8.wrap ((↑(nV ((xs.getD i.toNat CV.nilptr).cl.getD 0 CV.nilptr).toStr 16) : Int).fdiv (2 ^ 8))))).set 1 (CV.int .u8 (IntKind.u8.wrap (↑(nV ((xs.getD i.toNat CV.nilptr).cl.getD 0 CV.nilptr).toStr 16) : Int)))) 1 0 false]) none)) (bif' (decide (((xs.getD i.toNat CV.nilptr).cl.getD 0 CV.nilptr).toStr.size ≤ 10000) && true) (some (CV.tup [CV.nilsl, CV.bool false], [])) none))) (bif' (decide (((xs.getD i.toNat CV.nilptr).cl.getD 0 CV.nilptr).toStr.size ≤ 10000) && (true && (true && (true && (true && (nOk ((xs.getD i.toNat CV.nilptr).cl.getD 0 CV.nilptr).toStr 16 && decide ((↑(nV ((xs.getD i.toNat CV.nilptr).cl.getD 0 CV.nilptr).toStr 16) : Int) < 65536))))))) (bif' (decide ((↑((xs.getD i.toNat CV.nilptr).cl.getD 0 CV.nilptr).toStr.size : Int) > 4)) (some (CV.tup [CV.nilsl, CV.bool false], [])) (bif' (decide ((ys.length + (((List.replicate 2 (CV.int .u8 0)).set 0 (CV.int .u8 (IntKind.u8.wrap ((↑(nV ((xs.getD i.toNat CV.nilptr).cl.getD 0 CV.nilptr).toStr 16) : Int).fdiv (2 ^ 8))))).set 1 (CV.int .u8 (IntKind.u8.wrap (↑(nV ((xs.getD i.toNat CV.nilptr).cl.getD 0 CV.nilptr).toStr 16) : Int)))).length) * 1 ≤ 70368744177664)) (R (mkEnv 66 [(1, .c (CV.bool t)), (6, .rw 0 0), (7, .c (CV.sl false false 1 xs)), (18, .c (CV.sl false false 1 xs)), (19, .c (CV.int .i64 m)), (20, .c (CV.int .i64 (IntKind.i64.wrap (i + 1))))]) [.row (ys ++ ((List.replicate 2 (CV.int .u8 0)).set 0 (CV.int .u8 (IntKind.u8.wrap ((↑(nV ((xs.getD i.toNat CV.nilptr).cl.getD 0 CV.nilptr).toStr 16) : Int).fdiv (2 ^ 8))))).set 1 (CV.int .u8 (IntKind.u8.wrap (↑(nV ((xs.getD i.toNat CV.nilptr).cl.getD 0 CV.nilptr).toStr 16) : Int)))) 1 0 false]) none)) (bif' (decide (((xs.getD i.toNat CV.nilptr).cl.getD 0 CV.nilptr).toStr.size ≤ 10000) && true) (some (CV.tup [CV.nilsl, CV.bool false], [])) none))) (bif' (decide (((xs.getD i.toNat CV.nilptr).cl.getD 0 CV.nilptr).toStr.size ≤ 10000) && (true && (true && (true && (true && (nOk ((xs.getD i.toNat CV.nilptr).cl.getD 0 CV.nilptr).toStr 16 && decide ((↑(nV ((xs.getD i.toNat CV.nilptr).cl.getD 0 CV.nilptr).toStr 16) : Int) < 65536))))))) (bif' (decide ((↑((xs.getD i.toNat CV.nilptr).cl.getD 0 CV.nilptr).toStr.size : Int) > 4)) (some (CV.tup [CV.nilsl, CV.bool false], [])) (bif' (decide ((ys.length + (((List.replicate 2 (CV.int .u8 0)).set 0 (CV.int .u8 (IntKind.u8.wrap ((↑(nV ((xs.getD i.toNat CV.nilptr).cl.getD 0 CV.nilptr).toStr 16) : Int).fdiv (2 ^ 8))))).set 1 (CV.int .u8 (IntKind.u8.wrap (↑(nV ((xs.getD i.toNat CV.nilptr).cl.getD 0 CV.nilptr).toStr 16) : Int)))).length) * 1 ≤ 70368744177664)) (R (mkEnv 66 [(1, .c (CV.bool t)), (6, .rw 0 0), (7, .c (CV.sl false false 1 xs)), (18, .c (CV.sl false false 1 xs)), (19, .c (CV.int .i64 m)), (20, .c (CV.int .i64 (IntKind.i64.wrap (i + 1))))]) [.row (ys ++ ((List.replicate 2 (CV.int .u8 0)).set 0 (CV.int .u8 (IntKind.u8.wrap ((↑(nV ((xs.getD i.toNat CV.nilptr).cl.getD 0 CV.nilptr).toStr 16) : Int).fdiv (2 ^ 8))))).set 1 (CV.int .u8 (IntKind.u8.wrap (↑(nV ((xs.getD i.toNat CV.nilptr).cl.getD 0 CV.nilptr).toStr 16) : Int)))) 1 0 false]) none)) (bif' (decide (((xs.getD i.toNat CV.nilptr).cl.getD 0 CV.nilptr).toStr.size ≤ 10000) && true) (some (CV.tup [CV.nilsl, CV.bool false], [])) none))) none) none) none) none) none) (some (CV.tup [CV.sl true false 1 ys, CV.bool true], [])) := by kernel_rfl
end Go.Pv
namespace Go.Pv
set_option maxRecDepth 100000
set_option maxHeartbeats 200000
open Go Go.Proofs
variable {I : World → Prop} {ng : Nat}
theorem el_get (s : ByteArray) : (CV.str s).cl.getD 0 CV.nilptr = CV.str s := by cases s; rfl
theorem el_len (s : ByteArray) : (CV.str s).cl.length = 1 := by cases s; rfl
theorem el_okc (z s : ByteArray) : okc (CV.str z) (CV.str s) = true := by cases s; rfl
theorem el_str (s : ByteArray) : (CV.str s).toStr = s := by cases s; rfl
theorem xs_get (ps : List (List UInt8)) (k : Nat) (h : k < ps.length) : (ps.map strCV).getD k CV.nilptr = CV.str (mkS (ps.getD k [])) := by
 simp [List.getD_eq_getElem?_getD, h, strCV]
theorem ps_drop {ps : List (List UInt8)} {k : Nat} (h : k < ps.length) : ps.drop k = ps.getD k [] :: ps.drop (k + 1) := by
 rw [List.drop_eq_getElem_cons h]
 simp [List.getD_eq_getElem?_getD, h]
theorem ps_mem {ps : List (List UInt8)} {k : Nat} (h : k < ps.length) : ps.getD k [] ∈ ps := by
 simp [List.getD_eq_getElem?_getD, h]
theorem split_sz (c : UInt8) : ∀ (l : List UInt8), ∀ p ∈ splitL c l, p.length ≤ l.length
 | [], p, hp => by simp [splitL] at hp; subst hp; simp
 | b :: t, p, hp => by
   obtain ⟨q, qs, e⟩ := splitL_ne c t
   have ih := split_sz c t
   unfold splitL at hp
   split at hp
   · rcases List.mem_cons.1 hp with rfl | hp
     · simp
     · have := ih p hp; simp only [List.length_cons]; omega
   · rw [e] at hp ih
     simp only [List.mem_cons] at hp
     rcases hp with rfl | hp
     · have := ih q (by simp); simp only [List.length_cons]; omega
     · have := ih p (by simp [hp]); simp only [List.length_cons]; omega
theorem sp_len (s : ByteArray) (c : UInt8) : (spS s c).length = (splitL c s.data.toList).length := by unfold spS; rw [List.length_map]
theorem beq_by (c : UInt8) (d : UInt8) : (((c.toNat : Nat) : Int) == ((d.toNat : Nat) : Int)) = (c == d) := by
 rw [Bool.eq_iff_iff, beq_iff_eq, beq_iff_eq]
 exact u8_int
theorem beq48 (c : UInt8) : (((c.toNat : Nat) : Int) == 48) = (c == 48) := beq_by c 48
theorem g70 (hg : OnGlobals I ng) (h70 : Cw I ng 132 L70) : Kw I ng B70 := known_add (g64 hg) h70
theorem set_pad (A : List CV) (m : Nat) (z x : CV) : setRange (A ++ List.replicate (m + 1) z) A.length [x] = A ++ [x] ++ List.replicate m z := by
 unfold setRange
 rw [List.take_left', List.drop_append]
 · simp
 try rfl
theorem goF_len : ∀ ps : List (List UInt8), (goF ps).1.length ≤ ps.length
 | [] => Nat.le_refl _
 | p :: ps => by
   unfold goF
   split
   · have := goF_len ps; simp only [List.length_cons]; omega
   · simp
theorem goF_all : ∀ ps : List (List UInt8), (goF ps).2 = true → (goF ps).1.length = ps.length
 | [], _ => rfl
 | p :: ps, h => by
   unfold goF at h ⊢
   split at h
   · rename_i ho
     rw [if_pos ho]
     have := goF_all ps h; simp only [List.length_cons]; omega
   · cases h
theorem oct_lt {p : List UInt8} (h : octOk p = true) : numL 10 p < 256 := by
 unfold octOk at h
 simp only [Bool.and_eq_true, decide_eq_true_eq] at h
 exact h.2.1
theorem pad4 : ∀ r : List Nat, r.length ≤ 4 → r.map byCV ++ List.replicate (4 - r.length) (CV.int .u8 (Int.ofNat 0)) = [.int .u8 ((r.getD 0 0 : Nat) : Int), .int .u8 ((r.getD 1 0 : Nat) : Int), .int .u8 ((r.getD 2 0 : Nat) : Int), .int .u8 ((r.getD 3 0 : Nat) : Int)]
 | [], _ => rfl
 | [_], _ => rfl
 | [_, _], _ => rfl
 | [_, _, _], _ => rfl
 | [_, _, _, _], _ => rfl
 | _ :: _ :: _ :: _ :: _ :: _, h => by simp at h
def E56 (ps : List (List UInt8)) (k : Nat) : Env := mkEnv 47 [(2, .bptr 0 0), (4, .bptr 1 0), (16, .c (.sl false false 1 (ps.map strCV))), (17, .c (.int .i64 ((ps.length : Nat) : Int))), (18, .c (.int .i64 (k : Int)))]
noncomputable abbrev R56 (n j : Nat) (env : Env) (H : Hp) : Res := rounds Tryz.prog (call' B70) (filt an56 0) n hL56 (bodyN 0 (tailC 4 c56)) j env H (restN Tryz.prog (call' B70) (filt an56 0) n 0 (tailC 4 c56) (endOf Tryz.prog 114 []))
theorem lo56 (n : Nat) (ps : List (List UInt8)) (h4 : ps.length = 4) (hsz : ∀ p ∈ ps, p.length ≤ 10000) : ∀ (j k : Nat) (dn : List Nat), 4 < j + k → k ≤ 4 → dn.length = k →
   R56 n j (E56 ps k) [zA4, .box (.c (.agg (dn.map byCV ++ List.replicate (4 - k) (CV.int .u8 (Int.ofNat 0))))) kA4] =
     some (.tup [.agg ((dn ++ (goF (ps.drop k)).1).map byCV ++ List.replicate (4 - (dn ++ (goF (ps.drop k)).1).length) (CV.int .u8 (Int.ofNat 0))), .bool (goF (ps.drop k)).2], [])
 | 0, k, dn, hj, hk, hd => by omega
 | j + 1, k, dn, hj, hk, hd => by
   have hcl : ∀ l : List CV, (CV.agg l).cl = l := fun _ => rfl
   have hlen : (dn.map byCV ++ List.replicate (4 - k) (CV.int .u8 (Int.ofNat 0))).length = 4 := by simp; omega
   unfold R56
   rw [E56, rounds_succ, ic56]
   simp only [natM, hcl, hlen, List.length_map]
   have c4 : ((4 : Nat) == 4) = true := rfl
   rw [c4]
   by_cases h1 : k < ps.length
   · have hp := xs_get ps k h1
     simp only [hp, el_get, el_len, el_okc, el_str, sizeM]
     have hsz1 := hsz _ (ps_mem h1)
     generalize hpe : ps.getD k [] = p at *
     have e1 : nOk (mkS p) 10 = numOk 10 p := rfl
     have e2 : nV (mkS p) 10 = numL 10 p := rfl
     rw [e1, e2, atM]
     have b1 : decide ((k : Int) < ((ps.length : Nat) : Int)) = true := decide_eq_true (by omega)
     have b2 : decide ((0 : Int) ≤ (k : Int)) = true := decide_eq_true (by omega)
     have b3 : decide (0 < 1) = true := rfl
     have b4 : decide (p.length ≤ 10000) = true := decide_eq_true hsz1
     have b5 : decide ((k : Int) < (4 : Int)) = true := decide_eq_true (by omega)
     have b6 : decide (0 + k * 1 + 1 ≤ 4) = true := decide_eq_true (by omega)
     rw [b1, b2, b3, b4, b5, b6, beq48, wrp1 (i := k) (by omega), ps_drop h1, hpe]
     simp only [Bool.true_and, Bool.and_self, bif_t _ _ (Eq.refl true)]
     have hbad : octOk p = false → some (CV.tup [CV.agg (dn.map byCV ++ List.replicate (4 - k) (CV.int .u8 (Int.ofNat 0))), CV.bool false], ([] : List CV)) =
         some (.tup [.agg ((dn ++ (goF (p :: ps.drop (k + 1))).1).map byCV ++ List.replicate (4 - (dn ++ (goF (p :: ps.drop (k + 1))).1).length) (CV.int .u8 (Int.ofNat 0))), .bool (goF (p :: ps.drop (k + 1))).2], []) := by
       intro ho
       unfold goF
       rw [ho, if_neg Bool.false_ne_true, List.append_nil, hd]
     have hgood : octOk p = true → R56 n j (E56 ps (k + 1)) [zA4, .box (.c (.agg (setRange (dn.map byCV ++ List.replicate (4 - k) (CV.int .u8 (Int.ofNat 0))) (0 + k * 1) (CV.int IntKind.u8 (IntKind.u8.wrap ((numL 10 p : Nat) : Int))).cl))) kA4] =
         some (.tup [.agg ((dn ++ (goF (p :: ps.drop (k + 1))).1).map byCV ++ List.replicate (4 - (dn ++ (goF (p :: ps.drop (k + 1))).1).length) (CV.int .u8 (Int.ofNat 0))), .bool (goF (p :: ps.drop (k + 1))).2], []) := by
       intro ho
       have hlt := oct_lt ho
       have e3 : (CV.int IntKind.u8 (IntKind.u8.wrap ((numL 10 p : Nat) : Int))).cl = [byCV (numL 10 p)] := by
         rw [wrap8, show ((numL 10 p : Nat) : Int) % 256 = ((numL 10 p : Nat) : Int) by omega]; rfl
       have e4 : 4 - k = (4 - (k + 1)) + 1 := by omega
       have e5 : 0 + k * 1 = (dn.map byCV).length := by simp; omega
       rw [e3, e4, e5, set_pad]
       have ih := lo56 n ps h4 hsz j (k + 1) (dn ++ [numL 10 p]) (by omega) (by omega) (by simp; omega)
       have e6 : (dn ++ [numL 10 p]).map byCV = dn.map byCV ++ [byCV (numL 10 p)] := by simp
       rw [e6] at ih
       refine Eq.trans ih ?_
       have e7 : (goF (p :: ps.drop (k + 1))) = (numL 10 p :: (goF (ps.drop (k + 1))).1, (goF (ps.drop (k + 1))).2) := by
         conv => lhs; unfold goF
         rw [if_pos ho]
       rw [e7]
       simp only [List.append_assoc, List.cons_append, List.nil_append]
     unfold octOk at hbad hgood
     cases hn : numOk 10 p with
     | false =>
       rw [hn] at hbad
       rw [Bool.false_and, bif_f _ _ rfl]
       exact hbad rfl
     | true =>
       rw [hn] at hbad hgood
       by_cases hv : numL 10 p < 256
       · have b7 : decide (((numL 10 p : Nat) : Int) < 256) = true := decide_eq_true (by omega)
         rw [b7]
         rw [decide_eq_true hv] at hbad hgood
         simp only [Bool.true_and, Bool.and_self, bif_t _ _ (Eq.refl true)] at hbad hgood ⊢
         by_cases hl : 1 < p.length
         · have b8 : decide (((p.length : Nat) : Int) > 1) = true := decide_eq_true (by omega)
           have b9 : decide ((0 : Int) < ((p.length : Nat) : Int)) = true := decide_eq_true (by omega)
           rw [b8, b9]
           rw [decide_eq_true hl] at hbad hgood
           simp only [Bool.true_and, bif_t _ _ (Eq.refl true)] at hbad hgood ⊢
           cases h48 : (p.getD 0 0 == 48) with
           | true => rw [h48] at hbad; rw [bif_t _ _ rfl]; exact hbad rfl
           | false => rw [h48] at hgood; rw [bif_f _ _ rfl]; exact hgood rfl
         · have b8 : decide (((p.length : Nat) : Int) > 1) = false := decide_eq_false (by omega)
           rw [b8, bif_f _ _ rfl]
           rw [decide_eq_false hl] at hgood
           exact hgood rfl
       · have b7 : decide (((numL 10 p : Nat) : Int) < 256) = false := decide_eq_false (by omega)
         rw [b7]
         rw [decide_eq_false hv] at hbad
         simp only [Bool.and_false, Bool.false_and] at hbad ⊢
         rw [bif_f _ _ rfl]
         exact hbad trivial
   · have b1 : decide ((k : Int) < ((ps.length : Nat) : Int)) = false := decide_eq_false (by omega)
     rw [b1, bif_f _ _ rfl, List.drop_of_length_le (by omega)]
     simp only [bif_t _ _ (Eq.refl true)]
     have e : goF [] = ([], true) := rfl
     rw [e, List.append_nil, hd]
theorem sp56 : spine 4 c56 = true := by kernel_rfl
theorem ha56 : headAt (filt an56 0) (tailC 4 c56) = some h56 := by kernel_rfl
theorem lp56 : startsR (tailC 4 c56) = true := by kernel_rfl
theorem id56 : idsOk (tailC 4 c56) = true := by kernel_rfl
theorem nl56 : nLoops (tailC 4 c56) = 1 := by kernel_rfl
theorem hh56 : (firstRegion (bodyN 0 (tailC 4 c56))).bind (filt an56 0) = some hL56 := by kernel_rfl
theorem g56 (hg : OnGlobals I ng) (h70 : Cw I ng 132 L70) : Kw I ng B56 := known_add (g70 hg h70) (contract_of an56 hg (hok_of (g70 hg h70)) fun cargs rv outs h => by
 unfold L56 at h
 split at h <;> first | (cases h; done) | skip
 rename_i s
 by_cases hs : s.size ≤ 10000
 · simp only [picked, pickAlt, decide_eq_true hs] at h
   cases h
   refine ⟨12000, ?_⟩
   rw [abody_eq rfl (by kernel_rfl)]
   show aexec Tryz.prog (call' B70) (filt an56 0) 12000 c56 (envOf Tryz.prog 114 [.c (.str s)]) [] (endOf Tryz.prog 114 []) = _
   rw [seg_a (k := 4) (by decide) sp56 ha56, ip56, decide_eq_true hs, bif_t _ _ rfl, sp_len]
   unfold f4 f4b fourP
   by_cases h4 : (splitL 46 s.data.toList).length = 4
   · have b : ((((splitL 46 s.data.toList).length : Nat) : Int) != 4) = false := by rw [h4]; rfl
     rw [b, bif_f _ _ rfl, if_pos h4]
     show aexecB Tryz.prog (call' B70) (filt an56 0) 12000 (tailC 4 c56) _ _ _ = _
     rw [loopB' lp56 id56 nl56 hh56]
     refine (iq56 (spS s 46) 12000 (R56 12000 12000)).trans ?_
     rw [sp_len]
     have hsz : ∀ p ∈ splitL 46 s.data.toList, p.length ≤ 10000 := fun p hp => by
       have := split_sz 46 _ p hp
       rw [data_len] at this; omega
     refine (lo56 12000 (splitL 46 s.data.toList) h4 hsz 12000 0 [] (by omega) (by omega) rfl).trans ?_
     rw [List.drop_zero, List.nil_append, pad4 _ (by have := goF_len (splitL 46 s.data.toList); omega)]
   · have b : ((((splitL 46 s.data.toList).length : Nat) : Int) != 4) = true := by
       rw [bne_iff_ne]; omega
     rw [b, bif_t _ _ rfl, if_neg h4]
     rfl
 · simp only [picked, pickAlt, decide_eq_false hs] at h; cases h)
end Go.Pv
namespace Go.Pv
set_option maxRecDepth 100000
set_option maxHeartbeats 200000
open Go Go.Proofs
variable {I : World → Prop} {ng : Nat}
def foldA (v : Nat) (r : List Nat) : Nat := r.foldl (fun a x => a * 256 + x) v
noncomputable abbrev R63 (n j : Nat) (env : Env) (H : Hp) : Res := rounds Tryz.prog (call' B56) (filt an63 0) n hL63 (bodyN 0 (tailC 3 c63)) j env H (restN Tryz.prog (call' B56) (filt an63 0) n 0 (tailC 3 c63) (endOf Tryz.prog 90 []))
theorem lo63 (n : Nat) (ps : List (List UInt8)) (h4 : ps.length = 4) (hsz : ∀ p ∈ ps, p.length ≤ 10000) : ∀ (j k v : Nat), 4 < j + k → k ≤ 4 → v < 256 ^ k →
   R63 n j (mkEnv 48 [(3, .rw 0 0), (4, .c (.int .i64 (v : Int))), (5, .c (.int .i64 (k : Int)))]) [.row (ps.map strCV) 1 0 false] =
     some (.int .i64 (if (goF (ps.drop k)).2 = true then ((foldA v (goF (ps.drop k)).1 : Nat) : Int) else -1), [])
 | 0, k, v, hj, hk, hd => by omega
 | j + 1, k, v, hj, hk, hd => by
   unfold R63
   rw [rounds_succ, ic63]
   simp only [natM, List.length_map]
   by_cases h1 : k < ps.length
   · have hp := xs_get ps k h1
     simp only [hp, el_get, el_len, el_okc, el_str, sizeM]
     have hsz1 := hsz _ (ps_mem h1)
     generalize hpe : ps.getD k [] = p at *
     have e1 : nR (mkS p) 10 = if numOk 10 p then ((min (numL 10 p) 4294967296 : Nat) : Int) else -1 := rfl
     rw [e1, atM]
     have b0 : decide ((k : Int) < 4) = true := decide_eq_true (by omega)
     have b1 : decide ((k : Int) < ((ps.length : Nat) : Int)) = true := decide_eq_true (by omega)
     have b2 : decide ((0 : Int) ≤ (k : Int)) = true := decide_eq_true (by omega)
     have b3 : decide (0 < 1) = true := rfl
     have b4 : decide (p.length ≤ 10000) = true := decide_eq_true hsz1
     have b5 : decide (k < ps.length) = true := decide_eq_true h1
     rw [b0, b1, b2, b3, b4, b5, beq48, wrp1 (i := k) (by omega), ps_drop h1, hpe]
     simp only [Bool.true_and, Bool.and_self, bif_t _ _ (Eq.refl true)]
     have hbad : octOk p = false → some (CV.int IntKind.i64 (Int.negSucc 0), ([] : List CV)) = some (.int .i64 (if (goF (p :: ps.drop (k + 1))).2 = true then ((foldA v (goF (p :: ps.drop (k + 1))).1 : Nat) : Int) else -1), []) := by
       intro ho
       unfold goF
       rw [ho, if_neg Bool.false_ne_true, if_neg Bool.false_ne_true]
       rfl
     have hpow : 256 ^ k ≤ 256 ^ 4 := Nat.pow_le_pow_right (by omega) hk
     have hpow1 : 256 ^ (k + 1) = 256 ^ k * 256 := Nat.pow_succ ..
     have hgood : octOk p = true → R63 n j (mkEnv 48 [(3, .rw 0 0), (4, .c (.int .i64 (IntKind.i64.wrap (IntKind.i64.wrap ((v : Int) * 256) + ((min (numL 10 p) 4294967296 : Nat) : Int))))), (5, .c (.int .i64 ((k + 1 : Nat) : Int)))]) [.row (ps.map strCV) 1 0 false] = some (.int .i64 (if (goF (p :: ps.drop (k + 1))).2 = true then ((foldA v (goF (p :: ps.drop (k + 1))).1 : Nat) : Int) else -1), []) := by
       intro ho
       have hlt := oct_lt ho
       have e2 : IntKind.i64.wrap (IntKind.i64.wrap ((v : Int) * 256) + ((min (numL 10 p) 4294967296 : Nat) : Int)) = ((v * 256 + numL 10 p : Nat) : Int) := by
         rw [wrap_id (n := (v : Int) * 256) (by omega) (by omega), wrap_id (by omega) (by omega)]; omega
       rw [e2]
       refine Eq.trans (lo63 n ps h4 hsz j (k + 1) (v * 256 + numL 10 p) (by omega) (by omega) (by rw [hpow1]; omega)) ?_
       have e7 : (goF (p :: ps.drop (k + 1))) = (numL 10 p :: (goF (ps.drop (k + 1))).1, (goF (ps.drop (k + 1))).2) := by
         conv => lhs; unfold goF
         rw [if_pos ho]
       rw [e7]
       rfl
     unfold octOk at hbad hgood
     cases hn : numOk 10 p with
     | false =>
       rw [hn] at hbad
       rw [if_neg Bool.false_ne_true, bif_t _ _ (decide_eq_true (by decide))]
       exact hbad rfl
     | true =>
       rw [hn] at hbad hgood
       rw [if_pos rfl, bif_f _ _ (decide_eq_false (by omega))]
       by_cases hv : numL 10 p < 256
       · rw [bif_f _ _ (decide_eq_false (by omega))]
         rw [decide_eq_true hv] at hbad hgood
         simp only [Bool.true_and, Bool.and_self] at hbad hgood
         by_cases hl : 1 < p.length
         · have b8 : decide (((p.length : Nat) : Int) > 1) = true := decide_eq_true (by omega)
           have b9 : decide ((0 : Int) < ((p.length : Nat) : Int)) = true := decide_eq_true (by omega)
           rw [b8, b9]
           rw [decide_eq_true hl] at hbad hgood
           simp only [Bool.true_and, bif_t _ _ (Eq.refl true)] at hbad hgood ⊢
           cases h48 : (p.getD 0 0 == 48) with
           | true => rw [h48] at hbad; rw [bif_t _ _ rfl]; exact hbad rfl
           | false => rw [h48] at hgood; rw [bif_f _ _ rfl]; exact hgood rfl
         · have b8 : decide (((p.length : Nat) : Int) > 1) = false := decide_eq_false (by omega)
           rw [b8, bif_f _ _ rfl]
           rw [decide_eq_false hl] at hgood
           exact hgood rfl
       · rw [bif_t _ _ (decide_eq_true (by omega))]
         rw [decide_eq_false hv] at hbad
         exact hbad rfl
   · have b0 : decide ((k : Int) < 4) = false := decide_eq_false (by omega)
     rw [b0, bif_f _ _ rfl, List.drop_of_length_le (by omega)]
     rfl
theorem sp63 : spine 3 c63 = true := by kernel_rfl
theorem ha63 : headAt (filt an63 0) (tailC 3 c63) = some h63 := by kernel_rfl
theorem lp63 : startsR (tailC 3 c63) = true := by kernel_rfl
theorem id63 : idsOk (tailC 3 c63) = true := by kernel_rfl
theorem nl63 : nLoops (tailC 3 c63) = 1 := by kernel_rfl
theorem hh63 : (firstRegion (bodyN 0 (tailC 3 c63))).bind (filt an63 0) = some hL63 := by kernel_rfl
theorem fold4 (r : List Nat) (h : r.length = 4) : ((foldA 0 r : Nat) : Int) = ((((r.getD 0 0 : Nat) : Int) * 256 + ((r.getD 1 0 : Nat) : Int)) * 256 + ((r.getD 2 0 : Nat) : Int)) * 256 + ((r.getD 3 0 : Nat) : Int) := by
 match r, h with
 | [a, b, c, d], _ =>
   show ((((( 0 * 256 + a) * 256 + b) * 256 + c) * 256 + d : Nat) : Int) = (((a : Int) * 256 + (b : Int)) * 256 + (c : Int)) * 256 + (d : Int)
   omega
theorem g63 (hg : OnGlobals I ng) (h70 : Cw I ng 132 L70) : Kw I ng B63 := known_add (g56 hg h70) (contract_of an63 hg (hok_of (g56 hg h70)) fun cargs rv outs h => by
 unfold L63 at h
 split at h <;> first | (cases h; done) | skip
 rename_i s
 by_cases hs : s.size ≤ 10000
 · simp only [picked, pickAlt, decide_eq_true hs] at h
   cases h
   refine ⟨12000, ?_⟩
   rw [abody_eq rfl (by kernel_rfl)]
   show aexec Tryz.prog (call' B56) (filt an63 0) 12000 c63 (envOf Tryz.prog 90 [.c (.str s)]) [] (endOf Tryz.prog 90 []) = _
   rw [seg_a (k := 3) (by decide) sp63 ha63, ip63, decide_eq_true hs, sp_len]
   simp only [Bool.true_and, bif_t _ _ (Eq.refl true)]
   have e46 : Nat.toUInt8 46 = (46 : UInt8) := rfl
   rw [e46]
   unfold f4r f4 f4b fourP
   by_cases h4 : (splitL 46 s.data.toList).length = 4
   · have b : ((((splitL 46 s.data.toList).length : Nat) : Int) != 4) = false := by rw [h4]; rfl
     rw [b, bif_f _ _ rfl, if_pos h4]
     show aexecB Tryz.prog (call' B56) (filt an63 0) 12000 (tailC 3 c63) _ _ _ = _
     rw [loopB' lp63 id63 nl63 hh63]
     refine (iq63 (spS s 46) 12000 (R63 12000 12000)).trans ?_
     have hsz : ∀ p ∈ splitL 46 s.data.toList, p.length ≤ 10000 := fun p hp => by
       have := split_sz 46 _ p hp
       rw [data_len] at this; omega
     refine (lo63 12000 (splitL 46 s.data.toList) h4 hsz 12000 0 0 (by omega) (by omega) (by decide)).trans ?_
     rw [List.drop_zero]
     cases hq : (goF (splitL 46 s.data.toList)).2 with
     | false => rfl
     | true =>
       rw [if_pos rfl, if_pos rfl, fold4 _ (by rw [goF_all _ hq, h4])]
   · have b : ((((splitL 46 s.data.toList).length : Nat) : Int) != 4) = true := by
       rw [bne_iff_ne]; omega
     rw [b, bif_t _ _ rfl, if_neg h4]
     rfl
 · simp only [picked, pickAlt, decide_eq_false hs] at h; cases h)
theorem four4 {p : List UInt8} (h : (fourP (splitL 46 p)).2 = true) : (fourP (splitL 46 p)).1.length = 4 := by
 unfold fourP at h ⊢
 split at h
 · rename_i h4
   rw [if_pos h4, goF_all _ h, h4]
 · cases h
theorem list4 (r : List Nat) (h : r.length = 4) : [CV.int .u8 ((r.getD 0 0 : Nat) : Int), CV.int .u8 ((r.getD 1 0 : Nat) : Int), CV.int .u8 ((r.getD 2 0 : Nat) : Int), CV.int .u8 ((r.getD 3 0 : Nat) : Int)] = r.map byCV := by
 match r, h with
 | [a, b, c, d], _ => rfl
theorem rep2 {α : Type} (a b c : α) : ((List.replicate 2 a).set 0 b).set 1 c = [b, c] := rfl
def E72 (t : Bool) (ps : List (List UInt8)) (k : Nat) : Env := mkEnv 66 [(1, .c (.bool t)), (6, .rw 0 0), (7, .c (.sl false false 1 (ps.map strCV))), (18, .c (.sl false false 1 (ps.map strCV))), (19, .c (.int .i64 ((ps.length : Nat) : Int))), (20, .c (.int .i64 (k : Int)))]
def res72 (ys : List CV) : Option (List Nat) → Res
 | some r => some (.tup [.sl true false 1 (ys ++ r.map byCV), .bool true], [])
 | none => some (.tup [.nilsl, .bool false], [])
noncomputable abbrev R72 (n j : Nat) (env : Env) (H : Hp) : Res := rounds Tryz.prog (call' B63) (filt aL72 0) n hL72 (bodyN 0 (codeOf Tryz.prog 134)) j env H (restN Tryz.prog (call' B63) (filt aL72 0) n 0 (codeOf Tryz.prog 134) (endOf Tryz.prog 134 []))
theorem lo72 (n : Nat) (t : Bool) (ps : List (List UInt8)) (hl : ps.length ≤ 20000) (hsz : ∀ p ∈ ps, p.length ≤ 10000) : ∀ (j k : Nat) (ys : List CV), ps.length < j + k → k ≤ ps.length → ys.length ≤ 2 * k →
   R72 n j (E72 t ps k) [.row ys 1 0 false] = res72 ys (grL t (ps.drop k))
 | 0, k, ys, hj, hk, hd => by omega
 | j + 1, k, ys, hj, hk, hd => by
   unfold R72
   rw [E72, rounds_succ, ic72]
   simp only [natM, List.length_map, rep2]
   by_cases h1 : k < ps.length
   · have hp := xs_get ps k h1
     simp only [hp, el_get, el_len, el_okc, el_str, sizeM]
     have hsz1 := hsz _ (ps_mem h1)
     generalize hpe : ps.getD k [] = p at *
     have e1 : nOk (mkS p) 16 = numOk 16 p := rfl
     have e2 : nV (mkS p) 16 = numL 16 p := rfl
     have e3 : f4 (mkS p) = (fourP (splitL 46 p)).2 := rfl
     have e4 : ∀ i, f4b (mkS p) i = (((fourP (splitL 46 p)).1.getD i 0 : Nat) : Int) := fun _ => rfl
     rw [e1, e2, e3, e4, e4, e4, e4]
     have b1 : decide ((k : Int) < ((ps.length : Nat) : Int)) = true := decide_eq_true (by omega)
     have b2 : decide ((0 : Int) ≤ (k : Int)) = true := decide_eq_true (by omega)
     have b3 : decide (0 < 1) = true := rfl
     have b4 : decide (p.length ≤ 10000) = true := decide_eq_true hsz1
     have hw : IntKind.i64.wrap (((ps.length : Nat) : Int) - 1) = ((ps.length - 1 : Nat) : Int) := by rw [wrap_id (by omega) (by omega)]; omega
     rw [b1, b2, b3, b4, hw, wrp1 (i := k) (by omega), ps_drop h1, hpe]
     simp only [Bool.true_and, Bool.and_self, bif_t _ _ (Eq.refl true)]
     have grp : (t && ((ps.drop (k + 1)).isEmpty && (fourP (splitL 46 p)).2)) = false →
         (bif' (numOk 16 p && decide (((numL 16 p : Nat) : Int) < 65536)) (bif' (decide (((p.length : Nat) : Int) > 4)) (some (CV.tup [CV.nilsl, CV.bool false], [])) (bif' (decide ((ys.length + [CV.int IntKind.u8 (IntKind.u8.wrap (((numL 16 p : Nat) : Int).fdiv (2 ^ 8))), CV.int IntKind.u8 (IntKind.u8.wrap ((numL 16 p : Nat) : Int))].length) * 1 ≤ 70368744177664)) (R72 n j (E72 t ps (k + 1)) [.row (ys ++ [CV.int IntKind.u8 (IntKind.u8.wrap (((numL 16 p : Nat) : Int).fdiv (2 ^ 8))), CV.int IntKind.u8 (IntKind.u8.wrap ((numL 16 p : Nat) : Int))]) 1 0 false]) none)) (some (CV.tup [CV.nilsl, CV.bool false], []))) = res72 ys (grL t (p :: ps.drop (k + 1))) := by
       intro hno
       have e5 : grL t (p :: ps.drop (k + 1)) = if grpOk p then (match grL t (ps.drop (k + 1)) with
           | some r => some (numL 16 p / 256 :: numL 16 p % 256 :: r)
           | none => none) else none := by
         conv => lhs; unfold grL
         rw [hno, if_neg Bool.false_ne_true]
         all_goals (cases grL t (ps.drop (k + 1)) <;> rfl)
       rw [e5]
       unfold grpOk
       cases hn : numOk 16 p with
       | false => rfl
       | true =>
         by_cases hv : numL 16 p < 65536
         · rw [decide_eq_true hv, decide_eq_true (show ((numL 16 p : Nat) : Int) < 65536 by omega)]
           by_cases hlen : p.length ≤ 4
           · rw [decide_eq_true hlen, decide_eq_false (show ¬ (((p.length : Nat) : Int) > 4) by omega)]
             have b5 : decide ((ys.length + [CV.int IntKind.u8 (IntKind.u8.wrap (((numL 16 p : Nat) : Int).fdiv (2 ^ 8))), CV.int IntKind.u8 (IntKind.u8.wrap ((numL 16 p : Nat) : Int))].length) * 1 ≤ 70368744177664) = true := decide_eq_true (by simp only [List.length_cons, List.length_nil]; omega)
             rw [b5]
             simp only [Bool.and_self, bif_t _ _ (Eq.refl true), bif_f _ _ (Eq.refl false), if_true]
             have e6 : (((numL 16 p : Nat) : Int).fdiv (2 ^ 8)) = ((numL 16 p / 256 : Nat) : Int) := by
               rw [Int.fdiv_eq_ediv_of_nonneg _ (by decide)]
               have : (2 ^ 8 : Int) = ((256 : Nat) : Int) := by decide
               rw [this, ← Int.natCast_ediv]
             have e7 : IntKind.u8.wrap ((numL 16 p / 256 : Nat) : Int) = ((numL 16 p / 256 : Nat) : Int) := by rw [wrap8]; omega
             have e8 : IntKind.u8.wrap ((numL 16 p : Nat) : Int) = ((numL 16 p % 256 : Nat) : Int) := by rw [wrap8]; omega
             rw [e6, e7, e8]
             refine Eq.trans (lo72 n t ps hl hsz j (k + 1) _ (by omega) (by omega) (by rw [List.length_append]; simp only [List.length_cons, List.length_nil]; omega)) ?_
             cases grL t (ps.drop (k + 1)) with
             | none => rfl
             | some r =>
               unfold res72
               simp only [List.append_assoc]
               rfl
           · rw [decide_eq_false hlen, decide_eq_true (show (((p.length : Nat) : Int) > 4) by omega)]
             rfl
         · rw [decide_eq_false hv, decide_eq_false (show ¬ ((numL 16 p : Nat) : Int) < 65536 by omega)]
           rfl
     have hlast : (((k : Nat) : Int) == ((ps.length - 1 : Nat) : Int)) = (ps.drop (k + 1)).isEmpty := by
       rw [Bool.eq_iff_iff, beq_iff_eq, List.isEmpty_iff, List.drop_eq_nil_iff]; omega
     rw [hlast]
     cases h4 : (fourP (splitL 46 p)).2 with
     | false =>
       rw [bif_f _ _ rfl]
       rw [h4] at grp
       exact grp (by simp)
     | true =>
       rw [h4] at grp
       rw [bif_t _ _ rfl]
       cases t with
       | false => rw [bif_f _ _ rfl]; exact grp rfl
       | true =>
         rw [bif_t _ _ rfl]
         cases he : (ps.drop (k + 1)).isEmpty with
         | false =>
           rw [bif_f _ _ rfl]
           exact grp (by rw [he]; rfl)
         | true =>
           have hl4 := four4 h4
           have e6 : grL true (p :: ps.drop (k + 1)) = some (fourP (splitL 46 p)).1 := by
             unfold grL
             rw [he, h4]; rfl
           rw [e6, list4 _ hl4, List.drop_zero, List.take_of_length_le (by simp; omega), bif_t _ _ rfl]
           rw [bif_t _ _ (decide_eq_true (by simp; omega))]
           rfl
   · have b1 : decide ((k : Int) < ((ps.length : Nat) : Int)) = false := decide_eq_false (by omega)
     rw [b1, bif_f _ _ rfl, List.drop_of_length_le (by omega)]
     have e : grL t [] = some [] := by unfold grL; rfl
     rw [e]
     show _ = some (CV.tup [CV.sl true false 1 (ys ++ ([] : List Nat).map byCV), .bool true], [])
     rw [List.map_nil, List.append_nil]
theorem split_len (c : UInt8) : ∀ l : List UInt8, (splitL c l).length ≤ l.length + 1
 | [] => Nat.le_refl _
 | b :: t => by
   obtain ⟨q, qs, e⟩ := splitL_ne c t
   have ih := split_len c t
   unfold splitL
   split
   · simp only [List.length_cons]; omega
   · rw [e] at ih ⊢
     simp only [List.length_cons] at *; omega
theorem g72 (hg : OnGlobals I ng) (h70 : Cw I ng 132 L70) : Kw I ng B72 := known_add (g63 hg h70) (contract_of aL72 hg (hok_of (g63 hg h70)) fun cargs rv outs h => by
 unfold L72 at h
 split at h <;> first | (cases h; done) | skip
 rename_i s t
 refine ⟨22000, loop1 rfl (by kernel_rfl) (by kernel_rfl) (by kernel_rfl) (hd := hL72) (by kernel_rfl) ?_⟩
 by_cases hs : s.size ≤ 10000
 · refine (ib72 s t 22000 (R72 22000 22000)).trans ?_
   obtain ⟨l, rfl⟩ : ∃ l, s = mkS l := ⟨_, (mkS_bl s).symm⟩
   rw [sizeM] at hs
   have e : ((mkS l).toList == (ByteArray.mk #[]).toList) = decide (l.length = 0) := by
     rw [toList_data, toList_data, mkS_data]
     cases l <;> rfl
   have e2 : (spS (mkS l) 58) = (splitL 58 l).map strCV := rfl
   rw [e, sizeM, decide_eq_true hs, e2, List.length_map]
   simp only [picked, pickAlt, sizeM, decide_eq_true hs, Bool.true_and] at h
   by_cases h0 : l.length = 0
   · rw [decide_eq_true h0] at h ⊢
     cases h
     rfl
   · rw [decide_eq_false h0] at h ⊢
     rw [bif_f _ _ rfl, bif_t _ _ rfl]
     have hsz : ∀ p ∈ splitL 58 l, p.length ≤ 10000 := fun p hp => by
       have := split_sz 58 _ p hp; omega
     have hl := split_len 58 l
     refine Eq.trans (lo72 22000 t (splitL 58 l) (by omega) hsz 22000 0 [] (by omega) (by omega) (by simp)) ?_
     rw [List.drop_zero]
     unfold gOk gB at h
     simp only [dataM] at h
     cases hq : grL t (splitL 58 l) with
     | none => rw [hq] at h; cases h; rfl
     | some r => rw [hq] at h; cases h; rfl
 · simp only [picked, pickAlt, decide_eq_false hs, Bool.false_and] at h; cases h)
end Go.Pv
namespace Go.Pv
set_option maxRecDepth 100000
open Go Go.Proofs
def cutDD : List UInt8 → Option (List UInt8 × List UInt8)
 | [] => none
 | a :: t => if a = 58 ∧ t.head? = some 58 then some ([], t.drop 1) else match cutDD t with
   | some (h, r) => some (a :: h, r)
   | none => none
def ddG (s : ByteArray) : Bool := (cutDD s.data.toList).isSome
def ddH (s : ByteArray) : ByteArray := match cutDD s.data.toList with
 | some (h, _) => mkS h
 | none => s
def ddT (s : ByteArray) : ByteArray := match cutDD s.data.toList with
 | some (_, t) => mkS t
 | none => mkS []
def hasB (s : ByteArray) (c : UInt8) : Bool := s.data.toList.any fun b => decide (b = c)
def grpL (tail : Bool) (l : List UInt8) : Option (List Nat) := if l.isEmpty then some [] else grL tail (splitL 58 l)
def sixL (l : List UInt8) : Option (List Nat) := match cutDD l with
 | none => match grpL true l with
   | some a => if a.length = 16 then some a else none
   | none => none
 | some (h, t) => match grpL false h, grpL true t with
   | some a, some b => if a.length + b.length ≤ 16 then some (a ++ List.replicate (16 - a.length - b.length) 0 ++ b) else none
   | _, _ => none
def s6 (s : ByteArray) : Bool := (sixL s.data.toList).isSome
def s6b (s : ByteArray) (i : Nat) : Int := ((((sixL s.data.toList).getD []).getD i 0 : Nat) : Int)
def ip4 (s : ByteArray) : Bool := decide (s.size ≤ 64) && f4 s
def ip6 (s : ByteArray) : Bool := decide (s.size ≤ 64) && (!f4 s && (s6 s && hasB s 58))
def ipB (s : ByteArray) (i : Nat) : Int := if f4 s then (if i < 12 then 0 else f4b s (i - 12)) else s6b s i
def refG (all : List (List UInt8)) : Nat → Bool → List (List UInt8) → Option (List Int)
 | _, _, [] => some []
 | i, gap, p :: ps => if p = [] then
     if i = 0 ∨ ps = [] then
       if all.length < 3 ∨ (i = 0 ∧ all.getD 1 [] ≠ []) ∨ (0 < i ∧ all.getD (all.length - 2) [] ≠ []) then none else refG all (i + 1) gap ps
     else if gap then none else match refG all (i + 1) true ps with
       | some r => some (-1 :: r)
       | none => none
   else if (fourP (splitL 46 p)).2 = true ∧ ps = [] then some [f4r (mkS p) / 65536, f4r (mkS p) % 65536]
   else if numOk 16 p = true ∧ p.length ≤ 4 then match refG all (i + 1) gap ps with
     | some r => some (((numL 16 p : Nat) : Int) :: r)
     | none => none
   else none
def intCV (n : Int) : CV := .int .i64 n
def gROk (s : ByteArray) : Bool := (refG (splitL 58 s.data.toList) 0 false (splitL 58 s.data.toList)).isSome
def rB (s : ByteArray) : List CV := ((refG (splitL 58 s.data.toList) 0 false (splitL 58 s.data.toList)).getD []).map intCV
def L28d : Fn1 := fun x => match x with
 | [.str s, .str ⟨⟨[58, 58]⟩⟩] => some [(decide (s.size ≤ 10000), .tup [.str (ddH s), .str (ddT s), .bool (ddG s)], [])]
 | _ => none
def L60d : Fn1 := fun x => match x with
 | [.str s, .str ⟨⟨[c]⟩⟩] => some [(decide (s.size ≤ 10000), .int .i64 (Lib.indexByte s.data.toList c), [])]
 | _ => none
def L59d : Fn1 := fun x => match x with
 | [.str s, .str ⟨⟨[c]⟩⟩] => some [(decide (s.size ≤ 10000), .bool (hasB s c), [])]
 | _ => none
def L58 : Fn1 := fun x => match x with
 | [.str s] => some [(decide (s.size ≤ 10000), .tup [.agg [.int .u8 (s6b s 0), .int .u8 (s6b s 1), .int .u8 (s6b s 2), .int .u8 (s6b s 3), .int .u8 (s6b s 4), .int .u8 (s6b s 5), .int .u8 (s6b s 6), .int .u8 (s6b s 7), .int .u8 (s6b s 8), .int .u8 (s6b s 9), .int .u8 (s6b s 10), .int .u8 (s6b s 11), .int .u8 (s6b s 12), .int .u8 (s6b s 13), .int .u8 (s6b s 14), .int .u8 (s6b s 15)], .bool (s6 s)], [])]
 | _ => none
def ipZero : CV := .agg [.bool false, .int .u8 0, .int .u8 0, .int .u8 0, .int .u8 0, .int .u8 0, .int .u8 0, .int .u8 0, .int .u8 0, .int .u8 0, .int .u8 0, .int .u8 0, .int .u8 0, .int .u8 0, .int .u8 0, .int .u8 0, .int .u8 0]
def ipAgg (v : Bool) (s : ByteArray) : CV := .agg [.bool v, .int .u8 (ipB s 0), .int .u8 (ipB s 1), .int .u8 (ipB s 2), .int .u8 (ipB s 3), .int .u8 (ipB s 4), .int .u8 (ipB s 5), .int .u8 (ipB s 6), .int .u8 (ipB s 7), .int .u8 (ipB s 8), .int .u8 (ipB s 9), .int .u8 (ipB s 10), .int .u8 (ipB s 11), .int .u8 (ipB s 12), .int .u8 (ipB s 13), .int .u8 (ipB s 14), .int .u8 (ipB s 15)]
def L47 : Fn1 := fun x => match x with
 | [.str s] => some [(decide (s.size ≤ 3000) && ip6 s, .tup [ipAgg true s, .int .i64 0], []), (decide (s.size ≤ 3000) && ip4 s, .tup [ipAgg false s, .int .i64 0], []), (decide (s.size ≤ 3000), .tup [ipZero, .int .i64 5], [])]
 | _ => none
def L65 : Fn1 := fun x => match x with
 | [.str s] => some [(decide (s.size ≤ 10000) && gROk s, .tup [.sl true false 1 (rB s), .bool true], []), (decide (s.size ≤ 10000), .tup [.nilsl, .bool false], [])]
 | _ => none
def B28 : Table := fun g => if Nat.beq g 73 then L28d else B72 g
def B60 : Table := fun g => if Nat.beq g 118 then L60d else B28 g
def B73 : Table := fun g => if Nat.beq g 135 then L60d else B60 g
def B59 : Table := fun g => if Nat.beq g 117 then L59d else B73 g
def B58 : Table := fun g => if Nat.beq g 116 then L58 else B59 g
def B65 : Table := fun g => if Nat.beq g 92 then L65 else B58 g
def kA16 : Nat := 16 + 4294967296 * (78 + 1)
noncomputable def c58 : Code := codeOf Tryz.prog 116
def h58a : Head := ⟨[2, 4, 5, 6, 7], [], 2⟩
def h58b : Head := ⟨[2, 4, 6, 7, 8, 9], [(8, 1)], 2⟩
def h58c : Head := ⟨[2, 4, 7, 8, 9, 10, 11], [(8, 1), (10, 1)], 2⟩
def h58d : Head := ⟨[2, 4, 8, 10], [(8, 1), (10, 1)], 2⟩
def an58 : Ann := fun i => if Nat.beq i 500003 then some h58a else if Nat.beq i 500004 then some h58b else if Nat.beq i 500005 then some h58c else if Nat.beq i 500007 then some h58d else none
abbrev zA16 : AO := .box (.c (.agg [.int .u8 0, .int .u8 0, .int .u8 0, .int .u8 0, .int .u8 0, .int .u8 0, .int .u8 0, .int .u8 0, .int .u8 0, .int .u8 0, .int .u8 0, .int .u8 0, .int .u8 0, .int .u8 0, .int .u8 0, .int .u8 0])) kA16
def hL65 : Head := ⟨[4, 5, 6, 7], [(5, 1), (4, 1)], 0⟩
def aL65 : Ann := fun i => if Nat.beq i 5 then some hL65 else none
theorem iq60 (s : ByteArray) (c : UInt8) : abody Tryz.prog (call' B28) (fun _ => none) 1 118 [.str s, .str ⟨⟨[c]⟩⟩] =
 bif' ((ByteArray.mk (Array.mk [c])).toList == s.toList) (some (CV.int .i64 (.ofNat 0), [])) (some (CV.int .i64 (Lib.indexByte s.data.toList (byteAt (ByteArray.mk (Array.mk [c])) 0).toNat.toUInt8), [])) := by kernel_rfl
theorem iq73 (s : ByteArray) (c : UInt8) : abody Tryz.prog (call' B60) (fun _ => none) 1 135 [.str s, .str ⟨⟨[c]⟩⟩] =
 bif' (decide (s.size ≤ 10000)) (some (CV.int .i64 (Lib.indexByte s.data.toList c), [])) none := by kernel_rfl
theorem iq59 (s : ByteArray) (c : UInt8) : abody Tryz.prog (call' B73) (fun _ => none) 1 117 [.str s, .str ⟨⟨[c]⟩⟩] =
 bif' (decide (s.size ≤ 10000)) (some (CV.bool (decide (Lib.indexByte s.data.toList c ≥ 0)), [])) none := by kernel_rfl
theorem ip58 (s : ByteArray) (n : Nat) (L : Env → Hp → Res) : aexec Tryz.prog (call' B59) (filt an58 0) n (prefC 3 c58) (envOf Tryz.prog 116 [.c (.str s)]) [] (thenK (headK h58a L) (endOf Tryz.prog 116 [])) =
 bif' (decide (s.size ≤ 10000)) (L (mkEnv 68 [(2, .bptr 0 0), (4, .bptr 1 0), (5, .c (CV.str (ddH s))), (6, .c (CV.str (ddT s))), (7, .c (CV.bool (ddG s)))]) [.box (.c (CV.agg [CV.int .u8 (.ofNat 0), CV.int .u8 (.ofNat 0), CV.int .u8 (.ofNat 0), CV.int .u8 (.ofNat 0), CV.int .u8 (.ofNat 0), CV.int .u8 (.ofNat 0), CV.int .u8 (.ofNat 0), CV.int .u8 (.ofNat 0), CV.int .u8 (.ofNat 0), CV.int .u8 (.ofNat 0), CV.int .u8 (.ofNat 0), CV.int .u8 (.ofNat 0), CV.int .u8 (.ofNat 0), CV.int .u8 (.ofNat 0), CV.int .u8 (.ofNat 0), CV.int .u8 (.ofNat 0)])) kA16, .box (.c (CV.agg [CV.int .u8 (.ofNat 0), CV.int .u8 (.ofNat 0), CV.int .u8 (.ofNat 0), CV.int .u8 (.ofNat 0), CV.int .u8 (.ofNat 0), CV.int .u8 (.ofNat 0), CV.int .u8 (.ofNat 0), CV.int .u8 (.ofNat 0), CV.int .u8 (.ofNat 0), CV.int .u8 (.ofNat 0), CV.int .u8 (.ofNat 0), CV.int .u8 (.ofNat 0), CV.int .u8 (.ofNat 0), CV.int .u8 (.ofNat 0), CV.int .u8 (.ofNat 0), CV.int .u8 (.ofNat 0)])) kA16]) none := by kernel_rfl
theorem iq58 (h t : ByteArray) (g : Bool) (n : Nat) (L : Env → Hp → Res) : aexecB Tryz.prog (call' B59) (filt an58 0) n (prefC 1 (tailC 3 c58)) (mkEnv 68 [(2, .bptr 0 0), (4, .bptr 1 0), (5, .c (.str h)), (6, .c (.str t)), (7, .c (.bool g))]) [zA16, zA16] (thenK (headK h58b L) (endOf Tryz.prog 116 [])) =
 bif' (decide (h.size ≤ 10000) && decide (h.size = 0)) (L (mkEnv 68 [(2, .bptr 0 0), (4, .bptr 1 0), (6, .c (CV.str t)), (7, .c (CV.bool g)), (8, .rw 2 0), (9, .c (CV.bool true))]) [.box (.c (CV.agg [CV.int .u8 (.ofNat 0), CV.int .u8 (.ofNat 0), CV.int .u8 (.ofNat 0), CV.int .u8 (.ofNat 0), CV.int .u8 (.ofNat 0), CV.int .u8 (.ofNat 0), CV.int .u8 (.ofNat 0), CV.int .u8 (.ofNat 0), CV.int .u8 (.ofNat 0), CV.int .u8 (.ofNat 0), CV.int .u8 (.ofNat 0), CV.int .u8 (.ofNat 0), CV.int .u8 (.ofNat 0), CV.int .u8 (.ofNat 0), CV.int .u8 (.ofNat 0), CV.int .u8 (.ofNat 0)])) kA16, .box (.c (CV.agg [CV.int .u8 (.ofNat 0), CV.int .u8 (.ofNat 0), CV.int .u8 (.ofNat 0), CV.int .u8 (.ofNat 0), CV.int .u8 (.ofNat 0), CV.int .u8 (.ofNat 0), CV.int .u8 (.ofNat 0), CV.int .u8 (.ofNat 0), CV.int .u8 (.ofNat 0), CV.int .u8 (.ofNat 0), CV.int .u8 (.ofNat 0), CV.int .u8 (.ofNat 0), CV.int .u8 (.ofNat 0), CV.int .u8 (.ofNat 0), CV.int .u8 (.ofNat 0), CV.int .u8 (.ofNat 0)])) kA16, .row [] 1 0 false]) (bif' (decide (h.size ≤ 10000) && gOk h !g) (L (mkEnv 68 [(2, .bptr 0 0), (4, .bptr 1 0), (6, .c (CV.str t)), (7, .c (CV.bool g)), (8, .rw 2 0), (9, .c (CV.bool true))]) [.box (.c (CV.agg [CV.int .u8 (.ofNat 0), CV.int .u8 (.ofNat 0), CV.int .u8 (.ofNat 0), CV.int .u8 (.ofNat 0), CV.int .u8 (.ofNat 0), CV.int .u8 (.ofNat 0), CV.int .u8 (.ofNat 0), CV.int .u8 (.ofNat 0), CV.int .u8 (.ofNat 0), CV.int .u8 (.ofNat 0), CV.int .u8 (.ofNat 0), CV.int .u8 (.ofNat 0), CV.int .u8 (.ofNat 0), CV.int .u8 (.ofNat 0), CV.int .u8 (.ofNat 0), CV.int .u8 (.ofNat 0)])) kA16, .box (.c (CV.agg [CV.int .u8 (.ofNat 0), CV.int .u8 (.ofNat 0), CV.int .u8 (.ofNat 0), CV.int .u8 (.ofNat 0), CV.int .u8 (.ofNat 0), CV.int .u8 (.ofNat 0), CV.int .u8 (.ofNat 0), CV.int .u8 (.ofNat 0), CV.int .u8 (.ofNat 0), CV.int .u8 (.ofNat 0), CV.int .u8 (.ofNat 0), CV.int .u8 (.ofNat 0), CV.int .u8 (.ofNat 0), CV.int .u8 (.ofNat 0), CV.int .u8 (.ofNat 0), CV.int .u8 (.ofNat 0)])) kA16, .row (gB h !g) 1 0 false]) (bif' (decide (h.size ≤ 10000)) (L (mkEnv 68 [(2, .bptr 0 0), (4, .bptr 1 0), (6, .c (CV.str t)), (7, .c (CV.bool g)), (8, .rw 2 0), (9, .c (CV.bool false))]) [.box (.c (CV.agg [CV.int .u8 (.ofNat 0), CV.int .u8 (.ofNat 0), CV.int .u8 (.ofNat 0), CV.int .u8 (.ofNat 0), CV.int .u8 (.ofNat 0), CV.int .u8 (.ofNat 0), CV.int .u8 (.ofNat 0), CV.int .u8 (.ofNat 0), CV.int .u8 (.ofNat 0), CV.int .u8 (.ofNat 0), CV.int .u8 (.ofNat 0), CV.int .u8 (.ofNat 0), CV.int .u8 (.ofNat 0), CV.int .u8 (.ofNat 0), CV.int .u8 (.ofNat 0), CV.int .u8 (.ofNat 0)])) kA16, .box (.c (CV.agg [CV.int .u8 (.ofNat 0), CV.int .u8 (.ofNat 0), CV.int .u8 (.ofNat 0), CV.int .u8 (.ofNat 0), CV.int .u8 (.ofNat 0), CV.int .u8 (.ofNat 0), CV.int .u8 (.ofNat 0), CV.int .u8 (.ofNat 0), CV.int .u8 (.ofNat 0), CV.int .u8 (.ofNat 0), CV.int .u8 (.ofNat 0), CV.int .u8 (.ofNat 0), CV.int .u8 (.ofNat 0), CV.int .u8 (.ofNat 0), CV.int .u8 (.ofNat 0), CV.int .u8 (.ofNat 0)])) kA16, .row [] 1 0 false]) none)) := by kernel_rfl
theorem ir58 (t : ByteArray) (g a : Bool) (xs : List CV) (n : Nat) (L : Env → Hp → Res) : aexecB Tryz.prog (call' B59) (filt an58 0) n (prefC 1 (tailC 4 c58)) (mkEnv 68 [(2, .bptr 0 0), (4, .bptr 1 0), (6, .c (.str t)), (7, .c (.bool g)), (8, .rw 2 0), (9, .c (.bool a))]) [zA16, zA16, .row xs 1 0 false] (thenK (headK h58c L) (endOf Tryz.prog 116 [])) =
 bif' (decide (t.size ≤ 10000) && decide (t.size = 0)) (L (mkEnv 68 [(2, .bptr 0 0), (4, .bptr 1 0), (7, .c (CV.bool g)), (8, .rw 2 0), (9, .c (CV.bool a)), (10, .rw 3 0), (11, .c (CV.bool true))]) [.box (.c (CV.agg [CV.int .u8 (.ofNat 0), CV.int .u8 (.ofNat 0), CV.int .u8 (.ofNat 0), CV.int .u8 (.ofNat 0), CV.int .u8 (.ofNat 0), CV.int .u8 (.ofNat 0), CV.int .u8 (.ofNat 0), CV.int .u8 (.ofNat 0), CV.int .u8 (.ofNat 0), CV.int .u8 (.ofNat 0), CV.int .u8 (.ofNat 0), CV.int .u8 (.ofNat 0), CV.int .u8 (.ofNat 0), CV.int .u8 (.ofNat 0), CV.int .u8 (.ofNat 0), CV.int .u8 (.ofNat 0)])) kA16, .box (.c (CV.agg [CV.int .u8 (.ofNat 0), CV.int .u8 (.ofNat 0), CV.int .u8 (.ofNat 0), CV.int .u8 (.ofNat 0), CV.int .u8 (.ofNat 0), CV.int .u8 (.ofNat 0), CV.int .u8 (.ofNat 0), CV.int .u8 (.ofNat 0), CV.int .u8 (.ofNat 0), CV.int .u8 (.ofNat 0), CV.int .u8 (.ofNat 0), CV.int .u8 (.ofNat 0), CV.int .u8 (.ofNat 0), CV.int .u8 (.ofNat 0), CV.int .u8 (.ofNat 0), CV.int .u8 (.ofNat 0)])) kA16, .row xs 1 0 false, .row [] 1 0 false]) (bif' (decide (t.size ≤ 10000) && gOk t true) (L (mkEnv 68 [(2, .bptr 0 0), (4, .bptr 1 0), (7, .c (CV.bool g)), (8, .rw 2 0), (9, .c (CV.bool a)), (10, .rw 3 0), (11, .c (CV.bool true))]) [.box (.c (CV.agg [CV.int .u8 (.ofNat 0), CV.int .u8 (.ofNat 0), CV.int .u8 (.ofNat 0), CV.int .u8 (.ofNat 0), CV.int .u8 (.ofNat 0), CV.int .u8 (.ofNat 0), CV.int .u8 (.ofNat 0), CV.int .u8 (.ofNat 0), CV.int .u8 (.ofNat 0), CV.int .u8 (.ofNat 0), CV.int .u8 (.ofNat 0), CV.int .u8 (.ofNat 0), CV.int .u8 (.ofNat 0), CV.int .u8 (.ofNat 0), CV.int .u8 (.ofNat 0), CV.int .u8 (.ofNat 0)])) kA16, .box (.c (CV.agg [CV.int .u8 (.ofNat 0), CV.int .u8 (.ofNat 0), CV.int .u8 (.ofNat 0), CV.int .u8 (.ofNat 0), CV.int .u8 (.ofNat 0), CV.int .u8 (.ofNat 0), CV.int .u8 (.ofNat 0), CV.int .u8 (.ofNat 0), CV.int .u8 (.ofNat 0), CV.int .u8 (.ofNat 0), CV.int .u8 (.ofNat 0), CV.int .u8 (.ofNat 0), CV.int .u8 (.ofNat 0), CV.int .u8 (.ofNat 0), CV.int .u8 (.ofNat 0), CV.int .u8 (.ofNat 0)])) kA16, .row xs 1 0 false, .row (gB t true) 1 0 false]) (bif' (decide (t.size ≤ 10000)) (L (mkEnv 68 [(2, .bptr 0 0), (4, .bptr 1 0), (7, .c (CV.bool g)), (8, .rw 2 0), (9, .c (CV.bool a)), (10, .rw 3 0), (11, .c (CV.bool false))]) [.box (.c (CV.agg [CV.int .u8 (.ofNat 0), CV.int .u8 (.ofNat 0), CV.int .u8 (.ofNat 0), CV.int .u8 (.ofNat 0), CV.int .u8 (.ofNat 0), CV.int .u8 (.ofNat 0), CV.int .u8 (.ofNat 0), CV.int .u8 (.ofNat 0), CV.int .u8 (.ofNat 0), CV.int .u8 (.ofNat 0), CV.int .u8 (.ofNat 0), CV.int .u8 (.ofNat 0), CV.int .u8 (.ofNat 0), CV.int .u8 (.ofNat 0), CV.int .u8 (.ofNat 0), CV.int .u8 (.ofNat 0)])) kA16, .box (.c (CV.agg [CV.int .u8 (.ofNat 0), CV.int .u8 (.ofNat 0), CV.int .u8 (.ofNat 0), CV.int .u8 (.ofNat 0), CV.int .u8 (.ofNat 0), CV.int .u8 (.ofNat 0), CV.int .u8 (.ofNat 0), CV.int .u8 (.ofNat 0), CV.int .u8 (.ofNat 0), CV.int .u8 (.ofNat 0), CV.int .u8 (.ofNat 0), CV.int .u8 (.ofNat 0), CV.int .u8 (.ofNat 0), CV.int .u8 (.ofNat 0), CV.int .u8 (.ofNat 0), CV.int .u8 (.ofNat 0)])) kA16, .row xs 1 0 false, .row [] 1 0 false]) none)) := by kernel_rfl
theorem is58 (g a b : Bool) (xs ys : List CV) (n : Nat) (L : Env → Hp → Res) : aexecB Tryz.prog (call' B59) (filt an58 0) n (prefC 1 (tailC 5 c58)) (mkEnv 68 [(2, .bptr 0 0), (4, .bptr 1 0), (7, .c (.bool g)), (8, .rw 2 0), (9, .c (.bool a)), (10, .rw 3 0), (11, .c (.bool b))]) [zA16, zA16, .row xs 1 0 false, .row ys 1 0 false] (thenK (headK h58d L) (endOf Tryz.prog 116 [])) =
 bif' (!a) (some (CV.tup [CV.agg [CV.int .u8 (.ofNat 0), CV.int .u8 (.ofNat 0), CV.int .u8 (.ofNat 0), CV.int .u8 (.ofNat 0), CV.int .u8 (.ofNat 0), CV.int .u8 (.ofNat 0), CV.int .u8 (.ofNat 0), CV.int .u8 (.ofNat 0), CV.int .u8 (.ofNat 0), CV.int .u8 (.ofNat 0), CV.int .u8 (.ofNat 0), CV.int .u8 (.ofNat 0), CV.int .u8 (.ofNat 0), CV.int .u8 (.ofNat 0), CV.int .u8 (.ofNat 0), CV.int .u8 (.ofNat 0)], CV.bool false], [])) (bif' (!b) (some (CV.tup [CV.agg [CV.int .u8 (.ofNat 0), CV.int .u8 (.ofNat 0), CV.int .u8 (.ofNat 0), CV.int .u8 (.ofNat 0), CV.int .u8 (.ofNat 0), CV.int .u8 (.ofNat 0), CV.int .u8 (.ofNat 0), CV.int .u8 (.ofNat 0), CV.int .u8 (.ofNat 0), CV.int .u8 (.ofNat 0), CV.int .u8 (.ofNat 0), CV.int .u8 (.ofNat 0), CV.int .u8 (.ofNat 0), CV.int .u8 (.ofNat 0), CV.int .u8 (.ofNat 0), CV.int .u8 (.ofNat 0)], CV.bool false], [])) (bif' (!g) (bif' ((↑xs.length : Int) != 16) (some (CV.tup [CV.agg [CV.int .u8 (.ofNat 0), CV.int .u8 (.ofNat 0), CV.int .u8 (.ofNat 0), CV.int .u8 (.ofNat 0), CV.int .u8 (.ofNat 0), CV.int .u8 (.ofNat 0), CV.int .u8 (.ofNat 0), CV.int .u8 (.ofNat 0), CV.int .u8 (.ofNat 0), CV.int .u8 (.ofNat 0), CV.int .u8 (.ofNat 0), CV.int .u8 (.ofNat 0), CV.int .u8 (.ofNat 0), CV.int .u8 (.ofNat 0), CV.int .u8 (.ofNat 0), CV.int .u8 (.ofNat 0)], CV.bool false], [])) (bif' g (bif' (decide (IntKind.i64.wrap ((↑xs.length : Int) + (↑ys.length : Int)) > 16)) (some (CV.tup [CV.agg [CV.int .u8 (.ofNat 0), CV.int .u8 (.ofNat 0), CV.int .u8 (.ofNat 0), CV.int .u8 (.ofNat 0), CV.int .u8 (.ofNat 0), CV.int .u8 (.ofNat 0), CV.int .u8 (.ofNat 0), CV.int .u8 (.ofNat 0), CV.int .u8 (.ofNat 0), CV.int .u8 (.ofNat 0), CV.int .u8 (.ofNat 0), CV.int .u8 (.ofNat 0), CV.int .u8 (.ofNat 0), CV.int .u8 (.ofNat 0), CV.int .u8 (.ofNat 0), CV.int .u8 (.ofNat 0)], CV.bool false], [])) (L (mkEnv 68 [(2, .bptr 0 0), (4, .bptr 1 0), (8, .rw 2 0), (10, .rw 3 0)]) [.box (.c (CV.agg [CV.int .u8 (.ofNat 0), CV.int .u8 (.ofNat 0), CV.int .u8 (.ofNat 0), CV.int .u8 (.ofNat 0), CV.int .u8 (.ofNat 0), CV.int .u8 (.ofNat 0), CV.int .u8 (.ofNat 0), CV.int .u8 (.ofNat 0), CV.int .u8 (.ofNat 0), CV.int .u8 (.ofNat 0), CV.int .u8 (.ofNat 0), CV.int .u8 (.ofNat 0), CV.int .u8 (.ofNat 0), CV.int .u8 (.ofNat 0), CV.int .u8 (.ofNat 0), CV.int .u8 (.ofNat 0)])) kA16, .box (.c (CV.agg [CV.int .u8 (.ofNat 0), CV.int .u8 (.ofNat 0), CV.int .u8 (.ofNat 0), CV.int .u8 (.ofNat 0), CV.int .u8 (.ofNat 0), CV.int .u8 (.ofNat 0), CV.int .u8 (.ofNat 0), CV.int .u8 (.ofNat 0), CV.int .u8 (.ofNat 0), CV.int .u8 (.ofNat 0), CV.int .u8 (.ofNat 0), CV.int .u8 (.ofNat 0), CV.int .u8 (.ofNat 0), CV.int .u8 (.ofNat 0), CV.int .u8 (.ofNat 0), CV.int .u8 (.ofNat 0)])) kA16, .row xs 1 0 false, .row ys 1 0 false])) (L (mkEnv 68 [(2, .bptr 0 0), (4, .bptr 1 0), (8, .rw 2 0), (10, .rw 3 0)]) [.box (.c (CV.agg [CV.int .u8 (.ofNat 0), CV.int .u8 (.ofNat 0), CV.int .u8 (.ofNat 0), CV.int .u8 (.ofNat 0), CV.int .u8 (.ofNat 0), CV.int .u8 (.ofNat 0), CV.int .u8 (.ofNat 0), CV.int .u8 (.ofNat 0), CV.int .u8 (.ofNat 0), CV.int .u8 (.ofNat 0), CV.int .u8 (.ofNat 0), CV.int .u8 (.ofNat 0), CV.int .u8 (.ofNat 0), CV.int .u8 (.ofNat 0), CV.int .u8 (.ofNat 0), CV.int .u8 (.ofNat 0)])) kA16, .box (.c (CV.agg [CV.int .u8 (.ofNat 0), CV.int .u8 (.ofNat 0), CV.int .u8 (.ofNat 0), CV.int .u8 (.ofNat 0), CV.int .u8 (.ofNat 0), CV.int .u8 (.ofNat 0), CV.int .u8 (.ofNat 0), CV.int .u8 (.ofNat 0), CV.int .u8 (.ofNat 0), CV.int .u8 (.ofNat 0), CV.int .u8 (.ofNat 0), CV.int .u8 (.ofNat 0), CV.int .u8 (.ofNat 0), CV.int .u8 (.ofNat 0), CV.int .u8 (.ofNat 0), CV.int .u8 (.ofNat 0)])) kA16, .row xs 1 0 false, .row ys 1 0 false]))) (bif' g (bif' (decide (IntKind.i64.wrap ((↑xs.length : Int) + (↑ys.length : Int)) > 16)) (some (CV.tup [CV.agg [CV.int .u8 (.ofNat 0), CV.int .u8 (.ofNat 0), CV.int .u8 (.ofNat 0), CV.int .u8 (.ofNat 0), CV.int .u8 (.ofNat 0), CV.int .u8 (.ofNat 0), CV.int .u8 (.ofNat 0), CV.int .u8 (.ofNat 0), CV.int .u8 (.ofNat 0), CV.int .u8 (.ofNat 0), CV.int .u8 (.ofNat 0), CV.int .u8 (.ofNat 0), CV.int .u8 (.ofNat 0), CV.int .u8 (.ofNat 0), CV.int .u8 (.ofNat 0), CV.int .u8 (.ofNat 0)], CV.bool false], [])) (L (mkEnv 68 [(2, .bptr 0 0), (4, .bptr 1 0), (8, .rw 2 0), (10, .rw 3 0)]) [.box (.c (CV.agg [CV.int .u8 (.ofNat 0), CV.int .u8 (.ofNat 0), CV.int .u8 (.ofNat 0), CV.int .u8 (.ofNat 0), CV.int .u8 (.ofNat 0), CV.int .u8 (.ofNat 0), CV.int .u8 (.ofNat 0), CV.int .u8 (.ofNat 0), CV.int .u8 (.ofNat 0), CV.int .u8 (.ofNat 0), CV.int .u8 (.ofNat 0), CV.int .u8 (.ofNat 0), CV.int .u8 (.ofNat 0), CV.int .u8 (.ofNat 0), CV.int .u8 (.ofNat 0), CV.int .u8 (.ofNat 0)])) kA16, .box (.c (CV.agg [CV.int .u8 (.ofNat 0), CV.int .u8 (.ofNat 0), CV.int .u8 (.ofNat 0), CV.int .u8 (.ofNat 0), CV.int .u8 (.ofNat 0), CV.int .u8 (.ofNat 0), CV.int .u8 (.ofNat 0), CV.int .u8 (.ofNat 0), CV.int .u8 (.ofNat 0), CV.int .u8 (.ofNat 0), CV.int .u8 (.ofNat 0), CV.int .u8 (.ofNat 0), CV.int .u8 (.ofNat 0), CV.int .u8 (.ofNat 0), CV.int .u8 (.ofNat 0), CV.int .u8 (.ofNat 0)])) kA16, .row xs 1 0 false, .row ys 1 0 false])) (L (mkEnv 68 [(2, .bptr 0 0), (4, .bptr 1 0), (8, .rw 2 0), (10, .rw 3 0)]) [.box (.c (CV.agg [CV.int .u8 (.ofNat 0), CV.int .u8 (.ofNat 0), CV.int .u8 (.ofNat 0), CV.int .u8 (.ofNat 0), CV.int .u8 (.ofNat 0), CV.int .u8 (.ofNat 0), CV.int .u8 (.ofNat 0), CV.int .u8 (.ofNat 0), CV.int .u8 (.ofNat 0), CV.int .u8 (.ofNat 0), CV.int .u8 (.ofNat 0), CV.int .u8 (.ofNat 0), CV.int .u8 (.ofNat 0), CV.int .u8 (.ofNat 0), CV.int .u8 (.ofNat 0), CV.int .u8 (.ofNat 0)])) kA16, .box (.c (CV.agg [CV.int .u8 (.ofNat 0), CV.int .u8 (.ofNat 0), CV.int .u8 (.ofNat 0), CV.int .u8 (.ofNat 0), CV.int .u8 (.ofNat 0), CV.int .u8 (.ofNat 0), CV.int .u8 (.ofNat 0), CV.int .u8 (.ofNat 0), CV.int .u8 (.ofNat 0), CV.int .u8 (.ofNat 0), CV.int .u8 (.ofNat 0), CV.int .u8 (.ofNat 0), CV.int .u8 (.ofNat 0), CV.int .u8 (.ofNat 0), CV.int .u8 (.ofNat 0), CV.int .u8 (.ofNat 0)])) kA16, .row xs 1 0 false, .row ys 1 0 false])))) := by kernel_rfl
theorem it58 (xs ys : List CV) (n : Nat) : aexecB Tryz.prog (call' B59) (filt an58 0) n (tailC 6 c58) (mkEnv 68 [(2, .bptr 0 0), (4, .bptr 1 0), (8, .rw 2 0), (10, .rw 3 0)]) [zA16, zA16, .row xs 1 0 false, .row ys 1 0 false] (endOf Tryz.prog 116 []) =
 bif' (decide (0 ≤ IntKind.i64.wrap (16 - (↑ys.length : Int)))) (bif' (decide (IntKind.i64.wrap (16 - (↑ys.length : Int)) ≤ (↑16 : Int))) (bif' (decide (0 + (IntKind.i64.wrap (16 - (↑ys.length : Int))).toNat + (16 - (IntKind.i64.wrap (16 - (↑ys.length : Int))).toNat) ≤ (setRange [CV.int .u8 0, CV.int .u8 0, CV.int .u8 0, CV.int .u8 0, CV.int .u8 0, CV.int .u8 0, CV.int .u8 0, CV.int .u8 0, CV.int .u8 0, CV.int .u8 0, CV.int .u8 0, CV.int .u8 0, CV.int .u8 0, CV.int .u8 0, CV.int .u8 0, CV.int .u8 0] 0 (elemCells' (List.take 16 xs))).length)) (bif' (16 == (CV.agg (setRange (setRange [CV.int .u8 0, CV.int .u8 0, CV.int .u8 0, CV.int .u8 0, CV.int .u8 0, CV.int .u8 0, CV.int .u8 0, CV.int .u8 0, CV.int .u8 0, CV.int .u8 0, CV.int .u8 0, CV.int .u8 0, CV.int .u8 0, CV.int .u8 0, CV.int .u8 0, CV.int .u8 0] 0 (elemCells' (List.take 16 xs))) (0 + (IntKind.i64.wrap (16 - (↑ys.length : Int))).toNat) (elemCells' (List.take (16 - (IntKind.i64.wrap (16 - (↑ys.length : Int))).toNat) ys)))).cl.length) (some (CV.tup [CV.agg (setRange (setRange [CV.int .u8 0, CV.int .u8 0, CV.int .u8 0, CV.int .u8 0, CV.int .u8 0, CV.int .u8 0, CV.int .u8 0, CV.int .u8 0, CV.int .u8 0, CV.int .u8 0, CV.int .u8 0, CV.int .u8 0, CV.int .u8 0, CV.int .u8 0, CV.int .u8 0, CV.int .u8 0] 0 (elemCells' (List.take 16 xs))) (0 + (IntKind.i64.wrap (16 - (↑ys.length : Int))).toNat) (elemCells' (List.take (16 - (IntKind.i64.wrap (16 - (↑ys.length : Int))).toNat) ys))), CV.bool true], [])) none) none) none) none := by kernel_rfl
theorem ir47 (s : ByteArray) : abody Tryz.prog (call' B58) (fun _ => none) 1 98 [.str s] =
 bif' (decide ((↑s.size : Int) > 64)) (some (CV.tup [CV.agg [CV.bool false, CV.int .u8 (.ofNat 0), CV.int .u8 (.ofNat 0), CV.int .u8 (.ofNat 0), CV.int .u8 (.ofNat 0), CV.int .u8 (.ofNat 0), CV.int .u8 (.ofNat 0), CV.int .u8 (.ofNat 0), CV.int .u8 (.ofNat 0), CV.int .u8 (.ofNat 0), CV.int .u8 (.ofNat 0), CV.int .u8 (.ofNat 0), CV.int .u8 (.ofNat 0), CV.int .u8 (.ofNat 0), CV.int .u8 (.ofNat 0), CV.int .u8 (.ofNat 0), CV.int .u8 (.ofNat 0)], CV.int .i64 (.ofNat 5)], [])) (bif' (decide (s.size ≤ 10000)) (bif' (f4 s) (some (CV.tup [CV.agg [CV.bool false, CV.int .u8 (.ofNat 0), CV.int .u8 (.ofNat 0), CV.int .u8 (.ofNat 0), CV.int .u8 (.ofNat 0), CV.int .u8 (.ofNat 0), CV.int .u8 (.ofNat 0), CV.int .u8 (.ofNat 0), CV.int .u8 (.ofNat 0), CV.int .u8 (.ofNat 0), CV.int .u8 (.ofNat 0), CV.int .u8 (.ofNat 0), CV.int .u8 (.ofNat 0), CV.int .u8 (f4b s 0), CV.int .u8 (f4b s 1), CV.int .u8 (f4b s 2), CV.int .u8 (f4b s 3)], CV.int .i64 (.ofNat 0)], [])) (bif' (decide (s.size ≤ 10000)) (bif' (s6 s) (bif' (decide (s.size ≤ 10000)) (bif' (hasB s 58) (some (CV.tup [CV.agg [CV.bool true, CV.int .u8 (s6b s 0), CV.int .u8 (s6b s 1), CV.int .u8 (s6b s 2), CV.int .u8 (s6b s 3), CV.int .u8 (s6b s 4), CV.int .u8 (s6b s 5), CV.int .u8 (s6b s 6), CV.int .u8 (s6b s 7), CV.int .u8 (s6b s 8), CV.int .u8 (s6b s 9), CV.int .u8 (s6b s 10), CV.int .u8 (s6b s 11), CV.int .u8 (s6b s 12), CV.int .u8 (s6b s 13), CV.int .u8 (s6b s 14), CV.int .u8 (s6b s 15)], CV.int .i64 (.ofNat 0)], [])) (some (CV.tup [CV.agg [CV.bool false, CV.int .u8 (.ofNat 0), CV.int .u8 (.ofNat 0), CV.int .u8 (.ofNat 0), CV.int .u8 (.ofNat 0), CV.int .u8 (.ofNat 0), CV.int .u8 (.ofNat 0), CV.int .u8 (.ofNat 0), CV.int .u8 (.ofNat 0), CV.int .u8 (.ofNat 0), CV.int .u8 (.ofNat 0), CV.int .u8 (.ofNat 0), CV.int .u8 (.ofNat 0), CV.int .u8 (.ofNat 0), CV.int .u8 (.ofNat 0), CV.int .u8 (.ofNat 0), CV.int .u8 (.ofNat 0)], CV.int .i64 (.ofNat 5)], []))) none) (some (CV.tup [CV.agg [CV.bool false, CV.int .u8 (.ofNat 0), CV.int .u8 (.ofNat 0), CV.int .u8 (.ofNat 0), CV.int .u8 (.ofNat 0), CV.int .u8 (.ofNat 0), CV.int .u8 (.ofNat 0), CV.int .u8 (.ofNat 0), CV.int .u8 (.ofNat 0), CV.int .u8 (.ofNat 0), CV.int .u8 (.ofNat 0), CV.int .u8 (.ofNat 0), CV.int .u8 (.ofNat 0), CV.int .u8 (.ofNat 0), CV.int .u8 (.ofNat 0), CV.int .u8 (.ofNat 0), CV.int .u8 (.ofNat 0)], CV.int .i64 (.ofNat 5)], []))) none)) none) := by kernel_rfl
theorem ib65 (s : ByteArray) (n : Nat) (R : Env → Hp → Res) : parts Tryz.prog (call' B58) (filt aL65 0) n (codeOf Tryz.prog 92) (envOf Tryz.prog 92 [.c (.str s)]) [] (fun _ => headK hL65 R) (endOf Tryz.prog 92 []) =
 bif' (decide (s.size ≤ 10000) && true) (R (mkEnv 107 [(4, .rw 1 0), (5, .rw 0 0), (6, .c (CV.bool false)), (7, .c (CV.int .i64 (.ofNat 0)))]) [.row [] 1 0 false, .row (spS s (Nat.toUInt8 58)) 1 0 false]) none := by kernel_rfl
theorem ic65 (xs ys : List CV) (gap : Bool) (i : Int) (n : Nat) (R : Env → Hp → Res) : aexec Tryz.prog (call' B58) (filt aL65 0) n (bodyN 0 (codeOf Tryz.prog 92)) (mkEnv 107 [(4, .rw 1 0), (5, .rw 0 0), (6, .c (.bool gap)), (7, .c (.int .i64 i))]) [.row ys 1 0 false, .row xs 1 0 false] (thenK (headK hL65 R) (restN Tryz.prog (call' B58) (filt aL65 0) n 0 (codeOf Tryz.prog 92) (endOf Tryz.prog 92 []))) =
 bif' (decide (i < (↑xs.length : Int))) (bif' (decide (0 ≤ i)) (bif' (decide (i < (↑xs.length : Int))) (bif' (decide (i.toNat < xs.length)) (bif' (decide (0 < (xs.getD i.toNat CV.nilptr).cl.length)) (bif' (okc (CV.str (ByteArray.mk #[])) ((xs.getD i.toNat CV.nilptr).cl.getD 0 CV.nilptr)) (bif' (((xs.getD i.toNat CV.nilptr).cl.getD 0 CV.nilptr).toStr.toList == (ByteArray.mk #[]).toList) (bif' (i == 0) (bif' (decide ((↑xs.length : Int) < 3)) (some (CV.tup [CV.nilsl, CV.bool false], [])) (bif' (i == 0) (bif' (decide (1 < (↑xs.length : Int))) (bif' (decide (1 < xs.length)) (bif' (decide (0 < (xs.getD 1 CV.nilptr).cl.length)) (bif' (okc (CV.str (ByteArray.mk #[])) ((xs.getD 1 CV.nilptr).cl.getD 0 CV.nilptr)) (bif' (!((xs.getD 1 CV.nilptr).cl.getD 0 CV.nilptr).toStr.toList == (ByteArray.mk #[]).toList) (some (CV.tup [CV.nilsl, CV.bool false], [])) (bif' (decide (i > 0)) (bif' (decide (0 ≤ IntKind.i64.wrap ((↑xs.length : Int) - 2))) (bif' (decide (IntKind.i64.wrap ((↑xs.length : Int) - 2) < (↑xs.length : Int))) (bif' (decide ((IntKind.i64.wrap ((↑xs.length : Int) - 2)).toNat < xs.length)) (bif' (decide (0 < (xs.getD (IntKind.i64.wrap ((↑xs.length : Int) - 2)).toNat CV.nilptr).cl.length)) (bif' (okc (CV.str (ByteArray.mk #[])) ((xs.getD (IntKind.i64.wrap ((↑xs.length : Int) - 2)).toNat CV.nilptr).cl.getD 0 CV.nilptr)) (bif' (!((xs.getD (IntKind.i64.wrap ((↑xs.length : Int) - 2)).toNat CV.nilptr).cl.getD 0 CV.nilptr).toStr.toList == (ByteArray.mk #[]).toList) (some (CV.tup [CV.nilsl, CV.bool false], [])) (R (mkEnv 107 [(4, .rw 1 0), (5, .rw 0 0), (6, .c (CV.bool gap)), (7, .c (CV.int .i64 (IntKind.i64.wrap (i + 1))))]) [.row ys 1 0 false, .row xs 1 0 false])) none) none) none) none) none) (R (mkEnv 107 [(4, .rw 1 0), (5, .rw 0 0), (6, .c (CV.bool gap)), (7, .c (CV.int .i64 (IntKind.i64.wrap (i + 1))))]) [.row ys 1 0 false, .row xs 1 0 false]))) none) none) none) none) (bif' (decide (i > 0)) (bif' (decide (0 ≤ IntKind.i64.wrap ((↑xs.length : Int) - 2))) (bif' (decide (IntKind.i64.wrap ((↑xs.length : Int) - 2) < (↑xs.length : Int))) (bif' (decide ((IntKind.i64.wrap ((↑xs.length : Int) - 2)).toNat < xs.length)) (bif' (decide (0 < (xs.getD (IntKind.i64.wrap ((↑xs.length : Int) - 2)).toNat CV.nilptr).cl.length)) (bif' (okc (CV.str (ByteArray.mk #[])) ((xs.getD (IntKind.i64.wrap ((↑xs.length : Int) - 2)).toNat CV.nilptr).cl.getD 0 CV.nilptr)) (bif' (!((xs.getD (IntKind.i64.wrap ((↑xs.length : Int) - 2)).toNat CV.nilptr).cl.getD 0 CV.nilptr).toStr.toList == (ByteArray.mk #[]).toList) (some (CV.tup [CV.nilsl, CV.bool false], [])) (R (mkEnv 107 [(4, .rw 1 0), (5, .rw 0 0), (6, .c (CV.bool gap)), (7, .c (CV.int .i64 (IntKind.i64.wrap (i + 1))))]) [.row ys 1 0 false, .row xs 1 0 false])) none) none) none) none) none) (R (mkEnv 107 [(4, .rw 1 0), (5, .rw 0 0), (6, .c (CV.bool gap)), (7, .c (CV.int .i64 (IntKind.i64.wrap (i + 1))))]) [.row ys 1 0 false, .row xs 1 0 false])))) (bif' (!i == IntKind.i64.wrap ((↑xs.length : Int) - 1)) (bif' gap (some (CV.tup [CV.nilsl, CV.bool false], [])) (bif' (decide ((ys.length + 1) * 8 ≤ 70368744177664)) (R (mkEnv 107 [(4, .rw 1 0), (5, .rw 0 0), (6, .c (CV.bool true)), (7, .c (CV.int .i64 (IntKind.i64.wrap (i + 1))))]) [.row (ys ++ (List.replicate 1 (CV.int .i64 0)).set 0 (CV.int .i64 (-1))) 1 0 false, .row xs 1 0 false]) none)) (bif' (decide ((↑xs.length : Int) < 3)) (some (CV.tup [CV.nilsl, CV.bool false], [])) (bif' (i == 0) (bif' (decide (1 < (↑xs.length : Int))) (bif' (decide (1 < xs.length)) (bif' (decide (0 < (xs.getD 1 CV.nilptr).cl.length)) (bif' (okc (CV.str (ByteArray.mk #[])) ((xs.getD 1 CV.nilptr).cl.getD 0 CV.nilptr)) (bif' (!((xs.getD 1 CV.nilptr).cl.getD 0 CV.nilptr).toStr.toList == (ByteArray.mk #[]).toList) (some (CV.tup [CV.nilsl, CV.bool false], [])) (bif' (decide (i > 0)) (bif' (decide (0 ≤ IntKind.i64.wrap ((↑xs.length : Int) - 2))) (bif' (decide (IntKind.i64.wrap ((↑xs.length : Int) - 2) < (↑xs.length : Int))) (bif' (decide ((IntKind.i64.wrap ((↑xs.length : Int) - 2)).toNat < xs.length)) (bif' (decide (0 < (xs.getD (IntKind.i64.wrap ((↑xs.length : Int) - 2)).toNat CV.nilptr).cl.length)) (bif' (okc (CV.str (ByteArray.mk #[])) ((xs.getD (IntKind.i64.wrap ((↑xs.length : Int) - 2)).toNat CV.nilptr).cl.getD 0 CV.nilptr)) (bif' (!((xs.getD (IntKind.i64.wrap ((↑xs.length : Int) - 2)).toNat CV.nilptr).cl.getD 0 CV.nilptr).toStr.toList == (ByteArray.mk #[]).toList) (some (CV.tup [CV.nilsl, CV.bool false], [])) (R (mkEnv 107 [(4, .rw 1 0), (5, .rw 0 0), (6, .c (CV.bool gap)), (7, .c (CV.int .i64 (IntKind.i64.wrap (i + 1))))]) [.row ys 1 0 false, .row xs 1 0 false])) none) none) none) none) none) (R (mkEnv 107 [(4, .rw 1 0), (5, .rw 0 0), (6, .c (CV.bool gap)), (7, .c (CV.int .i64 (IntKind.i64.wrap (i + 1))))]) [.row ys 1 0 false, .row xs 1 0 false]))) none) none) none) none) (bif' (decide (i > 0)) (bif' (decide (0 ≤ IntKind.i64.wrap ((↑xs.length : Int) - 2))) (bif' (decide (IntKind.i64.wrap ((↑xs.length : Int) - 2) < (↑xs.length : Int))) (bif' (decide ((IntKind.i64.wrap ((↑xs.length : Int) - 2)).toNat < xs.length)) (bif' (decide (0 < (xs.getD (IntKind.i64.wrap ((↑xs.length : Int) - 2)).toNat CV.nilptr).cl.length)) (bif' (okc (CV.str (ByteArray.mk #[])) ((xs.getD (IntKind.i64.wrap ((↑xs.length : Int) - 2)).toNat CV.nilptr).cl.getD 0 CV.nilptr)) (bif' (!((xs.getD (IntKind.i64.wrap ((↑xs.length : Int) - 2)).toNat CV.nilptr).cl.getD 0 CV.nilptr).toStr.toList == (ByteArray.mk #[]).toList) (some (CV.tup [CV.nilsl, CV.bool false], [])) (R (mkEnv 107 [(4, .rw 1 0), (5, .rw 0 0), (6, .c (CV.bool gap)), (7, .c (CV.int .i64 (IntKind.i64.wrap (i + 1))))]) [.row ys 1 0 false, .row xs 1 0 false])) none) none) none) none) none) (R (mkEnv 107 [(4, .rw 1 0), (5, .rw 0 0), (6, .c (CV.bool gap)), (7, .c (CV.int .i64 (IntKind.i64.wrap (i + 1))))]) [.row ys 1 0 false, .row xs 1 0 false])))))) (bif' (decide (0 ≤ i)) (bif' (decide (i < (↑xs.length : Int))) (bif' (decide (i.toNat < xs.length)) (bif' (decide (0 < (xs.getD i.toNat CV.nilptr).cl.length)) (bif' (okc (CV.str (ByteArray.mk #[])) ((xs.getD i.toNat CV.nilptr).cl.getD 0 CV.nilptr)) (bif' (decide (((xs.getD i.toNat CV.nilptr).cl.getD 0 CV.nilptr).toStr.size ≤ 10000)) (bif' (decide (f4r ((xs.getD i.toNat CV.nilptr).cl.getD 0 CV.nilptr).toStr ≥ 0)) (bif' (i == IntKind.i64.wrap ((↑xs.length : Int) - 1)) (bif' (decide ((ys.length + (((List.replicate 2 (CV.int .i64 0)).set 0 (CV.int .i64 (IntKind.i64.wrap ((f4r ((xs.getD i.toNat CV.nilptr).cl.getD 0 CV.nilptr).toStr).tdiv 65536)))).set 1 (CV.int .i64 ((f4r ((xs.getD i.toNat CV.nilptr).cl.getD 0 CV.nilptr).toStr).tmod 65536))).length) * 8 ≤ 70368744177664)) (R (mkEnv 107 [(4, .rw 1 0), (5, .rw 0 0), (6, .c (CV.bool gap)), (7, .c (CV.int .i64 (IntKind.i64.wrap (i + 1))))]) [.row (ys ++ ((List.replicate 2 (CV.int .i64 0)).set 0 (CV.int .i64 (IntKind.i64.wrap ((f4r ((xs.getD i.toNat CV.nilptr).cl.getD 0 CV.nilptr).toStr).tdiv 65536)))).set 1 (CV.int .i64 ((f4r ((xs.getD i.toNat CV.nilptr).cl.getD 0 CV.nilptr).toStr).tmod 65536))) 1 0 false, .row xs 1 0 false]) none) (bif' (decide (0 ≤ i)) (bif' (decide (i < (↑xs.length : Int))) (bif' (decide (i.toNat < xs.length)) (bif' (decide (0 < (xs.getD i.toNat CV.nilptr).cl.length)) (bif' (okc (CV.str (ByteArray.mk #[])) ((xs.getD i.toNat CV.nilptr).cl.getD 0 CV.nilptr)) (bif' (decide (((xs.getD i.toNat CV.nilptr).cl.getD 0 CV.nilptr).toStr.size ≤ 10000) && true) (bif' (decide (nR ((xs.getD i.toNat CV.nilptr).cl.getD 0 CV.nilptr).toStr 16 < 0)) (some (CV.tup [CV.nilsl, CV.bool false], [])) (bif' (decide (0 ≤ i)) (bif' (decide (i < (↑xs.length : Int))) (bif' (decide (i.toNat < xs.length)) (bif' (decide (0 < (xs.getD i.toNat CV.nilptr).cl.length)) (bif' (okc (CV.str (ByteArray.mk #[])) ((xs.getD i.toNat CV.nilptr).cl.getD 0 CV.nilptr)) (bif' (decide ((↑((xs.getD i.toNat CV.nilptr).cl.getD 0 CV.nilptr).toStr.size : Int) > 4)) (some (CV.tup [CV.nilsl, CV.bool false], [])) (bif' (decide ((ys.length + ((List.replicate 1 (CV.int .i64 0)).set 0 (CV.int .i64 (nR ((xs.getD i.toNat CV.nilptr).cl.getD 0 CV.nilptr).toStr 16))).length) * 8 ≤ 70368744177664)) (R (mkEnv 107 [(4, .rw 1 0), (5, .rw 0 0), (6, .c (CV.bool gap)), (7, .c (CV.int .i64 (IntKind.i64.wrap (i + 1))))]) [.row (ys ++ (List.replicate 1 (CV.int .i64 0)).set 0 (CV.int .i64 (nR ((xs.getD i.toNat CV.nilptr).cl.getD 0 CV.nilptr).toStr 16))) 1 0 false, .row xs 1 0 false]) none)) none) none) none) none) none)) none) none) none) none) none) none)) (bif' (decide (0 ≤ i)) (bif' (decide (i < (↑xs.length : Int))) (bif' (decide (i.toNat < xs.length)) (bif' (decide (0 < (xs.getD i.toNat CV.nilptr).cl.length)) (bif' (okc (CV.str (ByteArray.mk #[])) ((xs.getD i.toNat CV.nilptr).cl.getD 0 CV.nilptr)) (bif' (decide (((xs.getD i.toNat CV.nilptr).cl.getD 0 CV.nilptr).toStr.size ≤ 10000) && true) (bif' (decide (nR ((xs.getD i.toNat CV.nilptr).cl.getD 0 CV.nilptr).toStr 16 < 0)) (some (CV.tup [CV.nilsl, CV.bool false], [])) (bif' (decide (0 ≤ i)) (bif' (decide (i < (↑xs.length : Int))) (bif' (decide (i.toNat < xs.length)) (bif' (decide (0 < (xs.getD i.toNat CV.nilptr).cl.length)) (bif' (okc (CV.str (ByteArray.mk #[])) ((xs.getD i.toNat CV.nilptr).cl.getD 0 CV.nilptr)) (bif' (decide ((↑((xs.getD i.toNat CV.nilptr).cl.getD 0 CV.nilptr).toStr.size : Int) > 4)) (some (CV.tup [CV.nilsl, CV.bool false], [])) (bif' (decide ((ys.length + ((List.replicate 1 (CV.int .i64 0)).set 0 (CV.int .i64 (nR ((xs.getD i.toNat CV.nilptr).cl.getD 0 CV.nilptr).toStr 16))).length) * 8 ≤ 70368744177664)) (R (mkEnv 107 [(4, .rw 1 0), (5, .rw 0 0), (6, .c (CV.bool gap)), (7, .c (CV.int .i64 (IntKind.i64.wrap (i + 1))))]) [.row (ys ++ (List.replicate 1 (CV.int .i64 0)).set 0 (CV.int .i64 (nR ((xs.getD i.toNat CV.nilptr).cl.getD 0 CV.nilptr).toStr 16))) 1 0 false, .row xs 1 0 false]) none)) none) none) none) none) none)) none) none) none) none) none) none)) none) none) none) none) none) none)) none) none) none) none) none) (some (CV.tup [CV.sl true false 1 ys, CV.bool true], [])) := by kernel_rfl
end Go.Pv
namespace Go.Pv
set_option maxRecDepth 100000
set_option maxHeartbeats 200000
open Go Go.Proofs
variable {I : World → Prop} {ng : Nat}
theorem g28d (hg : OnGlobals I ng) (h70 : Cw I ng 132 L70) (h28 : Cw I ng 73 L28d) : Kw I ng B28 := known_add (g72 hg h70) h28
theorem g60d (hg : OnGlobals I ng) (h70 : Cw I ng 132 L70) (h28 : Cw I ng 73 L28d) : Kw I ng B60 := known_add (g28d hg h70 h28) (contract_of (fun _ => none) hg (hok_of (g28d hg h70 h28)) fun cargs rv outs h => by
 unfold L60d at h
 split at h <;> first | (cases h; done) | skip
 rename_i s c
 by_cases hs : s.size ≤ 10000
 · simp only [picked, pickAlt, decide_eq_true hs] at h
   cases h
   refine ⟨1, ?_⟩
   rw [iq60]
   have e : (byteAt (ByteArray.mk (Array.mk [c])) 0).toNat.toUInt8 = c := u8_cast c
   rw [e]
   cases hq : (ByteArray.mk (Array.mk [c])).toList == s.toList with
   | false => rfl
   | true =>
     have := eq_of_beq hq
     rw [toList_data, toList_data] at this
     have e2 : s.data.toList = [c] := this.symm
     rw [e2]
     unfold Lib.indexByte
     simp
     rfl
 · simp only [picked, pickAlt, decide_eq_false hs] at h; cases h)
theorem g73 (hg : OnGlobals I ng) (h70 : Cw I ng 132 L70) (h28 : Cw I ng 73 L28d) : Kw I ng B73 := known_add (g60d hg h70 h28) (contract_of (fun _ => none) hg (hok_of (g60d hg h70 h28)) fun cargs rv outs h => by
 unfold L60d at h
 split at h <;> first | (cases h; done) | skip
 rename_i s c
 by_cases hs : s.size ≤ 10000
 · simp only [picked, pickAlt, decide_eq_true hs] at h
   cases h
   refine ⟨1, ?_⟩
   rw [iq73, decide_eq_true hs, bif_t _ _ rfl]
 · simp only [picked, pickAlt, decide_eq_false hs] at h; cases h)
theorem g59 (hg : OnGlobals I ng) (h70 : Cw I ng 132 L70) (h28 : Cw I ng 73 L28d) : Kw I ng B59 := known_add (g73 hg h70 h28) (contract_of (fun _ => none) hg (hok_of (g73 hg h70 h28)) fun cargs rv outs h => by
 unfold L59d at h
 split at h <;> first | (cases h; done) | skip
 rename_i s c
 by_cases hs : s.size ≤ 10000
 · simp only [picked, pickAlt, decide_eq_true hs] at h
   cases h
   refine ⟨1, ?_⟩
   rw [iq59, decide_eq_true hs, bif_t _ _ rfl, index_mem]
   rfl
 · simp only [picked, pickAlt, decide_eq_false hs] at h; cases h)
theorem grL_len (t : Bool) : ∀ (ps : List (List UInt8)) (r : List Nat), grL t ps = some r → r.length ≤ 4 * ps.length
 | [], r, h => by unfold grL at h; cases h; simp
 | p :: ps, r, h => by
   unfold grL at h
   split at h
   · rename_i hc
     cases h
     simp only [Bool.and_eq_true] at hc
     have := four4 hc.2.2
     simp only [List.length_cons]; omega
   · split at h
     · split at h
       · rename_i r' hr
         cases h
         have := grL_len t ps r' hr
         simp only [List.length_cons]; omega
       · cases h
     · cases h
def grD (t : Bool) (l : List UInt8) : List Nat := (grpL t l).getD []
theorem grD_len (t : Bool) (l : List UInt8) (hl : l.length ≤ 10000) : (grD t l).length ≤ 40004 := by
 unfold grD grpL
 split
 · simp
 · have := split_len 58 l
   cases h : grL t (splitL 58 l) with
   | none => simp
   | some r =>
     have := grL_len t _ r h
     simp only [Option.getD_some]; omega
theorem q58 (h t : List UInt8) (g : Bool) (n : Nat) (L : Env → Hp → Res) (hs : h.length ≤ 10000) :
   aexecB Tryz.prog (call' B59) (filt an58 0) n (prefC 1 (tailC 3 c58)) (mkEnv 68 [(2, .bptr 0 0), (4, .bptr 1 0), (5, .c (.str (mkS h))), (6, .c (.str (mkS t))), (7, .c (.bool g))]) [zA16, zA16] (thenK (headK h58b L) (endOf Tryz.prog 116 [])) =
     L (mkEnv 68 [(2, .bptr 0 0), (4, .bptr 1 0), (6, .c (.str (mkS t))), (7, .c (.bool g)), (8, .rw 2 0), (9, .c (.bool (grpL (!g) h).isSome))]) [zA16, zA16, .row ((grD (!g) h).map byCV) 1 0 false] := by
 rw [iq58]
 have e1 : gOk (mkS h) (!g) = (grL (!g) (splitL 58 h)).isSome := rfl
 have e2 : gB (mkS h) (!g) = ((grL (!g) (splitL 58 h)).getD []).map byCV := rfl
 simp only [sizeM]
 rw [decide_eq_true hs, Bool.true_and, Bool.true_and, e1, e2]
 unfold grD grpL
 cases h with
 | nil => rfl
 | cons a r =>
   have e3 : decide ((a :: r).length = 0) = false := rfl
   have e4 : (a :: r).isEmpty = false := rfl
   rw [e3, e4, bif_f _ _ rfl, if_neg Bool.false_ne_true]
   cases grL (!g) (splitL 58 (a :: r)) with
   | none => rfl
   | some x => rfl
theorem r58 (t : List UInt8) (g a : Bool) (xs : List CV) (n : Nat) (L : Env → Hp → Res) (hs : t.length ≤ 10000) :
   aexecB Tryz.prog (call' B59) (filt an58 0) n (prefC 1 (tailC 4 c58)) (mkEnv 68 [(2, .bptr 0 0), (4, .bptr 1 0), (6, .c (.str (mkS t))), (7, .c (.bool g)), (8, .rw 2 0), (9, .c (.bool a))]) [zA16, zA16, .row xs 1 0 false] (thenK (headK h58c L) (endOf Tryz.prog 116 [])) =
     L (mkEnv 68 [(2, .bptr 0 0), (4, .bptr 1 0), (7, .c (.bool g)), (8, .rw 2 0), (9, .c (.bool a)), (10, .rw 3 0), (11, .c (.bool (grpL true t).isSome))]) [zA16, zA16, .row xs 1 0 false, .row ((grD true t).map byCV) 1 0 false] := by
 rw [ir58]
 have e1 : gOk (mkS t) true = (grL true (splitL 58 t)).isSome := rfl
 have e2 : gB (mkS t) true = ((grL true (splitL 58 t)).getD []).map byCV := rfl
 simp only [sizeM]
 rw [decide_eq_true hs, Bool.true_and, Bool.true_and, e1, e2]
 unfold grD grpL
 cases t with
 | nil => rfl
 | cons a r =>
   have e3 : decide ((a :: r).length = 0) = false := rfl
   have e4 : (a :: r).isEmpty = false := rfl
   rw [e3, e4, bif_f _ _ rfl, if_neg Bool.false_ne_true]
   cases grL true (splitL 58 (a :: r)) with
   | none => rfl
   | some x => rfl
def bad58 : Res := some (.tup [.agg (List.replicate 16 (CV.int .u8 (Int.ofNat 0))), .bool false], [])
theorem s58 (g a b : Bool) (xs ys : List CV) (n : Nat) (L : Env → Hp → Res) (hx : xs.length ≤ 50000) (hy : ys.length ≤ 50000) :
   aexecB Tryz.prog (call' B59) (filt an58 0) n (prefC 1 (tailC 5 c58)) (mkEnv 68 [(2, .bptr 0 0), (4, .bptr 1 0), (7, .c (.bool g)), (8, .rw 2 0), (9, .c (.bool a)), (10, .rw 3 0), (11, .c (.bool b))]) [zA16, zA16, .row xs 1 0 false, .row ys 1 0 false] (thenK (headK h58d L) (endOf Tryz.prog 116 [])) =
     if a = true ∧ b = true ∧ (g = false → xs.length = 16) ∧ (g = true → xs.length + ys.length ≤ 16) then L (mkEnv 68 [(2, .bptr 0 0), (4, .bptr 1 0), (8, .rw 2 0), (10, .rw 3 0)]) [zA16, zA16, .row xs 1 0 false, .row ys 1 0 false] else bad58 := by
 rw [is58]
 have hw : IntKind.i64.wrap (((xs.length : Nat) : Int) + ((ys.length : Nat) : Int)) = ((xs.length + ys.length : Nat) : Int) := by
   rw [wrap_id (by omega) (by omega)]; omega
 rw [hw]
 cases a with
 | false => rw [if_neg (by simp)]; rfl
 | true =>
   cases b with
   | false => rw [if_neg (by simp)]; rfl
   | true =>
     cases g with
     | false =>
       by_cases h : xs.length = 16
       · have c : (((xs.length : Nat) : Int) != 16) = false := by rw [h]; rfl
         rw [c, if_pos ⟨rfl, rfl, fun _ => h, (fun q => by cases q)⟩]; rfl
       · have c : (((xs.length : Nat) : Int) != 16) = true := by rw [bne_iff_ne]; omega
         rw [c, if_neg (fun q => h (q.2.2.1 rfl))]; rfl
     | true =>
       by_cases h : xs.length + ys.length ≤ 16
       · have c : decide (((xs.length + ys.length : Nat) : Int) > 16) = false := decide_eq_false (by omega)
         rw [c, if_pos ⟨rfl, rfl, (fun q => by cases q), fun _ => h⟩]; rfl
       · have c : decide (((xs.length + ys.length : Nat) : Int) > 16) = true := decide_eq_true (by omega)
         rw [c, if_neg (fun q => h (q.2.2.2 rfl))]; rfl
theorem copy16 (z : CV) (xs ys : List CV) (h : xs.length + ys.length ≤ 16) : setRange (setRange (List.replicate 16 z) 0 xs) (16 - ys.length) ys = xs ++ List.replicate (16 - xs.length - ys.length) z ++ ys := by
 have e1 : setRange (List.replicate 16 z) 0 xs = xs ++ List.replicate (16 - xs.length) z := by
   unfold setRange
   rw [List.take_zero, List.nil_append, List.drop_replicate, Nat.zero_add]
 rw [e1]
 unfold setRange
 have e2 : (xs ++ List.replicate (16 - xs.length) z).take (16 - ys.length) = xs ++ List.replicate (16 - xs.length - ys.length) z := by
   rw [List.take_append, List.take_of_length_le (by omega), List.take_replicate]
   congr 2; omega
 have e3 : (xs ++ List.replicate (16 - xs.length) z).drop (16 - ys.length + ys.length) = [] := List.drop_of_length_le (by rw [List.length_append, List.length_replicate]; omega)
 rw [e2, e3, List.append_nil]
theorem flat_by : ∀ r : List Nat, elemCells' (r.map byCV) = r.map byCV
 | [] => rfl
 | a :: r => by
   have ih := flat_by r
   unfold elemCells' at *
   rw [List.map_cons, List.flatMap_cons, ih]; rfl
theorem t58 (a b : List Nat) (n : Nat) (h : a.length + b.length ≤ 16) :
   aexecB Tryz.prog (call' B59) (filt an58 0) n (tailC 6 c58) (mkEnv 68 [(2, .bptr 0 0), (4, .bptr 1 0), (8, .rw 2 0), (10, .rw 3 0)]) [zA16, zA16, .row (a.map byCV) 1 0 false, .row (b.map byCV) 1 0 false] (endOf Tryz.prog 116 []) =
     some (.tup [.agg ((a ++ List.replicate (16 - a.length - b.length) 0 ++ b).map byCV), .bool true], []) := by
 rw [it58]
 have hw : IntKind.i64.wrap (16 - (((b.map byCV).length : Nat) : Int)) = ((16 - b.length : Nat) : Int) := by
   rw [List.length_map, wrap_id (by omega) (by omega)]; omega
 have hcl : ∀ l : List CV, (CV.agg l).cl = l := fun _ => rfl
 have e1 : (a.map byCV).take 16 = a.map byCV := List.take_of_length_le (by simp; omega)
 have e2 : (b.map byCV).take (16 - (16 - b.length)) = b.map byCV := List.take_of_length_le (by simp; omega)
 have e3 : ([CV.int IntKind.u8 0, CV.int IntKind.u8 0, CV.int IntKind.u8 0, CV.int IntKind.u8 0, CV.int IntKind.u8 0, CV.int IntKind.u8 0, CV.int IntKind.u8 0, CV.int IntKind.u8 0, CV.int IntKind.u8 0, CV.int IntKind.u8 0, CV.int IntKind.u8 0, CV.int IntKind.u8 0, CV.int IntKind.u8 0, CV.int IntKind.u8 0, CV.int IntKind.u8 0, CV.int IntKind.u8 0] : List CV) = List.replicate 16 (CV.int IntKind.u8 0) := rfl
 rw [hw]
 simp only [hcl, natM, Nat.zero_add]
 rw [e1, e2, flat_by, flat_by, e3]
 have hbl : 16 - b.length = 16 - (b.map byCV).length := by rw [List.length_map]
 rw [hbl, copy16 _ _ _ (by simp; omega)]
 have e4 : (setRange (List.replicate 16 (CV.int IntKind.u8 0)) 0 (a.map byCV)).length = 16 := by
   unfold setRange
   rw [List.take_zero, List.nil_append, List.drop_replicate, List.length_append, List.length_replicate, List.length_map]; omega
 have e5 : (a.map byCV ++ List.replicate (16 - (a.map byCV).length - (b.map byCV).length) (CV.int IntKind.u8 0) ++ b.map byCV) = (a ++ List.replicate (16 - a.length - b.length) 0 ++ b).map byCV := by
   simp only [List.map_append, List.map_replicate, List.length_map]
   rfl
 rw [e5, e4]
 have e6 : ((a ++ List.replicate (16 - a.length - b.length) 0 ++ b).map byCV).length = 16 := by
   simp only [List.length_map, List.length_append, List.length_replicate]; omega
 rw [e6, List.length_map]
 rw [bif_t _ _ (decide_eq_true (by omega)), bif_t _ _ (decide_eq_true (by omega)), bif_t _ _ (decide_eq_true (by omega))]
 rfl
theorem cutDD_sz : ∀ (l h t : List UInt8), cutDD l = some (h, t) → h.length ≤ l.length ∧ t.length ≤ l.length
 | [], h, t, e => by cases e
 | a :: l, h, t, e => by
   unfold cutDD at e
   split at e
   · cases e; simp; omega
   · split at e
     · rename_i h' r hr
       cases e
       have := cutDD_sz l h' t hr
       simp only [List.length_cons]; omega
     · cases e
def v16 (f : Nat → Int) : List CV := [.int .u8 (f 0), .int .u8 (f 1), .int .u8 (f 2), .int .u8 (f 3), .int .u8 (f 4), .int .u8 (f 5), .int .u8 (f 6), .int .u8 (f 7), .int .u8 (f 8), .int .u8 (f 9), .int .u8 (f 10), .int .u8 (f 11), .int .u8 (f 12), .int .u8 (f 13), .int .u8 (f 14), .int .u8 (f 15)]
theorem list16 (r : List Nat) (h : r.length = 16) : v16 (fun i => ((r.getD i 0 : Nat) : Int)) = r.map byCV := by
 match r, h with
 | [_, _, _, _, _, _, _, _, _, _, _, _, _, _, _, _], _ => rfl
theorem six_len {l : List UInt8} {r : List Nat} (h : sixL l = some r) : r.length = 16 := by
 unfold sixL at h
 split at h
 · split at h
   · split at h
     · cases h; assumption
     · cases h
   · cases h
 · split at h
   · split at h
     · cases h
       simp only [List.length_append, List.length_replicate]; omega
     · cases h
   · cases h
theorem sp58a : spine 3 c58 = true := by kernel_rfl
theorem ha58a : headAt (filt an58 0) (tailC 3 c58) = some h58a := by kernel_rfl
theorem sp58b : spine 1 (tailC 3 c58) = true := by kernel_rfl
theorem ha58b : headAt (filt an58 0) (tailC 1 (tailC 3 c58)) = some h58b := by kernel_rfl
theorem fo58b : tailC 1 (tailC 3 c58) = tailC 4 c58 := eq_of_heq (heq_of_eq (by kernel_rfl))
theorem sp58c : spine 1 (tailC 4 c58) = true := by kernel_rfl
theorem ha58c : headAt (filt an58 0) (tailC 1 (tailC 4 c58)) = some h58c := by kernel_rfl
theorem fo58c : tailC 1 (tailC 4 c58) = tailC 5 c58 := eq_of_heq (heq_of_eq (by kernel_rfl))
theorem sp58d : spine 1 (tailC 5 c58) = true := by kernel_rfl
theorem ha58d : headAt (filt an58 0) (tailC 1 (tailC 5 c58)) = some h58d := by kernel_rfl
theorem fo58d : tailC 1 (tailC 5 c58) = tailC 6 c58 := eq_of_heq (heq_of_eq (by kernel_rfl))
theorem u58 (h t : List UInt8) (g : Bool) (n : Nat) (hs : h.length ≤ 10000) (ht : t.length ≤ 10000) (hg : g = false → t = []) :
   aexecB Tryz.prog (call' B59) (filt an58 0) n (tailC 3 c58) (mkEnv 68 [(2, .bptr 0 0), (4, .bptr 1 0), (5, .c (.str (mkS h))), (6, .c (.str (mkS t))), (7, .c (.bool g))]) [zA16, zA16] (endOf Tryz.prog 116 []) =
     if (grpL (!g) h).isSome = true ∧ (grpL true t).isSome = true ∧ (g = false → (grD (!g) h).length = 16) ∧ (g = true → (grD (!g) h).length + (grD true t).length ≤ 16) then
       some (.tup [.agg ((grD (!g) h ++ List.replicate (16 - (grD (!g) h).length - (grD true t).length) 0 ++ grD true t).map byCV), .bool true], []) else bad58 := by
 rw [seg_b (k := 1) (by decide) sp58b ha58b, q58 h t g n _ hs, fo58b]
 rw [seg_b (k := 1) (by decide) sp58c ha58c, r58 t g _ _ n _ ht, fo58c]
 rw [seg_b (k := 1) (by decide) sp58d ha58d, s58 g _ _ _ _ n _ (by rw [List.length_map]; have := grD_len (!g) h hs; omega) (by rw [List.length_map]; have := grD_len true t ht; omega), fo58d]
 simp only [List.length_map]
 split
 · rename_i hc
   refine t58 _ _ n ?_
   cases g with
   | true => exact hc.2.2.2 rfl
   | false =>
     have h1 := hc.2.2.1 rfl
     have h2 := hg rfl
     subst h2
     have : grD true [] = [] := rfl
     rw [this]
     have h1' : (grD (!false) h).length = 16 := h1
     simp only [List.length_nil]; omega
 · rfl
def out58 : Option (List Nat) → Res
 | some r => some (.tup [.agg (r.map byCV), .bool true], [])
 | none => bad58
def mid58 : Bool → Option (List Nat) → Option (List Nat) → Option (List Nat)
 | false, some a, some b => if a.length = 16 then some (a ++ List.replicate (16 - a.length - b.length) 0 ++ b) else none
 | true, some a, some b => if a.length + b.length ≤ 16 then some (a ++ List.replicate (16 - a.length - b.length) 0 ++ b) else none
 | _, _, _ => none
theorem fin58 (g : Bool) (o q : Option (List Nat)) : (if o.isSome = true ∧ q.isSome = true ∧ (g = false → (o.getD []).length = 16) ∧ (g = true → (o.getD []).length + (q.getD []).length ≤ 16) then
       some (CV.tup [.agg ((o.getD [] ++ List.replicate (16 - (o.getD []).length - (q.getD []).length) 0 ++ q.getD []).map byCV), .bool true], ([] : List CV)) else bad58) = out58 (mid58 g o q) := by
 cases o with
 | none => rw [if_neg (by simp)]; cases g <;> rfl
 | some a =>
   cases q with
   | none => rw [if_neg (by simp)]; cases g <;> rfl
   | some b =>
     simp only [Option.getD_some]
     cases g with
     | false =>
       have e : mid58 false (some a) (some b) = if a.length = 16 then some (a ++ List.replicate (16 - a.length - b.length) 0 ++ b) else none := rfl
       rw [e]
       by_cases ha : a.length = 16
       · rw [if_pos ⟨rfl, rfl, fun _ => ha, (fun q => by cases q)⟩, if_pos ha]; rfl
       · rw [if_neg (fun q => ha (q.2.2.1 rfl)), if_neg ha]; rfl
     | true =>
       have e : mid58 true (some a) (some b) = if a.length + b.length ≤ 16 then some (a ++ List.replicate (16 - a.length - b.length) 0 ++ b) else none := rfl
       rw [e]
       by_cases ha : a.length + b.length ≤ 16
       · rw [if_pos ⟨rfl, rfl, (fun q => by cases q), fun _ => ha⟩, if_pos ha]; rfl
       · rw [if_neg (fun q => ha (q.2.2.2 rfl)), if_neg ha]; rfl
theorem g58 (hg : OnGlobals I ng) (h70 : Cw I ng 132 L70) (h28 : Cw I ng 73 L28d) : Kw I ng B58 := known_add (g59 hg h70 h28) (contract_of an58 hg (hok_of (g59 hg h70 h28)) fun cargs rv outs h => by
 unfold L58 at h
 split at h <;> first | (cases h; done) | skip
 rename_i s
 by_cases hs : s.size ≤ 10000
 · simp only [picked, pickAlt, decide_eq_true hs] at h
   cases h
   refine ⟨1, ?_⟩
   rw [abody_eq rfl (by kernel_rfl)]
   show aexec Tryz.prog (call' B59) (filt an58 0) 1 c58 (envOf Tryz.prog 116 [.c (.str s)]) [] (endOf Tryz.prog 116 []) = _
   rw [seg_a (k := 3) (by decide) sp58a ha58a, ip58, decide_eq_true hs, bif_t _ _ rfl]
   obtain ⟨l, rfl⟩ : ∃ l, s = mkS l := ⟨_, (mkS_bl s).symm⟩
   rw [sizeM] at hs
   have goal : ∀ (o : Option (List Nat)), o = sixL l → out58 o = some (.tup [.agg (v16 (s6b (mkS l))), .bool (s6 (mkS l))], []) := by
     intro o ho
     have e1 : s6 (mkS l) = (sixL l).isSome := rfl
     have e2 : s6b (mkS l) = fun i => ((((sixL l).getD []).getD i 0 : Nat) : Int) := rfl
     rw [e1, e2, ← ho]
     cases o with
     | none => rfl
     | some r =>
       have := list16 r (six_len ho.symm)
       simp only [Option.getD_some, this]
       rfl
   refine Eq.trans ?_ (goal (sixL l) rfl)
   cases hc : cutDD l with
   | none =>
     have e1 : ddH (mkS l) = mkS l := by unfold ddH; rw [mkS_data, hc]
     have e2 : ddT (mkS l) = mkS [] := by unfold ddT; rw [mkS_data, hc]
     have e3 : ddG (mkS l) = false := by unfold ddG; rw [mkS_data, hc]; rfl
     rw [e1, e2, e3]
     refine (u58 l [] false 1 hs (by simp) (fun _ => rfl)).trans ?_
     unfold grD
     rw [fin58]
     congr 1
     have e5 : grpL true [] = some [] := rfl
     rw [e5]
     unfold sixL
     rw [hc]
     show mid58 false (grpL true l) (some []) = match grpL true l with
       | some a => if a.length = 16 then some a else none
       | none => none
     cases grpL true l with
     | none => rfl
     | some a =>
       show (if a.length = 16 then some (a ++ List.replicate (16 - a.length - 0) 0 ++ []) else none) = if a.length = 16 then some a else none
       by_cases ha : a.length = 16
       · rw [if_pos ha, if_pos ha, ha]; simp
       · rw [if_neg ha, if_neg ha]
   | some ht =>
     obtain ⟨hd, tl⟩ := ht
     have e1 : ddH (mkS l) = mkS hd := by unfold ddH; rw [mkS_data, hc]
     have e2 : ddT (mkS l) = mkS tl := by unfold ddT; rw [mkS_data, hc]
     have e3 : ddG (mkS l) = true := by unfold ddG; rw [mkS_data, hc]; rfl
     have hsz := cutDD_sz l hd tl hc
     rw [e1, e2, e3]
     refine (u58 hd tl true 1 (by omega) (by omega) (fun h => by cases h)).trans ?_
     unfold grD
     rw [fin58]
     congr 1
     unfold sixL
     rw [hc]
     show mid58 true (grpL false hd) (grpL true tl) = match grpL false hd, grpL true tl with
       | some a, some b => if a.length + b.length ≤ 16 then some (a ++ List.replicate (16 - a.length - b.length) 0 ++ b) else none
       | _, _ => none
     cases grpL false hd with
     | none => rfl
     | some a =>
       cases grpL true tl with
       | none => rfl
       | some b => rfl
 · simp only [picked, pickAlt, decide_eq_false hs] at h; cases h)
theorem h47 (hg : OnGlobals I ng) (h70 : Cw I ng 132 L70) (h28 : Cw I ng 73 L28d) : Cw I ng 98 L47 := contract_of (fun _ => none) hg (hok_of (g58 hg h70 h28)) fun cargs rv outs h => by
 unfold L47 at h
 split at h <;> first | (cases h; done) | skip
 rename_i s
 by_cases hs : s.size ≤ 3000
 · refine ⟨1, ?_⟩
   rw [ir47]
   simp only [picked, pickAlt, decide_eq_true hs, Bool.true_and] at h
   rw [decide_eq_true (show s.size ≤ 10000 by omega)]
   unfold ip6 ip4 at h
   by_cases h64 : s.size ≤ 64
   · rw [bif_f _ _ (decide_eq_false (by omega))]
     rw [decide_eq_true h64] at h
     simp only [Bool.true_and, bif_t _ _ (Eq.refl true)] at h ⊢
     cases hf : f4 s with
     | true =>
       rw [hf] at h
       cases h
       unfold ipAgg ipB
       simp only [hf, if_true]
       rfl
     | false =>
       rw [hf] at h
       simp only [Bool.not_false, Bool.true_and] at h
       rw [bif_f _ _ rfl]
       cases h6 : s6 s with
       | false => rw [h6] at h; cases h; rfl
       | true =>
         cases h58 : hasB s 58 with
         | false => rw [h6, h58] at h; cases h; rfl
         | true =>
           rw [h6, h58] at h
           cases h
           unfold ipAgg ipB
           simp only [hf, Bool.false_eq_true, if_false]
           rfl
   · rw [bif_t _ _ (decide_eq_true (by omega))]
     rw [decide_eq_false h64] at h
     cases h
     rfl
 · simp only [picked, pickAlt, decide_eq_false hs, Bool.false_and] at h; cases h
end Go.Pv
namespace Go.Pv
set_option maxRecDepth 100000
set_option maxHeartbeats 400000
open Go Go.Proofs
variable {I : World → Prop} {ng : Nat}
theorem bT {α : Type} (x y : Option α) : bif' true x y = x := bif_t x y (Eq.refl true)
theorem bF {α : Type} (x y : Option α) : bif' false x y = y := bif_f x y (Eq.refl false)
theorem f4b_lt (s : ByteArray) (i : Nat) : 0 ≤ f4b s i ∧ f4b s i < 256 := by
 have key : ∀ (ps : List (List UInt8)) (i : Nat), (goF ps).1.getD i 0 < 256 := by
   intro ps
   induction ps with
   | nil => intro i; simp [goF]
   | cons p ps ih =>
     intro i
     unfold goF
     split
     · rename_i ho
       cases i with
       | zero => exact oct_lt ho
       | succ i => exact ih i
     · simp
 unfold f4b fourP
 split
 · have := key (splitL 46 s.data.toList) i; omega
 · simp
theorem f4r_b (s : ByteArray) : (f4 s = true → 0 ≤ f4r s ∧ f4r s < 4294967296) ∧ (f4 s = false → f4r s = -1) := by
 have h0 := f4b_lt s 0
 have h1 := f4b_lt s 1
 have h2 := f4b_lt s 2
 have h3 := f4b_lt s 3
 unfold f4r
 constructor
 · intro h
   rw [h, if_pos rfl]
   omega
 · intro h
   rw [h, if_neg Bool.false_ne_true]
theorem fold16 : ∀ (l : List UInt8) (v : Nat), (l.all fun c => decide (hexv c < 16)) = true → l.foldl (fun n c => n * 16 + hexv c) v < (v + 1) * 16 ^ l.length
 | [], v, _ => by simp
 | c :: t, v, h => by
   rw [List.all_cons, Bool.and_eq_true, decide_eq_true_eq] at h
   rw [List.foldl_cons]
   have ih := fold16 t (v * 16 + hexv c) h.2
   have e : 16 ^ (c :: t).length = 16 * 16 ^ t.length := by rw [List.length_cons, Nat.pow_succ, Nat.mul_comm]
   rw [e, ← Nat.mul_assoc]
   refine Nat.lt_of_lt_of_le ih (Nat.mul_le_mul_right _ ?_)
   omega
theorem num16 {p : List UInt8} (h : numOk 16 p = true) (hl : p.length ≤ 4) : numL 16 p < 65536 := by
 unfold numOk at h
 rw [Bool.and_eq_true] at h
 have := fold16 p 0 h.2
 have h2 : 16 ^ p.length ≤ 16 ^ 4 := Nat.pow_le_pow_right (by omega) hl
 unfold numL
 omega
theorem isE (p : List UInt8) : ((mkS p).toList == (ByteArray.mk #[]).toList) = p.isEmpty := by
 rw [toList_data, toList_data, mkS_data]
 cases p <;> rfl
def res65 (ys : List CV) : Option (List Int) → Res
 | some r => some (.tup [.sl true false 1 (ys ++ r.map intCV), .bool true], [])
 | none => some (.tup [.nilsl, .bool false], [])
def E65 (gap : Bool) (k : Nat) : Env := mkEnv 107 [(4, .rw 1 0), (5, .rw 0 0), (6, .c (.bool gap)), (7, .c (.int .i64 (k : Int)))]
noncomputable abbrev R65 (n j : Nat) (env : Env) (H : Hp) : Res := rounds Tryz.prog (call' B58) (filt aL65 0) n hL65 (bodyN 0 (codeOf Tryz.prog 92)) j env H (restN Tryz.prog (call' B58) (filt aL65 0) n 0 (codeOf Tryz.prog 92) (endOf Tryz.prog 92 []))
theorem refG_e (all : List (List UInt8)) (i : Nat) (gap : Bool) (ps : List (List UInt8)) : refG all i gap ([] :: ps) = if i = 0 ∨ ps = [] then
       if all.length < 3 ∨ (i = 0 ∧ all.getD 1 [] ≠ []) ∨ (0 < i ∧ all.getD (all.length - 2) [] ≠ []) then none else refG all (i + 1) gap ps
     else if gap then none else match refG all (i + 1) true ps with
       | some r => some (-1 :: r)
       | none => none := by
 conv => lhs; unfold refG
 rw [if_pos rfl]
 all_goals rfl
theorem refG_n (all : List (List UInt8)) (i : Nat) (gap : Bool) (p : List UInt8) (hp : p ≠ []) (ps : List (List UInt8)) : refG all i gap (p :: ps) = if (fourP (splitL 46 p)).2 = true ∧ ps = [] then some [f4r (mkS p) / 65536, f4r (mkS p) % 65536]
   else if numOk 16 p = true ∧ p.length ≤ 4 then match refG all (i + 1) gap ps with
     | some r => some (((numL 16 p : Nat) : Int) :: r)
     | none => none
   else none := by
 conv => lhs; unfold refG
 rw [if_neg hp]
 all_goals rfl
theorem res_cons (ys : List CV) (x : Int) (o : Option (List Int)) : res65 (ys ++ [CV.int .i64 x]) o = res65 ys (match o with
   | some r => some (x :: r)
   | none => none) := by
 cases o with
 | none => rfl
 | some r =>
   unfold res65
   simp only [List.append_assoc]
   rfl
theorem lo65 (n : Nat) (ps : List (List UInt8)) (hl : ps.length ≤ 20000) (hsz : ∀ p ∈ ps, p.length ≤ 10000) : ∀ (j k : Nat) (gap : Bool) (ys : List CV), ps.length < j + k → k ≤ ps.length → ys.length ≤ 2 * k →
   R65 n j (E65 gap k) [.row ys 1 0 false, .row (ps.map strCV) 1 0 false] = res65 ys (refG ps k gap (ps.drop k))
 | 0, k, gap, ys, hj, hk, hd => by omega
 | j + 1, k, gap, ys, hj, hk, hd => by
   unfold R65
   rw [E65, rounds_succ, ic65]
   simp only [natM, List.length_map, rep1, rep2, List.length_cons, List.length_nil]
   by_cases h1 : k < ps.length
   · have hp := xs_get ps k h1
     have hdr := ps_drop h1
     have hsz1 := hsz _ (ps_mem h1)
     have b1 : decide ((k : Int) < ((ps.length : Nat) : Int)) = true := decide_eq_true (by omega)
     have b2 : decide ((0 : Int) ≤ (k : Int)) = true := decide_eq_true (by omega)
     have b3 : decide (0 < 1) = true := rfl
     have b5 : decide (k < ps.length) = true := decide_eq_true h1
     have hw1 : IntKind.i64.wrap (((ps.length : Nat) : Int) - 1) = ((ps.length - 1 : Nat) : Int) := by rw [wrap_id (by omega) (by omega)]; omega
     have hlast : (((k : Nat) : Int) == ((ps.length - 1 : Nat) : Int)) = (ps.drop (k + 1)).isEmpty := by
       rw [Bool.eq_iff_iff, beq_iff_eq, List.isEmpty_iff, List.drop_eq_nil_iff]; omega
     have ih : ∀ gap ys', ys'.length ≤ 2 * (k + 1) → R65 n j (E65 gap (k + 1)) [.row ys' 1 0 false, .row (ps.map strCV) 1 0 false] = res65 ys' (refG ps (k + 1) gap (ps.drop (k + 1))) := fun gap ys' h => lo65 n ps hl hsz j (k + 1) gap ys' (by omega) (by omega) h
     simp only [hp, el_get, el_len, el_okc, el_str, sizeM, isE]
     rw [b1, b2, b3, b5, hw1, hlast, wrp1 (i := k) (by omega), hdr]
     generalize ps.getD k [] = p at *
     have b4 : decide (p.length ≤ 10000) = true := decide_eq_true hsz1
     rw [b4]
     simp only [Bool.and_self, bT]
     by_cases hpe : p = []
     · subst hpe
       rw [refG_e]
       have e0 : ([] : List UInt8).isEmpty = true := rfl
       rw [e0, bT]
       by_cases hk0 : k = 0
       · have c0 : (((k : Nat) : Int) == 0) = true := by rw [hk0]; rfl
         have c1 : decide ((k : Int) > 0) = false := decide_eq_false (by omega)
         rw [c0, c1, if_pos (.inl hk0)]
         simp only [bT, bF]
         by_cases h3 : ps.length < 3
         · rw [decide_eq_true (show ((ps.length : Nat) : Int) < 3 by omega), bT, if_pos (.inl h3)]; rfl
         · have hq := xs_get ps 1 (by omega)
           simp only [hq, el_get, el_len, el_okc, el_str, sizeM, isE]
           rw [decide_eq_false (show ¬ ((ps.length : Nat) : Int) < 3 by omega), decide_eq_true (show (1 : Int) < ((ps.length : Nat) : Int) by omega), decide_eq_true (show 1 < ps.length by omega), decide_eq_true (show 0 < 1 by omega)]
           simp only [bT, bF]
           cases hq1 : (ps.getD 1 []).isEmpty with
           | true =>
             have hn : ps.getD 1 [] = [] := List.isEmpty_iff.1 hq1
             rw [if_neg (by rintro (h | h | h); · omega
                            · exact h.2 hn
                            · omega)]
             exact ih gap ys (by omega)
           | false =>
             have hn : ps.getD 1 [] ≠ [] := fun h => by rw [h] at hq1; cases hq1
             rw [if_pos (.inr (.inl ⟨hk0, hn⟩))]
             rfl
       · have c0 : (((k : Nat) : Int) == 0) = false := by
           refine Bool.eq_false_iff.2 fun h => hk0 ?_
           have := eq_of_beq h; omega
         have c1 : decide ((k : Int) > 0) = true := decide_eq_true (by omega)
         rw [c0, c1]
         simp only [bT, bF]
         cases hla : (ps.drop (k + 1)).isEmpty with
         | false =>
           have hne : ps.drop (k + 1) ≠ [] := fun h => by rw [h] at hla; cases hla
           rw [if_neg (by rintro (h | h); · exact hk0 h
                          · exact hne h)]
           have e1 : (!false) = true := rfl
           rw [e1, bT]
           cases gap with
           | true => rw [bT]; rfl
           | false =>
             rw [bF, decide_eq_true (show (ys.length + 1) * 8 ≤ 70368744177664 by omega), bT]
             refine Eq.trans (ih true _ (by rw [List.length_append]; simp; omega)) ?_
             rw [res_cons]
             rfl
         | true =>
           have hne : ps.drop (k + 1) = [] := List.isEmpty_iff.1 hla
           rw [if_pos (.inr hne)]
           have e1 : (!true) = false := rfl
           rw [e1, bF]
           by_cases h3 : ps.length < 3
           · rw [decide_eq_true (show ((ps.length : Nat) : Int) < 3 by omega), bT, if_pos (.inl h3)]; rfl
           · have hw2 : IntKind.i64.wrap (((ps.length : Nat) : Int) - 2) = ((ps.length - 2 : Nat) : Int) := by rw [wrap_id (by omega) (by omega)]; omega
             rw [hw2]
             simp only [natM]
             have hq := xs_get ps (ps.length - 2) (by omega)
             simp only [hq, el_get, el_len, el_okc, el_str, sizeM, isE]
             rw [decide_eq_false (show ¬ ((ps.length : Nat) : Int) < 3 by omega), decide_eq_true (show (0 : Int) ≤ ((ps.length - 2 : Nat) : Int) by omega), decide_eq_true (show ((ps.length - 2 : Nat) : Int) < ((ps.length : Nat) : Int) by omega), decide_eq_true (show ps.length - 2 < ps.length by omega), decide_eq_true (show 0 < 1 by omega)]
             simp only [bT, bF]
             cases hq1 : (ps.getD (ps.length - 2) []).isEmpty with
             | true =>
               have hn : ps.getD (ps.length - 2) [] = [] := List.isEmpty_iff.1 hq1
               rw [if_neg (by rintro (h | h | h); · omega
                              · omega
                              · exact h.2 hn)]
               exact ih gap ys (by omega)
             | false =>
               have hn : ps.getD (ps.length - 2) [] ≠ [] := fun h => by rw [h] at hq1; cases hq1
               rw [if_pos (.inr (.inr ⟨by omega, hn⟩))]
               rfl
     · rw [refG_n _ _ _ _ hpe]
       have e0 : p.isEmpty = false := by cases p with | nil => exact (hpe rfl).elim | cons a t => rfl
       rw [e0, bF]
       have e1 : nR (mkS p) 16 = if numOk 16 p then ((min (numL 16 p) 4294967296 : Nat) : Int) else -1 := rfl
       have e2 : f4 (mkS p) = (fourP (splitL 46 p)).2 := rfl
       have hf := f4r_b (mkS p)
       rw [e2] at hf
       rw [e1]
       have grp : (bif' (decide ((if numOk 16 p = true then ((min (numL 16 p) 4294967296 : Nat) : Int) else -1) < 0)) (some (CV.tup [CV.nilsl, CV.bool false], ([] : List CV))) (bif' (decide (((p.length : Nat) : Int) > 4)) (some (CV.tup [CV.nilsl, CV.bool false], [])) (bif' (decide ((ys.length + (0 + 1)) * 8 ≤ 70368744177664)) (R65 n j (E65 gap (k + 1)) [.row (ys ++ [CV.int .i64 (if numOk 16 p = true then ((min (numL 16 p) 4294967296 : Nat) : Int) else -1)]) 1 0 false, .row (ps.map strCV) 1 0 false]) none))) =
           res65 ys (if numOk 16 p = true ∧ p.length ≤ 4 then match refG ps (k + 1) gap (ps.drop (k + 1)) with
             | some r => some (((numL 16 p : Nat) : Int) :: r)
             | none => none
           else none) := by
         cases hn : numOk 16 p with
         | false =>
           rw [if_neg Bool.false_ne_true, decide_eq_true (by decide), bT, if_neg (fun q => Bool.false_ne_true q.1)]; rfl
         | true =>
           rw [if_pos rfl, decide_eq_false (by omega), bF]
           by_cases h4 : p.length ≤ 4
           · have hlt := num16 hn h4
             rw [decide_eq_false (by omega), bF, decide_eq_true (by omega), bT, if_pos ⟨rfl, h4⟩]
             have e3 : min (numL 16 p) 4294967296 = numL 16 p := by omega
             rw [e3]
             refine Eq.trans (ih gap _ (by rw [List.length_append]; simp; omega)) ?_
             rw [res_cons]
           · rw [decide_eq_true (by omega), bT, if_neg (fun q => h4 q.2)]; rfl
       cases h4 : (fourP (splitL 46 p)).2 with
       | false =>
         rw [h4] at hf
         have hv := hf.2 rfl
         rw [hv, decide_eq_false (by omega), bF, if_neg (show ¬ (false = true ∧ ps.drop (k + 1) = []) from fun q => Bool.false_ne_true q.1)]
         exact grp
       | true =>
         rw [h4] at hf
         obtain ⟨v0, v1⟩ := hf.1 rfl
         rw [decide_eq_true (show f4r (mkS p) ≥ 0 from v0), bT]
         cases hla : (ps.drop (k + 1)).isEmpty with
         | false =>
           have hne : ps.drop (k + 1) ≠ [] := fun h => by rw [h] at hla; cases hla
           rw [bF, if_neg (show ¬ (true = true ∧ ps.drop (k + 1) = []) from fun q => hne q.2)]
           exact grp
         | true =>
           have hne : ps.drop (k + 1) = [] := List.isEmpty_iff.1 hla
           rw [bT, if_pos ⟨rfl, hne⟩, decide_eq_true (by omega), bT]
           have d1 : (f4r (mkS p)).tdiv 65536 = f4r (mkS p) / 65536 := Int.tdiv_eq_ediv_of_nonneg v0
           have d2 : (f4r (mkS p)).tmod 65536 = f4r (mkS p) % 65536 := Int.tmod_eq_emod_of_nonneg v0
           rw [d1, d2, wrap_id (n := f4r (mkS p) / 65536) (by omega) (by omega)]
           refine Eq.trans (ih gap _ (by rw [List.length_append]; simp; omega)) ?_
           rw [hne]
           have e3 : refG ps (k + 1) gap [] = some [] := by unfold refG; rfl
           rw [e3]
           show some (CV.tup [CV.sl true false 1 (ys ++ [_, _] ++ ([] : List Int).map intCV), .bool true], ([] : List CV)) = _
           rw [List.map_nil, List.append_nil]
           rfl
   · rw [decide_eq_false (show ¬ (k : Int) < ((ps.length : Nat) : Int) by omega), bF, List.drop_of_length_le (by omega)]
     have e3 : refG ps k gap [] = some [] := by unfold refG; rfl
     rw [e3]
     show _ = some (CV.tup [CV.sl true false 1 (ys ++ ([] : List Int).map intCV), .bool true], ([] : List CV))
     rw [List.map_nil, List.append_nil]
theorem g65 (hg : OnGlobals I ng) (h70 : Cw I ng 132 L70) (h28 : Cw I ng 73 L28d) : Kw I ng B65 := known_add (g58 hg h70 h28) (contract_of aL65 hg (hok_of (g58 hg h70 h28)) fun cargs rv outs h => by
 unfold L65 at h
 split at h <;> first | (cases h; done) | skip
 rename_i s
 refine ⟨22000, loop1 rfl (by kernel_rfl) (by kernel_rfl) (by kernel_rfl) (hd := hL65) (by kernel_rfl) ?_⟩
 by_cases hs : s.size ≤ 10000
 · refine (ib65 s 22000 (R65 22000 22000)).trans ?_
   obtain ⟨l, rfl⟩ : ∃ l, s = mkS l := ⟨_, (mkS_bl s).symm⟩
   rw [sizeM] at hs
   have e2 : (spS (mkS l) (Nat.toUInt8 58)) = (splitL 58 l).map strCV := rfl
   rw [sizeM, decide_eq_true hs, e2]
   simp only [Bool.and_self, bT]
   simp only [picked, pickAlt, sizeM, decide_eq_true hs, Bool.true_and] at h
   have hsz : ∀ p ∈ splitL 58 l, p.length ≤ 10000 := fun p hp => by
     have := split_sz 58 _ p hp; omega
   have hl := split_len 58 l
   refine Eq.trans (lo65 22000 (splitL 58 l) (by omega) hsz 22000 0 false [] (by omega) (by omega) (by simp)) ?_
   rw [List.drop_zero]
   unfold gROk rB at h
   simp only [dataM] at h
   cases hq : refG (splitL 58 l) 0 false (splitL 58 l) with
   | none => rw [hq] at h; cases h; rfl
   | some r => rw [hq] at h; cases h; rfl
 · simp only [picked, pickAlt, decide_eq_false hs, Bool.false_and] at h; cases h)
end Go.Pv
namespace Go.Pv
set_option maxRecDepth 100000
open Go Go.Proofs
def L51 : Fn1 := fun x => match x with
 | [.str s] => some [(decide (s.size ≤ 3000) && ip6 s, .tup [ipAgg true s, .bool true], []), (decide (s.size ≤ 3000) && ip4 s, .tup [ipAgg false s, .bool true], []), (decide (s.size ≤ 3000), .tup [ipZero, .bool false], [])]
 | _ => none
def kIp : Nat := 17 + 4294967296 * (80 + 1)
abbrev zIp : AO := .box (.c ipZero) kIp
noncomputable def c51 : Code := codeOf Tryz.prog 67
noncomputable def q51 : Code := prefC 2 (tailC 4 c51)
def h51a : Head := ⟨[2, 5], [(5, 1)], 1⟩
def hL51a : Head := ⟨[2, 5, 7, 8, 9], [(5, 1)], 1⟩
def h51b : Head := ⟨[2, 5, 7, 8], [(5, 1)], 1⟩
def h51c : Head := ⟨[2, 5, 7, 10, 11], [(5, 1)], 3⟩
def hL51b : Head := ⟨[2, 5, 7, 10, 11, 12], [(5, 1)], 3⟩
def an51 : Ann := fun i => if Nat.beq i 500007 then some h51a else if Nat.beq i 9 then some hL51a else if Nat.beq i 500014 then some h51b else if Nat.beq i 500018 then some h51c else if Nat.beq i 19 then some hL51b else none
theorem ip51 (s : ByteArray) (n : Nat) (L : Env → Hp → Res) : aexec Tryz.prog (call' B65) (filt an51 0) n (prefC 4 c51) (envOf Tryz.prog 67 [.c (.str s)]) [] (thenK (headK h51a L) (endOf Tryz.prog 67 [])) =
 bif' (decide (s.size ≤ 10000)) (bif' (decide (f4r s ≥ 0)) (bif' (decide (0 ≤ IntKind.u64.wrap (f4r s)) && decide (IntKind.u64.wrap (f4r s) < 18446744073709551616)) (some (CV.tup [CV.agg [CV.bool false, CV.int .u8 (.ofNat 0), CV.int .u8 (.ofNat 0), CV.int .u8 (.ofNat 0), CV.int .u8 (.ofNat 0), CV.int .u8 (.ofNat 0), CV.int .u8 (.ofNat 0), CV.int .u8 (.ofNat 0), CV.int .u8 (.ofNat 0), CV.int .u8 (.ofNat 0), CV.int .u8 (.ofNat 0), CV.int .u8 (.ofNat 0), CV.int .u8 (.ofNat 0), CV.int .u8 (IntKind.u64.wrap (f4r s) / 16777216 % 256), CV.int .u8 (IntKind.u64.wrap (f4r s) / 65536 % 256), CV.int .u8 (IntKind.u64.wrap (f4r s) / 256 % 256), CV.int .u8 (IntKind.u64.wrap (f4r s) % 256)], CV.bool true], [])) none) (bif' (decide (s.size ≤ 10000) && gROk s) (bif' (decide (s.size ≤ 10000) && true) (bif' (decide ((↑(spS s (Nat.toUInt8 58)).length : Int) < 3)) (some (CV.tup [CV.agg [CV.bool false, CV.int .u8 (.ofNat 0), CV.int .u8 (.ofNat 0), CV.int .u8 (.ofNat 0), CV.int .u8 (.ofNat 0), CV.int .u8 (.ofNat 0), CV.int .u8 (.ofNat 0), CV.int .u8 (.ofNat 0), CV.int .u8 (.ofNat 0), CV.int .u8 (.ofNat 0), CV.int .u8 (.ofNat 0), CV.int .u8 (.ofNat 0), CV.int .u8 (.ofNat 0), CV.int .u8 (.ofNat 0), CV.int .u8 (.ofNat 0), CV.int .u8 (.ofNat 0), CV.int .u8 (.ofNat 0)], CV.bool false], [])) (L (mkEnv 97 [(2, .bptr 0 0), (5, .rw 1 0)]) [.box (.c (CV.agg [CV.bool false, CV.int .u8 (.ofNat 0), CV.int .u8 (.ofNat 0), CV.int .u8 (.ofNat 0), CV.int .u8 (.ofNat 0), CV.int .u8 (.ofNat 0), CV.int .u8 (.ofNat 0), CV.int .u8 (.ofNat 0), CV.int .u8 (.ofNat 0), CV.int .u8 (.ofNat 0), CV.int .u8 (.ofNat 0), CV.int .u8 (.ofNat 0), CV.int .u8 (.ofNat 0), CV.int .u8 (.ofNat 0), CV.int .u8 (.ofNat 0), CV.int .u8 (.ofNat 0), CV.int .u8 (.ofNat 0)])) kIp, .row (rB s) 1 0 false])) none) (bif' (decide (s.size ≤ 10000)) (some (CV.tup [CV.agg [CV.bool false, CV.int .u8 (.ofNat 0), CV.int .u8 (.ofNat 0), CV.int .u8 (.ofNat 0), CV.int .u8 (.ofNat 0), CV.int .u8 (.ofNat 0), CV.int .u8 (.ofNat 0), CV.int .u8 (.ofNat 0), CV.int .u8 (.ofNat 0), CV.int .u8 (.ofNat 0), CV.int .u8 (.ofNat 0), CV.int .u8 (.ofNat 0), CV.int .u8 (.ofNat 0), CV.int .u8 (.ofNat 0), CV.int .u8 (.ofNat 0), CV.int .u8 (.ofNat 0), CV.int .u8 (.ofNat 0)], CV.bool false], [])) none))) none := by kernel_rfl
theorem iq51 (xs : List CV) (n : Nat) (L R : Env → Hp → Res) : partsB Tryz.prog (call' B65) (filt an51 0) n q51 (mkEnv 97 [(2, .bptr 0 0), (5, .rw 1 0)]) [zIp, .row xs 1 0 false] (fun _ => headK hL51a R) (thenK (headK h51b L) (endOf Tryz.prog 67 [])) =
 R (mkEnv 97 [(2, .bptr 0 0), (5, .rw 1 0), (7, .c (CV.int .i64 (.ofNat 0))), (8, .c (CV.bool false)), (9, .c (CV.int .i64 (.ofNat 0)))]) [.box (.c (CV.agg [CV.bool false, CV.int .u8 (.ofNat 0), CV.int .u8 (.ofNat 0), CV.int .u8 (.ofNat 0), CV.int .u8 (.ofNat 0), CV.int .u8 (.ofNat 0), CV.int .u8 (.ofNat 0), CV.int .u8 (.ofNat 0), CV.int .u8 (.ofNat 0), CV.int .u8 (.ofNat 0), CV.int .u8 (.ofNat 0), CV.int .u8 (.ofNat 0), CV.int .u8 (.ofNat 0), CV.int .u8 (.ofNat 0), CV.int .u8 (.ofNat 0), CV.int .u8 (.ofNat 0), CV.int .u8 (.ofNat 0)])) kIp, .row xs 1 0 false] := by kernel_rfl
theorem ic51 (xs : List CV) (m i : Int) (gap : Bool) (n : Nat) (L R : Env → Hp → Res) : aexec Tryz.prog (call' B65) (filt an51 0) n (bodyN 0 q51) (mkEnv 97 [(2, .bptr 0 0), (5, .rw 1 0), (7, .c (.int .i64 m)), (8, .c (.bool gap)), (9, .c (.int .i64 i))]) [zIp, .row xs 1 0 false] (thenK (headK hL51a R) (restN Tryz.prog (call' B65) (filt an51 0) n 0 q51 (thenK (headK h51b L) (endOf Tryz.prog 67 [])))) =
 bif' (decide (i < (↑xs.length : Int))) (bif' (decide (0 ≤ i)) (bif' (decide (i < (↑xs.length : Int))) (bif' (decide (i.toNat < xs.length)) (bif' (decide (0 < (xs.getD i.toNat CV.nilptr).cl.length)) (bif' (okc (CV.int .i64 0) ((xs.getD i.toNat CV.nilptr).cl.getD 0 CV.nilptr)) (bif' (decide (((xs.getD i.toNat CV.nilptr).cl.getD 0 CV.nilptr).toInt < 0)) (R (mkEnv 97 [(2, .bptr 0 0), (5, .rw 1 0), (7, .c (CV.int .i64 m)), (8, .c (CV.bool true)), (9, .c (CV.int .i64 (IntKind.i64.wrap (i + 1))))]) [.box (.c (CV.agg [CV.bool false, CV.int .u8 (.ofNat 0), CV.int .u8 (.ofNat 0), CV.int .u8 (.ofNat 0), CV.int .u8 (.ofNat 0), CV.int .u8 (.ofNat 0), CV.int .u8 (.ofNat 0), CV.int .u8 (.ofNat 0), CV.int .u8 (.ofNat 0), CV.int .u8 (.ofNat 0), CV.int .u8 (.ofNat 0), CV.int .u8 (.ofNat 0), CV.int .u8 (.ofNat 0), CV.int .u8 (.ofNat 0), CV.int .u8 (.ofNat 0), CV.int .u8 (.ofNat 0), CV.int .u8 (.ofNat 0)])) kIp, .row xs 1 0 false]) (R (mkEnv 97 [(2, .bptr 0 0), (5, .rw 1 0), (7, .c (CV.int .i64 (IntKind.i64.wrap (m + 1)))), (8, .c (CV.bool gap)), (9, .c (CV.int .i64 (IntKind.i64.wrap (i + 1))))]) [.box (.c (CV.agg [CV.bool false, CV.int .u8 (.ofNat 0), CV.int .u8 (.ofNat 0), CV.int .u8 (.ofNat 0), CV.int .u8 (.ofNat 0), CV.int .u8 (.ofNat 0), CV.int .u8 (.ofNat 0), CV.int .u8 (.ofNat 0), CV.int .u8 (.ofNat 0), CV.int .u8 (.ofNat 0), CV.int .u8 (.ofNat 0), CV.int .u8 (.ofNat 0), CV.int .u8 (.ofNat 0), CV.int .u8 (.ofNat 0), CV.int .u8 (.ofNat 0), CV.int .u8 (.ofNat 0), CV.int .u8 (.ofNat 0)])) kIp, .row xs 1 0 false])) none) none) none) none) none) (L (mkEnv 97 [(2, .bptr 0 0), (5, .rw 1 0), (7, .c (CV.int .i64 m)), (8, .c (CV.bool gap))]) [.box (.c (CV.agg [CV.bool false, CV.int .u8 (.ofNat 0), CV.int .u8 (.ofNat 0), CV.int .u8 (.ofNat 0), CV.int .u8 (.ofNat 0), CV.int .u8 (.ofNat 0), CV.int .u8 (.ofNat 0), CV.int .u8 (.ofNat 0), CV.int .u8 (.ofNat 0), CV.int .u8 (.ofNat 0), CV.int .u8 (.ofNat 0), CV.int .u8 (.ofNat 0), CV.int .u8 (.ofNat 0), CV.int .u8 (.ofNat 0), CV.int .u8 (.ofNat 0), CV.int .u8 (.ofNat 0), CV.int .u8 (.ofNat 0)])) kIp, .row xs 1 0 false]) := by kernel_rfl
theorem ir51 (xs : List CV) (m : Int) (gap : Bool) (n : Nat) (L : Env → Hp → Res) : aexecB Tryz.prog (call' B65) (filt an51 0) n (prefC 3 (tailC 6 c51)) (mkEnv 97 [(2, .bptr 0 0), (5, .rw 1 0), (7, .c (.int .i64 m)), (8, .c (.bool gap))]) [zIp, .row xs 1 0 false] (thenK (headK h51c L) (endOf Tryz.prog 67 [])) =
 bif' (decide (m > 8)) (some (CV.tup [CV.agg [CV.bool false, CV.int .u8 (.ofNat 0), CV.int .u8 (.ofNat 0), CV.int .u8 (.ofNat 0), CV.int .u8 (.ofNat 0), CV.int .u8 (.ofNat 0), CV.int .u8 (.ofNat 0), CV.int .u8 (.ofNat 0), CV.int .u8 (.ofNat 0), CV.int .u8 (.ofNat 0), CV.int .u8 (.ofNat 0), CV.int .u8 (.ofNat 0), CV.int .u8 (.ofNat 0), CV.int .u8 (.ofNat 0), CV.int .u8 (.ofNat 0), CV.int .u8 (.ofNat 0), CV.int .u8 (.ofNat 0)], CV.bool false], [])) (bif' (!gap) (bif' (m != 8) (some (CV.tup [CV.agg [CV.bool false, CV.int .u8 (.ofNat 0), CV.int .u8 (.ofNat 0), CV.int .u8 (.ofNat 0), CV.int .u8 (.ofNat 0), CV.int .u8 (.ofNat 0), CV.int .u8 (.ofNat 0), CV.int .u8 (.ofNat 0), CV.int .u8 (.ofNat 0), CV.int .u8 (.ofNat 0), CV.int .u8 (.ofNat 0), CV.int .u8 (.ofNat 0), CV.int .u8 (.ofNat 0), CV.int .u8 (.ofNat 0), CV.int .u8 (.ofNat 0), CV.int .u8 (.ofNat 0), CV.int .u8 (.ofNat 0)], CV.bool false], [])) (L (mkEnv 97 [(2, .bptr 0 0), (5, .rw 3 0), (7, .c (CV.int .i64 m)), (10, .bptr 2 0), (11, .c (CV.int .i64 (.ofNat 0)))]) [.box (.c (CV.agg [CV.bool false, CV.int .u8 (.ofNat 0), CV.int .u8 (.ofNat 0), CV.int .u8 (.ofNat 0), CV.int .u8 (.ofNat 0), CV.int .u8 (.ofNat 0), CV.int .u8 (.ofNat 0), CV.int .u8 (.ofNat 0), CV.int .u8 (.ofNat 0), CV.int .u8 (.ofNat 0), CV.int .u8 (.ofNat 0), CV.int .u8 (.ofNat 0), CV.int .u8 (.ofNat 0), CV.int .u8 (.ofNat 0), CV.int .u8 (.ofNat 0), CV.int .u8 (.ofNat 0), CV.int .u8 (.ofNat 0)])) kIp, .dead, .box (.c (CV.agg [CV.bool true, CV.int .u8 (.ofNat 0), CV.int .u8 (.ofNat 0), CV.int .u8 (.ofNat 0), CV.int .u8 (.ofNat 0), CV.int .u8 (.ofNat 0), CV.int .u8 (.ofNat 0), CV.int .u8 (.ofNat 0), CV.int .u8 (.ofNat 0), CV.int .u8 (.ofNat 0), CV.int .u8 (.ofNat 0), CV.int .u8 (.ofNat 0), CV.int .u8 (.ofNat 0), CV.int .u8 (.ofNat 0), CV.int .u8 (.ofNat 0), CV.int .u8 (.ofNat 0), CV.int .u8 (.ofNat 0)])) kIp, .row xs 1 0 false])) (L (mkEnv 97 [(2, .bptr 0 0), (5, .rw 3 0), (7, .c (CV.int .i64 m)), (10, .bptr 2 0), (11, .c (CV.int .i64 (.ofNat 0)))]) [.box (.c (CV.agg [CV.bool false, CV.int .u8 (.ofNat 0), CV.int .u8 (.ofNat 0), CV.int .u8 (.ofNat 0), CV.int .u8 (.ofNat 0), CV.int .u8 (.ofNat 0), CV.int .u8 (.ofNat 0), CV.int .u8 (.ofNat 0), CV.int .u8 (.ofNat 0), CV.int .u8 (.ofNat 0), CV.int .u8 (.ofNat 0), CV.int .u8 (.ofNat 0), CV.int .u8 (.ofNat 0), CV.int .u8 (.ofNat 0), CV.int .u8 (.ofNat 0), CV.int .u8 (.ofNat 0), CV.int .u8 (.ofNat 0)])) kIp, .dead, .box (.c (CV.agg [CV.bool true, CV.int .u8 (.ofNat 0), CV.int .u8 (.ofNat 0), CV.int .u8 (.ofNat 0), CV.int .u8 (.ofNat 0), CV.int .u8 (.ofNat 0), CV.int .u8 (.ofNat 0), CV.int .u8 (.ofNat 0), CV.int .u8 (.ofNat 0), CV.int .u8 (.ofNat 0), CV.int .u8 (.ofNat 0), CV.int .u8 (.ofNat 0), CV.int .u8 (.ofNat 0), CV.int .u8 (.ofNat 0), CV.int .u8 (.ofNat 0), CV.int .u8 (.ofNat 0), CV.int .u8 (.ofNat 0)])) kIp, .row xs 1 0 false])) := by kernel_rfl
theorem is51 (xs cs : List CV) (m a : Int) (n : Nat) (R : Env → Hp → Res) : partsB Tryz.prog (call' B65) (filt an51 0) n (tailC 9 c51) (mkEnv 97 [(2, .bptr 0 0), (5, .rw 3 0), (7, .c (.int .i64 m)), (10, .bptr 2 0), (11, .c (.int .i64 a))]) [zIp, .dead, .box (.c (.agg cs)) kIp, .row xs 1 0 false] (fun _ => headK hL51b R) (endOf Tryz.prog 67 []) =
 R (mkEnv 97 [(2, .bptr 0 0), (5, .rw 3 0), (7, .c (CV.int .i64 m)), (10, .bptr 2 0), (11, .c (CV.int .i64 a)), (12, .c (CV.int .i64 (.ofNat 0)))]) [.box (.c (CV.agg [CV.bool false, CV.int .u8 (.ofNat 0), CV.int .u8 (.ofNat 0), CV.int .u8 (.ofNat 0), CV.int .u8 (.ofNat 0), CV.int .u8 (.ofNat 0), CV.int .u8 (.ofNat 0), CV.int .u8 (.ofNat 0), CV.int .u8 (.ofNat 0), CV.int .u8 (.ofNat 0), CV.int .u8 (.ofNat 0), CV.int .u8 (.ofNat 0), CV.int .u8 (.ofNat 0), CV.int .u8 (.ofNat 0), CV.int .u8 (.ofNat 0), CV.int .u8 (.ofNat 0), CV.int .u8 (.ofNat 0)])) kIp, .dead, .box (.c (CV.agg cs)) kIp, .row xs 1 0 false] := by kernel_rfl
theorem id51 (xs cs : List CV) (m a i : Int) (n : Nat) (R : Env → Hp → Res) : aexec Tryz.prog (call' B65) (filt an51 0) n (bodyN 0 (tailC 9 c51)) (mkEnv 97 [(2, .bptr 0 0), (5, .rw 3 0), (7, .c (.int .i64 m)), (10, .bptr 2 0), (11, .c (.int .i64 a)), (12, .c (.int .i64 i))]) [zIp, .dead, .box (.c (.agg cs)) kIp, .row xs 1 0 false] (thenK (headK hL51b R) (restN Tryz.prog (call' B65) (filt an51 0) n 0 (tailC 9 c51) (endOf Tryz.prog 67 []))) =
 bif' (decide (i < (↑xs.length : Int))) (bif' (decide (0 ≤ i)) (bif' (decide (i < (↑xs.length : Int))) (bif' (decide (i.toNat < xs.length)) (bif' (decide (0 < (xs.getD i.toNat CV.nilptr).cl.length)) (bif' (okc (CV.int .i64 0) ((xs.getD i.toNat CV.nilptr).cl.getD 0 CV.nilptr)) (bif' (decide (((xs.getD i.toNat CV.nilptr).cl.getD 0 CV.nilptr).toInt < 0)) (R (mkEnv 97 [(2, .bptr 0 0), (5, .rw 3 0), (7, .c (CV.int .i64 m)), (10, .bptr 2 0), (11, .c (CV.int .i64 (IntKind.i64.wrap (a + IntKind.i64.wrap (2 * IntKind.i64.wrap (8 - m)))))), (12, .c (CV.int .i64 (IntKind.i64.wrap (i + 1))))]) [.box (.c (CV.agg [CV.bool false, CV.int .u8 (.ofNat 0), CV.int .u8 (.ofNat 0), CV.int .u8 (.ofNat 0), CV.int .u8 (.ofNat 0), CV.int .u8 (.ofNat 0), CV.int .u8 (.ofNat 0), CV.int .u8 (.ofNat 0), CV.int .u8 (.ofNat 0), CV.int .u8 (.ofNat 0), CV.int .u8 (.ofNat 0), CV.int .u8 (.ofNat 0), CV.int .u8 (.ofNat 0), CV.int .u8 (.ofNat 0), CV.int .u8 (.ofNat 0), CV.int .u8 (.ofNat 0), CV.int .u8 (.ofNat 0)])) kIp, .dead, .box (.c (CV.agg cs)) kIp, .row xs 1 0 false]) (bif' (decide (0 ≤ i)) (bif' (decide (i < (↑xs.length : Int))) (bif' (decide (i.toNat < xs.length)) (bif' (decide (0 < (xs.getD i.toNat CV.nilptr).cl.length)) (bif' (okc (CV.int .i64 0) ((xs.getD i.toNat CV.nilptr).cl.getD 0 CV.nilptr)) (bif' (decide (0 ≤ a)) (bif' (decide (a < (↑16 : Int))) (bif' (decide (1 + a.toNat * 1 + 1 ≤ 17)) (bif' (decide (0 ≤ i)) (bif' (decide (i < (↑xs.length : Int))) (bif' (decide (i.toNat < xs.length)) (bif' (decide (0 < (xs.getD i.toNat CV.nilptr).cl.length)) (bif' (okc (CV.int .i64 0) ((xs.getD i.toNat CV.nilptr).cl.getD 0 CV.nilptr)) (bif' (decide (0 ≤ IntKind.i64.wrap (a + 1))) (bif' (decide (IntKind.i64.wrap (a + 1) < (↑16 : Int))) (bif' (decide (1 + (IntKind.i64.wrap (a + 1)).toNat * 1 + 1 ≤ 17)) (R (mkEnv 97 [(2, .bptr 0 0), (5, .rw 3 0), (7, .c (CV.int .i64 m)), (10, .bptr 2 0), (11, .c (CV.int .i64 (IntKind.i64.wrap (a + 2)))), (12, .c (CV.int .i64 (IntKind.i64.wrap (i + 1))))]) [.box (.c (CV.agg [CV.bool false, CV.int .u8 (.ofNat 0), CV.int .u8 (.ofNat 0), CV.int .u8 (.ofNat 0), CV.int .u8 (.ofNat 0), CV.int .u8 (.ofNat 0), CV.int .u8 (.ofNat 0), CV.int .u8 (.ofNat 0), CV.int .u8 (.ofNat 0), CV.int .u8 (.ofNat 0), CV.int .u8 (.ofNat 0), CV.int .u8 (.ofNat 0), CV.int .u8 (.ofNat 0), CV.int .u8 (.ofNat 0), CV.int .u8 (.ofNat 0), CV.int .u8 (.ofNat 0), CV.int .u8 (.ofNat 0)])) kIp, .dead, .box (.c (CV.agg (setRange (CV.agg (setRange (CV.agg cs).cl (1 + a.toNat * 1) (CV.int .u8 (IntKind.u8.wrap (IntKind.i64.wrap (((xs.getD i.toNat CV.nilptr).cl.getD 0 CV.nilptr).toInt.tdiv 256)))).cl)).cl (1 + (IntKind.i64.wrap (a + 1)).toNat * 1) (CV.int .u8 (IntKind.u8.wrap (((xs.getD i.toNat CV.nilptr).cl.getD 0 CV.nilptr).toInt.tmod 256))).cl))) kIp, .row xs 1 0 false]) none) none) none) none) none) none) none) none) none) none) none) none) none) none) none) none)) none) none) none) none) none) (bif' (17 == (CV.agg cs).cl.length) (some (CV.tup [CV.agg cs, CV.bool true], [])) none) := by kernel_rfl
end Go.Pv
namespace Go.Pv
set_option maxRecDepth 100000
set_option maxHeartbeats 400000
open Go Go.Proofs
variable {I : World → Prop} {ng : Nat}
theorem ei_get (x : Int) : (CV.int .i64 x).cl.getD 0 CV.nilptr = CV.int .i64 x := by cases x <;> rfl
theorem ei_len (x : Int) : (CV.int .i64 x).cl.length = 1 := by cases x <;> rfl
theorem ei_okc (z x : Int) : okc (CV.int .i64 z) (CV.int .i64 x) = true := by cases x <;> rfl
theorem ei_int (x : Int) : (CV.int .i64 x).toInt = x := by cases x <;> rfl
theorem gs_get (g : List Int) (k : Nat) (h : k < g.length) : (g.map intCV).getD k CV.nilptr = CV.int .i64 (g.getD k 0) := by
 simp [List.getD_eq_getElem?_getD, h, intCV]
theorem gs_drop {g : List Int} {k : Nat} (h : k < g.length) : g.drop k = g.getD k 0 :: g.drop (k + 1) := by
 rw [List.drop_eq_getElem_cons h]
 simp [List.getD_eq_getElem?_getD, h]
theorem gs_mem {g : List Int} {k : Nat} (h : k < g.length) : g.getD k 0 ∈ g := by
 simp [List.getD_eq_getElem?_getD, h]
def cntP (g : List Int) : Nat := g.foldr (fun x n => if x < 0 then n else n + 1) 0
def negP (g : List Int) : Bool := g.any fun x => decide (x < 0)
theorem cntP_le : ∀ g : List Int, cntP g ≤ g.length
 | [] => Nat.le_refl _
 | x :: g => by
   have := cntP_le g
   show (if x < 0 then cntP g else cntP g + 1) ≤ _
   simp only [List.length_cons]
   split <;> omega
noncomputable abbrev R51 (n j : Nat) (L : Env → Hp → Res) (env : Env) (H : Hp) : Res := rounds Tryz.prog (call' B65) (filt an51 0) n hL51a (bodyN 0 q51) j env H (restN Tryz.prog (call' B65) (filt an51 0) n 0 q51 (thenK (headK h51b L) (endOf Tryz.prog 67 [])))
theorem lo51 (n : Nat) (g : List Int) (hl : g.length ≤ 40000) (L : Env → Hp → Res) : ∀ (j k m : Nat) (gap : Bool), g.length < j + k → k ≤ g.length → m ≤ k →
   R51 n j L (mkEnv 97 [(2, .bptr 0 0), (5, .rw 1 0), (7, .c (.int .i64 (m : Int))), (8, .c (.bool gap)), (9, .c (.int .i64 (k : Int)))]) [zIp, .row (g.map intCV) 1 0 false] =
     L (mkEnv 97 [(2, .bptr 0 0), (5, .rw 1 0), (7, .c (.int .i64 ((m + cntP (g.drop k) : Nat) : Int))), (8, .c (.bool (gap || negP (g.drop k))))]) [zIp, .row (g.map intCV) 1 0 false]
 | 0, k, m, gap, hj, hk, hm => by omega
 | j + 1, k, m, gap, hj, hk, hm => by
   unfold R51
   rw [rounds_succ, ic51]
   simp only [natM, List.length_map]
   by_cases h1 : k < g.length
   · have hp := gs_get g k h1
     simp only [hp, ei_get, ei_len, ei_okc, ei_int]
     rw [decide_eq_true (show (k : Int) < ((g.length : Nat) : Int) by omega), decide_eq_true (show (0 : Int) ≤ (k : Int) by omega), decide_eq_true h1, decide_eq_true (show 0 < 1 by omega), wrp1 (i := k) (by omega), wrp1 (i := m) (by omega), gs_drop h1]
     simp only [bT]
     generalize g.getD k 0 = x
     have e1 : cntP (x :: g.drop (k + 1)) = if x < 0 then cntP (g.drop (k + 1)) else cntP (g.drop (k + 1)) + 1 := rfl
     have e2 : negP (x :: g.drop (k + 1)) = (decide (x < 0) || negP (g.drop (k + 1))) := rfl
     rw [e1, e2]
     by_cases hx : x < 0
     · rw [decide_eq_true hx, bT, if_pos hx]
       refine Eq.trans (lo51 n g hl L j (k + 1) m true (by omega) (by omega) (by omega)) ?_
       rw [Bool.true_or, Bool.or_true]
     · rw [decide_eq_false hx, bF, if_neg hx]
       refine Eq.trans (lo51 n g hl L j (k + 1) (m + 1) gap (by omega) (by omega) (by omega)) ?_
       rw [Bool.false_or, show m + 1 + cntP (g.drop (k + 1)) = m + (cntP (g.drop (k + 1)) + 1) by omega]
   · rw [decide_eq_false (show ¬ (k : Int) < ((g.length : Nat) : Int) by omega), bF, List.drop_of_length_le (by omega)]
     have e1 : cntP [] = 0 := rfl
     have e2 : negP [] = false := rfl
     rw [e1, e2, Bool.or_false, Nat.add_zero]
     rfl
def gBy (m : Nat) (x : Int) : List Nat := if x < 0 then List.replicate (2 * (8 - m)) 0 else [x.toNat / 256, x.toNat % 256]
def refB (m : Nat) (g : List Int) : List Nat := g.flatMap (gBy m)
theorem refB_c (m : Nat) (x : Int) (g : List Int) : refB m (x :: g) = gBy m x ++ refB m g := by unfold refB; rw [List.flatMap_cons]
noncomputable abbrev S51 (n j : Nat) (env : Env) (H : Hp) : Res := rounds Tryz.prog (call' B65) (filt an51 0) n hL51b (bodyN 0 (tailC 9 c51)) j env H (restN Tryz.prog (call' B65) (filt an51 0) n 0 (tailC 9 c51) (endOf Tryz.prog 67 []))
theorem set_two (A : List CV) (m : Nat) (b z x y : CV) : setRange (setRange (b :: (A ++ List.replicate (m + 2) z)) (1 + A.length) [x]) (1 + (A.length + 1)) [y] = b :: (A ++ [x, y] ++ List.replicate m z) := by
 have e1 : b :: (A ++ List.replicate (m + 2) z) = (b :: A) ++ List.replicate (m + 1 + 1) z := rfl
 have e2 : 1 + A.length = (b :: A).length := by simp; omega
 rw [e1, e2, set_pad]
 have e3 : 1 + (A.length + 1) = (b :: A ++ [x]).length := by simp; omega
 rw [e3, set_pad]
 simp
def cs51 (dn : List Nat) : List CV := .bool true :: (dn.map byCV ++ List.replicate (16 - dn.length) (CV.int .u8 (Int.ofNat 0)))
theorem lo51b (n : Nat) (g : List Int) (m : Nat) (hm : m ≤ 8) (hl : g.length ≤ 40000) (hb : ∀ x ∈ g, x < 65536) : ∀ (j k : Nat) (dn : List Nat), g.length < j + k → k ≤ g.length → dn.length + (refB m (g.drop k)).length ≤ 16 →
   S51 n j (mkEnv 97 [(2, .bptr 0 0), (5, .rw 3 0), (7, .c (.int .i64 (m : Int))), (10, .bptr 2 0), (11, .c (.int .i64 ((dn.length : Nat) : Int))), (12, .c (.int .i64 (k : Int)))]) [zIp, .dead, .box (.c (.agg (cs51 dn))) kIp, .row (g.map intCV) 1 0 false] =
     some (.tup [.agg (cs51 (dn ++ refB m (g.drop k))), .bool true], [])
 | 0, k, dn, hj, hk, hd => by omega
 | j + 1, k, dn, hj, hk, hd => by
   have hcl : ∀ l : List CV, (CV.agg l).cl = l := fun _ => rfl
   have hcs : (cs51 dn).length = 17 := by unfold cs51; simp; omega
   unfold S51
   rw [rounds_succ, id51]
   simp only [natM, List.length_map, hcl, hcs]
   by_cases h1 : k < g.length
   · have hp := gs_get g k h1
     simp only [hp, ei_get, ei_len, ei_okc, ei_int]
     have hxb := hb _ (gs_mem h1)
     rw [decide_eq_true (show (k : Int) < ((g.length : Nat) : Int) by omega), decide_eq_true (show (0 : Int) ≤ (k : Int) by omega), decide_eq_true h1, decide_eq_true (show 0 < 1 by omega), wrp1 (i := k) (by omega), wrp1 (i := dn.length) (by omega)]
     rw [gs_drop h1, refB_c] at hd ⊢
     generalize g.getD k 0 = x at *
     by_cases hx : x < 0
     · have e1 : gBy m x = List.replicate (2 * (8 - m)) 0 := by unfold gBy; rw [if_pos hx]
       rw [e1, List.length_append, List.length_replicate] at hd
       simp only [bT]
       rw [decide_eq_true hx, bT, e1]
       have w1 : IntKind.i64.wrap (8 - (m : Int)) = ((8 - m : Nat) : Int) := by rw [wrap_id (by omega) (by omega)]; omega
       have w2 : IntKind.i64.wrap (2 * ((8 - m : Nat) : Int)) = ((2 * (8 - m) : Nat) : Int) := by rw [wrap_id (by omega) (by omega)]; omega
       have w3 : IntKind.i64.wrap (((dn.length : Nat) : Int) + ((2 * (8 - m) : Nat) : Int)) = ((dn.length + 2 * (8 - m) : Nat) : Int) := by rw [wrap_id (by omega) (by omega)]; omega
       rw [w1, w2, w3]
       have ih := lo51b n g m hm hl hb j (k + 1) (dn ++ List.replicate (2 * (8 - m)) 0) (by omega) (by omega) (by rw [List.length_append, List.length_replicate]; omega)
       have e2 : cs51 (dn ++ List.replicate (2 * (8 - m)) 0) = cs51 dn := by
         unfold cs51
         have e0 : byCV 0 = CV.int .u8 (Int.ofNat 0) := rfl
         rw [List.map_append, List.map_replicate, e0, List.append_assoc, List.replicate_append_replicate, List.length_append, List.length_replicate]
         congr 3; omega
       rw [e2, List.length_append, List.length_replicate, List.append_assoc] at ih
       exact ih
     · have e1 : gBy m x = [x.toNat / 256, x.toNat % 256] := by unfold gBy; rw [if_neg hx]
       rw [e1, List.length_append] at hd
       simp only [List.length_cons, List.length_nil] at hd
       rw [e1]
       simp only [natM]
       rw [decide_eq_true (show (0 : Int) ≤ ((dn.length : Nat) : Int) by omega), decide_eq_true (show ((dn.length : Nat) : Int) < (16 : Int) by omega), decide_eq_true (show 1 + dn.length * 1 + 1 ≤ 17 by omega), decide_eq_true (show (0 : Int) ≤ ((dn.length + 1 : Nat) : Int) by omega), decide_eq_true (show ((dn.length + 1 : Nat) : Int) < (16 : Int) by omega), decide_eq_true (show 1 + (dn.length + 1) * 1 + 1 ≤ 17 by omega)]
       simp only [bT]
       rw [decide_eq_false hx, bF]
       have w3 : IntKind.i64.wrap (((dn.length : Nat) : Int) + 2) = ((dn.length + 2 : Nat) : Int) := wrp (k := 2) (by omega) (by omega)
       have d1 : x.tdiv 256 = ((x.toNat / 256 : Nat) : Int) := by rw [Int.tdiv_eq_ediv_of_nonneg (by omega)]; omega
       have d2 : x.tmod 256 = ((x.toNat % 256 : Nat) : Int) := by rw [Int.tmod_eq_emod_of_nonneg (by omega)]; omega
       have w4 : IntKind.u8.wrap (IntKind.i64.wrap ((x.toNat / 256 : Nat) : Int)) = ((x.toNat / 256 : Nat) : Int) := by rw [wrap_id (by omega) (by omega), wrap8]; omega
       have w5 : IntKind.u8.wrap ((x.toNat % 256 : Nat) : Int) = ((x.toNat % 256 : Nat) : Int) := by rw [wrap8]; omega
       rw [w3, d1, d2, w4, w5]
       have e3 : ∀ y : Nat, (CV.int IntKind.u8 (y : Int)).cl = [byCV y] := fun _ => rfl
       have ih := lo51b n g m hm hl hb j (k + 1) (dn ++ [x.toNat / 256, x.toNat % 256]) (by omega) (by omega) (by rw [List.length_append]; simp only [List.length_cons, List.length_nil]; omega)
       have e2 : setRange (setRange (cs51 dn) (1 + dn.length * 1) (CV.int IntKind.u8 ((x.toNat / 256 : Nat) : Int)).cl) (1 + (dn.length + 1) * 1) (CV.int IntKind.u8 ((x.toNat % 256 : Nat) : Int)).cl = cs51 (dn ++ [x.toNat / 256, x.toNat % 256]) := by
         rw [e3, e3, Nat.mul_one, Nat.mul_one]
         unfold cs51
         have e4 : 16 - dn.length = (16 - (dn.length + 2)) + 2 := by omega
         have e5 : dn.length = (dn.map byCV).length := by simp
         rw [e4]
         conv => lhs; rw [e5]
         rw [set_two]
         simp
       rw [e2]
       have e6 : (dn ++ [x.toNat / 256, x.toNat % 256]).length = dn.length + 2 := by simp
       rw [e6, List.append_assoc] at ih
       exact ih
   · rw [decide_eq_false (show ¬ (k : Int) < ((g.length : Nat) : Int) by omega), bF, List.drop_of_length_le (by omega)]
     have e1 : refB m [] = [] := rfl
     rw [e1, List.append_nil]
     rfl
theorem sp51a : spine 4 c51 = true := by kernel_rfl
theorem ha51a : headAt (filt an51 0) (tailC 4 c51) = some h51a := by kernel_rfl
theorem sp51b : spine 2 (tailC 4 c51) = true := by kernel_rfl
theorem ha51b : headAt (filt an51 0) (tailC 2 (tailC 4 c51)) = some h51b := by kernel_rfl
theorem fo51b : tailC 2 (tailC 4 c51) = tailC 6 c51 := eq_of_heq (heq_of_eq (by kernel_rfl))
theorem sp51c : spine 3 (tailC 6 c51) = true := by kernel_rfl
theorem ha51c : headAt (filt an51 0) (tailC 3 (tailC 6 c51)) = some h51c := by kernel_rfl
theorem fo51c : tailC 3 (tailC 6 c51) = tailC 9 c51 := eq_of_heq (heq_of_eq (by kernel_rfl))
theorem lp51a : startsR q51 = true := by kernel_rfl
theorem id51a : idsOk q51 = true := by kernel_rfl
theorem nl51a : nLoops q51 = 1 := by kernel_rfl
theorem hh51a : (firstRegion (bodyN 0 q51)).bind (filt an51 0) = some hL51a := by kernel_rfl
theorem lp51b : startsR (tailC 9 c51) = true := by kernel_rfl
theorem id51b : idsOk (tailC 9 c51) = true := by kernel_rfl
theorem nl51b : nLoops (tailC 9 c51) = 1 := by kernel_rfl
theorem hh51b : (firstRegion (bodyN 0 (tailC 9 c51))).bind (filt an51 0) = some hL51b := by kernel_rfl
def bad51 : Res := some (.tup [ipZero, .bool false], [])
def fin51 (g : List Int) : Res := if cntP g > 8 ∨ (negP g = false ∧ cntP g ≠ 8) then bad51 else some (.tup [.agg (cs51 (refB (cntP g) g)), .bool true], [])
theorem w51 (g : List Int) (n : Nat) (hn : 50000 ≤ n) (hl : g.length ≤ 40000) (hb : ∀ x ∈ g, x < 65536) (hsz : cntP g ≤ 8 → (refB (cntP g) g).length ≤ 16) :
   aexecB Tryz.prog (call' B65) (filt an51 0) n (tailC 4 c51) (mkEnv 97 [(2, .bptr 0 0), (5, .rw 1 0)]) [zIp, .row (g.map intCV) 1 0 false] (endOf Tryz.prog 67 []) = fin51 g := by
 rw [seg_b (k := 2) (by decide) sp51b ha51b]
 show aexecB Tryz.prog (call' B65) (filt an51 0) n q51 _ _ _ = _
 rw [loopB' lp51a id51a nl51a hh51a]
 refine (iq51 (g.map intCV) n _ (R51 n n _)).trans ?_
 refine (lo51 n g hl _ n 0 0 false (by omega) (by omega) (by omega)).trans ?_
 rw [List.drop_zero, Nat.zero_add, Bool.false_or, fo51b]
 rw [seg_b (k := 3) (by decide) sp51c ha51c]
 refine (ir51 (g.map intCV) ((cntP g : Nat) : Int) (negP g) n _).trans ?_
 rw [fo51c]
 have key : cntP g ≤ 8 → aexecB Tryz.prog (call' B65) (filt an51 0) n (tailC 9 c51) (mkEnv 97 [(2, .bptr 0 0), (5, .rw 3 0), (7, .c (.int .i64 ((cntP g : Nat) : Int))), (10, .bptr 2 0), (11, .c (.int .i64 (((0 : Nat)) : Int)))]) [zIp, .dead, .box (.c (.agg (cs51 []))) kIp, .row (g.map intCV) 1 0 false] (endOf Tryz.prog 67 []) = some (.tup [.agg (cs51 (refB (cntP g) g)), .bool true], []) := by
   intro h8
   rw [loopB' lp51b id51b nl51b hh51b]
   refine (is51 (g.map intCV) (cs51 []) ((cntP g : Nat) : Int) ((0 : Nat) : Int) n (S51 n n)).trans ?_
   refine (lo51b n g (cntP g) h8 hl hb n 0 [] (by omega) (by omega) (by have := hsz h8; simpa using this)).trans ?_
   rw [List.drop_zero, List.nil_append]
 unfold fin51
 by_cases h8 : cntP g > 8
 · rw [decide_eq_true (show ((cntP g : Nat) : Int) > 8 by omega), bT, if_pos (.inl h8)]; rfl
 · rw [decide_eq_false (show ¬ ((cntP g : Nat) : Int) > 8 by omega), bF]
   cases hg : negP g with
   | true =>
     have e1 : (!true) = false := rfl
     rw [e1, bF, if_neg (by rintro (h | h)
                            · exact h8 h
                            · cases h.1)]
     exact key (by omega)
   | false =>
     have e1 : (!false) = true := rfl
     rw [e1, bT]
     by_cases h9 : cntP g = 8
     · have c : (((cntP g : Nat) : Int) != 8) = false := by rw [h9]; rfl
       rw [c, bF, if_neg (by rintro (h | h)
                             · exact h8 h
                             · exact h.2 h9)]
       exact key (by omega)
     · have c : (((cntP g : Nat) : Int) != 8) = true := by rw [bne_iff_ne]; omega
       rw [c, bT, if_pos (.inr ⟨rfl, h9⟩)]; rfl
end Go.Pv
namespace Go.Pv
set_option maxRecDepth 100000
set_option maxHeartbeats 400000
open Go Go.Proofs
abbrev okG (g : List Int) : Prop := ∀ x ∈ g, 0 ≤ x ∧ x < 65536
theorem gBy_pos (m : Nat) {x : Int} (h : 0 ≤ x) : gBy m x = [x.toNat / 256, x.toNat % 256] := by unfold gBy; rw [if_neg (by omega)]
theorem refB_app (m : Nat) (g h : List Int) : refB m (g ++ h) = refB m g ++ refB m h := by unfold refB; rw [List.flatMap_append]
theorem refB_len (m : Nat) : ∀ g : List Int, okG g → (refB m g).length = 2 * g.length
 | [], _ => rfl
 | x :: g, h => by
   rw [refB_c, gBy_pos m (h x (by simp)).1, List.length_append, refB_len m g fun y hy => h y (by simp [hy])]
   simp only [List.length_cons, List.length_nil]; omega
theorem refB_m (m k : Nat) : ∀ g : List Int, okG g → refB m g = refB k g
 | [], _ => rfl
 | x :: g, h => by
   rw [refB_c, refB_c, gBy_pos m (h x (by simp)).1, gBy_pos k (h x (by simp)).1, refB_m m k g fun y hy => h y (by simp [hy])]
theorem cnt_ok : ∀ g : List Int, okG g → cntP g = g.length ∧ negP g = false
 | [], _ => ⟨rfl, rfl⟩
 | x :: g, h => by
   obtain ⟨h1, h2⟩ := cnt_ok g fun y hy => h y (by simp [hy])
   have hx := (h x (by simp)).1
   constructor
   · show (if x < 0 then cntP g else cntP g + 1) = _
     rw [if_neg (by omega), h1]; rfl
   · show (decide (x < 0) || negP g) = false
     rw [h2, decide_eq_false (by omega)]; rfl
theorem cnt_app : ∀ g h : List Int, cntP (g ++ h) = cntP g + cntP h
 | [], h => by show cntP h = 0 + cntP h; omega
 | x :: g, h => by
   have := cnt_app g h
   show (if x < 0 then cntP (g ++ h) else cntP (g ++ h) + 1) = (if x < 0 then cntP g else cntP g + 1) + cntP h
   split <;> omega
theorem neg_app (g h : List Int) : negP (g ++ h) = (negP g || negP h) := by unfold negP; rw [List.any_append]
theorem four_val {p : List UInt8} (h : (fourP (splitL 46 p)).2 = true) (m : Nat) : refB m [f4r (mkS p) / 65536, f4r (mkS p) % 65536] = (fourP (splitL 46 p)).1 ∧ okG [f4r (mkS p) / 65536, f4r (mkS p) % 65536] := by
 have hb := f4r_b (mkS p)
 have e2 : f4 (mkS p) = (fourP (splitL 46 p)).2 := rfl
 rw [e2] at hb
 obtain ⟨v0, v1⟩ := hb.1 h
 have h0 := f4b_lt (mkS p) 0
 have h1 := f4b_lt (mkS p) 1
 have h2 := f4b_lt (mkS p) 2
 have h3 := f4b_lt (mkS p) 3
 have hv : f4r (mkS p) = ((f4b (mkS p) 0 * 256 + f4b (mkS p) 1) * 256 + f4b (mkS p) 2) * 256 + f4b (mkS p) 3 := by unfold f4r; rw [e2, h, if_pos rfl]
 have e4 : ∀ i, f4b (mkS p) i = (((fourP (splitL 46 p)).1.getD i 0 : Nat) : Int) := fun _ => rfl
 have hl := four4 h
 rw [e4] at h0 h1 h2 h3
 rw [e4, e4, e4, e4] at hv
 constructor
 · rw [refB_c, refB_c, gBy_pos m (by omega), gBy_pos m (by omega)]
   generalize (fourP (splitL 46 p)).1 = r at *
   match r, hl with
   | [a, b, c, d], _ =>
     simp only [List.getD_cons_zero, List.getD_cons_succ] at *
     have x1 : (f4r (mkS p) / 65536).toNat / 256 = a := by omega
     have x2 : (f4r (mkS p) / 65536).toNat % 256 = b := by omega
     have x3 : (f4r (mkS p) % 65536).toNat / 256 = c := by omega
     have x4 : (f4r (mkS p) % 65536).toNat % 256 = d := by omega
     rw [x1, x2, x3, x4]
     rfl
 · intro x hx
   simp only [List.mem_cons, List.not_mem_nil, or_false] at hx
   rcases hx with rfl | rfl <;> omega
theorem num_val {p : List UInt8} (h : numOk 16 p = true) (hl : p.length ≤ 4) : grpOk p = true := by
 unfold grpOk
 rw [h, decide_eq_true (num16 h hl), decide_eq_true hl]; rfl
theorem grp_num {p : List UInt8} (h : grpOk p = true) : numOk 16 p = true ∧ p.length ≤ 4 := by
 unfold grpOk at h
 simp only [Bool.and_eq_true, decide_eq_true_eq] at h
 exact ⟨h.1, h.2.2⟩
theorem ref_tail (all : List (List UInt8)) : ∀ (qs : List (List UInt8)) (i : Nat) (gap : Bool), [] ∉ qs →
   (refG all i gap qs = none ∧ grL true qs = none) ∨ ∃ g, refG all i gap qs = some g ∧ okG g ∧ grL true qs = some (refB 0 g)
 | [], i, gap, h => .inr ⟨[], by unfold refG; rfl, (by intro x hx; cases hx), by unfold grL; rfl⟩
 | p :: ps, i, gap, h => by
   have hp : p ≠ [] := fun e => h (by simp [e])
   have ih := ref_tail all ps (i + 1) gap fun hm => h (by simp [hm])
   rw [refG_n _ _ _ _ hp]
   by_cases h4 : (fourP (splitL 46 p)).2 = true ∧ ps = []
   · rw [if_pos h4]
     obtain ⟨q1, q2⟩ := four_val h4.1 0
     refine .inr ⟨_, rfl, q2, ?_⟩
     rw [q1]
     unfold grL
     rw [h4.1, h4.2]; rfl
   · rw [if_neg h4]
     have e : grL true (p :: ps) = if grpOk p then (match grL true ps with
         | some r => some (numL 16 p / 256 :: numL 16 p % 256 :: r)
         | none => none) else none := by
       conv => lhs; unfold grL
       have hn4 : ¬ (true && (ps.isEmpty && (fourP (splitL 46 p)).2)) = true := by
         intro hc
         simp only [Bool.and_eq_true, Bool.true_and] at hc
         exact h4 ⟨hc.2, List.isEmpty_iff.1 hc.1⟩
       rw [if_neg hn4]
       all_goals (cases grL true ps <;> rfl)
     rw [e]
     by_cases hn : numOk 16 p = true ∧ p.length ≤ 4
     · rw [if_pos hn, if_pos (num_val hn.1 hn.2)]
       rcases ih with ⟨i1, i2⟩ | ⟨g, i1, i2, i3⟩
       · rw [i1, i2]; exact .inl ⟨rfl, rfl⟩
       · rw [i1, i3]
         have hlt := num16 hn.1 hn.2
         refine .inr ⟨_, rfl, ?_, ?_⟩
         · intro x hx
           rcases List.mem_cons.1 hx with rfl | hx
           · omega
           · exact i2 x hx
         · rw [refB_c, gBy_pos 0 (by omega)]
           simp
     · rw [if_neg hn, if_neg (fun hg => hn (grp_num hg))]
       exact .inl ⟨rfl, rfl⟩
theorem ref_head (all : List (List UInt8)) (rest : List (List UInt8)) (hr : rest ≠ []) : ∀ (qs : List (List UInt8)) (i : Nat) (gap : Bool), [] ∉ qs →
   (refG all i gap (qs ++ rest) = none ∧ grL false qs = none) ∨ ∃ g, okG g ∧ grL false qs = some (refB 0 g) ∧ refG all i gap (qs ++ rest) = match refG all (i + qs.length) gap rest with
     | some r => some (g ++ r)
     | none => none
 | [], i, gap, h => .inr ⟨[], (by intro x hx; cases hx), by unfold grL; rfl, by
     show refG all i gap rest = match refG all i gap rest with
       | some r => some r
       | none => none
     cases refG all i gap rest <;> rfl⟩
 | p :: ps, i, gap, h => by
   have hp : p ≠ [] := fun e => h (by simp [e])
   have ih := ref_head all rest hr ps (i + 1) gap fun hm => h (by simp [hm])
   have e0 : (p :: ps) ++ rest = p :: (ps ++ rest) := rfl
   rw [e0, refG_n _ _ _ _ hp, if_neg (fun q => hr (List.append_eq_nil_iff.1 q.2).2)]
   have e : grL false (p :: ps) = if grpOk p then (match grL false ps with
       | some r => some (numL 16 p / 256 :: numL 16 p % 256 :: r)
       | none => none) else none := by
     conv => lhs; unfold grL
     rw [Bool.false_and, if_neg Bool.false_ne_true]
     all_goals (cases grL false ps <;> rfl)
   rw [e]
   by_cases hn : numOk 16 p = true ∧ p.length ≤ 4
   · rw [if_pos hn, if_pos (num_val hn.1 hn.2)]
     have hlt := num16 hn.1 hn.2
     have el : i + (p :: ps).length = i + 1 + ps.length := by simp only [List.length_cons]; omega
     rw [el]
     rcases ih with ⟨i1, i2⟩ | ⟨g, i1, i2, i3⟩
     · rw [i1, i2]; exact .inl ⟨rfl, rfl⟩
     · rw [i3, i2]
       refine .inr ⟨((numL 16 p : Nat) : Int) :: g, ?_, ?_, ?_⟩
       · intro x hx
         rcases List.mem_cons.1 hx with rfl | hx
         · omega
         · exact i1 x hx
       · rw [refB_c, gBy_pos 0 (by omega)]
         simp
       · cases refG all (i + 1 + ps.length) gap rest <;> rfl
   · rw [if_neg hn, if_neg (fun hg => hn (grp_num hg))]
     exact .inl ⟨rfl, rfl⟩
theorem gr_emp (t : Bool) : ∀ qs : List (List UInt8), [] ∈ qs → grL t qs = none
 | [], h => by cases h
 | p :: ps, h => by
   unfold grL
   by_cases hp : p = []
   · subst hp
     have e1 : (fourP (splitL 46 [])).2 = false := rfl
     have e2 : grpOk [] = false := rfl
     rw [e1, e2, Bool.and_false, Bool.and_false, if_neg Bool.false_ne_true, if_neg Bool.false_ne_true]
   · have hm : [] ∈ ps := by
       rcases List.mem_cons.1 h with e | e
       · exact (hp e.symm).elim
       · exact e
     have hne : ps.isEmpty = false := by cases ps with | nil => cases hm | cons a l => rfl
     rw [hne, Bool.false_and, Bool.and_false, if_neg Bool.false_ne_true, gr_emp t ps hm]
     split <;> rfl
theorem ref_emp : ∀ (qs pre : List (List UInt8)) (gap : Bool), pre ≠ [] → [] ∈ qs → (∀ A B, qs = A ++ [] :: B → B ≠ [] → gap = true) → (qs = [[]] → pre.getD (pre.length - 1) [] ≠ []) → refG (pre ++ qs) pre.length gap qs = none
 | [], pre, gap, hpre, h, _, _ => by cases h
 | p :: ps, pre, gap, hpre, h, hmid, hlast => by
   have hpl : 0 < pre.length := by cases pre with | nil => exact (hpre rfl).elim | cons a l => simp
   by_cases hp : p = []
   · subst hp
     rw [refG_e]
     by_cases hps : ps = []
     · rw [if_pos (.inr hps), if_pos]
       subst hps
       refine .inr (.inr ⟨hpl, ?_⟩)
       have := hlast rfl
       have e : (pre ++ [[]]).length - 2 = pre.length - 1 := by simp
       rw [e]
       have e2 : (pre ++ [([] : List UInt8)]).getD (pre.length - 1) [] = pre.getD (pre.length - 1) [] := by
         rw [List.getD_eq_getElem?_getD, List.getD_eq_getElem?_getD, List.getElem?_append_left (by omega)]
       rw [e2]; exact this
     · rw [if_neg (by rintro (q | q)
                      · omega
                      · exact hps q), hmid [] ps rfl hps, if_pos rfl]
   · have hm : [] ∈ ps := by
       rcases List.mem_cons.1 h with e | e
       · exact (hp e.symm).elim
       · exact e
     have hne : ps ≠ [] := fun e => by rw [e] at hm; cases hm
     rw [refG_n _ _ _ _ hp, if_neg (fun q => hne q.2)]
     have ih := ref_emp ps (pre ++ [p]) gap (by simp) hm (fun A B e hB => hmid (p :: A) B (by rw [e]; rfl) hB) (fun _ => by simpa using hp)
     have e1 : pre ++ [p] ++ ps = pre ++ p :: ps := by simp
     have e2 : (pre ++ [p]).length = pre.length + 1 := by simp
     rw [e1, e2] at ih
     rw [ih]
     split <;> rfl
theorem split_one {c : UInt8} : ∀ {l : List UInt8}, splitL c l = [[]] → l = []
 | [], _ => rfl
 | b :: t, h => by
   obtain ⟨q, qs, e⟩ := splitL_ne c t
   unfold splitL at h
   split at h
   · rw [e] at h; simp at h
   · rw [e] at h; simp at h
theorem split_e {c : UInt8} {l : List UInt8} {B : List (List UInt8)} (h : splitL c l = [] :: B) (hB : B ≠ []) : l.head? = some c := by
 cases l with
 | nil => simp [splitL] at h; exact (hB h).elim
 | cons b t =>
   obtain ⟨q, qs, e⟩ := splitL_ne c t
   unfold splitL at h
   split at h
   · rename_i hb; subst hb; rfl
   · rw [e] at h; simp at h
theorem dd1 : ∀ (l : List UInt8), cutDD l = none → ∀ A B, splitL 58 l = A ++ [] :: B → A ≠ [] → B ≠ [] → False
 | [], _, A, B, h, hA, hB => by
   cases A with
   | nil => exact hA rfl
   | cons a A => simp [splitL] at h
 | a :: t, hc, A, B, h, hA, hB => by
   obtain ⟨q, qs, e⟩ := splitL_ne 58 t
   unfold cutDD at hc
   split at hc
   · cases hc
   · rename_i hcond
     have hct : cutDD t = none := by
       cases hct : cutDD t with
       | none => rfl
       | some x => rw [hct] at hc; cases hc
     cases A with
     | nil => exact hA rfl
     | cons x A =>
       unfold splitL at h
       split at h
       · rename_i ha
         simp only [List.cons_append, List.cons.injEq] at h
         by_cases hA' : A = []
         · subst hA'
           have := split_e (B := B) (by simpa using h.2) hB
           exact hcond ⟨ha, this⟩
         · exact dd1 t hct A B h.2 hA' hB
       · rw [e] at h
         simp only [List.cons_append, List.cons.injEq] at h
         exact dd1 t hct (q :: A) B (by rw [e, h.2]; rfl) (by simp) hB
theorem split_y {c a : UInt8} (h : a = c) (t : List UInt8) : splitL c (a :: t) = [] :: splitL c t := by
 conv => lhs; unfold splitL
 rw [if_pos h]
theorem split_n {c a : UInt8} (h : ¬ a = c) (t : List UInt8) {q : List UInt8} {qs : List (List UInt8)} (e : splitL c t = q :: qs) : splitL c (a :: t) = (a :: q) :: qs := by
 conv => lhs; unfold splitL
 rw [if_neg h, e]
theorem dd2 : ∀ (l h t : List UInt8), cutDD l = some (h, t) → l = h ++ 58 :: 58 :: t ∧ splitL 58 l = splitL 58 h ++ [] :: splitL 58 t ∧ cutDD h = none ∧ ∀ A, splitL 58 h = A ++ [[]] → A = []
 | [], h, t, e => by cases e
 | a :: r, h, t, e => by
   unfold cutDD at e
   split at e
   · rename_i hc
     cases e
     obtain ⟨ha, hr⟩ := hc
     subst ha
     cases r with
     | nil => cases hr
     | cons b r =>
       simp at hr; subst hr
       refine ⟨rfl, ?_, rfl, ?_⟩
       · show splitL 58 (58 :: 58 :: r) = [[]] ++ [] :: splitL 58 r
         conv => lhs; unfold splitL
         rw [if_pos rfl]
         conv => lhs; unfold splitL
         rw [if_pos rfl]
         rfl
       · intro A hA
         cases A with
         | nil => rfl
         | cons x A => simp [splitL] at hA
   · rename_i hc
     split at e
     · rename_i h' r' hr
       cases e
       obtain ⟨i1, i2, i3, i4⟩ := dd2 r h' t hr
       obtain ⟨q, qs, eq⟩ := splitL_ne 58 h'
       refine ⟨by rw [i1]; rfl, ?_, ?_, ?_⟩
       · by_cases ha : a = 58
         · rw [split_y ha, split_y ha, i2]; rfl
         · rw [split_n ha _ (show splitL 58 r = q :: (qs ++ [] :: splitL 58 t) by rw [i2, eq]; rfl), split_n ha _ eq]; rfl
       · unfold cutDD
         rw [i3, if_neg]
         rintro ⟨h1, h2⟩
         cases h' with
         | nil => exact hc ⟨h1, by rw [i1]; rfl⟩
         | cons b u => exact hc ⟨h1, by rw [i1]; simpa using h2⟩
       · intro A hA
         exfalso
         unfold splitL at hA
         split at hA
         · rename_i ha
           cases A with
           | nil => rw [eq] at hA; simp at hA
           | cons x A =>
             simp only [List.cons_append, List.cons.injEq] at hA
             have := i4 A hA.2
             subst this
             have hn := split_one hA.2
             subst hn
             exact hc ⟨ha, by rw [i1]; rfl⟩
         · rw [eq] at hA
           cases A with
           | nil => simp at hA
           | cons x A =>
             simp only [List.cons_append, List.cons.injEq] at hA
             have := i4 (q :: A) (by rw [eq, hA.2]; rfl)
             simp at this
     · cases e
end Go.Pv
namespace Go.Pv
set_option maxRecDepth 100000
set_option maxHeartbeats 400000
open Go Go.Proofs
variable {I : World → Prop} {ng : Nat}
def sumL (ps : List (List UInt8)) : Nat := ps.foldr (fun p n => p.length + 1 + n) 0
theorem sum_c (p : List UInt8) (ps : List (List UInt8)) : sumL (p :: ps) = p.length + 1 + sumL ps := rfl
theorem split_sum (c : UInt8) : ∀ l : List UInt8, sumL (splitL c l) = l.length + 1
 | [] => rfl
 | b :: t => by
   obtain ⟨q, qs, e⟩ := splitL_ne c t
   have ih := split_sum c t
   by_cases h : b = c
   · rw [split_y h, sum_c, ih]; simp only [List.length_cons, List.length_nil]; omega
   · rw [split_n h _ e, sum_c]
     rw [e, sum_c] at ih
     simp only [List.length_cons]; omega
theorem fold10 : ∀ (l : List UInt8) (v : Nat), v * 10 ^ l.length ≤ l.foldl (fun n c => n * 10 + hexv c) v
 | [], v => by simp
 | c :: t, v => by
   rw [List.foldl_cons]
   have ih := fold10 t (v * 10 + hexv c)
   have e : v * 10 ^ (c :: t).length = v * 10 * 10 ^ t.length := by rw [List.length_cons, Nat.pow_succ, Nat.mul_comm (10 ^ t.length), Nat.mul_assoc]
   rw [e]
   refine Nat.le_trans (Nat.mul_le_mul_right _ ?_) ih
   omega
theorem hx0 : ∀ n : Nat, n < 256 → hx (n : Int) = 0 → n = 48 := by decide +kernel
theorem oct_len {p : List UInt8} (h : octOk p = true) : p.length ≤ 3 := by
 have hlt := oct_lt h
 refine Classical.byContradiction fun hn => ?_
 unfold octOk at h
 simp only [Bool.and_eq_true, Bool.not_eq_true', Bool.and_eq_false_iff, decide_eq_false_iff_not] at h
 obtain ⟨h1, _, h3⟩ := h
 cases p with
 | nil => simp at hn
 | cons c t =>
   rcases h3 with h3 | h3
   · simp only [List.length_cons] at *; omega
   · have hc : c ≠ 48 := by
       intro e
       rw [e] at h3
       cases h3
     have h0 : 1 ≤ hexv c := by
       refine Classical.byContradiction fun hz => hc ?_
       unfold hexv at hz
       split at hz
       · have := hx0 c.toNat c.toNat_lt (by omega)
         exact UInt8.toNat.inj this
       · omega
     have hf := fold10 t (0 * 10 + hexv c)
     have hp : 10 ^ 3 ≤ 10 ^ t.length := Nat.pow_le_pow_right (by omega) (by simp only [List.length_cons] at hn; omega)
     have h2 : 1 * 10 ^ t.length ≤ (0 * 10 + hexv c) * 10 ^ t.length := Nat.mul_le_mul_right _ (by omega)
     unfold numL at hlt
     rw [List.foldl_cons] at hlt
     omega
theorem goF_oct : ∀ ps : List (List UInt8), (goF ps).2 = true → ∀ p ∈ ps, octOk p = true
 | [], _, p, hp => by cases hp
 | q :: ps, h, p, hp => by
   unfold goF at h
   split at h
   · rename_i ho
     rcases List.mem_cons.1 hp with rfl | hp
     · exact ho
     · exact goF_oct ps h p hp
   · cases h
theorem sum_le (k : Nat) : ∀ ps : List (List UInt8), (∀ p ∈ ps, p.length ≤ k) → sumL ps ≤ (k + 1) * ps.length
 | [], _ => by simp [sumL]
 | p :: ps, h => by
   have := sum_le k ps fun q hq => h q (by simp [hq])
   have h2 := h p (by simp)
   rw [sum_c, List.length_cons, Nat.mul_add]; omega
theorem four_sz {p : List UInt8} (h : (fourP (splitL 46 p)).2 = true) : p.length ≤ 15 := by
 have hs := split_sum 46 p
 unfold fourP at h
 split at h
 · rename_i h4
   have := sum_le 3 (splitL 46 p) fun q hq => oct_len (goF_oct _ h q hq)
   rw [h4] at this
   omega
 · cases h
theorem gr_sz (t : Bool) : ∀ (ps : List (List UInt8)) (r : List Nat), grL t ps = some r → 2 * sumL ps ≤ 5 * r.length + 12
 | [], r, h => by simp [sumL]
 | p :: ps, r, h => by
   unfold grL at h
   split at h
   · rename_i hc
     cases h
     simp only [Bool.and_eq_true] at hc
     have hps : ps = [] := List.isEmpty_iff.1 hc.2.1
     subst hps
     have h1 := four4 hc.2.2
     have h2 := four_sz hc.2.2
     rw [sum_c]
     simp only [sumL, List.foldr_nil]; omega
   · split at h
     · rename_i hg
       split at h
       · rename_i r' hr
         cases h
         have := gr_sz t ps r' hr
         have h2 := (grp_num hg).2
         rw [sum_c]
         simp only [List.length_cons]; omega
       · cases h
     · cases h
theorem grp_sz (t : Bool) (l : List UInt8) (r : List Nat) (h : grpL t l = some r) : 2 * l.length ≤ 5 * r.length + 12 := by
 unfold grpL at h
 split at h
 · rename_i he
   have : l = [] := List.isEmpty_iff.1 he
   subst this; simp
 · have := gr_sz t _ r h
   rw [split_sum] at this; omega
theorem no58 : ∀ l : List UInt8, (l.any fun b => decide (b = 58)) = false → splitL 58 l = [l]
 | [], _ => rfl
 | b :: t, h => by
   rw [List.any_cons, Bool.or_eq_false_iff, decide_eq_false_iff_not] at h
   rw [split_n h.1 t (no58 t h.2)]
theorem six_ok {l : List UInt8} {r : List Nat} (h : sixL l = some r) : l.length ≤ 64 ∧ (l.any fun b => decide (b = 58)) = true := by
 unfold sixL at h
 cases hc : cutDD l with
 | none =>
   rw [hc] at h
   dsimp only at h
   split at h
   · rename_i a ha
     split at h
     · rename_i h16
       have := grp_sz true l a ha
       refine ⟨by omega, ?_⟩
       cases hn : (l.any fun b => decide (b = 58)) with
       | true => rfl
       | false =>
         exfalso
         have hs := no58 l hn
         unfold grpL at ha
         split at ha
         · cases ha; simp at h16
         · rw [hs] at ha
           have := grL_len true _ _ ha
           simp only [List.length_cons, List.length_nil] at this; omega
     · cases h
   · cases h
 | some x =>
   obtain ⟨hd, tl⟩ := x
   rw [hc] at h
   dsimp only at h
   obtain ⟨e1, _⟩ := dd2 l hd tl hc
   split at h
   · rename_i a b ha hb
     split at h
     · have h1 := grp_sz false hd a ha
       have h2 := grp_sz true tl b hb
       refine ⟨?_, ?_⟩
       · rw [e1, List.length_append]; simp only [List.length_cons]; omega
       · rw [e1, List.any_append]; simp
     · cases h
   · cases h
def refP (all : List (List UInt8)) : Res := match refG all 0 false all with
 | some g => if all.length < 3 then bad51 else fin51 g
 | none => bad51
def six51 (l : List UInt8) : Res := match sixL l with
 | some r => some (.tup [.agg (.bool true :: r.map byCV), .bool true], [])
 | none => bad51
theorem cs_full (r : List Nat) (h : r.length = 16) : cs51 r = .bool true :: r.map byCV := by
 unfold cs51
 rw [h, Nat.sub_self, List.replicate_zero, List.append_nil]
theorem law_none (l : List UInt8) (hc : cutDD l = none) : refP (splitL 58 l) = six51 l := by
 have hs : six51 l = match grpL true l with
     | some a => if a.length = 16 then some (.tup [.agg (.bool true :: a.map byCV), .bool true], []) else bad51
     | none => bad51 := by
   unfold six51 sixL
   rw [hc]
   dsimp only
   cases grpL true l with
   | none => rfl
   | some a =>
     dsimp only
     by_cases h : a.length = 16
     · rw [if_pos h, if_pos h]
     · rw [if_neg h, if_neg h]
 rw [hs]
 by_cases hl : l = []
 · subst hl
   have e : refG [[]] 0 false [[]] = none := by rw [refG_e, if_pos (.inl rfl), if_pos (.inl (by simp))]
   have e0 : splitL 58 ([] : List UInt8) = [[]] := rfl
   unfold refP
   rw [e0, e]; rfl
 · have hle : l.isEmpty = false := by cases l with | nil => exact (hl rfl).elim | cons a t => rfl
   have hg : grpL true l = grL true (splitL 58 l) := by unfold grpL; rw [hle, if_neg Bool.false_ne_true]
   rw [hg]
   by_cases he : [] ∈ splitL 58 l
   · rw [gr_emp true _ he]
     have hn : refG (splitL 58 l) 0 false (splitL 58 l) = none := by
       obtain ⟨p, ps, e⟩ := splitL_ne 58 l
       have hd := dd1 l hc
       rw [e] at he hd ⊢
       by_cases hp : p = []
       · subst hp
         rw [refG_e, if_pos (.inl rfl), if_pos]
         by_cases h3 : ([] :: ps).length < 3
         · exact .inl h3
         · refine .inr (.inl ⟨rfl, fun h => ?_⟩)
           match ps, h, h3 with
           | [], _, h3 => simp at h3
           | q :: C, h, h3 =>
             have hq : q = [] := h
             subst hq
             refine hd [[]] C rfl (by simp) (fun hC => ?_)
             subst hC; simp at h3
       · have hm : [] ∈ ps := by
           rcases List.mem_cons.1 he with e | e
           · exact (hp e.symm).elim
           · exact e
         have hne : ps ≠ [] := fun e => by rw [e] at hm; cases hm
         rw [refG_n _ _ _ _ hp, if_neg (fun q => hne q.2)]
         have ih := ref_emp ps [p] false (by simp) hm (fun A B e hB => (hd (p :: A) B (by rw [e]; rfl) (by simp) hB).elim) (fun _ => hp)
         have e1 : refG (p :: ps) (0 + 1) false ps = none := ih
         rw [e1]
         split <;> rfl
     unfold refP
     rw [hn]
   · rcases ref_tail (splitL 58 l) (splitL 58 l) 0 false he with ⟨i1, i2⟩ | ⟨g, i1, i2, i3⟩
     · unfold refP; rw [i1, i2]
     · unfold refP
       rw [i1, i3]
       dsimp only
       obtain ⟨c1, c2⟩ := cnt_ok g i2
       have hlen := refB_len 0 g i2
       unfold fin51
       rw [c1, c2]
       by_cases h8 : g.length = 8
       · have := grL_len true _ _ i3
         rw [hlen] at this
         rw [if_neg (by omega), if_neg (by rintro (h | h)
                                           · omega
                                           · exact h.2 h8), if_pos (by omega), refB_m _ 0 g i2, cs_full _ (by omega)]
       · rw [if_neg (show ¬ (refB 0 g).length = 16 by omega)]
         by_cases h3 : (splitL 58 l).length < 3
         · rw [if_pos h3]
         · rw [if_neg h3, if_pos (.inr ⟨rfl, h8⟩)]
theorem law_some (l h t : List UInt8) (hc : cutDD l = some (h, t)) : refP (splitL 58 l) = six51 l := by
 obtain ⟨d1, d2, d3, d4⟩ := dd2 l h t hc
 obtain ⟨hp, hps, eH⟩ := splitL_ne 58 h
 obtain ⟨tp, tps, eT⟩ := splitL_ne 58 t
 have hHne : splitL 58 h ≠ [] := by rw [eH]; simp
 have hTne : splitL 58 t ≠ [] := by rw [eT]; simp
 have hHl : 0 < (splitL 58 h).length := by rw [eH]; simp
 have hTl : 0 < (splitL 58 t).length := by rw [eT]; simp
 have hall : (splitL 58 l).length = (splitL 58 h).length + 1 + (splitL 58 t).length := by rw [d2, List.length_append, List.length_cons]; omega
 have hgap : refG (splitL 58 l) (splitL 58 h).length false ([] :: splitL 58 t) = match refG (splitL 58 l) ((splitL 58 h).length + 1) true (splitL 58 t) with
     | some r => some (-1 :: r)
     | none => none := by
   rw [refG_e, if_neg (by rintro (q | q)
                          · omega
                          · exact hTne q), if_neg Bool.false_ne_true]
   all_goals (cases refG (splitL 58 l) ((splitL 58 h).length + 1) true (splitL 58 t) <;> rfl)
 have hT : (grpL true t = none ∧ refG (splitL 58 l) ((splitL 58 h).length + 1) true (splitL 58 t) = none) ∨ ∃ g, okG g ∧ grpL true t = some (refB 0 g) ∧ refG (splitL 58 l) ((splitL 58 h).length + 1) true (splitL 58 t) = some g := by
   by_cases ht : t = []
   · subst ht
     refine .inr ⟨[], (by intro x hx; cases hx), rfl, ?_⟩
     have e1 : splitL 58 ([] : List UInt8) = [[]] := rfl
     rw [e1, refG_e, if_pos (.inr rfl), if_neg]
     · unfold refG; rfl
     · rw [hall, e1]
       rintro (q | q | q)
       · simp only [List.length_cons, List.length_nil] at q; omega
       · omega
       · refine q.2 ?_
         rw [d2, e1]
         have : (splitL 58 h).length + 1 + ([[]] : List (List UInt8)).length - 2 = (splitL 58 h).length := by simp only [List.length_cons, List.length_nil]; omega
         rw [this, List.getD_eq_getElem?_getD, List.getElem?_append_right (Nat.le_refl _), Nat.sub_self]; rfl
   · have hte : t.isEmpty = false := by cases t with | nil => exact (ht rfl).elim | cons a u => rfl
     have hg : grpL true t = grL true (splitL 58 t) := by unfold grpL; rw [hte, if_neg Bool.false_ne_true]
     rw [hg]
     by_cases he : [] ∈ splitL 58 t
     · refine .inl ⟨gr_emp true _ he, ?_⟩
       have ih := ref_emp (splitL 58 t) (splitL 58 h ++ [[]]) true (by simp) he (fun _ _ _ _ => rfl) (fun e => (ht (split_one e)).elim)
       have e1 : splitL 58 h ++ [[]] ++ splitL 58 t = splitL 58 l := by rw [d2]; simp
       have e2 : (splitL 58 h ++ [([] : List UInt8)]).length = (splitL 58 h).length + 1 := by simp
       rw [e1, e2] at ih
       exact ih
     · rcases ref_tail (splitL 58 l) (splitL 58 t) ((splitL 58 h).length + 1) true he with ⟨i1, i2⟩ | ⟨g, i1, i2, i3⟩
       · exact .inl ⟨i2, i1⟩
       · exact .inr ⟨g, i2, i3, i1⟩
 have hH : (grpL false h = none ∧ refG (splitL 58 l) 0 false (splitL 58 l) = none) ∨ ∃ g, okG g ∧ grpL false h = some (refB 0 g) ∧ refG (splitL 58 l) 0 false (splitL 58 l) = match refG (splitL 58 l) (splitL 58 h).length false ([] :: splitL 58 t) with
     | some r => some (g ++ r)
     | none => none := by
   by_cases hh : h = []
   · subst hh
     refine .inr ⟨[], (by intro x hx; cases hx), rfl, ?_⟩
     have e1 : splitL 58 ([] : List UInt8) = [[]] := rfl
     rw [e1] at d2 hall ⊢
     have e2 : splitL 58 l = [] :: [] :: splitL 58 t := d2
     have e3 : refG (splitL 58 l) 0 false (splitL 58 l) = refG (splitL 58 l) 1 false ([] :: splitL 58 t) := by
       have e4 : refG (splitL 58 l) 0 false ([] :: [] :: splitL 58 t) = refG (splitL 58 l) 1 false ([] :: splitL 58 t) := by
         rw [refG_e, if_pos (.inl rfl), if_neg]
         rw [hall]
         rintro (q | q | q)
         · simp only [List.length_cons, List.length_nil] at q; omega
         · refine q.2 ?_
           rw [e2]; rfl
         · omega
       conv => lhs; rw [show refG (splitL 58 l) 0 false (splitL 58 l) = refG (splitL 58 l) 0 false ([] :: [] :: splitL 58 t) from congrArg (refG (splitL 58 l) 0 false) e2]
       exact e4
     rw [e3]
     show _ = match refG (splitL 58 l) 1 false ([] :: splitL 58 t) with
       | some r => some r
       | none => none
     cases refG (splitL 58 l) 1 false ([] :: splitL 58 t) <;> rfl
   · have hhe : h.isEmpty = false := by cases h with | nil => exact (hh rfl).elim | cons a u => rfl
     have hg : grpL false h = grL false (splitL 58 h) := by unfold grpL; rw [hhe, if_neg Bool.false_ne_true]
     rw [hg]
     have e0 : refG (splitL 58 l) 0 false (splitL 58 l) = refG (splitL 58 l) 0 false (splitL 58 h ++ [] :: splitL 58 t) := congrArg (refG (splitL 58 l) 0 false) d2
     by_cases he : [] ∈ splitL 58 h
     · refine .inl ⟨gr_emp false _ he, ?_⟩
       rw [e0]
       rw [eH] at he
       by_cases hpe : hp = []
       · subst hpe
         have e1 : splitL 58 h ++ [] :: splitL 58 t = [] :: (hps ++ [] :: splitL 58 t) := by rw [eH]; rfl
         rw [e1, refG_e, if_pos (.inl rfl), if_pos]
         refine .inr (.inl ⟨rfl, fun hq => ?_⟩)
         rw [d2, e1] at hq
         cases hps with
         | nil => exact hh (split_one eH)
         | cons q C =>
           have hq' : q = [] := hq
           subst hq'
           by_cases hC : C = []
           · subst hC
             have := d4 [[]] (by rw [eH]; rfl)
             simp at this
           · exact dd1 h d3 [[]] C (by rw [eH]; rfl) (by simp) hC
       · exfalso
         have hm : [] ∈ hps := by
           rcases List.mem_cons.1 he with e | e
           · exact (hpe e.symm).elim
           · exact e
         obtain ⟨A, B, e⟩ := List.append_of_mem hm
         by_cases hB : B = []
         · subst hB
           have := d4 (hp :: A) (by rw [eH, e]; rfl)
           simp at this
         · exact dd1 h d3 (hp :: A) B (by rw [eH, e]; rfl) (by simp) hB
     · rw [e0]
       rcases ref_head (splitL 58 l) ([] :: splitL 58 t) (by simp) (splitL 58 h) 0 false he with ⟨i1, i2⟩ | ⟨g, i1, i2, i3⟩
       · exact .inl ⟨i2, i1⟩
       · refine .inr ⟨g, i1, i2, ?_⟩
         rw [Nat.zero_add] at i3
         rw [i3]
         all_goals (cases refG (splitL 58 l) (splitL 58 h).length false ([] :: splitL 58 t) <;> rfl)
 have hs : six51 l = match grpL false h, grpL true t with
     | some a, some b => if a.length + b.length ≤ 16 then some (.tup [.agg (.bool true :: (a ++ List.replicate (16 - a.length - b.length) 0 ++ b).map byCV), .bool true], []) else bad51
     | _, _ => bad51 := by
   unfold six51 sixL
   rw [hc]
   dsimp only
   cases grpL false h with
   | none => rfl
   | some a =>
     cases grpL true t with
     | none => rfl
     | some b =>
       dsimp only
       by_cases h : a.length + b.length ≤ 16
       · rw [if_pos h, if_pos h]
       · rw [if_neg h, if_neg h]
 rw [hs]
 unfold refP
 rcases hH with ⟨q1, q2⟩ | ⟨gh, q1, q2, q3⟩
 · rw [q1, q2]
 · rw [q3, hgap]
   rcases hT with ⟨p1, p2⟩ | ⟨gt, p1, p2, p3⟩
   · rw [p1, p2, q2]
   · rw [p3, p2, q2]
     dsimp only
     rw [if_neg (by omega)]
     obtain ⟨c1, c2⟩ := cnt_ok gh q1
     obtain ⟨c3, c4⟩ := cnt_ok gt p1
     have hcnt : cntP (gh ++ -1 :: gt) = gh.length + gt.length := by
       rw [cnt_app, c1]
       show gh.length + (if (-1 : Int) < 0 then cntP gt else cntP gt + 1) = _
       rw [if_pos (by decide), c3]
     have hneg : negP (gh ++ -1 :: gt) = true := by
       rw [neg_app]
       show (negP gh || (decide ((-1 : Int) < 0) || negP gt)) = true
       rw [decide_eq_true (by decide), Bool.true_or, Bool.or_true]
     have l1 := refB_len 0 gh q1
     have l2 := refB_len 0 gt p1
     unfold fin51
     rw [hcnt, hneg]
     by_cases h8 : gh.length + gt.length > 8
     · rw [if_pos (.inl h8), if_neg (by omega)]
     · rw [if_neg (by rintro (q | q)
                      · exact h8 q
                      · cases q.1), if_pos (by omega)]
       have e1 : refB (gh.length + gt.length) (gh ++ -1 :: gt) = refB 0 gh ++ List.replicate (16 - (refB 0 gh).length - (refB 0 gt).length) 0 ++ refB 0 gt := by
         rw [refB_app, refB_c, refB_m _ 0 gh q1, refB_m _ 0 gt p1]
         have e2 : gBy (gh.length + gt.length) (-1) = List.replicate (2 * (8 - (gh.length + gt.length))) 0 := by unfold gBy; rw [if_pos (by decide)]
         rw [e2, List.append_assoc]
         congr 3; omega
       rw [e1, cs_full _ (by simp only [List.length_append, List.length_replicate]; omega)]
theorem law51 (l : List UInt8) : refP (splitL 58 l) = six51 l := by
 cases hc : cutDD l with
 | none => exact law_none l hc
 | some x => exact law_some l x.1 x.2 hc
end Go.Pv
namespace Go.Pv
set_option maxRecDepth 100000
set_option maxHeartbeats 400000
open Go Go.Proofs
variable {I : World → Prop} {ng : Nat}
theorem refB_len2 (m : Nat) : ∀ g : List Int, (refB m g).length + 2 * (8 - m) * cntP g = 2 * cntP g + 2 * (8 - m) * g.length
 | [] => rfl
 | x :: g => by
   have ih := refB_len2 m g
   rw [refB_c, List.length_append]
   have e : cntP (x :: g) = if x < 0 then cntP g else cntP g + 1 := rfl
   have m1 : 2 * (8 - m) * (g.length + 1) = 2 * (8 - m) * g.length + 2 * (8 - m) := Nat.mul_succ _ _
   have m2 : 2 * (8 - m) * (cntP g + 1) = 2 * (8 - m) * cntP g + 2 * (8 - m) := Nat.mul_succ _ _
   by_cases hx : x < 0
   · have e2 : gBy m x = List.replicate (2 * (8 - m)) 0 := by unfold gBy; rw [if_pos hx]
     rw [if_pos hx] at e
     rw [e, e2, List.length_cons, List.length_replicate, m1]; omega
   · rw [if_neg hx] at e
     rw [e, gBy_pos m (by omega)]
     simp only [List.length_cons, List.length_nil]
     rw [m1, m2]; omega
theorem refG_b (all : List (List UInt8)) (hsz : ∀ p ∈ all, p.length ≤ 10000) : ∀ (qs : List (List UInt8)) (i : Nat) (gap : Bool) (g : List Int), (∀ p ∈ qs, p ∈ all) → refG all i gap qs = some g →
   (∀ x ∈ g, x < 65536) ∧ g.length ≤ 2 * qs.length ∧ g.length ≤ cntP g + (if gap = true then 0 else 1)
 | [], i, gap, g, hm, h => by
   have e : refG all i gap [] = some [] := by unfold refG; rfl
   rw [e] at h; cases h
   refine ⟨(by intro x hx; cases hx), by simp, by simp⟩
 | p :: ps, i, gap, g, hm, h => by
   have hm' : ∀ q ∈ ps, q ∈ all := fun q hq => hm q (by simp [hq])
   by_cases hp : p = []
   · subst hp
     rw [refG_e] at h
     split at h
     · split at h
       · cases h
       · obtain ⟨h1, h2, h3⟩ := refG_b all hsz ps (i + 1) gap g hm' h
         exact ⟨h1, by simp only [List.length_cons]; omega, h3⟩
     · split at h
       · cases h
       · rename_i hg
         have hg' : gap = false := by simpa using hg
         subst hg'
         cases hr : refG all (i + 1) true ps with
         | none => rw [hr] at h; cases h
         | some r =>
           rw [hr] at h; cases h
           obtain ⟨h1, h2, h3⟩ := refG_b all hsz ps (i + 1) true r hm' hr
           refine ⟨?_, by simp only [List.length_cons]; omega, ?_⟩
           · intro x hx
             rcases List.mem_cons.1 hx with rfl | hx
             · decide
             · exact h1 x hx
           · have e : cntP (-1 :: r) = cntP r := by
               show (if (-1 : Int) < 0 then cntP r else cntP r + 1) = _
               rw [if_pos (by decide)]
             rw [e]
             simp only [List.length_cons, Bool.false_eq_true, if_false, if_true] at *; omega
   · rw [refG_n _ _ _ _ hp] at h
     split at h
     · rename_i h4
       cases h
       obtain ⟨q1, q2⟩ := four_val h4.1 0
       obtain ⟨c1, c2⟩ := cnt_ok _ q2
       refine ⟨fun x hx => (q2 x hx).2, by simp only [List.length_cons, List.length_nil]; omega, by rw [c1]; omega⟩
     · split at h
       · rename_i hn
         cases hr : refG all (i + 1) gap ps with
         | none => rw [hr] at h; cases h
         | some r =>
           rw [hr] at h; cases h
           obtain ⟨h1, h2, h3⟩ := refG_b all hsz ps (i + 1) gap r hm' hr
           have hlt := num16 hn.1 hn.2
           refine ⟨?_, by simp only [List.length_cons]; omega, ?_⟩
           · intro x hx
             rcases List.mem_cons.1 hx with rfl | hx
             · omega
             · exact h1 x hx
           · have e : cntP (((numL 16 p : Nat) : Int) :: r) = cntP r + 1 := by
               show (if ((numL 16 p : Nat) : Int) < 0 then cntP r else cntP r + 1) = _
               rw [if_neg (by omega)]
             rw [e]
             simp only [List.length_cons]; omega
       · cases h
theorem h51 (hg : OnGlobals I ng) (h70 : Cw I ng 132 L70) (h28 : Cw I ng 73 L28d) : Cw I ng 67 L51 := contract_of an51 hg (hok_of (g65 hg h70 h28)) fun cargs rv outs h => by
 unfold L51 at h
 split at h <;> first | (cases h; done) | skip
 rename_i s
 by_cases hs : s.size ≤ 3000
 · obtain ⟨l, rfl⟩ : ∃ l, s = mkS l := ⟨_, (mkS_bl s).symm⟩
   rw [sizeM] at hs
   refine ⟨50000, ?_⟩
   rw [abody_eq rfl (by kernel_rfl)]
   show aexec Tryz.prog (call' B65) (filt an51 0) 50000 c51 (envOf Tryz.prog 67 [.c (.str (mkS l))]) [] (endOf Tryz.prog 67 []) = _
   rw [seg_a (k := 4) (by decide) sp51a ha51a, ip51, sizeM, decide_eq_true (show l.length ≤ 10000 by omega)]
   simp only [Bool.true_and, Bool.and_self, bT]
   simp only [picked, pickAlt, sizeM, decide_eq_true hs, Bool.true_and] at h
   have hb := f4r_b (mkS l)
   unfold ip6 ip4 at h
   rw [sizeM] at h
   cases hf : f4 (mkS l) with
   | true =>
     obtain ⟨v0, v1⟩ := hb.1 hf
     have h15 := four_sz (p := l) hf
     rw [hf, decide_eq_true (show l.length ≤ 64 by omega)] at h
     cases h
     rw [decide_eq_true (show f4r (mkS l) ≥ 0 from v0), bT, wrapU v0 (by omega), decide_eq_true v0, decide_eq_true (show f4r (mkS l) < 18446744073709551616 by omega)]
     simp only [Bool.and_self, bT]
     have b0 := f4b_lt (mkS l) 0
     have b1 := f4b_lt (mkS l) 1
     have b2 := f4b_lt (mkS l) 2
     have b3 := f4b_lt (mkS l) 3
     have hv : f4r (mkS l) = ((f4b (mkS l) 0 * 256 + f4b (mkS l) 1) * 256 + f4b (mkS l) 2) * 256 + f4b (mkS l) 3 := by unfold f4r; rw [hf, if_pos rfl]
     have x0 : f4r (mkS l) / 16777216 % 256 = f4b (mkS l) 0 := by omega
     have x1 : f4r (mkS l) / 65536 % 256 = f4b (mkS l) 1 := by omega
     have x2 : f4r (mkS l) / 256 % 256 = f4b (mkS l) 2 := by omega
     have x3 : f4r (mkS l) % 256 = f4b (mkS l) 3 := by omega
     rw [x0, x1, x2, x3]
     unfold ipAgg ipB
     simp only [hf, if_true]
     rfl
   | false =>
     have hv := hb.2 hf
     rw [hv, decide_eq_false (by decide), bF]
     have e1 : (spS (mkS l) (Nat.toUInt8 58)).length = (splitL 58 l).length := by rw [sp_len]; rfl
     have e2 : gROk (mkS l) = (refG (splitL 58 l) 0 false (splitL 58 l)).isSome := rfl
     have e3 : rB (mkS l) = ((refG (splitL 58 l) 0 false (splitL 58 l)).getD []).map intCV := rfl
     rw [e1, e2, e3]
     have hl := split_len 58 l
     have hsz : ∀ p ∈ splitL 58 l, p.length ≤ 10000 := fun p hp => by
       have := split_sz 58 _ p hp; omega
     have hfin : six51 l = some (rv, outs) := by
       rw [hf] at h
       simp only [Bool.not_false, Bool.true_and, Bool.and_false] at h
       have e4 : s6 (mkS l) = (sixL l).isSome := rfl
       have e5 : hasB (mkS l) 58 = l.any fun b => decide (b = 58) := rfl
       rw [e4, e5] at h
       unfold six51
       cases h6 : sixL l with
       | none =>
         rw [h6] at h
         simp only [Option.isSome_none, Bool.false_and, Bool.and_false] at h
         cases h; rfl
       | some r =>
         obtain ⟨k1, k2⟩ := six_ok h6
         rw [h6, k2, decide_eq_true k1] at h
         simp only [Option.isSome_some, Bool.and_self] at h
         cases h
         have := list16 r (six_len h6)
         dsimp only
         rw [← this]
         unfold ipAgg ipB
         simp only [hf, Bool.false_eq_true, if_false]
         unfold s6b
         rw [mkS_data, h6]
         rfl
     rw [← law51] at hfin
     refine Eq.trans ?_ hfin
     unfold refP
     cases hr : refG (splitL 58 l) 0 false (splitL 58 l) with
     | none =>
       simp only [Option.isSome_none, bF]
       rfl
     | some g =>
       simp only [Option.isSome_some, bT, Option.getD_some]
       obtain ⟨k1, k2, k3⟩ := refG_b (splitL 58 l) hsz (splitL 58 l) 0 false g (fun _ h => h) hr
       by_cases h3 : (splitL 58 l).length < 3
       · rw [decide_eq_true (show (((splitL 58 l).length : Nat) : Int) < 3 by omega), bT, if_pos h3]; rfl
       · rw [decide_eq_false (show ¬ (((splitL 58 l).length : Nat) : Int) < 3 by omega), bF, if_neg h3]
         refine w51 g 50000 (by omega) (by omega) k1 (fun h8 => ?_)
         have := refB_len2 (cntP g) g
         simp only [Bool.false_eq_true, if_false] at k3
         have hc := cntP_le g
         rcases (show g.length = cntP g ∨ g.length = cntP g + 1 by omega) with e | e
         · rw [e] at this; omega
         · rw [e, Nat.mul_add] at this; omega
 · simp only [picked, pickAlt, decide_eq_false hs, Bool.false_and] at h; cases h
end Go.Pv
namespace Go.Pv
set_option maxRecDepth 100000
open Go Go.Proofs
def brS (s : ByteArray) : Bool := s.data.toList.any fun b => decide (b = 91) || decide (b = 93)
def cutB (s : ByteArray) (c : UInt8) : ByteArray := mkS (s.data.toList.takeWhile fun b => !decide (b = c))
def cutA (s : ByteArray) (c : UInt8) : ByteArray := mkS ((s.data.toList.dropWhile fun b => !decide (b = c)).drop 1)
def cutF (s : ByteArray) (c : UInt8) : Bool := s.data.toList.any fun b => decide (b = c)
def auHU (s : ByteArray) : Bool := decide (0 ≤ lastI s 64)
def auUsr (s : ByteArray) : ByteArray := if auHU s then s.extract 0 (lastI s 64).toNat else ⟨#[]⟩
def auRest (s : ByteArray) : ByteArray := if auHU s then s.extract ((lastI s 64).toNat + 1) s.size else s
def auHP (s : ByteArray) : Bool := decide (0 ≤ lastI (auRest s) 58) && decide (lastI (auRest s) 93 < lastI (auRest s) 58)
def auPort (s : ByteArray) : ByteArray := if auHP s then (auRest s).extract ((lastI (auRest s) 58).toNat + 1) (auRest s).size else ⟨#[]⟩
def auHost (s : ByteArray) : ByteArray := if auHP s then (auRest s).extract 0 (lastI (auRest s) 58).toNat else auRest s
def hostS (s : ByteArray) : Bool := if decide (2 ≤ s.size) && (preS s ⟨#[91]⟩ && sufS s ⟨#[93]⟩) then ip6 (s.extract 1 (s.size - 1)) else !(s.data.toList.any fun b => inS ⟨#[58, 91, 93, 64]⟩ b.toNat)
def auOk (s : ByteArray) : Bool := hostS (auHost s) && (digS (auPort s) && !brS (auUsr s))
def L30 : Fn1 := fun x => match x with
 | [.str s] => some [(decide (s.size ≤ 10000), .bool (brS s), [])]
 | _ => none
def L60 : Fn1 := fun x => match x with
 | [.str s, .str ⟨⟨[c]⟩⟩] => some [(decide (s.size ≤ 10000), .int .i64 (Lib.indexByte s.data.toList c), [])]
 | _ => none
def L28 : Fn1 := fun x => match x with
 | [.str s, .str ⟨⟨[c]⟩⟩] => some [(decide (s.size ≤ 10000), .tup [.str (cutB s c), .str (cutA s c), .bool (cutF s c)], [])]
 | _ => none
def kU : Nat := 12 + 4294967296 * (26 + 1)
def L27 : Fn1 := fun x => match x with
 | [.boxv k (.agg [.str a, .str ⟨⟨[]⟩⟩, .bool false, .str ⟨⟨[]⟩⟩, .str ⟨⟨[]⟩⟩, .bool false, .bool true, .str ⟨⟨[]⟩⟩, .str ⟨⟨[]⟩⟩, .bool false, .str ⟨⟨[]⟩⟩, .bool false]), .str s] =>
   if Nat.beq k kU then some [(decide (s.size ≤ 2500), .bool (auOk s), [.agg [.str a, .str (auUsr s), .bool (auHU s), .str (auHost s), .str (auPort s), .bool (auHP s), .bool true, .str ⟨#[]⟩, .str ⟨#[]⟩, .bool false, .str ⟨#[]⟩, .bool false]])] else none
 | _ => none
def A30 : Table := fun g => if Nat.beq g 74 then L30 else A25 g
def A60 : Table := fun g => if Nat.beq g 118 then L60 else A30 g
def A48 : Table := fun g => if Nat.beq g 99 then L28 else A60 g
def A28 : Table := fun g => if Nat.beq g 73 then L28 else A48 g
def A47 : Table := fun g => if Nat.beq g 98 then L47 else A28 g
def A27 : Table := fun g => if Nat.beq g 72 then L27 else A47 g
def A51 : Table := fun g => if Nat.beq g 67 then L51 else A27 g
theorem ur30 (s : ByteArray) : abody Tryz.prog (call' A25) (fun _ => none) 1 74 [.str s] =
 bif' (decide (s.size ≤ 10000) && decide ((ByteArray.mk #[91, 93]).size ≤ 10000)) (some (CV.bool !(s.extract (findI s 0 (ByteArray.mk #[91, 93])) s.size).toList == (ByteArray.mk #[]).toList, [])) none := by kernel_rfl
theorem ur60 (s : ByteArray) (c : UInt8) : abody Tryz.prog (call' A30) (fun _ => none) 1 118 [.str s, .str ⟨⟨[c]⟩⟩] =
 bif' ((ByteArray.mk (Array.mk [c])).toList == s.toList) (some (CV.int .i64 (.ofNat 0), [])) (some (CV.int .i64 (Lib.indexByte s.data.toList (byteAt (ByteArray.mk (Array.mk [c])) (Int.toNat 0)).toNat.toUInt8), [])) := by kernel_rfl
theorem ur48 (s : ByteArray) (c : UInt8) : abody Tryz.prog (call' A60) (fun _ => none) 1 99 [.str s, .str ⟨⟨[c]⟩⟩] =
 bif' (decide (s.size ≤ 10000)) (bif' (decide (Lib.indexByte s.data.toList c ≥ 0)) (bif' (decide (0 ≤ Lib.indexByte s.data.toList c)) (bif' (decide (Lib.indexByte s.data.toList c ≤ (↑s.size : Int))) (bif' (decide (0 ≤ IntKind.i64.wrap (Lib.indexByte s.data.toList c + (↑(ByteArray.mk (Array.mk [c])).size : Int)))) (bif' (decide (IntKind.i64.wrap (Lib.indexByte s.data.toList c + (↑(ByteArray.mk (Array.mk [c])).size : Int)) ≤ (↑s.size : Int))) (bif' (decide ((↑s.size : Int) ≤ (↑s.size : Int))) (some (CV.tup [CV.str (s.extract (Int.toNat 0) (Lib.indexByte s.data.toList c).toNat), CV.str (s.extract (IntKind.i64.wrap (Lib.indexByte s.data.toList c + (↑(ByteArray.mk (Array.mk [c])).size : Int))).toNat (↑s.size : Int).toNat), CV.bool true], [])) none) none) none) none) none) (some (CV.tup [CV.str s, CV.str ⟨⟨[]⟩⟩, CV.bool false], []))) none := by kernel_rfl
theorem ur28 (s : ByteArray) (c : UInt8) : abody Tryz.prog (call' A48) (fun _ => none) 1 73 [.str s, .str ⟨⟨[c]⟩⟩] =
 bif' (decide (s.size ≤ 10000)) (some (CV.tup [CV.str (cutB s c), CV.str (cutA s c), CV.bool (cutF s c)], [])) none := by kernel_rfl
end Go.Pv
