/- URLs: the document's Parse in pieces: trees. -/
import Derived.Test.YtpclikkakhcomaaGreatDoorQe
import Derived.Test.YtpclikkakhcomaaGreatDoorQd

namespace Go.Pv
set_option linter.unusedVariables false
set_option maxRecDepth 100000
open Go Go.Proofs

def L41 : Fn1 := fun x => match x with
  | [.str s] => some [(decide (s.size ≤ 2500), .bool (hostS s), [])]
  | _ => none
def A41 : Table := fun g => if Nat.beq g 46 then L41 else A51 g
noncomputable def c22 : Code := codeOf Tryz.prog 23
noncomputable def d22a : Code := tailC 5 c22
noncomputable def p22a : Code := prefC 1 d22a
noncomputable def r22a : Code := lastArm p22a
noncomputable def q22a : Code := prefC 1 (tailC 1 r22a)
noncomputable def d22b : Code := tailC 1 d22a
noncomputable def p22b : Code := prefC 1 d22b
noncomputable def r22b : Code := lastArm p22b
noncomputable def q22b : Code := prefC 1 (tailC 4 r22b)
noncomputable def q22c : Code := prefC 1 (tailC 1 (tailC 4 r22b))
noncomputable def e22c : Code := tailC 1 d22b
def h22a : Head := ⟨[0, 2, 4, 5, 6], [], 2⟩
def h22b : Head := ⟨[0, 2, 4, 6], [], 2⟩
def hl10 : Head := ⟨[0, 2, 4, 6, 7], [], 2⟩
def h22c : Head := ⟨[0, 2, 4, 5], [], 2⟩
def h22d : Head := ⟨[0, 2, 4, 5, 9], [], 2⟩
def hl22 : Head := ⟨[0, 2, 4, 5, 9, 10], [], 2⟩
def hl29 : Head := ⟨[0, 2, 4, 5, 9, 11], [], 2⟩
def h22e : Head := ⟨[0, 2, 4, 12], [], 2⟩
def h22f : Head := ⟨[2, 4], [], 2⟩
def an22 : Ann := fun i => if Nat.beq i 500006 then some h22a else if Nat.beq i 500007 then some h22b else if Nat.beq i 500009 then some h22b else if Nat.beq i 10 then some hl10 else if Nat.beq i 500014 then some h22b
  else if Nat.beq i 500016 then some h22c else if Nat.beq i 500017 then some h22c else if Nat.beq i 500021 then some h22d else if Nat.beq i 22 then some hl22 else if Nat.beq i 500028 then some h22d else if Nat.beq i 29 then some hl29
  else if Nat.beq i 500035 then some h22d else if Nat.beq i 500036 then some h22c else if Nat.beq i 500038 then some h22e else if Nat.beq i 500043 then some h22e else if Nat.beq i 500046 then some h22f else none
theorem ut41 (s : ByteArray) : abody Tryz.prog (call' A51) (fun _ => none) 1 46 [.str s] =
 bif' (decide ((↑s.size : Int) ≥ 2)) (bif' (decide (0 < (↑s.size : Int))) (bif' (byteAt s (Int.toNat 0) == 91) (bif' (decide (0 ≤ IntKind.i64.wrap ((↑s.size : Int) - 1))) (bif' (decide (IntKind.i64.wrap ((↑s.size : Int) - 1) < (↑s.size : Int))) (bif' (byteAt s (IntKind.i64.wrap ((↑s.size : Int) - 1)).toNat == 93) (bif' (decide (1 ≤ IntKind.i64.wrap ((↑s.size : Int) - 1))) (bif' (decide (IntKind.i64.wrap ((↑s.size : Int) - 1) ≤ (↑s.size : Int))) (bif' (decide ((s.extract (Int.toNat 1) (IntKind.i64.wrap ((↑s.size : Int) - 1)).toNat).size ≤ 3000) && ip6 (s.extract (Int.toNat 1) (IntKind.i64.wrap ((↑s.size : Int) - 1)).toNat)) (some (CV.bool true, [])) (bif' (decide ((s.extract (Int.toNat 1) (IntKind.i64.wrap ((↑s.size : Int) - 1)).toNat).size ≤ 3000) && ip4 (s.extract (Int.toNat 1) (IntKind.i64.wrap ((↑s.size : Int) - 1)).toNat)) (some (CV.bool false, [])) (bif' (decide ((s.extract (Int.toNat 1) (IntKind.i64.wrap ((↑s.size : Int) - 1)).toNat).size ≤ 3000)) (some (CV.bool false, [])) none))) none) none) (bif' (decide (0 ≤ 0) && (decide (0 ≤ (↑s.size : Int)) && (decide (s.size ≤ 10000) && decide ((ByteArray.mk #[58, 91, 93, 64]).size ≤ 10000)))) (some (CV.bool ((↑(findI s (Int.toNat 0) (ByteArray.mk #[58, 91, 93, 64])) : Int) == (↑s.size : Int)), [])) none)) none) none) (bif' (decide (0 ≤ 0) && (decide (0 ≤ (↑s.size : Int)) && (decide (s.size ≤ 10000) && decide ((ByteArray.mk #[58, 91, 93, 64]).size ≤ 10000)))) (some (CV.bool ((↑(findI s (Int.toNat 0) (ByteArray.mk #[58, 91, 93, 64])) : Int) == (↑s.size : Int)), [])) none)) none) (bif' (decide (0 ≤ 0) && (decide (0 ≤ (↑s.size : Int)) && (decide (s.size ≤ 10000) && decide ((ByteArray.mk #[58, 91, 93, 64]).size ≤ 10000)))) (some (CV.bool ((↑(findI s (Int.toNat 0) (ByteArray.mk #[58, 91, 93, 64])) : Int) == (↑s.size : Int)), [])) none) := by kernel_rfl
theorem up22 (s : ByteArray) (n : Nat) (L : Env → Hp → Res) : aexec Tryz.prog (call' A41) (filt an22 0) n (prefC 5 c22) (envOf Tryz.prog 23 [.c (.str s)]) [] (thenK (headK h22a L) (endOf Tryz.prog 23 [])) =
 bif' (decide (s.size ≤ 10000)) (bif' (!stS s) (some (CV.tup [CV.agg [CV.str ⟨⟨[]⟩⟩, CV.str ⟨⟨[]⟩⟩, CV.bool false, CV.str ⟨⟨[]⟩⟩, CV.str ⟨⟨[]⟩⟩, CV.bool false, CV.bool false, CV.str ⟨⟨[]⟩⟩, CV.str ⟨⟨[]⟩⟩, CV.bool false, CV.str ⟨⟨[]⟩⟩, CV.bool false], CV.bool false], [])) (bif' (decide (0 ≤ 0) && (decide (0 ≤ (↑s.size : Int)) && (decide (s.size ≤ 10000) && decide ((ByteArray.mk #[58, 47, 63, 35]).size ≤ 10000)))) (L (mkEnv 226 [(0, PV.c (CV.str s)), (2, PV.bptr 0 0), (4, PV.bptr 1 0), (5, PV.c (CV.int IntKind.i64 (Int.ofNat 0))), (6, PV.c (CV.int IntKind.i64 (↑(findI s (Int.toNat 0) (ByteArray.mk #[58, 47, 63, 35])) : Int)))]) [AO.box (PV.c (CV.agg [CV.str ⟨⟨[]⟩⟩, CV.str ⟨⟨[]⟩⟩, CV.bool false, CV.str ⟨⟨[]⟩⟩, CV.str ⟨⟨[]⟩⟩, CV.bool false, CV.bool false, CV.str ⟨⟨[]⟩⟩, CV.str ⟨⟨[]⟩⟩, CV.bool false, CV.str ⟨⟨[]⟩⟩, CV.bool false])) kU, AO.box (PV.c (CV.agg [CV.str ⟨⟨[]⟩⟩, CV.str ⟨⟨[]⟩⟩, CV.bool false, CV.str ⟨⟨[]⟩⟩, CV.str ⟨⟨[]⟩⟩, CV.bool false, CV.bool false, CV.str ⟨⟨[]⟩⟩, CV.str ⟨⟨[]⟩⟩, CV.bool false, CV.str ⟨⟨[]⟩⟩, CV.bool false])) kU]) none)) none := by kernel_rfl
theorem uq22 (s : ByteArray) (i : Int) (n : Nat) (L M : Env → Hp → Res) : aexecB Tryz.prog (call' A41) (filt an22 0) n (holeC p22a) (mkEnv 226 [(0, .c (.str s)), (2, .bptr 0 0), (4, .bptr 1 0), (5, .c (.int .i64 0)), (6, .c (.int .i64 i))]) [z0, .box (.c (zU ⟨⟨[]⟩⟩ false)) kU] (armK (headK h22b L) (thenK (headK h22c M) (endOf Tryz.prog 23 []))) =
 bif' (decide (i < (↑s.size : Int))) (bif' (decide (0 ≤ i)) (bif' (decide (i < (↑s.size : Int))) (bif' (byteAt s i.toNat == 58) (L (mkEnv 226 [(0, PV.c (CV.str s)), (2, PV.bptr 0 0), (4, PV.bptr 1 0), (6, PV.c (CV.int IntKind.i64 i))]) [AO.box (PV.c (CV.agg [CV.str ⟨⟨[]⟩⟩, CV.str ⟨⟨[]⟩⟩, CV.bool false, CV.str ⟨⟨[]⟩⟩, CV.str ⟨⟨[]⟩⟩, CV.bool false, CV.bool false, CV.str ⟨⟨[]⟩⟩, CV.str ⟨⟨[]⟩⟩, CV.bool false, CV.str ⟨⟨[]⟩⟩, CV.bool false])) kU, AO.box (PV.c (CV.agg [CV.str ⟨⟨[]⟩⟩, CV.str ⟨⟨[]⟩⟩, CV.bool false, CV.str ⟨⟨[]⟩⟩, CV.str ⟨⟨[]⟩⟩, CV.bool false, CV.bool false, CV.str ⟨⟨[]⟩⟩, CV.str ⟨⟨[]⟩⟩, CV.bool false, CV.str ⟨⟨[]⟩⟩, CV.bool false])) kU]) (M (mkEnv 226 [(0, PV.c (CV.str s)), (2, PV.bptr 0 0), (4, PV.bptr 1 0), (5, PV.c (CV.int IntKind.i64 (Int.ofNat 0)))]) [AO.box (PV.c (CV.agg [CV.str ⟨⟨[]⟩⟩, CV.str ⟨⟨[]⟩⟩, CV.bool false, CV.str ⟨⟨[]⟩⟩, CV.str ⟨⟨[]⟩⟩, CV.bool false, CV.bool false, CV.str ⟨⟨[]⟩⟩, CV.str ⟨⟨[]⟩⟩, CV.bool false, CV.str ⟨⟨[]⟩⟩, CV.bool false])) kU, AO.box (PV.c (CV.agg [CV.str ⟨⟨[]⟩⟩, CV.str ⟨⟨[]⟩⟩, CV.bool false, CV.str ⟨⟨[]⟩⟩, CV.str ⟨⟨[]⟩⟩, CV.bool false, CV.bool false, CV.str ⟨⟨[]⟩⟩, CV.str ⟨⟨[]⟩⟩, CV.bool false, CV.str ⟨⟨[]⟩⟩, CV.bool false])) kU])) none) none) (M (mkEnv 226 [(0, PV.c (CV.str s)), (2, PV.bptr 0 0), (4, PV.bptr 1 0), (5, PV.c (CV.int IntKind.i64 (Int.ofNat 0)))]) [AO.box (PV.c (CV.agg [CV.str ⟨⟨[]⟩⟩, CV.str ⟨⟨[]⟩⟩, CV.bool false, CV.str ⟨⟨[]⟩⟩, CV.str ⟨⟨[]⟩⟩, CV.bool false, CV.bool false, CV.str ⟨⟨[]⟩⟩, CV.str ⟨⟨[]⟩⟩, CV.bool false, CV.str ⟨⟨[]⟩⟩, CV.bool false])) kU, AO.box (PV.c (CV.agg [CV.str ⟨⟨[]⟩⟩, CV.str ⟨⟨[]⟩⟩, CV.bool false, CV.str ⟨⟨[]⟩⟩, CV.str ⟨⟨[]⟩⟩, CV.bool false, CV.bool false, CV.str ⟨⟨[]⟩⟩, CV.str ⟨⟨[]⟩⟩, CV.bool false, CV.str ⟨⟨[]⟩⟩, CV.bool false])) kU]) := by kernel_rfl
theorem ur22 (s : ByteArray) (i : Int) (n : Nat) (L M : Env → Hp → Res) : aexecB Tryz.prog (call' A41) (filt an22 0) n (prefC 1 r22a) (mkEnv 226 [(0, .c (.str s)), (2, .bptr 0 0), (4, .bptr 1 0), (6, .c (.int .i64 i))]) [z0, .box (.c (zU ⟨⟨[]⟩⟩ false)) kU] (thenK (headK h22b L) (thenK (headK h22c M) (endOf Tryz.prog 23 []))) =
 bif' (i == 0) (some (CV.tup [CV.agg [CV.str ⟨⟨[]⟩⟩, CV.str ⟨⟨[]⟩⟩, CV.bool false, CV.str ⟨⟨[]⟩⟩, CV.str ⟨⟨[]⟩⟩, CV.bool false, CV.bool false, CV.str ⟨⟨[]⟩⟩, CV.str ⟨⟨[]⟩⟩, CV.bool false, CV.str ⟨⟨[]⟩⟩, CV.bool false], CV.bool false], [])) (bif' (decide (0 < (↑s.size : Int))) (bif' (!decide (97 ≤ byteAt s (Int.toNat 0) ∧ byteAt s (Int.toNat 0) ≤ 122 ∨ 65 ≤ byteAt s (Int.toNat 0) ∧ byteAt s (Int.toNat 0) ≤ 90)) (some (CV.tup [CV.agg [CV.str ⟨⟨[]⟩⟩, CV.str ⟨⟨[]⟩⟩, CV.bool false, CV.str ⟨⟨[]⟩⟩, CV.str ⟨⟨[]⟩⟩, CV.bool false, CV.bool false, CV.str ⟨⟨[]⟩⟩, CV.str ⟨⟨[]⟩⟩, CV.bool false, CV.str ⟨⟨[]⟩⟩, CV.bool false], CV.bool false], [])) (L (mkEnv 226 [(0, PV.c (CV.str s)), (2, PV.bptr 0 0), (4, PV.bptr 1 0), (6, PV.c (CV.int IntKind.i64 i))]) [AO.box (PV.c (CV.agg [CV.str ⟨⟨[]⟩⟩, CV.str ⟨⟨[]⟩⟩, CV.bool false, CV.str ⟨⟨[]⟩⟩, CV.str ⟨⟨[]⟩⟩, CV.bool false, CV.bool false, CV.str ⟨⟨[]⟩⟩, CV.str ⟨⟨[]⟩⟩, CV.bool false, CV.str ⟨⟨[]⟩⟩, CV.bool false])) kU, AO.box (PV.c (CV.agg [CV.str ⟨⟨[]⟩⟩, CV.str ⟨⟨[]⟩⟩, CV.bool false, CV.str ⟨⟨[]⟩⟩, CV.str ⟨⟨[]⟩⟩, CV.bool false, CV.bool false, CV.str ⟨⟨[]⟩⟩, CV.str ⟨⟨[]⟩⟩, CV.bool false, CV.str ⟨⟨[]⟩⟩, CV.bool false])) kU])) none) := by kernel_rfl
theorem us22 (s : ByteArray) (i : Int) (n : Nat) (L M R : Env → Hp → Res) : partsB Tryz.prog (call' A41) (filt an22 0) n q22a (mkEnv 226 [(0, .c (.str s)), (2, .bptr 0 0), (4, .bptr 1 0), (6, .c (.int .i64 i))]) [z0, .box (.c (zU ⟨⟨[]⟩⟩ false)) kU] (fun _ => headK hl10 R) (thenK (headK h22b L) (thenK (headK h22c M) (endOf Tryz.prog 23 []))) =
 R (mkEnv 226 [(0, PV.c (CV.str s)), (2, PV.bptr 0 0), (4, PV.bptr 1 0), (6, PV.c (CV.int IntKind.i64 i)), (7, PV.c (CV.int IntKind.i64 (Int.ofNat 0)))]) [AO.box (PV.c (CV.agg [CV.str ⟨⟨[]⟩⟩, CV.str ⟨⟨[]⟩⟩, CV.bool false, CV.str ⟨⟨[]⟩⟩, CV.str ⟨⟨[]⟩⟩, CV.bool false, CV.bool false, CV.str ⟨⟨[]⟩⟩, CV.str ⟨⟨[]⟩⟩, CV.bool false, CV.str ⟨⟨[]⟩⟩, CV.bool false])) kU, AO.box (PV.c (CV.agg [CV.str ⟨⟨[]⟩⟩, CV.str ⟨⟨[]⟩⟩, CV.bool false, CV.str ⟨⟨[]⟩⟩, CV.str ⟨⟨[]⟩⟩, CV.bool false, CV.bool false, CV.str ⟨⟨[]⟩⟩, CV.str ⟨⟨[]⟩⟩, CV.bool false, CV.str ⟨⟨[]⟩⟩, CV.bool false])) kU] := by kernel_rfl
theorem uc22 (s : ByteArray) (i k : Int) (n : Nat) (L M R : Env → Hp → Res) : aexec Tryz.prog (call' A41) (filt an22 0) n (bodyN 0 q22a) (mkEnv 226 [(0, .c (.str s)), (2, .bptr 0 0), (4, .bptr 1 0), (6, .c (.int .i64 i)), (7, .c (.int .i64 k))]) [z0, .box (.c (zU ⟨⟨[]⟩⟩ false)) kU] (thenK (headK hl10 R) (restN Tryz.prog (call' A41) (filt an22 0) n 0 q22a (thenK (headK h22b L) (thenK (headK h22c M) (endOf Tryz.prog 23 []))))) =
 bif' (decide (k < i)) (bif' (decide (0 ≤ k)) (bif' (decide (k < (↑s.size : Int))) (bif' (!decide (97 ≤ byteAt s k.toNat ∧ byteAt s k.toNat ≤ 122 ∨ 65 ≤ byteAt s k.toNat ∧ byteAt s k.toNat ≤ 90)) (bif' (decide (0 ≤ k)) (bif' (decide (k < (↑s.size : Int))) (bif' (!decide (48 ≤ byteAt s k.toNat ∧ byteAt s k.toNat ≤ 57)) (bif' (decide (0 ≤ k)) (bif' (decide (k < (↑s.size : Int))) (bif' (!inS (ByteArray.mk #[43, 45, 46]) (byteAt s k.toNat)) (some (CV.tup [CV.agg [CV.str ⟨⟨[]⟩⟩, CV.str ⟨⟨[]⟩⟩, CV.bool false, CV.str ⟨⟨[]⟩⟩, CV.str ⟨⟨[]⟩⟩, CV.bool false, CV.bool false, CV.str ⟨⟨[]⟩⟩, CV.str ⟨⟨[]⟩⟩, CV.bool false, CV.str ⟨⟨[]⟩⟩, CV.bool false], CV.bool false], [])) (R (mkEnv 226 [(0, PV.c (CV.str s)), (2, PV.bptr 0 0), (4, PV.bptr 1 0), (6, PV.c (CV.int IntKind.i64 i)), (7, PV.c (CV.int IntKind.i64 (IntKind.i64.wrap (k + 1))))]) [AO.box (PV.c (CV.agg [CV.str ⟨⟨[]⟩⟩, CV.str ⟨⟨[]⟩⟩, CV.bool false, CV.str ⟨⟨[]⟩⟩, CV.str ⟨⟨[]⟩⟩, CV.bool false, CV.bool false, CV.str ⟨⟨[]⟩⟩, CV.str ⟨⟨[]⟩⟩, CV.bool false, CV.str ⟨⟨[]⟩⟩, CV.bool false])) kU, AO.box (PV.c (CV.agg [CV.str ⟨⟨[]⟩⟩, CV.str ⟨⟨[]⟩⟩, CV.bool false, CV.str ⟨⟨[]⟩⟩, CV.str ⟨⟨[]⟩⟩, CV.bool false, CV.bool false, CV.str ⟨⟨[]⟩⟩, CV.str ⟨⟨[]⟩⟩, CV.bool false, CV.str ⟨⟨[]⟩⟩, CV.bool false])) kU])) none) none) (R (mkEnv 226 [(0, PV.c (CV.str s)), (2, PV.bptr 0 0), (4, PV.bptr 1 0), (6, PV.c (CV.int IntKind.i64 i)), (7, PV.c (CV.int IntKind.i64 (IntKind.i64.wrap (k + 1))))]) [AO.box (PV.c (CV.agg [CV.str ⟨⟨[]⟩⟩, CV.str ⟨⟨[]⟩⟩, CV.bool false, CV.str ⟨⟨[]⟩⟩, CV.str ⟨⟨[]⟩⟩, CV.bool false, CV.bool false, CV.str ⟨⟨[]⟩⟩, CV.str ⟨⟨[]⟩⟩, CV.bool false, CV.str ⟨⟨[]⟩⟩, CV.bool false])) kU, AO.box (PV.c (CV.agg [CV.str ⟨⟨[]⟩⟩, CV.str ⟨⟨[]⟩⟩, CV.bool false, CV.str ⟨⟨[]⟩⟩, CV.str ⟨⟨[]⟩⟩, CV.bool false, CV.bool false, CV.str ⟨⟨[]⟩⟩, CV.str ⟨⟨[]⟩⟩, CV.bool false, CV.str ⟨⟨[]⟩⟩, CV.bool false])) kU])) none) none) (R (mkEnv 226 [(0, PV.c (CV.str s)), (2, PV.bptr 0 0), (4, PV.bptr 1 0), (6, PV.c (CV.int IntKind.i64 i)), (7, PV.c (CV.int IntKind.i64 (IntKind.i64.wrap (k + 1))))]) [AO.box (PV.c (CV.agg [CV.str ⟨⟨[]⟩⟩, CV.str ⟨⟨[]⟩⟩, CV.bool false, CV.str ⟨⟨[]⟩⟩, CV.str ⟨⟨[]⟩⟩, CV.bool false, CV.bool false, CV.str ⟨⟨[]⟩⟩, CV.str ⟨⟨[]⟩⟩, CV.bool false, CV.str ⟨⟨[]⟩⟩, CV.bool false])) kU, AO.box (PV.c (CV.agg [CV.str ⟨⟨[]⟩⟩, CV.str ⟨⟨[]⟩⟩, CV.bool false, CV.str ⟨⟨[]⟩⟩, CV.str ⟨⟨[]⟩⟩, CV.bool false, CV.bool false, CV.str ⟨⟨[]⟩⟩, CV.str ⟨⟨[]⟩⟩, CV.bool false, CV.str ⟨⟨[]⟩⟩, CV.bool false])) kU])) none) none) (L (mkEnv 226 [(0, PV.c (CV.str s)), (2, PV.bptr 0 0), (4, PV.bptr 1 0), (6, PV.c (CV.int IntKind.i64 i))]) [AO.box (PV.c (CV.agg [CV.str ⟨⟨[]⟩⟩, CV.str ⟨⟨[]⟩⟩, CV.bool false, CV.str ⟨⟨[]⟩⟩, CV.str ⟨⟨[]⟩⟩, CV.bool false, CV.bool false, CV.str ⟨⟨[]⟩⟩, CV.str ⟨⟨[]⟩⟩, CV.bool false, CV.str ⟨⟨[]⟩⟩, CV.bool false])) kU, AO.box (PV.c (CV.agg [CV.str ⟨⟨[]⟩⟩, CV.str ⟨⟨[]⟩⟩, CV.bool false, CV.str ⟨⟨[]⟩⟩, CV.str ⟨⟨[]⟩⟩, CV.bool false, CV.bool false, CV.str ⟨⟨[]⟩⟩, CV.str ⟨⟨[]⟩⟩, CV.bool false, CV.str ⟨⟨[]⟩⟩, CV.bool false])) kU]) := by kernel_rfl
theorem ut22 (s : ByteArray) (i : Int) (n : Nat) (M : Env → Hp → Res) : aexecB Tryz.prog (call' A41) (filt an22 0) n (tailC 2 r22a) (mkEnv 226 [(0, .c (.str s)), (2, .bptr 0 0), (4, .bptr 1 0), (6, .c (.int .i64 i))]) [z0, .box (.c (zU ⟨⟨[]⟩⟩ false)) kU] (thenK (headK h22c M) (endOf Tryz.prog 23 [])) =
 bif' (decide (0 ≤ i)) (bif' (decide (i ≤ (↑s.size : Int))) (M (mkEnv 226 [(0, PV.c (CV.str s)), (2, PV.bptr 0 0), (4, PV.bptr 1 0), (5, PV.c (CV.int IntKind.i64 (IntKind.i64.wrap (i + 1))))]) [AO.box (PV.c (CV.agg [CV.str ⟨⟨[]⟩⟩, CV.str ⟨⟨[]⟩⟩, CV.bool false, CV.str ⟨⟨[]⟩⟩, CV.str ⟨⟨[]⟩⟩, CV.bool false, CV.bool false, CV.str ⟨⟨[]⟩⟩, CV.str ⟨⟨[]⟩⟩, CV.bool false, CV.str ⟨⟨[]⟩⟩, CV.bool false])) kU, AO.box (PV.c (CV.agg [CV.str (s.extract (Int.toNat 0) i.toNat), CV.str ⟨⟨[]⟩⟩, CV.bool false, CV.str ⟨⟨[]⟩⟩, CV.str ⟨⟨[]⟩⟩, CV.bool false, CV.bool false, CV.str ⟨⟨[]⟩⟩, CV.str ⟨⟨[]⟩⟩, CV.bool false, CV.str ⟨⟨[]⟩⟩, CV.bool false])) kU]) none) none := by kernel_rfl
theorem uu22 (s a : ByteArray) (p : Int) (n : Nat) (L M : Env → Hp → Res) : aexecB Tryz.prog (call' A41) (filt an22 0) n (holeC p22b) (mkEnv 226 [(0, .c (.str s)), (2, .bptr 0 0), (4, .bptr 1 0), (5, .c (.int .i64 p))]) [z0, .box (.c (zU a false)) kU] (armK (headK h22c L) (thenK (headK h22c M) (endOf Tryz.prog 23 []))) =
 bif' (decide (IntKind.i64.wrap (p + 2) ≤ (↑s.size : Int))) (bif' (decide (0 ≤ p)) (bif' (decide (p ≤ IntKind.i64.wrap (p + 2))) (bif' (decide (IntKind.i64.wrap (p + 2) ≤ (↑s.size : Int))) (bif' ((s.extract p.toNat (IntKind.i64.wrap (p + 2)).toNat).toList == (ByteArray.mk #[47, 47]).toList) (L (mkEnv 226 [(0, PV.c (CV.str s)), (2, PV.bptr 0 0), (4, PV.bptr 1 0), (5, PV.c (CV.int IntKind.i64 p))]) [AO.box (PV.c (CV.agg [CV.str ⟨⟨[]⟩⟩, CV.str ⟨⟨[]⟩⟩, CV.bool false, CV.str ⟨⟨[]⟩⟩, CV.str ⟨⟨[]⟩⟩, CV.bool false, CV.bool false, CV.str ⟨⟨[]⟩⟩, CV.str ⟨⟨[]⟩⟩, CV.bool false, CV.str ⟨⟨[]⟩⟩, CV.bool false])) kU, AO.box (PV.c (CV.agg [CV.str a, CV.str ⟨⟨[]⟩⟩, CV.bool false, CV.str ⟨⟨[]⟩⟩, CV.str ⟨⟨[]⟩⟩, CV.bool false, CV.bool false, CV.str ⟨⟨[]⟩⟩, CV.str ⟨⟨[]⟩⟩, CV.bool false, CV.str ⟨⟨[]⟩⟩, CV.bool false])) kU]) (M (mkEnv 226 [(0, PV.c (CV.str s)), (2, PV.bptr 0 0), (4, PV.bptr 1 0), (5, PV.c (CV.int IntKind.i64 p))]) [AO.box (PV.c (CV.agg [CV.str ⟨⟨[]⟩⟩, CV.str ⟨⟨[]⟩⟩, CV.bool false, CV.str ⟨⟨[]⟩⟩, CV.str ⟨⟨[]⟩⟩, CV.bool false, CV.bool false, CV.str ⟨⟨[]⟩⟩, CV.str ⟨⟨[]⟩⟩, CV.bool false, CV.str ⟨⟨[]⟩⟩, CV.bool false])) kU, AO.box (PV.c (CV.agg [CV.str a, CV.str ⟨⟨[]⟩⟩, CV.bool false, CV.str ⟨⟨[]⟩⟩, CV.str ⟨⟨[]⟩⟩, CV.bool false, CV.bool false, CV.str ⟨⟨[]⟩⟩, CV.str ⟨⟨[]⟩⟩, CV.bool false, CV.str ⟨⟨[]⟩⟩, CV.bool false])) kU])) none) none) none) (M (mkEnv 226 [(0, PV.c (CV.str s)), (2, PV.bptr 0 0), (4, PV.bptr 1 0), (5, PV.c (CV.int IntKind.i64 p))]) [AO.box (PV.c (CV.agg [CV.str ⟨⟨[]⟩⟩, CV.str ⟨⟨[]⟩⟩, CV.bool false, CV.str ⟨⟨[]⟩⟩, CV.str ⟨⟨[]⟩⟩, CV.bool false, CV.bool false, CV.str ⟨⟨[]⟩⟩, CV.str ⟨⟨[]⟩⟩, CV.bool false, CV.str ⟨⟨[]⟩⟩, CV.bool false])) kU, AO.box (PV.c (CV.agg [CV.str a, CV.str ⟨⟨[]⟩⟩, CV.bool false, CV.str ⟨⟨[]⟩⟩, CV.str ⟨⟨[]⟩⟩, CV.bool false, CV.bool false, CV.str ⟨⟨[]⟩⟩, CV.str ⟨⟨[]⟩⟩, CV.bool false, CV.str ⟨⟨[]⟩⟩, CV.bool false])) kU]) := by kernel_rfl
theorem uv22 (s a : ByteArray) (p : Int) (n : Nat) (L M : Env → Hp → Res) : aexecB Tryz.prog (call' A41) (filt an22 0) n (prefC 4 r22b) (mkEnv 226 [(0, .c (.str s)), (2, .bptr 0 0), (4, .bptr 1 0), (5, .c (.int .i64 p))]) [z0, .box (.c (zU a false)) kU] (thenK (headK h22d L) (thenK (headK h22c M) (endOf Tryz.prog 23 []))) =
 bif' (decide (0 ≤ IntKind.i64.wrap (p + 2)) && (decide (IntKind.i64.wrap (p + 2) ≤ (↑s.size : Int)) && (decide (s.size ≤ 10000) && decide ((ByteArray.mk #[47, 63, 35]).size ≤ 10000)))) (bif' (decide (0 ≤ IntKind.i64.wrap (p + 2))) (bif' (decide (IntKind.i64.wrap (p + 2) ≤ (↑(findI s (IntKind.i64.wrap (p + 2)).toNat (ByteArray.mk #[47, 63, 35])) : Int))) (bif' (decide ((↑(findI s (IntKind.i64.wrap (p + 2)).toNat (ByteArray.mk #[47, 63, 35])) : Int) ≤ (↑s.size : Int))) (L (mkEnv 226 [(0, PV.c (CV.str s)), (2, PV.bptr 0 0), (4, PV.bptr 1 0), (5, PV.c (CV.int IntKind.i64 (↑(findI s (IntKind.i64.wrap (p + 2)).toNat (ByteArray.mk #[47, 63, 35])) : Int))), (9, PV.c (CV.str (s.extract (IntKind.i64.wrap (p + 2)).toNat (↑(findI s (IntKind.i64.wrap (p + 2)).toNat (ByteArray.mk #[47, 63, 35])) : Int).toNat)))]) [AO.box (PV.c (CV.agg [CV.str ⟨⟨[]⟩⟩, CV.str ⟨⟨[]⟩⟩, CV.bool false, CV.str ⟨⟨[]⟩⟩, CV.str ⟨⟨[]⟩⟩, CV.bool false, CV.bool false, CV.str ⟨⟨[]⟩⟩, CV.str ⟨⟨[]⟩⟩, CV.bool false, CV.str ⟨⟨[]⟩⟩, CV.bool false])) kU, AO.box (PV.c (CV.agg [CV.str a, CV.str ⟨⟨[]⟩⟩, CV.bool false, CV.str ⟨⟨[]⟩⟩, CV.str ⟨⟨[]⟩⟩, CV.bool false, CV.bool true, CV.str ⟨⟨[]⟩⟩, CV.str ⟨⟨[]⟩⟩, CV.bool false, CV.str ⟨⟨[]⟩⟩, CV.bool false])) kU]) none) none) none) none := by kernel_rfl
theorem uw22 (s a t : ByteArray) (p : Int) (n : Nat) (L M R : Env → Hp → Res) : partsB Tryz.prog (call' A41) (filt an22 0) n q22b (mkEnv 226 [(0, .c (.str s)), (2, .bptr 0 0), (4, .bptr 1 0), (5, .c (.int .i64 p)), (9, .c (.str t))]) [z0, .box (.c (zU a true)) kU] (fun _ => headK hl22 R) (thenK (headK h22d L) (thenK (headK h22c M) (endOf Tryz.prog 23 []))) =
 R (mkEnv 226 [(0, PV.c (CV.str s)), (2, PV.bptr 0 0), (4, PV.bptr 1 0), (5, PV.c (CV.int IntKind.i64 p)), (9, PV.c (CV.str t)), (10, PV.c (CV.int IntKind.i64 (IntKind.i64.wrap ((↑t.size : Int) - 1))))]) [AO.box (PV.c (CV.agg [CV.str ⟨⟨[]⟩⟩, CV.str ⟨⟨[]⟩⟩, CV.bool false, CV.str ⟨⟨[]⟩⟩, CV.str ⟨⟨[]⟩⟩, CV.bool false, CV.bool false, CV.str ⟨⟨[]⟩⟩, CV.str ⟨⟨[]⟩⟩, CV.bool false, CV.str ⟨⟨[]⟩⟩, CV.bool false])) kU, AO.box (PV.c (CV.agg [CV.str a, CV.str ⟨⟨[]⟩⟩, CV.bool false, CV.str ⟨⟨[]⟩⟩, CV.str ⟨⟨[]⟩⟩, CV.bool false, CV.bool true, CV.str ⟨⟨[]⟩⟩, CV.str ⟨⟨[]⟩⟩, CV.bool false, CV.str ⟨⟨[]⟩⟩, CV.bool false])) kU] := by kernel_rfl
theorem ud22 (s a t : ByteArray) (p k : Int) (n : Nat) (L M R : Env → Hp → Res) : aexec Tryz.prog (call' A41) (filt an22 0) n (bodyN 0 q22b) (mkEnv 226 [(0, .c (.str s)), (2, .bptr 0 0), (4, .bptr 1 0), (5, .c (.int .i64 p)), (9, .c (.str t)), (10, .c (.int .i64 k))]) [z0, .box (.c (zU a true)) kU] (thenK (headK hl22 R) (restN Tryz.prog (call' A41) (filt an22 0) n 0 q22b (thenK (headK h22d L) (thenK (headK h22c M) (endOf Tryz.prog 23 []))))) =
 bif' (decide (k ≥ 0)) (bif' (decide (0 ≤ k)) (bif' (decide (k < (↑t.size : Int))) (bif' (byteAt t k.toNat == 64) (bif' (decide (0 ≤ k)) (bif' (decide (k ≤ (↑t.size : Int))) (bif' (decide (0 ≤ IntKind.i64.wrap (k + 1))) (bif' (decide (IntKind.i64.wrap (k + 1) ≤ (↑t.size : Int))) (bif' (decide ((↑t.size : Int) ≤ (↑t.size : Int))) (L (mkEnv 226 [(0, PV.c (CV.str s)), (2, PV.bptr 0 0), (4, PV.bptr 1 0), (5, PV.c (CV.int IntKind.i64 p)), (9, PV.c (CV.str (t.extract (IntKind.i64.wrap (k + 1)).toNat (↑t.size : Int).toNat)))]) [AO.box (PV.c (CV.agg [CV.str ⟨⟨[]⟩⟩, CV.str ⟨⟨[]⟩⟩, CV.bool false, CV.str ⟨⟨[]⟩⟩, CV.str ⟨⟨[]⟩⟩, CV.bool false, CV.bool false, CV.str ⟨⟨[]⟩⟩, CV.str ⟨⟨[]⟩⟩, CV.bool false, CV.str ⟨⟨[]⟩⟩, CV.bool false])) kU, AO.box (PV.c (CV.agg [CV.str a, CV.str (t.extract (Int.toNat 0) k.toNat), CV.bool true, CV.str ⟨⟨[]⟩⟩, CV.str ⟨⟨[]⟩⟩, CV.bool false, CV.bool true, CV.str ⟨⟨[]⟩⟩, CV.str ⟨⟨[]⟩⟩, CV.bool false, CV.str ⟨⟨[]⟩⟩, CV.bool false])) kU]) none) none) none) none) none) (R (mkEnv 226 [(0, PV.c (CV.str s)), (2, PV.bptr 0 0), (4, PV.bptr 1 0), (5, PV.c (CV.int IntKind.i64 p)), (9, PV.c (CV.str t)), (10, PV.c (CV.int IntKind.i64 (IntKind.i64.wrap (k - 1))))]) [AO.box (PV.c (CV.agg [CV.str ⟨⟨[]⟩⟩, CV.str ⟨⟨[]⟩⟩, CV.bool false, CV.str ⟨⟨[]⟩⟩, CV.str ⟨⟨[]⟩⟩, CV.bool false, CV.bool false, CV.str ⟨⟨[]⟩⟩, CV.str ⟨⟨[]⟩⟩, CV.bool false, CV.str ⟨⟨[]⟩⟩, CV.bool false])) kU, AO.box (PV.c (CV.agg [CV.str a, CV.str ⟨⟨[]⟩⟩, CV.bool false, CV.str ⟨⟨[]⟩⟩, CV.str ⟨⟨[]⟩⟩, CV.bool false, CV.bool true, CV.str ⟨⟨[]⟩⟩, CV.str ⟨⟨[]⟩⟩, CV.bool false, CV.str ⟨⟨[]⟩⟩, CV.bool false])) kU])) none) none) (L (mkEnv 226 [(0, PV.c (CV.str s)), (2, PV.bptr 0 0), (4, PV.bptr 1 0), (5, PV.c (CV.int IntKind.i64 p)), (9, PV.c (CV.str t))]) [AO.box (PV.c (CV.agg [CV.str ⟨⟨[]⟩⟩, CV.str ⟨⟨[]⟩⟩, CV.bool false, CV.str ⟨⟨[]⟩⟩, CV.str ⟨⟨[]⟩⟩, CV.bool false, CV.bool false, CV.str ⟨⟨[]⟩⟩, CV.str ⟨⟨[]⟩⟩, CV.bool false, CV.str ⟨⟨[]⟩⟩, CV.bool false])) kU, AO.box (PV.c (CV.agg [CV.str a, CV.str ⟨⟨[]⟩⟩, CV.bool false, CV.str ⟨⟨[]⟩⟩, CV.str ⟨⟨[]⟩⟩, CV.bool false, CV.bool true, CV.str ⟨⟨[]⟩⟩, CV.str ⟨⟨[]⟩⟩, CV.bool false, CV.str ⟨⟨[]⟩⟩, CV.bool false])) kU]) := by kernel_rfl
theorem ux22 (s a us t : ByteArray) (hu : Bool) (p : Int) (n : Nat) (L M R : Env → Hp → Res) : partsB Tryz.prog (call' A41) (filt an22 0) n q22c (mkEnv 226 [(0, .c (.str s)), (2, .bptr 0 0), (4, .bptr 1 0), (5, .c (.int .i64 p)), (9, .c (.str t))]) [z0, .box (.c (uV a us hu ⟨⟨[]⟩⟩ ⟨⟨[]⟩⟩ false true ⟨⟨[]⟩⟩ ⟨⟨[]⟩⟩ false ⟨⟨[]⟩⟩ false)) kU] (fun _ => headK hl29 R) (thenK (headK h22d L) (thenK (headK h22c M) (endOf Tryz.prog 23 []))) =
 R (mkEnv 226 [(0, PV.c (CV.str s)), (2, PV.bptr 0 0), (4, PV.bptr 1 0), (5, PV.c (CV.int IntKind.i64 p)), (9, PV.c (CV.str t)), (11, PV.c (CV.int IntKind.i64 (IntKind.i64.wrap ((↑t.size : Int) - 1))))]) [AO.box (PV.c (CV.agg [CV.str ⟨⟨[]⟩⟩, CV.str ⟨⟨[]⟩⟩, CV.bool false, CV.str ⟨⟨[]⟩⟩, CV.str ⟨⟨[]⟩⟩, CV.bool false, CV.bool false, CV.str ⟨⟨[]⟩⟩, CV.str ⟨⟨[]⟩⟩, CV.bool false, CV.str ⟨⟨[]⟩⟩, CV.bool false])) kU, AO.box (PV.c (CV.agg [CV.str a, CV.str us, CV.bool hu, CV.str ⟨⟨[]⟩⟩, CV.str ⟨⟨[]⟩⟩, CV.bool false, CV.bool true, CV.str ⟨⟨[]⟩⟩, CV.str ⟨⟨[]⟩⟩, CV.bool false, CV.str ⟨⟨[]⟩⟩, CV.bool false])) kU] := by kernel_rfl
theorem ue22 (s a us t : ByteArray) (hu : Bool) (p k : Int) (n : Nat) (L M R : Env → Hp → Res) : aexec Tryz.prog (call' A41) (filt an22 0) n (bodyN 0 q22c) (mkEnv 226 [(0, .c (.str s)), (2, .bptr 0 0), (4, .bptr 1 0), (5, .c (.int .i64 p)), (9, .c (.str t)), (11, .c (.int .i64 k))]) [z0, .box (.c (uV a us hu ⟨⟨[]⟩⟩ ⟨⟨[]⟩⟩ false true ⟨⟨[]⟩⟩ ⟨⟨[]⟩⟩ false ⟨⟨[]⟩⟩ false)) kU] (thenK (headK hl29 R) (restN Tryz.prog (call' A41) (filt an22 0) n 0 q22c (thenK (headK h22d L) (thenK (headK h22c M) (endOf Tryz.prog 23 []))))) =
 bif' (decide (k ≥ 0)) (bif' (decide (0 ≤ k)) (bif' (decide (k < (↑t.size : Int))) (bif' (byteAt t k.toNat != 93) (bif' (decide (0 ≤ k)) (bif' (decide (k < (↑t.size : Int))) (bif' (byteAt t k.toNat == 58) (bif' (decide (0 ≤ IntKind.i64.wrap (k + 1))) (bif' (decide (IntKind.i64.wrap (k + 1) ≤ (↑t.size : Int))) (bif' (decide ((↑t.size : Int) ≤ (↑t.size : Int))) (bif' (decide (0 ≤ k)) (bif' (decide (k ≤ (↑t.size : Int))) (L (mkEnv 226 [(0, PV.c (CV.str s)), (2, PV.bptr 0 0), (4, PV.bptr 1 0), (5, PV.c (CV.int IntKind.i64 p)), (9, PV.c (CV.str (t.extract (Int.toNat 0) k.toNat)))]) [AO.box (PV.c (CV.agg [CV.str ⟨⟨[]⟩⟩, CV.str ⟨⟨[]⟩⟩, CV.bool false, CV.str ⟨⟨[]⟩⟩, CV.str ⟨⟨[]⟩⟩, CV.bool false, CV.bool false, CV.str ⟨⟨[]⟩⟩, CV.str ⟨⟨[]⟩⟩, CV.bool false, CV.str ⟨⟨[]⟩⟩, CV.bool false])) kU, AO.box (PV.c (CV.agg [CV.str a, CV.str us, CV.bool hu, CV.str ⟨⟨[]⟩⟩, CV.str (t.extract (IntKind.i64.wrap (k + 1)).toNat (↑t.size : Int).toNat), CV.bool true, CV.bool true, CV.str ⟨⟨[]⟩⟩, CV.str ⟨⟨[]⟩⟩, CV.bool false, CV.str ⟨⟨[]⟩⟩, CV.bool false])) kU]) none) none) none) none) none) (R (mkEnv 226 [(0, PV.c (CV.str s)), (2, PV.bptr 0 0), (4, PV.bptr 1 0), (5, PV.c (CV.int IntKind.i64 p)), (9, PV.c (CV.str t)), (11, PV.c (CV.int IntKind.i64 (IntKind.i64.wrap (k - 1))))]) [AO.box (PV.c (CV.agg [CV.str ⟨⟨[]⟩⟩, CV.str ⟨⟨[]⟩⟩, CV.bool false, CV.str ⟨⟨[]⟩⟩, CV.str ⟨⟨[]⟩⟩, CV.bool false, CV.bool false, CV.str ⟨⟨[]⟩⟩, CV.str ⟨⟨[]⟩⟩, CV.bool false, CV.str ⟨⟨[]⟩⟩, CV.bool false])) kU, AO.box (PV.c (CV.agg [CV.str a, CV.str us, CV.bool hu, CV.str ⟨⟨[]⟩⟩, CV.str ⟨⟨[]⟩⟩, CV.bool false, CV.bool true, CV.str ⟨⟨[]⟩⟩, CV.str ⟨⟨[]⟩⟩, CV.bool false, CV.str ⟨⟨[]⟩⟩, CV.bool false])) kU])) none) none) (L (mkEnv 226 [(0, PV.c (CV.str s)), (2, PV.bptr 0 0), (4, PV.bptr 1 0), (5, PV.c (CV.int IntKind.i64 p)), (9, PV.c (CV.str t))]) [AO.box (PV.c (CV.agg [CV.str ⟨⟨[]⟩⟩, CV.str ⟨⟨[]⟩⟩, CV.bool false, CV.str ⟨⟨[]⟩⟩, CV.str ⟨⟨[]⟩⟩, CV.bool false, CV.bool false, CV.str ⟨⟨[]⟩⟩, CV.str ⟨⟨[]⟩⟩, CV.bool false, CV.str ⟨⟨[]⟩⟩, CV.bool false])) kU, AO.box (PV.c (CV.agg [CV.str a, CV.str us, CV.bool hu, CV.str ⟨⟨[]⟩⟩, CV.str ⟨⟨[]⟩⟩, CV.bool false, CV.bool true, CV.str ⟨⟨[]⟩⟩, CV.str ⟨⟨[]⟩⟩, CV.bool false, CV.str ⟨⟨[]⟩⟩, CV.bool false])) kU])) none) none) (L (mkEnv 226 [(0, PV.c (CV.str s)), (2, PV.bptr 0 0), (4, PV.bptr 1 0), (5, PV.c (CV.int IntKind.i64 p)), (9, PV.c (CV.str t))]) [AO.box (PV.c (CV.agg [CV.str ⟨⟨[]⟩⟩, CV.str ⟨⟨[]⟩⟩, CV.bool false, CV.str ⟨⟨[]⟩⟩, CV.str ⟨⟨[]⟩⟩, CV.bool false, CV.bool false, CV.str ⟨⟨[]⟩⟩, CV.str ⟨⟨[]⟩⟩, CV.bool false, CV.str ⟨⟨[]⟩⟩, CV.bool false])) kU, AO.box (PV.c (CV.agg [CV.str a, CV.str us, CV.bool hu, CV.str ⟨⟨[]⟩⟩, CV.str ⟨⟨[]⟩⟩, CV.bool false, CV.bool true, CV.str ⟨⟨[]⟩⟩, CV.str ⟨⟨[]⟩⟩, CV.bool false, CV.str ⟨⟨[]⟩⟩, CV.bool false])) kU]) := by kernel_rfl
theorem uy22 (s a us po t : ByteArray) (hu hp : Bool) (p : Int) (n : Nat) (M : Env → Hp → Res) : aexecB Tryz.prog (call' A41) (filt an22 0) n (tailC 6 r22b) (mkEnv 226 [(0, .c (.str s)), (2, .bptr 0 0), (4, .bptr 1 0), (5, .c (.int .i64 p)), (9, .c (.str t))]) [z0, .box (.c (uV a us hu ⟨⟨[]⟩⟩ po hp true ⟨⟨[]⟩⟩ ⟨⟨[]⟩⟩ false ⟨⟨[]⟩⟩ false)) kU] (thenK (headK h22c M) (endOf Tryz.prog 23 [])) =
 M (mkEnv 226 [(0, PV.c (CV.str s)), (2, PV.bptr 0 0), (4, PV.bptr 1 0), (5, PV.c (CV.int IntKind.i64 p))]) [AO.box (PV.c (CV.agg [CV.str ⟨⟨[]⟩⟩, CV.str ⟨⟨[]⟩⟩, CV.bool false, CV.str ⟨⟨[]⟩⟩, CV.str ⟨⟨[]⟩⟩, CV.bool false, CV.bool false, CV.str ⟨⟨[]⟩⟩, CV.str ⟨⟨[]⟩⟩, CV.bool false, CV.str ⟨⟨[]⟩⟩, CV.bool false])) kU, AO.box (PV.c (CV.agg [CV.str a, CV.str us, CV.bool hu, CV.str t, CV.str po, CV.bool hp, CV.bool true, CV.str ⟨⟨[]⟩⟩, CV.str ⟨⟨[]⟩⟩, CV.bool false, CV.str ⟨⟨[]⟩⟩, CV.bool false])) kU] := by kernel_rfl
theorem va22 (s a us ho po : ByteArray) (hu hp t : Bool) (p : Int) (n : Nat) (M : Env → Hp → Res) : aexecB Tryz.prog (call' A41) (filt an22 0) n (prefC 2 e22c) (mkEnv 226 [(0, .c (.str s)), (2, .bptr 0 0), (4, .bptr 1 0), (5, .c (.int .i64 p))]) [z0, .box (.c (uV a us hu ho po hp t ⟨⟨[]⟩⟩ ⟨⟨[]⟩⟩ false ⟨⟨[]⟩⟩ false)) kU] (thenK (headK h22e M) (endOf Tryz.prog 23 [])) =
 bif' (decide (0 ≤ p) && (decide (p ≤ (↑s.size : Int)) && (decide (s.size ≤ 10000) && decide ((ByteArray.mk #[63, 35]).size ≤ 10000)))) (bif' (decide (0 ≤ p)) (bif' (decide (p ≤ (↑(findI s p.toNat (ByteArray.mk #[63, 35])) : Int))) (bif' (decide ((↑(findI s p.toNat (ByteArray.mk #[63, 35])) : Int) ≤ (↑s.size : Int))) (M (mkEnv 226 [(0, PV.c (CV.str s)), (2, PV.bptr 0 0), (4, PV.bptr 1 0), (12, PV.c (CV.int IntKind.i64 (↑(findI s p.toNat (ByteArray.mk #[63, 35])) : Int)))]) [AO.box (PV.c (CV.agg [CV.str ⟨⟨[]⟩⟩, CV.str ⟨⟨[]⟩⟩, CV.bool false, CV.str ⟨⟨[]⟩⟩, CV.str ⟨⟨[]⟩⟩, CV.bool false, CV.bool false, CV.str ⟨⟨[]⟩⟩, CV.str ⟨⟨[]⟩⟩, CV.bool false, CV.str ⟨⟨[]⟩⟩, CV.bool false])) kU, AO.box (PV.c (CV.agg [CV.str a, CV.str us, CV.bool hu, CV.str ho, CV.str po, CV.bool hp, CV.bool t, CV.str (s.extract p.toNat (↑(findI s p.toNat (ByteArray.mk #[63, 35])) : Int).toNat), CV.str ⟨⟨[]⟩⟩, CV.bool false, CV.str ⟨⟨[]⟩⟩, CV.bool false])) kU]) none) none) none) none := by kernel_rfl
theorem vb22 (s a us ho po pa : ByteArray) (hu hp t : Bool) (e : Int) (n : Nat) (M : Env → Hp → Res) : aexecB Tryz.prog (call' A41) (filt an22 0) n (prefC 1 (tailC 2 e22c)) (mkEnv 226 [(0, .c (.str s)), (2, .bptr 0 0), (4, .bptr 1 0), (12, .c (.int .i64 e))]) [z0, .box (.c (uV a us hu ho po hp t pa ⟨⟨[]⟩⟩ false ⟨⟨[]⟩⟩ false)) kU] (thenK (headK h22e M) (endOf Tryz.prog 23 [])) =
 bif' (decide (e < (↑s.size : Int))) (bif' (decide (0 ≤ e)) (bif' (decide (e < (↑s.size : Int))) (bif' (byteAt s e.toNat == 63) (bif' (decide (0 ≤ IntKind.i64.wrap (e + 1)) && (decide (IntKind.i64.wrap (e + 1) ≤ (↑s.size : Int)) && (decide (s.size ≤ 10000) && decide ((ByteArray.mk #[35]).size ≤ 10000)))) (bif' (decide (0 ≤ IntKind.i64.wrap (e + 1))) (bif' (decide (IntKind.i64.wrap (e + 1) ≤ (↑(findI s (IntKind.i64.wrap (e + 1)).toNat (ByteArray.mk #[35])) : Int))) (bif' (decide ((↑(findI s (IntKind.i64.wrap (e + 1)).toNat (ByteArray.mk #[35])) : Int) ≤ (↑s.size : Int))) (M (mkEnv 226 [(0, PV.c (CV.str s)), (2, PV.bptr 0 0), (4, PV.bptr 1 0), (12, PV.c (CV.int IntKind.i64 (↑(findI s (IntKind.i64.wrap (e + 1)).toNat (ByteArray.mk #[35])) : Int)))]) [AO.box (PV.c (CV.agg [CV.str ⟨⟨[]⟩⟩, CV.str ⟨⟨[]⟩⟩, CV.bool false, CV.str ⟨⟨[]⟩⟩, CV.str ⟨⟨[]⟩⟩, CV.bool false, CV.bool false, CV.str ⟨⟨[]⟩⟩, CV.str ⟨⟨[]⟩⟩, CV.bool false, CV.str ⟨⟨[]⟩⟩, CV.bool false])) kU, AO.box (PV.c (CV.agg [CV.str a, CV.str us, CV.bool hu, CV.str ho, CV.str po, CV.bool hp, CV.bool t, CV.str pa, CV.str (s.extract (IntKind.i64.wrap (e + 1)).toNat (↑(findI s (IntKind.i64.wrap (e + 1)).toNat (ByteArray.mk #[35])) : Int).toNat), CV.bool true, CV.str ⟨⟨[]⟩⟩, CV.bool false])) kU]) none) none) none) none) (M (mkEnv 226 [(0, PV.c (CV.str s)), (2, PV.bptr 0 0), (4, PV.bptr 1 0), (12, PV.c (CV.int IntKind.i64 e))]) [AO.box (PV.c (CV.agg [CV.str ⟨⟨[]⟩⟩, CV.str ⟨⟨[]⟩⟩, CV.bool false, CV.str ⟨⟨[]⟩⟩, CV.str ⟨⟨[]⟩⟩, CV.bool false, CV.bool false, CV.str ⟨⟨[]⟩⟩, CV.str ⟨⟨[]⟩⟩, CV.bool false, CV.str ⟨⟨[]⟩⟩, CV.bool false])) kU, AO.box (PV.c (CV.agg [CV.str a, CV.str us, CV.bool hu, CV.str ho, CV.str po, CV.bool hp, CV.bool t, CV.str pa, CV.str ⟨⟨[]⟩⟩, CV.bool false, CV.str ⟨⟨[]⟩⟩, CV.bool false])) kU])) none) none) (M (mkEnv 226 [(0, PV.c (CV.str s)), (2, PV.bptr 0 0), (4, PV.bptr 1 0), (12, PV.c (CV.int IntKind.i64 e))]) [AO.box (PV.c (CV.agg [CV.str ⟨⟨[]⟩⟩, CV.str ⟨⟨[]⟩⟩, CV.bool false, CV.str ⟨⟨[]⟩⟩, CV.str ⟨⟨[]⟩⟩, CV.bool false, CV.bool false, CV.str ⟨⟨[]⟩⟩, CV.str ⟨⟨[]⟩⟩, CV.bool false, CV.str ⟨⟨[]⟩⟩, CV.bool false])) kU, AO.box (PV.c (CV.agg [CV.str a, CV.str us, CV.bool hu, CV.str ho, CV.str po, CV.bool hp, CV.bool t, CV.str pa, CV.str ⟨⟨[]⟩⟩, CV.bool false, CV.str ⟨⟨[]⟩⟩, CV.bool false])) kU]) := by kernel_rfl
theorem vc22 (s a us ho po pa qu : ByteArray) (hu hp t hq : Bool) (e : Int) (n : Nat) (M : Env → Hp → Res) : aexecB Tryz.prog (call' A41) (filt an22 0) n (prefC 1 (tailC 3 e22c)) (mkEnv 226 [(0, .c (.str s)), (2, .bptr 0 0), (4, .bptr 1 0), (12, .c (.int .i64 e))]) [z0, .box (.c (uV a us hu ho po hp t pa qu hq ⟨⟨[]⟩⟩ false)) kU] (thenK (headK h22f M) (endOf Tryz.prog 23 [])) =
 bif' (decide (e < (↑s.size : Int))) (bif' (decide (0 ≤ IntKind.i64.wrap (e + 1))) (bif' (decide (IntKind.i64.wrap (e + 1) ≤ (↑s.size : Int))) (bif' (decide ((↑s.size : Int) ≤ (↑s.size : Int))) (M (mkEnv 226 [(2, PV.bptr 0 0), (4, PV.bptr 1 0)]) [AO.box (PV.c (CV.agg [CV.str ⟨⟨[]⟩⟩, CV.str ⟨⟨[]⟩⟩, CV.bool false, CV.str ⟨⟨[]⟩⟩, CV.str ⟨⟨[]⟩⟩, CV.bool false, CV.bool false, CV.str ⟨⟨[]⟩⟩, CV.str ⟨⟨[]⟩⟩, CV.bool false, CV.str ⟨⟨[]⟩⟩, CV.bool false])) kU, AO.box (PV.c (CV.agg [CV.str a, CV.str us, CV.bool hu, CV.str ho, CV.str po, CV.bool hp, CV.bool t, CV.str pa, CV.str qu, CV.bool hq, CV.str (s.extract (IntKind.i64.wrap (e + 1)).toNat (↑s.size : Int).toNat), CV.bool true])) kU]) none) none) none) (M (mkEnv 226 [(2, PV.bptr 0 0), (4, PV.bptr 1 0)]) [AO.box (PV.c (CV.agg [CV.str ⟨⟨[]⟩⟩, CV.str ⟨⟨[]⟩⟩, CV.bool false, CV.str ⟨⟨[]⟩⟩, CV.str ⟨⟨[]⟩⟩, CV.bool false, CV.bool false, CV.str ⟨⟨[]⟩⟩, CV.str ⟨⟨[]⟩⟩, CV.bool false, CV.str ⟨⟨[]⟩⟩, CV.bool false])) kU, AO.box (PV.c (CV.agg [CV.str a, CV.str us, CV.bool hu, CV.str ho, CV.str po, CV.bool hp, CV.bool t, CV.str pa, CV.str qu, CV.bool hq, CV.str ⟨⟨[]⟩⟩, CV.bool false])) kU]) := by kernel_rfl
theorem vd22 (a us ho po pa qu fr : ByteArray) (hu hp t hq hf : Bool) (n : Nat) : aexecB Tryz.prog (call' A41) (filt an22 0) n (tailC 4 e22c) (mkEnv 226 [(2, .bptr 0 0), (4, .bptr 1 0)]) [z0, .box (.c (uV a us hu ho po hp t pa qu hq fr hf)) kU] (endOf Tryz.prog 23 []) =
 bif' (fitsS (us.size + pa.size)) (bif' (fitsS ((us ++ pa).size + qu.size)) (bif' (fitsS ((us ++ pa ++ qu).size + fr.size)) (bif' (decide (0 ≤ 0) && (decide (0 ≤ (↑fr.size : Int)) && (decide (fr.size ≤ 10000) && decide ((ByteArray.mk #[35]).size ≤ 10000)))) (bif' (decide ((↑(findI fr (Int.toNat 0) (ByteArray.mk #[35])) : Int) < (↑fr.size : Int))) (some (CV.tup [CV.agg [CV.str ⟨⟨[]⟩⟩, CV.str ⟨⟨[]⟩⟩, CV.bool false, CV.str ⟨⟨[]⟩⟩, CV.str ⟨⟨[]⟩⟩, CV.bool false, CV.bool false, CV.str ⟨⟨[]⟩⟩, CV.str ⟨⟨[]⟩⟩, CV.bool false, CV.str ⟨⟨[]⟩⟩, CV.bool false], CV.bool false], [])) (bif' (decide (0 ≤ 0) && (decide (0 ≤ (↑(us ++ pa ++ qu ++ fr).size : Int)) && (decide ((us ++ pa ++ qu ++ fr).size ≤ 10000) && decide ((ByteArray.mk #[91, 93]).size ≤ 10000)))) (bif' (decide ((↑(findI (us ++ pa ++ qu ++ fr) (Int.toNat 0) (ByteArray.mk #[91, 93])) : Int) < (↑(us ++ pa ++ qu ++ fr).size : Int))) (some (CV.tup [CV.agg [CV.str ⟨⟨[]⟩⟩, CV.str ⟨⟨[]⟩⟩, CV.bool false, CV.str ⟨⟨[]⟩⟩, CV.str ⟨⟨[]⟩⟩, CV.bool false, CV.bool false, CV.str ⟨⟨[]⟩⟩, CV.str ⟨⟨[]⟩⟩, CV.bool false, CV.str ⟨⟨[]⟩⟩, CV.bool false], CV.bool false], [])) (bif' (decide (po.size ≤ 10000)) (bif' (!digS po) (some (CV.tup [CV.agg [CV.str ⟨⟨[]⟩⟩, CV.str ⟨⟨[]⟩⟩, CV.bool false, CV.str ⟨⟨[]⟩⟩, CV.str ⟨⟨[]⟩⟩, CV.bool false, CV.bool false, CV.str ⟨⟨[]⟩⟩, CV.str ⟨⟨[]⟩⟩, CV.bool false, CV.str ⟨⟨[]⟩⟩, CV.bool false], CV.bool false], [])) (bif' t (bif' (decide (ho.size ≤ 2500)) (bif' (!hostS ho) (some (CV.tup [CV.agg [CV.str ⟨⟨[]⟩⟩, CV.str ⟨⟨[]⟩⟩, CV.bool false, CV.str ⟨⟨[]⟩⟩, CV.str ⟨⟨[]⟩⟩, CV.bool false, CV.bool false, CV.str ⟨⟨[]⟩⟩, CV.str ⟨⟨[]⟩⟩, CV.bool false, CV.str ⟨⟨[]⟩⟩, CV.bool false], CV.bool false], [])) (some (CV.tup [CV.agg [CV.str a, CV.str us, CV.bool hu, CV.str ho, CV.str po, CV.bool hp, CV.bool t, CV.str pa, CV.str qu, CV.bool hq, CV.str fr, CV.bool hf], CV.bool true], []))) none) (some (CV.tup [CV.agg [CV.str a, CV.str us, CV.bool hu, CV.str ho, CV.str po, CV.bool hp, CV.bool t, CV.str pa, CV.str qu, CV.bool hq, CV.str fr, CV.bool hf], CV.bool true], [])))) none)) none)) none) none) none) none := by kernel_rfl

end Go.Pv

/- URLs: the document's Parse, from its path on. -/
namespace Go.Pv
set_option linter.unusedVariables false
set_option maxRecDepth 100000
set_option maxHeartbeats 40000
open Go Go.Proofs
variable {I : World → Prop} {ng : Nat}

def fin22 (ok : Bool) (v : CV) : Res := if ok = true then some (.tup [v, .bool true], []) else some (.tup [zU nB false, .bool false], [])
theorem findL_lt (p : List UInt8) : ∀ l : List UInt8, decide (findL p l < l.length) = l.any fun b => inS (mkS p) b.toNat
  | [] => rfl
  | b :: t => by
    unfold findL
    have ih := findL_lt p t
    cases h : inS (mkS p) b.toNat with
    | true => simp [h]
    | false => simp [h, ← ih]
theorem find_lt (l p : List UInt8) : decide (((findI (mkS l) 0 (mkS p) : Nat) : Int) < (((mkS l).size : Nat) : Int)) = l.any fun b => inS (mkS p) b.toNat := by
  rw [find0, sizeM, ← findL_lt]
  rw [Bool.eq_iff_iff, decide_eq_true_eq, decide_eq_true_eq]
  omega
theorem in1 (c b : UInt8) : inS (mkS [c]) b.toNat = decide (b = c) := by
  rw [in_lit]
  simp [List.contains, List.elem]
  by_cases h : b = c
  · subst h; simp
  · have : (b == c) = false := by simpa using h
    rw [this]; simp [h]
theorem brS_any (l : List UInt8) : brS (mkS l) = l.any fun b => inS (mkS [91, 93]) b.toNat := by
  unfold brS
  rw [mkS_data]
  congr 1
  funext b
  rw [in_lit, Bool.eq_iff_iff]
  simp
theorem le00 : decide ((0 : Nat) ≤ 0) = true := by decide
theorem lez (n : Nat) : decide ((0 : Int) ≤ (n : Int)) = true := decide_eq_true (by omega)
theorem vd22' (a us ho po pa qu fr : ByteArray) (hu hp t hq hf : Bool) (n : Nat) (z1 : us.size ≤ 2500) (z2 : pa.size ≤ 2500) (z3 : qu.size ≤ 2500) (z4 : fr.size ≤ 2500) (z5 : po.size ≤ 2500) (z6 : ho.size ≤ 2500) (R : Res)
    (hR : R = fin22 (!(fr.data.toList.any fun b => decide (b = 35)) && (!brS (us ++ pa ++ qu ++ fr) && (digS po && (!t || hostS ho)))) (uV a us hu ho po hp t pa qu hq fr hf)) :
    aexecB Tryz.prog (call' A41) (filt an22 0) n (tailC 4 e22c) (mkEnv 226 [(2, .bptr 0 0), (4, .bptr 1 0)]) [z0, .box (.c (uV a us hu ho po hp t pa qu hq fr hf)) kU] (endOf Tryz.prog 23 []) = R := by
  have b1 : fitsS (us.size + pa.size) = true := fits_small (by omega)
  have b2 : fitsS ((us ++ pa).size + qu.size) = true := fits_small (by rw [ByteArray.size_append]; omega)
  have b3 : fitsS ((us ++ pa ++ qu).size + fr.size) = true := fits_small (by rw [ByteArray.size_append, ByteArray.size_append]; omega)
  have b4 : decide (fr.size ≤ 10000) = true := decide_eq_true (by omega)
  have b5 : decide ((us ++ pa ++ qu ++ fr).size ≤ 10000) = true := decide_eq_true (by rw [ByteArray.size_append, ByteArray.size_append, ByteArray.size_append]; omega)
  have b6 : decide (po.size ≤ 10000) = true := decide_eq_true (by omega)
  have b7 : decide (ho.size ≤ 2500) = true := decide_eq_true z6
  have b8 : decide ((ByteArray.mk #[35]).size ≤ 10000) = true := rfl
  have b9 : decide ((ByteArray.mk #[91, 93]).size ≤ 10000) = true := rfl
  have f1 : ∀ x : ByteArray, decide (((findI x 0 (ByteArray.mk #[35]) : Nat) : Int) < ((x.size : Nat) : Int)) = (x.data.toList.any fun b => decide (b = 35)) := by
    intro x
    obtain ⟨l, rfl⟩ : ∃ l, x = mkS l := ⟨_, (mkS_bl x).symm⟩
    have e : (ByteArray.mk #[35]) = mkS [35] := rfl
    rw [e, find_lt, mkS_data]
    simp only [in1]
  have f2 : ∀ x : ByteArray, decide (((findI x 0 (ByteArray.mk #[91, 93]) : Nat) : Int) < ((x.size : Nat) : Int)) = brS x := by
    intro x
    obtain ⟨l, rfl⟩ : ∃ l, x = mkS l := ⟨_, (mkS_bl x).symm⟩
    have e : (ByteArray.mk #[91, 93]) = mkS [91, 93] := rfl
    rw [e, find_lt, brS_any]
  rw [vd22, hR, toNat0, f1, f2, b1, b2, b3, b4, b5, b6, b7, b8, b9, le00, lez, lez]
  unfold fin22
  simp only [Bool.and_self, bif_tt]
  generalize (fr.data.toList.any fun b => decide (b = 35)) = X
  generalize brS (us ++ pa ++ qu ++ fr) = Y
  generalize digS po = D
  generalize hostS ho = G
  cases X <;> cases Y <;> cases D <;> cases t <;> cases G <;> rfl

theorem sp22d : spine 1 (tailC 3 e22c) = true := by kernel_rfl
theorem ha22d : headAt (filt an22 0) (tailC 1 (tailC 3 e22c)) = some h22f := by kernel_rfl
theorem fo22d : tailC 1 (tailC 3 e22c) = tailC 4 e22c := eq_of_heq (heq_of_eq (by kernel_rfl))
/-- The fragment, of what is behind. -/
theorem vc22' (l : List UInt8) (a us ho po pa qu : ByteArray) (hu hp t hq : Bool) (e n : Nat) (hl : l.length ≤ 2500) (he : e ≤ l.length) (z1 : us.size ≤ 2500) (z2 : pa.size ≤ 2500) (z3 : qu.size ≤ 2500) (z5 : po.size ≤ 2500) (z6 : ho.size ≤ 2500) (R : Res)
    (hR : R = fin22 (!(((l.drop e).drop 1).any fun b => decide (b = 35)) && (!brS (us ++ pa ++ qu ++ mkS ((l.drop e).drop 1)) && (digS po && (!t || hostS ho)))) (uV a us hu ho po hp t pa qu hq (mkS ((l.drop e).drop 1)) (!(l.drop e).isEmpty))) :
    aexecB Tryz.prog (call' A41) (filt an22 0) n (tailC 3 e22c) (mkEnv 226 [(0, .c (.str (mkS l))), (2, .bptr 0 0), (4, .bptr 1 0), (12, .c (.int .i64 (e : Int)))]) [z0, .box (.c (uV a us hu ho po hp t pa qu hq ⟨⟨[]⟩⟩ false)) kU] (endOf Tryz.prog 23 []) = R := by
  rw [seg_b (k := 1) (by decide) sp22d ha22d, vc22]
  simp only [sizeM]
  have hw : IntKind.i64.wrap ((e : Int) + 1) = ((e + 1 : Nat) : Int) := wrp1 (by omega)
  by_cases h : e < l.length
  · have b1 : decide ((e : Int) < ((l.length : Nat) : Int)) = true := decide_eq_true (by omega)
    have b2 : decide (((e + 1 : Nat) : Int) ≤ ((l.length : Nat) : Int)) = true := decide_eq_true (by omega)
    have b3 : decide (((l.length : Nat) : Int) ≤ ((l.length : Nat) : Int)) = true := decide_eq_true (by omega)
    rw [b1, hw, lez, b2, b3, natM, natM, mkS_ext]
    simp only [bif_tt, fo22d]
    have e1 : (l.drop (e + 1)).take (l.length - (e + 1)) = l.drop (e + 1) := List.take_of_length_le (by simp)
    have e2 : (l.drop e).drop 1 = l.drop (e + 1) := by rw [List.drop_drop]
    have e3 : (!(l.drop e).isEmpty) = true := by rw [drop_getD h]; rfl
    rw [e1]
    rw [e2, e3] at hR
    exact vd22' _ _ _ _ _ _ _ _ _ _ _ _ n z1 z2 z3 (by rw [sizeM, List.length_drop]; omega) z5 z6 R (by rw [mkS_data]; exact hR)
  · have b1 : decide ((e : Int) < ((l.length : Nat) : Int)) = false := decide_eq_false (by omega)
    rw [b1]
    simp only [bif_ff, fo22d]
    have e1 : l.drop e = [] := List.drop_of_length_le (by omega)
    rw [e1] at hR
    exact vd22' _ _ _ _ _ _ _ _ _ _ _ _ n z1 z2 z3 (by decide) z5 z6 R hR

theorem sp22c : spine 1 (tailC 2 e22c) = true := by kernel_rfl
theorem ha22c : headAt (filt an22 0) (tailC 1 (tailC 2 e22c)) = some h22e := by kernel_rfl
theorem fo22c : tailC 1 (tailC 2 e22c) = tailC 3 e22c := eq_of_heq (heq_of_eq (by kernel_rfl))
/-- What is behind the path: has it a query, which, and what is behind. -/
def hqL : List UInt8 → Bool
  | c :: _ => c == 63
  | [] => false
def quL (d : List UInt8) : List UInt8 := if hqL d then (d.drop 1).take (findL [35] (d.drop 1)) else []
def afL (d : List UInt8) : List UInt8 := if hqL d then (d.drop 1).drop (findL [35] (d.drop 1)) else d
theorem vb22' (l : List UInt8) (a us ho po pa : ByteArray) (hu hp t : Bool) (e n : Nat) (hl : l.length ≤ 2500) (he : e ≤ l.length) (z1 : us.size ≤ 2500) (z2 : pa.size ≤ 2500) (z5 : po.size ≤ 2500) (z6 : ho.size ≤ 2500) (R : Res)
    (hR : R = fin22 (!(((afL (l.drop e)).drop 1).any fun b => decide (b = 35)) && (!brS (us ++ pa ++ mkS (quL (l.drop e)) ++ mkS ((afL (l.drop e)).drop 1)) && (digS po && (!t || hostS ho)))) (uV a us hu ho po hp t pa (mkS (quL (l.drop e))) (hqL (l.drop e)) (mkS ((afL (l.drop e)).drop 1)) (!(afL (l.drop e)).isEmpty))) :
    aexecB Tryz.prog (call' A41) (filt an22 0) n (tailC 2 e22c) (mkEnv 226 [(0, .c (.str (mkS l))), (2, .bptr 0 0), (4, .bptr 1 0), (12, .c (.int .i64 (e : Int)))]) [z0, .box (.c (uV a us hu ho po hp t pa ⟨⟨[]⟩⟩ false ⟨⟨[]⟩⟩ false)) kU] (endOf Tryz.prog 23 []) = R := by
  rw [seg_b (k := 1) (by decide) sp22c ha22c, vb22]
  simp only [sizeM]
  have hw : IntKind.i64.wrap ((e : Int) + 1) = ((e + 1 : Nat) : Int) := wrp1 (by omega)
  have b9 : decide ((ByteArray.mk #[35]).size ≤ 10000) = true := rfl
  have ee : (ByteArray.mk #[35]) = mkS [35] := rfl
  by_cases h : e < l.length
  · have b1 : decide ((e : Int) < ((l.length : Nat) : Int)) = true := decide_eq_true (by omega)
    have hd : l.drop e = l.getD e 0 :: l.drop (e + 1) := drop_getD h
    rw [b1, lez, natM, atM]
    simp only [bif_tt]
    by_cases hc : l.getD e 0 = 63
    · have c1 : (((l.getD e 0).toNat : Int) == 63) = true := by rw [hc]; rfl
      have hq : hqL (l.drop e) = true := by rw [hd, hc]; rfl
      have b2 : decide (((e + 1 : Nat) : Int) ≤ ((l.length : Nat) : Int)) = true := decide_eq_true (by omega)
      have b3 : decide (l.length ≤ 10000) = true := decide_eq_true (by omega)
      have ef : findI (mkS l) (e + 1) (mkS [35]) = e + 1 + findL [35] (l.drop (e + 1)) := by unfold findI; rw [mkS_data, mkS_data]
      have hle := findL_le [35] (l.drop (e + 1))
      rw [List.length_drop] at hle
      rw [c1, hw, lez, b2, b3, b9, natM, ee, ef]
      have b4 : decide (((e + 1 : Nat) : Int) ≤ ((e + 1 + findL [35] (l.drop (e + 1)) : Nat) : Int)) = true := decide_eq_true (by omega)
      have b5 : decide (((e + 1 + findL [35] (l.drop (e + 1)) : Nat) : Int) ≤ ((l.length : Nat) : Int)) = true := decide_eq_true (by omega)
      rw [b4, b5, natM, mkS_ext]
      simp only [Bool.and_self, bif_tt, fo22c]
      have e1 : e + 1 + findL [35] (l.drop (e + 1)) - (e + 1) = findL [35] (l.drop (e + 1)) := by omega
      have e2 : (l.drop e).drop 1 = l.drop (e + 1) := by rw [List.drop_drop]
      have e3 : quL (l.drop e) = (l.drop (e + 1)).take (findL [35] (l.drop (e + 1))) := by unfold quL; rw [hq, e2, if_pos rfl]
      have e4 : afL (l.drop e) = l.drop (e + 1 + findL [35] (l.drop (e + 1))) := by unfold afL; rw [hq, e2, if_pos rfl, List.drop_drop]
      rw [e1]
      rw [e3, e4, hq] at hR
      exact vc22' l a us ho po pa _ hu hp t true _ n hl (by omega) z1 z2 (by rw [sizeM, List.length_take, List.length_drop]; omega) z5 z6 R hR
    · have c1 : (((l.getD e 0).toNat : Int) == 63) = false := by
        refine Bool.eq_false_iff.2 fun hh => hc ?_
        have := eq_of_beq hh
        have h2 : ((l.getD e 0).toNat : Int) = ((63 : UInt8).toNat : Int) := this
        exact u8_int.1 h2
      have hq : hqL (l.drop e) = false := by
        rw [hd]
        exact beq_eq_false_iff_ne.2 hc
      rw [c1]
      simp only [bif_ff, fo22c]
      have e3 : quL (l.drop e) = [] := by unfold quL; rw [hq]; simp only [Bool.false_eq_true, if_false]
      have e4 : afL (l.drop e) = l.drop e := by unfold afL; rw [hq]; simp only [Bool.false_eq_true, if_false]
      rw [e3, e4, hq] at hR
      exact vc22' l a us ho po pa _ hu hp t false _ n hl he z1 z2 (by decide) z5 z6 R hR
  · have b1 : decide ((e : Int) < ((l.length : Nat) : Int)) = false := decide_eq_false (by omega)
    rw [b1]
    simp only [bif_ff, fo22c]
    have e1 : l.drop e = [] := List.drop_of_length_le (by omega)
    have e3 : quL (l.drop e) = [] := by rw [e1]; rfl
    have e4 : afL (l.drop e) = l.drop e := by rw [e1]; rfl
    have hq : hqL (l.drop e) = false := by rw [e1]; rfl
    rw [e3, e4, hq] at hR
    exact vc22' l a us ho po pa _ hu hp t false _ n hl he z1 z2 (by decide) z5 z6 R hR

theorem sp22b : spine 2 e22c = true := by kernel_rfl
theorem ha22b : headAt (filt an22 0) (tailC 2 e22c) = some h22e := by kernel_rfl
def paL (t : List UInt8) : List UInt8 := t.take (findL [63, 35] t)
def deL (t : List UInt8) : List UInt8 := t.drop (findL [63, 35] t)
theorem va22' (l : List UInt8) (a us ho po : ByteArray) (hu hp t : Bool) (p n : Nat) (hl : l.length ≤ 2500) (he : p ≤ l.length) (z1 : us.size ≤ 2500) (z5 : po.size ≤ 2500) (z6 : ho.size ≤ 2500) (R : Res)
    (hR : R = fin22 (!(((afL (deL (l.drop p))).drop 1).any fun b => decide (b = 35)) && (!brS (us ++ mkS (paL (l.drop p)) ++ mkS (quL (deL (l.drop p))) ++ mkS ((afL (deL (l.drop p))).drop 1)) && (digS po && (!t || hostS ho)))) (uV a us hu ho po hp t (mkS (paL (l.drop p))) (mkS (quL (deL (l.drop p)))) (hqL (deL (l.drop p))) (mkS ((afL (deL (l.drop p))).drop 1)) (!(afL (deL (l.drop p))).isEmpty))) :
    aexecB Tryz.prog (call' A41) (filt an22 0) n e22c (mkEnv 226 [(0, .c (.str (mkS l))), (2, .bptr 0 0), (4, .bptr 1 0), (5, .c (.int .i64 (p : Int)))]) [z0, .box (.c (uV a us hu ho po hp t ⟨⟨[]⟩⟩ ⟨⟨[]⟩⟩ false ⟨⟨[]⟩⟩ false)) kU] (endOf Tryz.prog 23 []) = R := by
  have b9 : decide ((ByteArray.mk #[63, 35]).size ≤ 10000) = true := rfl
  have ee : (ByteArray.mk #[63, 35]) = mkS [63, 35] := rfl
  have ef : findI (mkS l) p (mkS [63, 35]) = p + findL [63, 35] (l.drop p) := by unfold findI; rw [mkS_data, mkS_data]
  have hle := findL_le [63, 35] (l.drop p)
  rw [List.length_drop] at hle
  have b2 : decide ((p : Int) ≤ ((l.length : Nat) : Int)) = true := decide_eq_true (by omega)
  have b3 : decide (l.length ≤ 10000) = true := decide_eq_true (by omega)
  have b4 : decide ((p : Int) ≤ ((p + findL [63, 35] (l.drop p) : Nat) : Int)) = true := decide_eq_true (by omega)
  have b5 : decide (((p + findL [63, 35] (l.drop p) : Nat) : Int) ≤ ((l.length : Nat) : Int)) = true := decide_eq_true (by omega)
  rw [seg_b (k := 2) (by decide) sp22b ha22b, va22]
  simp only [sizeM]
  rw [lez, b2, b3, b9, natM, ee, ef, b4, b5, natM, mkS_ext]
  simp only [Bool.and_self, bif_tt]
  have e1 : p + findL [63, 35] (l.drop p) - p = findL [63, 35] (l.drop p) := by omega
  have e2 : l.drop (p + findL [63, 35] (l.drop p)) = deL (l.drop p) := by unfold deL; rw [List.drop_drop]
  rw [e1]
  refine vb22' l a us ho po _ hu hp t _ n hl (by omega) z1 (by rw [sizeM, List.length_take, List.length_drop]; omega) z5 z6 R ?_
  rw [e2]
  exact hR

end Go.Pv

/- URLs: the document's Parse, its authority. -/
namespace Go.Pv
set_option linter.unusedVariables false
set_option maxRecDepth 100000
set_option maxHeartbeats 40000
open Go Go.Proofs
variable {I : World → Prop} {ng : Nat}

noncomputable abbrev K22 (L M : Env → Hp → Res) : KX := thenK (headK h22d L) (thenK (headK h22c M) (endOf Tryz.prog 23 []))
def E9 (l t : List UInt8) (p : Nat) : Env := mkEnv 226 [(0, .c (.str (mkS l))), (2, .bptr 0 0), (4, .bptr 1 0), (5, .c (.int .i64 (p : Int))), (9, .c (.str (mkS t)))]
def H9 (a us : ByteArray) (hu : Bool) (po : ByteArray) (hp : Bool) : Hp := [z0, .box (.c (uV a us hu ⟨⟨[]⟩⟩ po hp true ⟨⟨[]⟩⟩ ⟨⟨[]⟩⟩ false ⟨⟨[]⟩⟩ false)) kU]
noncomputable abbrev R22 (n j : Nat) (L M : Env → Hp → Res) (env : Env) (H : Hp) : Res := rounds Tryz.prog (call' A41) (filt an22 0) n hl22 (bodyN 0 q22b) j env H (restN Tryz.prog (call' A41) (filt an22 0) n 0 q22b (K22 L M))
theorem wrmI {i : Int} (h0 : 0 ≤ i) (h : i ≤ 100000) : IntKind.i64.wrap (i - 1) = i - 1 := by
  by_cases h1 : i = 0
  · subst h1; rfl
  · exact wrap_id (by omega) (by omega)
theorem lo22 (n : Nat) (l t : List UInt8) (a : ByteArray) (p : Nat) (L M : Env → Hp → Res) (ht : t.length ≤ 2500) : ∀ (j k : Nat), k < j → k ≤ t.length →
    R22 n j L M (mkEnv 226 [(0, .c (.str (mkS l))), (2, .bptr 0 0), (4, .bptr 1 0), (5, .c (.int .i64 (p : Int))), (9, .c (.str (mkS t))), (10, .c (.int .i64 ((k : Int) - 1)))]) (H9 a nB false nB false) =
      if 0 ≤ lastL k t 64 then L (E9 l (t.drop ((lastL k t 64).toNat + 1)) p) (H9 a (mkS (t.take (lastL k t 64).toNat)) true nB false) else L (E9 l t p) (H9 a nB false nB false)
  | 0, k, hj, hk => by omega
  | j + 1, 0, hj, hk => by
    show aexec Tryz.prog (call' A41) (filt an22 0) n (bodyN 0 q22b) _ _ (thenK (headK hl22 fun env H => R22 n j L M env H) _) = _
    rw [H9, ud22]
    have b1 : decide (((0 : Nat) : Int) - 1 ≥ 0) = false := by decide
    rw [b1, bif_ff]
    have : ¬ (0 : Int) ≤ lastL 0 t 64 := by unfold lastL; decide
    rw [if_neg this]
    rfl
  | j + 1, k + 1, hj, hk => by
    show aexec Tryz.prog (call' A41) (filt an22 0) n (bodyN 0 q22b) _ _ (thenK (headK hl22 fun env H => R22 n j L M env H) _) = _
    rw [H9, ud22]
    have e0 : ((k + 1 : Nat) : Int) - 1 = (k : Int) := by omega
    have b1 : decide ((k : Int) ≥ 0) = true := decide_eq_true (by omega)
    have b2 : decide ((k : Int) < ((t.length : Nat) : Int)) = true := decide_eq_true (by omega)
    have b3 : decide ((k : Int) ≤ ((t.length : Nat) : Int)) = true := decide_eq_true (by omega)
    have b4 : decide (((k + 1 : Nat) : Int) ≤ ((t.length : Nat) : Int)) = true := decide_eq_true (by omega)
    have b5 : decide (((t.length : Nat) : Int) ≤ ((t.length : Nat) : Int)) = true := decide_eq_true (by omega)
    have hw : IntKind.i64.wrap ((k : Int) + 1) = ((k + 1 : Nat) : Int) := wrp1 (by omega)
    have hw2 : IntKind.i64.wrap ((k : Int) - 1) = (k : Int) - 1 := wrmI (by omega) (by omega)
    simp only [sizeM, e0]
    rw [b1, b2, b3, hw, hw2, lez, b4, b5, natM, natM, natM, atM, toNat0, mkS_ext, mkS_ext]
    simp only [bif_tt, List.drop_zero, Nat.sub_zero]
    have el : lastL (k + 1) t 64 = if ((t.getD k 0).toNat : Int) = 64 then (k : Int) else lastL k t 64 := rfl
    rw [el]
    by_cases hc : ((t.getD k 0).toNat : Int) = 64
    · have c1 : (((t.getD k 0).toNat : Int) == 64) = true := beq_iff_eq.2 hc
      rw [c1, bif_tt, if_pos hc, if_pos (by omega), natM]
      have e1 : (t.drop (k + 1)).take (t.length - (k + 1)) = t.drop (k + 1) := List.take_of_length_le (by simp)
      rw [e1]
      rfl
    · have c1 : (((t.getD k 0).toNat : Int) == 64) = false := beq_eq_false_iff_ne.2 hc
      rw [c1, bif_ff, if_neg hc]
      exact lo22 n l t a p L M ht j k (by omega) (by omega)

noncomputable abbrev R29 (n j : Nat) (L M : Env → Hp → Res) (env : Env) (H : Hp) : Res := rounds Tryz.prog (call' A41) (filt an22 0) n hl29 (bodyN 0 q22c) j env H (restN Tryz.prog (call' A41) (filt an22 0) n 0 q22c (K22 L M))
theorem lastL_lt (l : List UInt8) (c : Int) (k : Nat) : lastL k l c < k := (lastL_b l c k).2
theorem lo29 (n : Nat) (l t : List UInt8) (a us : ByteArray) (hu : Bool) (p : Nat) (L M : Env → Hp → Res) (ht : t.length ≤ 2500) : ∀ (j k : Nat), k < j → k ≤ t.length →
    R29 n j L M (mkEnv 226 [(0, .c (.str (mkS l))), (2, .bptr 0 0), (4, .bptr 1 0), (5, .c (.int .i64 (p : Int))), (9, .c (.str (mkS t))), (11, .c (.int .i64 ((k : Int) - 1)))]) (H9 a us hu nB false) =
      if 0 ≤ lastL k t 58 ∧ lastL k t 93 < lastL k t 58 then L (E9 l (t.take (lastL k t 58).toNat) p) (H9 a us hu (mkS (t.drop ((lastL k t 58).toNat + 1))) true) else L (E9 l t p) (H9 a us hu nB false)
  | 0, k, hj, hk => by omega
  | j + 1, 0, hj, hk => by
    show aexec Tryz.prog (call' A41) (filt an22 0) n (bodyN 0 q22c) _ _ (thenK (headK hl29 fun env H => R29 n j L M env H) _) = _
    rw [H9, ue22]
    have b1 : decide (((0 : Nat) : Int) - 1 ≥ 0) = false := by decide
    rw [b1, bif_ff]
    have : ¬ ((0 : Int) ≤ lastL 0 t 58 ∧ lastL 0 t 93 < lastL 0 t 58) := by unfold lastL; decide
    rw [if_neg this]
    rfl
  | j + 1, k + 1, hj, hk => by
    show aexec Tryz.prog (call' A41) (filt an22 0) n (bodyN 0 q22c) _ _ (thenK (headK hl29 fun env H => R29 n j L M env H) _) = _
    rw [H9, ue22]
    have e0 : ((k + 1 : Nat) : Int) - 1 = (k : Int) := by omega
    have b1 : decide ((k : Int) ≥ 0) = true := decide_eq_true (by omega)
    have b2 : decide ((k : Int) < ((t.length : Nat) : Int)) = true := decide_eq_true (by omega)
    have b3 : decide ((k : Int) ≤ ((t.length : Nat) : Int)) = true := decide_eq_true (by omega)
    have b4 : decide (((k + 1 : Nat) : Int) ≤ ((t.length : Nat) : Int)) = true := decide_eq_true (by omega)
    have b5 : decide (((t.length : Nat) : Int) ≤ ((t.length : Nat) : Int)) = true := decide_eq_true (by omega)
    have hw : IntKind.i64.wrap ((k : Int) + 1) = ((k + 1 : Nat) : Int) := wrp1 (by omega)
    have hw2 : IntKind.i64.wrap ((k : Int) - 1) = (k : Int) - 1 := wrmI (by omega) (by omega)
    simp only [sizeM, e0]
    rw [b1, b2, b3, hw, hw2, lez, b4, b5, natM, natM, natM, atM, toNat0, mkS_ext, mkS_ext]
    simp only [bif_tt, List.drop_zero, Nat.sub_zero]
    have el : ∀ c, lastL (k + 1) t c = if ((t.getD k 0).toNat : Int) = c then (k : Int) else lastL k t c := fun _ => rfl
    rw [el, el]
    have k1 := lastL_lt t 58 k
    have k2 := lastL_lt t 93 k
    by_cases h93 : ((t.getD k 0).toNat : Int) = 93
    · have c1 : (((t.getD k 0).toNat : Int) != 93) = false := by rw [h93]; decide
      have h58 : ¬ ((t.getD k 0).toNat : Int) = 58 := by omega
      rw [c1, bif_ff, if_pos h93, if_neg h58, if_neg (by omega)]
      rfl
    · have c1 : (((t.getD k 0).toNat : Int) != 93) = true := by simpa using h93
      rw [c1, bif_tt, if_neg h93]
      by_cases h58 : ((t.getD k 0).toNat : Int) = 58
      · have c2 : (((t.getD k 0).toNat : Int) == 58) = true := beq_iff_eq.2 h58
        rw [c2, bif_tt, if_pos h58, if_pos (by omega), natM]
        have e1 : (t.drop (k + 1)).take (t.length - (k + 1)) = t.drop (k + 1) := List.take_of_length_le (by simp)
        rw [e1]
        rfl
      · have c2 : (((t.getD k 0).toNat : Int) == 58) = false := beq_eq_false_iff_ne.2 h58
        rw [c2, bif_ff, if_neg h58]
        exact lo29 n l t a us hu p L M ht j k (by omega) (by omega)

end Go.Pv

/- URLs: the document's Parse: its authority and its scheme put together. -/
namespace Go.Pv
set_option linter.unusedVariables false
set_option maxRecDepth 100000
set_option maxHeartbeats 40000
open Go Go.Proofs
variable {I : World → Prop} {ng : Nat}

def E5 (l : List UInt8) (p : Nat) : Env := mkEnv 226 [(0, .c (.str (mkS l))), (2, .bptr 0 0), (4, .bptr 1 0), (5, .c (.int .i64 (p : Int)))]
def HX (a us : ByteArray) (hu : Bool) (ho po : ByteArray) (hp t : Bool) : Hp := [z0, .box (.c (uV a us hu ho po hp t ⟨⟨[]⟩⟩ ⟨⟨[]⟩⟩ false ⟨⟨[]⟩⟩ false)) kU]
noncomputable abbrev KM (M : Env → Hp → Res) : KX := thenK (headK h22c M) (endOf Tryz.prog 23 [])

theorem sp22t : spine 1 (tailC 1 (tailC 4 r22b)) = true := by kernel_rfl
theorem ha22t : headAt (filt an22 0) (tailC 1 (tailC 1 (tailC 4 r22b))) = some h22d := by kernel_rfl
theorem fo22t : tailC 1 (tailC 1 (tailC 4 r22b)) = tailC 6 r22b := eq_of_heq (heq_of_eq (by kernel_rfl))
theorem lp22c : isLoopPiece q22c = true := by kernel_rfl
theorem id22c : idsOk q22c = true := by kernel_rfl
theorem nl22c : nLoops q22c = 1 := by kernel_rfl
theorem hh22c : (firstRegion (bodyN 0 q22c)).bind (filt an22 0) = some hl29 := by kernel_rfl
theorem lp22b : isLoopPiece q22b = true := by kernel_rfl
theorem id22b : idsOk q22b = true := by kernel_rfl
theorem nl22b : nLoops q22b = 1 := by kernel_rfl
theorem hh22b : (firstRegion (bodyN 0 q22b)).bind (filt an22 0) = some hl22 := by kernel_rfl
theorem wrm0 (n : Nat) (h : n ≤ 100000) : IntKind.i64.wrap ((n : Int) - 1) = (n : Int) - 1 := wrmI (by omega) (by omega)

/-- The port. -/
theorem vs22 (l t : List UInt8) (a us : ByteArray) (hu : Bool) (p n : Nat) (M : Env → Hp → Res) (ht : t.length ≤ 2500) (hn : 3000 ≤ n) :
    aexecB Tryz.prog (call' A41) (filt an22 0) n (tailC 1 (tailC 4 r22b)) (E9 l t p) (H9 a us hu nB false) (KM M) =
      if 0 ≤ lastL t.length t 58 ∧ lastL t.length t 93 < lastL t.length t 58 then M (E5 l p) (HX a us hu (mkS (t.take (lastL t.length t 58).toNat)) (mkS (t.drop ((lastL t.length t 58).toNat + 1))) true true)
      else M (E5 l p) (HX a us hu (mkS t) nB false true) := by
  rw [seg_b (k := 1) (by decide) sp22t ha22t]
  show aexecB Tryz.prog (call' A41) (filt an22 0) n q22c _ _ _ = _
  rw [loopB lp22c id22c nl22c hh22c]
  unfold E9 H9
  rw [ux22]
  simp only [sizeM]
  rw [wrm0 _ (by omega), fo22t]
  have h := lo29 n l t a us hu p (fun e H => aexecB Tryz.prog (call' A41) (filt an22 0) n (tailC 6 r22b) e H (KM M)) M ht n t.length (by omega) (Nat.le_refl _)
  refine Eq.trans h ?_
  split
  · unfold E9 H9
    exact uy22 ..
  · unfold E9 H9
    exact uy22 ..

theorem sp22s : spine 1 (tailC 4 r22b) = true := by kernel_rfl
theorem ha22s : headAt (filt an22 0) (tailC 1 (tailC 4 r22b)) = some h22d := by kernel_rfl
theorem sp22r : spine 4 r22b = true := by kernel_rfl
theorem ha22r : headAt (filt an22 0) (tailC 4 r22b) = some h22d := by kernel_rfl
theorem vr22 (l t : List UInt8) (a : ByteArray) (p n : Nat) (M : Env → Hp → Res) (ht : t.length ≤ 2500) (hn : 3000 ≤ n) :
    aexecB Tryz.prog (call' A41) (filt an22 0) n (tailC 4 r22b) (E9 l t p) (H9 a nB false nB false) (KM M) =
      M (E5 l p) (HX a (auUsr (mkS t)) (auHU (mkS t)) (auHost (mkS t)) (auPort (mkS t)) (auHP (mkS t)) true) := by
  rw [seg_b (k := 1) (by decide) sp22s ha22s]
  show aexecB Tryz.prog (call' A41) (filt an22 0) n q22b _ _ _ = _
  rw [loopB lp22b id22b nl22b hh22b]
  unfold E9 H9
  rw [uw22]
  simp only [sizeM]
  rw [wrm0 _ (by omega)]
  have h := lo22 n l t a p (fun e H => aexecB Tryz.prog (call' A41) (filt an22 0) n (tailC 1 (tailC 4 r22b)) e H (KM M)) M ht n t.length (by omega) (Nat.le_refl _)
  refine Eq.trans h ?_
  have e64 : lastI (mkS t) 64 = lastL t.length t 64 := by unfold lastI; rw [mkS_data, sizeM]
  unfold auUsr auHost auPort auHP auRest auHU
  rw [e64]
  have hb := lastL_b t 64 t.length
  generalize lastL t.length t 64 = x at *
  by_cases hx : 0 ≤ x
  · simp only [hx, if_true, decide_true]
    rw [vs22 _ _ _ _ _ _ _ _ (by rw [List.length_drop]; omega) hn]
    have e1 : (mkS t).extract (x.toNat + 1) (mkS t).size = mkS (t.drop (x.toNat + 1)) := by
      rw [mkS_ext, sizeM, List.take_of_length_le (by simp)]
    have e2 : (mkS t).extract 0 x.toNat = mkS (t.take x.toNat) := by rw [mkS_ext, List.drop_zero, Nat.sub_zero]
    rw [e1, e2]
    have e3 : ∀ c, lastI (mkS (t.drop (x.toNat + 1))) c = lastL (t.drop (x.toNat + 1)).length (t.drop (x.toNat + 1)) c := fun c => by unfold lastI; rw [mkS_data, sizeM]
    rw [e3, e3]
    generalize t.drop (x.toNat + 1) = u
    generalize lastL u.length u 58 = y
    generalize lastL u.length u 93 = z
    have e4 : (mkS u).extract 0 y.toNat = mkS (u.take y.toNat) := by rw [mkS_ext, List.drop_zero, Nat.sub_zero]
    have e5 : (mkS u).extract (y.toNat + 1) (mkS u).size = mkS (u.drop (y.toNat + 1)) := by
      rw [mkS_ext, sizeM, List.take_of_length_le (by simp)]
    rw [e4, e5]
    by_cases hy : 0 ≤ y ∧ z < y
    · have b : (decide (0 ≤ y) && decide (z < y)) = true := by rw [decide_eq_true hy.1, decide_eq_true hy.2]; rfl
      rw [if_pos hy, b]; rfl
    · have b : (decide (0 ≤ y) && decide (z < y)) = false := by
        rw [Bool.and_eq_false_iff]
        by_cases h0 : 0 ≤ y
        · exact .inr (decide_eq_false fun h => hy ⟨h0, h⟩)
        · exact .inl (decide_eq_false h0)
      rw [if_neg hy, b]; rfl
  · simp only [hx, if_false, decide_false, Bool.false_eq_true]
    rw [vs22 _ _ _ _ _ _ _ _ ht hn]
    have e3 : ∀ c, lastI (mkS t) c = lastL t.length t c := fun c => by unfold lastI; rw [mkS_data, sizeM]
    rw [e3, e3]
    generalize lastL t.length t 58 = y
    generalize lastL t.length t 93 = z
    have e4 : (mkS t).extract 0 y.toNat = mkS (t.take y.toNat) := by rw [mkS_ext, List.drop_zero, Nat.sub_zero]
    have e5 : (mkS t).extract (y.toNat + 1) (mkS t).size = mkS (t.drop (y.toNat + 1)) := by
      rw [mkS_ext, sizeM, List.take_of_length_le (by simp)]
    rw [e4, e5]
    by_cases hy : 0 ≤ y ∧ z < y
    · have b : (decide (0 ≤ y) && decide (z < y)) = true := by rw [decide_eq_true hy.1, decide_eq_true hy.2]; rfl
      rw [if_pos hy, b]; rfl
    · have b : (decide (0 ≤ y) && decide (z < y)) = false := by
        rw [Bool.and_eq_false_iff]
        by_cases h0 : 0 ≤ y
        · exact .inr (decide_eq_false fun h => hy ⟨h0, h⟩)
        · exact .inl (decide_eq_false h0)
      rw [if_neg hy, b]; rfl

/-- The arm of an authority. -/
theorem vq22 (l : List UInt8) (a : ByteArray) (p n : Nat) (M : Env → Hp → Res) (hl : l.length ≤ 2500) (hp : p + 2 ≤ l.length) (hn : 3000 ≤ n) :
    aexecB Tryz.prog (call' A41) (filt an22 0) n r22b (E5 l p) (HX a nB false nB nB false false) (KM M) =
      M (E5 l (p + 2 + findL [47, 63, 35] (l.drop (p + 2)))) (HX a (auUsr (mkS ((l.drop (p + 2)).take (findL [47, 63, 35] (l.drop (p + 2)))))) (auHU (mkS ((l.drop (p + 2)).take (findL [47, 63, 35] (l.drop (p + 2)))))) (auHost (mkS ((l.drop (p + 2)).take (findL [47, 63, 35] (l.drop (p + 2)))))) (auPort (mkS ((l.drop (p + 2)).take (findL [47, 63, 35] (l.drop (p + 2)))))) (auHP (mkS ((l.drop (p + 2)).take (findL [47, 63, 35] (l.drop (p + 2)))))) true) := by
  have hw : IntKind.i64.wrap ((p : Int) + 2) = ((p + 2 : Nat) : Int) := wrp (k := 2) (by omega) (by omega)
  have ee : (ByteArray.mk #[47, 63, 35]) = mkS [47, 63, 35] := rfl
  have ef : findI (mkS l) (p + 2) (mkS [47, 63, 35]) = p + 2 + findL [47, 63, 35] (l.drop (p + 2)) := by unfold findI; rw [mkS_data, mkS_data]
  have hle := findL_le [47, 63, 35] (l.drop (p + 2))
  rw [List.length_drop] at hle
  have b2 : decide (((p + 2 : Nat) : Int) ≤ ((l.length : Nat) : Int)) = true := decide_eq_true (by omega)
  have b3 : decide (l.length ≤ 10000) = true := decide_eq_true (by omega)
  have b4 : decide (((p + 2 : Nat) : Int) ≤ ((p + 2 + findL [47, 63, 35] (l.drop (p + 2)) : Nat) : Int)) = true := decide_eq_true (by omega)
  have b5 : decide (((p + 2 + findL [47, 63, 35] (l.drop (p + 2)) : Nat) : Int) ≤ ((l.length : Nat) : Int)) = true := decide_eq_true (by omega)
  have b9 : decide ((ByteArray.mk #[47, 63, 35]).size ≤ 10000) = true := rfl
  rw [seg_b (k := 4) (by decide) sp22r ha22r]
  unfold E5 HX
  rw [uv22]
  simp only [sizeM]
  rw [hw, lez, b2, b3, b9, natM, ee, ef, b4, b5, natM, mkS_ext]
  simp only [Bool.and_self, bif_tt]
  have e1 : p + 2 + findL [47, 63, 35] (l.drop (p + 2)) - (p + 2) = findL [47, 63, 35] (l.drop (p + 2)) := by omega
  rw [e1]
  exact vr22 l _ a _ n M (by rw [List.length_take, List.length_drop]; omega) hn

/-! ### From the authority on -/
theorem sp22e : spine 1 d22b = true := by kernel_rfl
theorem ha22e : headAt (filt an22 0) (tailC 1 d22b) = some h22c := by kernel_rfl
theorem io22b : isHole p22b = true := by kernel_rfl
theorem hr22b : headAt (filt an22 0) (lastArm p22b) = some h22c := by kernel_rfl
def haL (r : List UInt8) : Bool := ([47, 47] : List UInt8).isPrefixOf r
def auL (r : List UInt8) : List UInt8 := (r.drop 2).take (findL [47, 63, 35] (r.drop 2))
def rsL (r : List UInt8) : List UInt8 := if haL r then (r.drop 2).drop (findL [47, 63, 35] (r.drop 2)) else r
def usB (r : List UInt8) : ByteArray := if haL r then auUsr (mkS (auL r)) else nB
def huB (r : List UInt8) : Bool := haL r && auHU (mkS (auL r))
def hoB (r : List UInt8) : ByteArray := if haL r then auHost (mkS (auL r)) else nB
def poB (r : List UInt8) : ByteArray := if haL r then auPort (mkS (auL r)) else nB
def hpB (r : List UInt8) : Bool := haL r && auHP (mkS (auL r))
def ok22 (us po ho : ByteArray) (ha : Bool) (t : List UInt8) : Bool := !(((afL (deL t)).drop 1).any fun b => decide (b = 35)) && (!brS (us ++ mkS (paL t) ++ mkS (quL (deL t)) ++ mkS ((afL (deL t)).drop 1)) && (digS po && (!ha || hostS ho)))
def v22 (a us : ByteArray) (hu : Bool) (ho po : ByteArray) (hp ha : Bool) (t : List UInt8) : CV := uV a us hu ho po hp ha (mkS (paL t)) (mkS (quL (deL t))) (hqL (deL t)) (mkS ((afL (deL t)).drop 1)) (!(afL (deL t)).isEmpty)
theorem ext_sz (s : ByteArray) (a b : Nat) : (s.extract a b).size ≤ s.size := by rw [ByteArray.size_extract]; omega
theorem auUsr_sz (s : ByteArray) : (auUsr s).size ≤ s.size := by
  unfold auUsr; split
  · exact ext_sz _ _ _
  · exact Nat.zero_le _
theorem auRest_sz (s : ByteArray) : (auRest s).size ≤ s.size := by
  unfold auRest; split
  · exact ext_sz _ _ _
  · exact Nat.le_refl _
theorem auHost_sz (s : ByteArray) : (auHost s).size ≤ s.size := by
  have := auRest_sz s
  unfold auHost; split
  · have := ext_sz (auRest s) 0 (lastI (auRest s) 58).toNat; omega
  · omega
theorem auPort_sz (s : ByteArray) : (auPort s).size ≤ s.size := by
  have := auRest_sz s
  unfold auPort; split
  · have := ext_sz (auRest s) ((lastI (auRest s) 58).toNat + 1) (auRest s).size; omega
  · exact Nat.zero_le _
theorem vp22 (l : List UInt8) (a : ByteArray) (p n : Nat) (hl : l.length ≤ 2500) (hp : p ≤ l.length) (hn : 3000 ≤ n) :
    aexecB Tryz.prog (call' A41) (filt an22 0) n d22b (E5 l p) (HX a nB false nB nB false false) (endOf Tryz.prog 23 []) =
      fin22 (ok22 (usB (l.drop p)) (poB (l.drop p)) (hoB (l.drop p)) (haL (l.drop p)) (rsL (l.drop p))) (v22 a (usB (l.drop p)) (huB (l.drop p)) (hoB (l.drop p)) (poB (l.drop p)) (hpB (l.drop p)) (haL (l.drop p)) (rsL (l.drop p))) := by
  have hw : IntKind.i64.wrap ((p : Int) + 2) = ((p + 2 : Nat) : Int) := wrp (k := 2) (by omega) (by omega)
  rw [seg_b (k := 1) (by decide) sp22e ha22e]
  show aexecB Tryz.prog (call' A41) (filt an22 0) n p22b _ _ (thenK (headK h22c fun e H => aexecB Tryz.prog (call' A41) (filt an22 0) n e22c e H (endOf Tryz.prog 23 [])) _) = _
  rw [hole_eq io22b hr22b]
  show aexecB Tryz.prog (call' A41) (filt an22 0) n (holeC p22b) _ _ (armK (headK h22c fun e H => aexecB Tryz.prog (call' A41) (filt an22 0) n r22b e H (KM fun e H => aexecB Tryz.prog (call' A41) (filt an22 0) n e22c e H (endOf Tryz.prog 23 []))) _) = _
  unfold E5 HX
  rw [uu22]
  simp only [sizeM]
  rw [hw, lez, natM, natM, mkS_ext]
  have e1 : p + 2 - p = 2 := by omega
  have e2 : (ByteArray.mk #[47, 47]) = mkS [47, 47] := rfl
  rw [e1, e2, toList_data, toList_data, mkS_data, mkS_data]
  have hno : haL (l.drop p) = false → (fun e H => aexecB Tryz.prog (call' A41) (filt an22 0) n e22c e H (endOf Tryz.prog 23 [])) (E5 l p) (HX a nB false nB nB false false) = fin22 (ok22 (usB (l.drop p)) (poB (l.drop p)) (hoB (l.drop p)) (haL (l.drop p)) (rsL (l.drop p))) (v22 a (usB (l.drop p)) (huB (l.drop p)) (hoB (l.drop p)) (poB (l.drop p)) (hpB (l.drop p)) (haL (l.drop p)) (rsL (l.drop p))) := by
    intro hA
    unfold E5 HX
    refine va22' l a nB nB nB false false false p n hl hp (by decide) (by decide) (by decide) _ ?_
    unfold ok22 v22 usB poB hoB huB hpB rsL
    rw [hA]
    simp only [Bool.false_eq_true, if_false, Bool.false_and]
  by_cases h2 : p + 2 ≤ l.length
  · have b1 : decide (((p + 2 : Nat) : Int) ≤ ((l.length : Nat) : Int)) = true := decide_eq_true (by omega)
    have b2 : decide ((p : Int) ≤ ((p + 2 : Nat) : Int)) = true := decide_eq_true (by omega)
    rw [b1, b2]
    simp only [bif_tt]
    have e3 : ((l.drop p).take 2 == ([47, 47] : List UInt8)) = haL (l.drop p) := by
      have hlen : 2 ≤ (l.drop p).length := by rw [List.length_drop]; omega
      unfold haL
      generalize l.drop p = r at hlen
      match r, hlen with
      | x :: y :: r, _ =>
        rw [Bool.eq_iff_iff]
        simp [List.isPrefixOf]
        constructor
        · rintro ⟨h1, h2⟩; exact ⟨h1.symm, h2.symm⟩
        · rintro ⟨h1, h2⟩; exact ⟨h1.symm, h2.symm⟩
    rw [e3]
    cases hA : haL (l.drop p) with
    | false =>
      rw [bif_ff]
      rw [hA] at hno
      exact hno rfl
    | true =>
      rw [bif_tt]
      refine (vq22 l a p n _ hl h2 hn).trans ?_
      have hle := findL_le [47, 63, 35] (l.drop (p + 2))
      rw [List.length_drop] at hle
      have e4 : (l.drop (p + 2)) = (l.drop p).drop 2 := by rw [List.drop_drop]
      have e5 : ((l.drop (p + 2)).take (findL [47, 63, 35] (l.drop (p + 2)))) = auL (l.drop p) := by unfold auL; rw [e4]
      have z : (mkS (auL (l.drop p))).size ≤ 2500 := by unfold auL; rw [sizeM, List.length_take, List.length_drop, List.length_drop]; omega
      have z1 := auUsr_sz (mkS (auL (l.drop p)))
      have z2 := auPort_sz (mkS (auL (l.drop p)))
      have z3 := auHost_sz (mkS (auL (l.drop p)))
      rw [e5]
      unfold E5 HX
      refine va22' l a _ _ _ _ _ true _ n hl (by omega) (by omega) (by omega) (by omega) _ ?_
      have e6 : l.drop (p + 2 + findL [47, 63, 35] (l.drop (p + 2))) = rsL (l.drop p) := by
        unfold rsL
        rw [hA, if_pos rfl, ← e4, List.drop_drop]
      rw [e6]
      unfold ok22 v22 usB poB hoB huB hpB
      rw [hA]
      simp only [if_true, Bool.true_and]
  · have b1 : decide (((p + 2 : Nat) : Int) ≤ ((l.length : Nat) : Int)) = false := decide_eq_false (by omega)
    rw [b1]
    simp only [bif_ff]
    refine hno ?_
    have hlen : (l.drop p).length < 2 := by rw [List.length_drop]; omega
    unfold haL
    generalize l.drop p = r at hlen
    match r, hlen with
    | [], _ => rfl
    | [x], _ => simp [List.isPrefixOf]
    | x :: y :: r, h => simp at h; omega

end Go.Pv

/- URLs: the document's Parse answers as url.Parse does. -/
namespace Go.Pv
set_option linter.unusedVariables false
set_option maxRecDepth 100000
set_option maxHeartbeats 100000
open Go Go.Proofs
variable {I : World → Prop} {ng : Nat}

/-! ### The scheme -/
theorem sch_in : ∀ n : Nat, n < 256 → inS schC (n : Int) = (decide ((97 : Int) ≤ (n : Int) ∧ (n : Int) ≤ 122 ∨ (65 : Int) ≤ (n : Int) ∧ (n : Int) ≤ 90) || (decide ((48 : Int) ≤ (n : Int) ∧ (n : Int) ≤ 57) || inS (ByteArray.mk #[43, 45, 46]) (n : Int))) := by decide +kernel
theorem let_in : ∀ n : Nat, n < 256 → inS letC (n : Int) = decide ((97 : Int) ≤ (n : Int) ∧ (n : Int) ≤ 122 ∨ (65 : Int) ≤ (n : Int) ∧ (n : Int) ≤ 90) := by decide +kernel
def E6 (l : List UInt8) (i : Nat) : Env := mkEnv 226 [(0, .c (.str (mkS l))), (2, .bptr 0 0), (4, .bptr 1 0), (6, .c (.int .i64 (i : Int)))]
def E67 (l : List UInt8) (i k : Nat) : Env := mkEnv 226 [(0, .c (.str (mkS l))), (2, .bptr 0 0), (4, .bptr 1 0), (6, .c (.int .i64 (i : Int))), (7, .c (.int .i64 (k : Int)))]
abbrev H0 : Hp := HX nB nB false nB nB false false
abbrev no22 : Res := some (.tup [zU nB false, .bool false], [])
noncomputable abbrev R10 (n j : Nat) (L M : Env → Hp → Res) (env : Env) (H : Hp) : Res := rounds Tryz.prog (call' A41) (filt an22 0) n hl10 (bodyN 0 q22a) j env H (restN Tryz.prog (call' A41) (filt an22 0) n 0 q22a (thenK (headK h22b L) (KM M)))
theorem lo10 (n : Nat) (l : List UInt8) (i : Nat) (L M : Env → Hp → Res) (hl : l.length ≤ 2500) (hi : i ≤ l.length) : ∀ (j k : Nat), i < j + k → k ≤ i →
    R10 n j L M (E67 l i k) H0 = if ((l.take i).drop k).all (fun c => inS schC c.toNat) = true then L (E6 l i) H0 else no22
  | 0, k, hj, hk => by omega
  | j + 1, k, hj, hk => by
    show aexec Tryz.prog (call' A41) (filt an22 0) n (bodyN 0 q22a) _ _ (thenK (headK hl10 fun env H => R10 n j L M env H) _) = _
    rw [E67, H0, HX, uc22]
    simp only [sizeM]
    rw [lez, natM, atM]
    have hw : IntKind.i64.wrap ((k : Int) + 1) = ((k + 1 : Nat) : Int) := wrp1 (by omega)
    rw [hw]
    by_cases h1 : k < i
    · have b1 : decide ((k : Int) < (i : Int)) = true := decide_eq_true (by omega)
      have b2 : decide ((k : Int) < ((l.length : Nat) : Int)) = true := decide_eq_true (by omega)
      have hd : (l.take i).drop k = l.getD k 0 :: (l.take i).drop (k + 1) := by
        rw [drop_getD (by rw [List.length_take]; omega)]
        congr 1
        simp [List.getD_eq_getElem?_getD, List.getElem?_take, h1]
      have ih := lo10 n l i L M hl hi j (k + 1) (by omega) (by omega)
      rw [b1, b2, hd, List.all_cons, sch_in _ (l.getD k 0).toNat_lt]
      simp only [bif_tt]
      generalize decide ((97 : Int) ≤ ((l.getD k 0).toNat : Int) ∧ ((l.getD k 0).toNat : Int) ≤ 122 ∨ (65 : Int) ≤ ((l.getD k 0).toNat : Int) ∧ ((l.getD k 0).toNat : Int) ≤ 90) = A
      generalize decide ((48 : Int) ≤ ((l.getD k 0).toNat : Int) ∧ ((l.getD k 0).toNat : Int) ≤ 57) = B
      generalize inS (ByteArray.mk #[43, 45, 46]) ((l.getD k 0).toNat : Int) = C
      cases A with
      | true => rw [Bool.true_or, Bool.true_and]; exact ih
      | false =>
        cases B with
        | true => rw [Bool.true_or, Bool.or_true, Bool.true_and]; exact ih
        | false =>
          cases C with
          | true => rw [Bool.or_true, Bool.or_true, Bool.true_and]; exact ih
          | false => rfl
    · have b1 : decide ((k : Int) < (i : Int)) = false := decide_eq_false (by omega)
      have hd : (l.take i).drop k = [] := List.drop_of_length_le (by rw [List.length_take]; omega)
      rw [b1, hd]
      rfl

theorem sp22p : spine 1 r22a = true := by kernel_rfl
theorem ha22p : headAt (filt an22 0) (tailC 1 r22a) = some h22b := by kernel_rfl
theorem sp22q : spine 1 (tailC 1 r22a) = true := by kernel_rfl
theorem ha22q : headAt (filt an22 0) (tailC 1 (tailC 1 r22a)) = some h22b := by kernel_rfl
theorem fo22q : tailC 1 (tailC 1 r22a) = tailC 2 r22a := eq_of_heq (heq_of_eq (by kernel_rfl))
theorem lp22a : isLoopPiece q22a = true := by kernel_rfl
theorem id22a : idsOk q22a = true := by kernel_rfl
theorem nl22a : nLoops q22a = 1 := by kernel_rfl
theorem hh22a : (firstRegion (bodyN 0 q22a)).bind (filt an22 0) = some hl10 := by kernel_rfl
theorem vm22 (l : List UInt8) (i n : Nat) (M : Env → Hp → Res) (hl : l.length ≤ 2500) (hi : i ≤ l.length) (hn : 3000 ≤ n) :
    aexecB Tryz.prog (call' A41) (filt an22 0) n (tailC 1 r22a) (E6 l i) H0 (KM M) = if (l.take i).all (fun c => inS schC c.toNat) = true then M (E5 l (i + 1)) (HX (mkS (l.take i)) nB false nB nB false false) else no22 := by
  rw [seg_b (k := 1) (by decide) sp22q ha22q]
  show aexecB Tryz.prog (call' A41) (filt an22 0) n q22a _ _ _ = _
  rw [loopB lp22a id22a nl22a hh22a]
  unfold E6 H0 HX
  rw [us22, fo22q]
  have h := lo10 n l i (fun e H => aexecB Tryz.prog (call' A41) (filt an22 0) n (tailC 2 r22a) e H (KM M)) M hl hi n 0 (by omega) (by omega)
  refine Eq.trans h ?_
  rw [List.drop_zero]
  split
  · unfold E6 H0 HX
    refine (ut22 ..).trans ?_
    have b2 : decide ((i : Int) ≤ ((l.length : Nat) : Int)) = true := decide_eq_true (by omega)
    have hw : IntKind.i64.wrap ((i : Int) + 1) = ((i + 1 : Nat) : Int) := wrp1 (by omega)
    rw [sizeM, lez, b2, hw, natM, toNat0, mkS_ext, List.drop_zero, Nat.sub_zero]
    rfl
  · rfl
theorem vn22 (l : List UInt8) (i n : Nat) (M : Env → Hp → Res) (hl : l.length ≤ 2500) (hi : i < l.length) (hn : 3000 ≤ n) :
    aexecB Tryz.prog (call' A41) (filt an22 0) n r22a (E6 l i) H0 (KM M) = if (!decide (i = 0) && (inS letC (l.getD 0 0).toNat && (l.take i).all (fun c => inS schC c.toNat))) = true then M (E5 l (i + 1)) (HX (mkS (l.take i)) nB false nB nB false false) else no22 := by
  rw [seg_b (k := 1) (by decide) sp22p ha22p]
  unfold E6 H0 HX
  rw [ur22]
  simp only [sizeM]
  have b2 : decide ((0 : Int) < ((l.length : Nat) : Int)) = true := decide_eq_true (by omega)
  rw [toNat0, atM, b2, let_in _ (l.getD 0 0).toNat_lt]
  have e0 : (((i : Nat) : Int) == 0) = decide (i = 0) := by
    rw [Bool.eq_iff_iff, beq_iff_eq, decide_eq_true_eq]; omega
  rw [e0]
  generalize decide ((97 : Int) ≤ ((l.getD 0 0).toNat : Int) ∧ ((l.getD 0 0).toNat : Int) ≤ 122 ∨ (65 : Int) ≤ ((l.getD 0 0).toNat : Int) ∧ ((l.getD 0 0).toNat : Int) ≤ 90) = A
  generalize decide (i = 0) = B
  cases B with
  | true => rfl
  | false =>
    cases A with
    | false => rfl
    | true =>
      rw [Bool.true_and]
      exact vm22 l i n M hl (by omega) hn

/-! ### All of it -/
theorem sp22x : spine 1 d22a = true := by kernel_rfl
theorem ha22x : headAt (filt an22 0) (tailC 1 d22a) = some h22c := by kernel_rfl
theorem io22a : isHole p22a = true := by kernel_rfl
theorem hr22a : headAt (filt an22 0) (lastArm p22a) = some h22b := by kernel_rfl
theorem sp22y : spine 5 c22 = true := by kernel_rfl
theorem ha22y : headAt (filt an22 0) (tailC 5 c22) = some h22a := by kernel_rfl
def hcL (l : List UInt8) : Bool := match l.drop (findL [58, 47, 63, 35] l) with
  | c :: _ => c == 58
  | [] => false
def scL (l : List UInt8) : Bool := !hcL l || (!decide (findL [58, 47, 63, 35] l = 0) && (inS letC (l.getD 0 0).toNat && (l.take (findL [58, 47, 63, 35] l)).all (fun c => inS schC c.toNat)))
def atL (l : List UInt8) : Nat := if hcL l then findL [58, 47, 63, 35] l + 1 else 0
def shL (l : List UInt8) : ByteArray := if hcL l then mkS (l.take (findL [58, 47, 63, 35] l)) else nB
def okR (r : List UInt8) : Bool := ok22 (usB r) (poB r) (hoB r) (haL r) (rsL r)
def vR (a : ByteArray) (r : List UInt8) : CV := v22 a (usB r) (huB r) (hoB r) (poB r) (hpB r) (haL r) (rsL r)
theorem hc_get (l : List UInt8) : hcL l = (decide (findL [58, 47, 63, 35] l < l.length) && (l.getD (findL [58, 47, 63, 35] l) 0 == 58)) := by
  unfold hcL
  by_cases h : findL [58, 47, 63, 35] l < l.length
  · rw [drop_getD h, decide_eq_true h, Bool.true_and]
  · rw [List.drop_of_length_le (by omega), decide_eq_false h, Bool.false_and]
theorem vz22 (l : List UInt8) (n : Nat) (hl : l.length ≤ 2500) (hn : 3000 ≤ n) :
    aexec Tryz.prog (call' A41) (filt an22 0) n c22 (envOf Tryz.prog 23 [.c (.str (mkS l))]) [] (endOf Tryz.prog 23 []) = fin22 (stS (mkS l) && (scL l && okR (l.drop (atL l)))) (vR (shL l) (l.drop (atL l))) := by
  rw [seg_a (k := 5) (by decide) sp22y ha22y]
  rw [up22]
  simp only [sizeM]
  have b3 : decide (l.length ≤ 10000) = true := decide_eq_true (by omega)
  have b9 : decide ((ByteArray.mk #[58, 47, 63, 35]).size ≤ 10000) = true := rfl
  have ee : (ByteArray.mk #[58, 47, 63, 35]) = mkS [58, 47, 63, 35] := rfl
  rw [b3, b9, lez, toNat0, ee, find0]
  rw [le00]
  cases hs : stS (mkS l) with
  | false => rfl
  | true =>
    simp only [Bool.not_true, Bool.and_self, bif_tt, bif_ff, Bool.true_and]
    show aexecB Tryz.prog (call' A41) (filt an22 0) n d22a _ _ _ = _
    rw [seg_b (k := 1) (by decide) sp22x ha22x]
    show aexecB Tryz.prog (call' A41) (filt an22 0) n p22a _ _ (thenK (headK h22c fun e H => aexecB Tryz.prog (call' A41) (filt an22 0) n d22b e H (endOf Tryz.prog 23 [])) _) = _
    rw [hole_eq io22a hr22a]
    refine (uq22 (mkS l) (findL [58, 47, 63, 35] l : Nat) n (fun e H => aexecB Tryz.prog (call' A41) (filt an22 0) n r22a e H (KM fun e H => aexecB Tryz.prog (call' A41) (filt an22 0) n d22b e H (endOf Tryz.prog 23 []))) (fun e H => aexecB Tryz.prog (call' A41) (filt an22 0) n d22b e H (endOf Tryz.prog 23 []))).trans ?_
    simp only [sizeM]
    rw [lez, natM, atM]
    have hno : hcL l = false → aexecB Tryz.prog (call' A41) (filt an22 0) n d22b (E5 l 0) H0 (endOf Tryz.prog 23 []) = fin22 (scL l && okR (l.drop (atL l))) (vR (shL l) (l.drop (atL l))) := by
      intro hc
      have := vp22 l nB 0 n hl (by omega) hn
      refine Eq.trans this ?_
      unfold scL okR vR shL atL
      rw [hc]
      simp only [Bool.not_false, Bool.true_or, Bool.true_and, Bool.false_eq_true, if_false]
    by_cases h : findL [58, 47, 63, 35] l < l.length
    · have b1 : decide (((findL [58, 47, 63, 35] l : Nat) : Int) < ((l.length : Nat) : Int)) = true := decide_eq_true (by omega)
      rw [b1]
      simp only [bif_tt]
      have e1 : (((l.getD (findL [58, 47, 63, 35] l) 0).toNat : Int) == 58) = hcL l := by
        rw [hc_get, decide_eq_true h, Bool.true_and, Bool.eq_iff_iff, beq_iff_eq, beq_iff_eq]
        constructor
        · intro hh
          have h2 : ((l.getD (findL [58, 47, 63, 35] l) 0).toNat : Int) = ((58 : UInt8).toNat : Int) := hh
          exact u8_int.1 h2
        · intro hh; rw [hh]; rfl
      rw [e1]
      cases hc : hcL l with
      | false =>
        rw [bif_ff]
        exact (hno hc)
      | true =>
        rw [bif_tt]
        refine (vn22 l (findL [58, 47, 63, 35] l) n _ hl h hn).trans ?_
        have hsc : scL l = (!decide (findL [58, 47, 63, 35] l = 0) && (inS letC (l.getD 0 0).toNat && (l.take (findL [58, 47, 63, 35] l)).all (fun c => inS schC c.toNat))) := by unfold scL; rw [hc]; rfl
        rw [← hsc]
        cases hq : scL l with
        | false => rfl
        | true =>
          rw [if_pos rfl, Bool.true_and]
          refine (vp22 l (mkS (l.take (findL [58, 47, 63, 35] l))) (findL [58, 47, 63, 35] l + 1) n hl (by omega) hn).trans ?_
          have ea : atL l = findL [58, 47, 63, 35] l + 1 := by unfold atL; rw [hc]; rfl
          have es : shL l = mkS (l.take (findL [58, 47, 63, 35] l)) := by unfold shL; rw [hc]; rfl
          rw [ea, es]
          unfold okR vR
          rfl
    · have b1 : decide (((findL [58, 47, 63, 35] l : Nat) : Int) < ((l.length : Nat) : Int)) = false := decide_eq_false (by omega)
      rw [b1, bif_ff]
      refine hno ?_
      rw [hc_get, decide_eq_false h, Bool.false_and]

end Go.Pv

/- URLs: one plain law for both ways of reading a URL. -/
namespace Go.Pv
set_option linter.unusedVariables false
set_option maxRecDepth 100000
set_option maxHeartbeats 100000
open Go Go.Proofs
variable {I : World → Prop} {ng : Nat}

/-! ### What is behind the authority -/
theorem in2 (b : UInt8) : inS (mkS [63, 35]) b.toNat = (decide (b = 63) || decide (b = 35)) := by
  rw [in_lit, Bool.eq_iff_iff]
  simp
theorem cut35 (l : List UInt8) : l.take (findL [35] l) = (l.takeWhile fun b => !decide (b = 35)) ∧ l.drop (findL [35] l) = l.dropWhile fun b => !decide (b = 35) := by
  rw [take_findL, drop_findL]
  have e : (fun b : UInt8 => !inS (mkS [35]) b.toNat) = fun b => !decide (b = 35) := by funext b; rw [in1]
  rw [e]; exact ⟨rfl, rfl⟩
def tl63 (t : List UInt8) : List UInt8 := (t.takeWhile fun b => !decide (b = 35))
theorem any_drop (q : UInt8 → Bool) : ∀ t : List UInt8, (t.any q) = !(t.dropWhile fun b => !q b).isEmpty
  | [] => rfl
  | b :: t => by
    rw [List.any_cons, List.dropWhile_cons]
    cases h : q b with
    | true => rfl
    | false => simpa using any_drop q t
theorem tail_eq : ∀ t : List UInt8,
    paL t = ((t.takeWhile fun b => !decide (b = 35)).takeWhile fun b => !decide (b = 63)) ∧
    hqL (deL t) = ((t.takeWhile fun b => !decide (b = 35)).any fun b => decide (b = 63)) ∧
    quL (deL t) = ((t.takeWhile fun b => !decide (b = 35)).dropWhile fun b => !decide (b = 63)).drop 1 ∧
    afL (deL t) = t.dropWhile fun b => !decide (b = 35)
  | [] => ⟨rfl, rfl, rfl, rfl⟩
  | c :: t => by
    have ih := tail_eq t
    by_cases h35 : c = 35
    · subst h35
      have e0 : findL [63, 35] (35 :: t) = 0 := by unfold findL; rw [in2]; rfl
      unfold paL deL
      rw [e0]
      simp [List.takeWhile_cons, List.dropWhile_cons, hqL, quL, afL]
    · by_cases h63 : c = 63
      · subst h63
        have e0 : findL [63, 35] (63 :: t) = 0 := by unfold findL; rw [in2]; rfl
        have hq : hqL (63 :: t) = true := rfl
        unfold paL deL quL afL
        rw [e0]
        simp only [List.drop_zero, hq, if_true, List.take_zero, List.drop_succ_cons]
        rw [(cut35 t).1, (cut35 t).2]
        simp [List.takeWhile_cons, List.dropWhile_cons]
      · have e0 : findL [63, 35] (c :: t) = findL [63, 35] t + 1 := by
          conv => lhs; unfold findL
          rw [in2, decide_eq_false h35, decide_eq_false h63]; rfl
        have e1 : paL (c :: t) = c :: paL t := by unfold paL; rw [e0]; rfl
        have e2 : deL (c :: t) = deL t := by unfold deL; rw [e0]; rfl
        rw [e1, e2, ih.1, ih.2.1, ih.2.2.1, ih.2.2.2]
        simp [List.takeWhile_cons, List.dropWhile_cons, h35, h63]
theorem brS_app (a b : ByteArray) : brS (a ++ b) = (brS a || brS b) := by
  unfold brS
  rw [← mkS_bl a, ← mkS_bl b, mkS_app, mkS_data, mkS_data, mkS_data, List.any_append]

/-! ### Both -/
theorem rAu_mk (r : List UInt8) : rAu (mkS r) = mkS (auL r) := by
  have e : rIn (mkS r) = mkS (r.drop 2) := by
    unfold rIn; rw [mkS_ext, sizeM, List.take_of_length_le (by simp)]
  have e2 : pD = mkS [47, 63, 35] := rfl
  unfold rAu auL
  rw [e, e2, find0, mkS_ext, List.drop_zero, Nat.sub_zero]
theorem rHA_mk (r : List UInt8) : rHA (mkS r) = haL r := rfl
theorem rAf_mk (r : List UInt8) : rAf (mkS r) = mkS (rsL r) := by
  have e : rIn (mkS r) = mkS (r.drop 2) := by
    unfold rIn; rw [mkS_ext, sizeM, List.take_of_length_le (by simp)]
  have e2 : pD = mkS [47, 63, 35] := rfl
  unfold rAf rsL
  rw [rHA_mk]
  split
  · rw [e, e2, find0, mkS_ext, sizeM, List.take_of_length_le (by simp only [List.length_drop]; omega)]
  · rfl
theorem dig_nB : digS nB = true := rfl
theorem br_nB : brS nB = false := rfl
theorem okR_eq (r : List UInt8) : okR r = (rOkU (mkS r) && tOk (mkS (rsL r))) := by
  obtain ⟨h1, h2, h3, h4⟩ := tail_eq (rsL r)
  unfold okR ok22 rOkU tOk tFr tPa tQu cutA cutB
  simp only [mkS_data]
  rw [h1, h3, h4, brS_app, brS_app, brS_app, brS_app, brS_app, rHA_mk, rAu_mk]
  generalize (((rsL r).dropWhile fun b => !decide (b = 35)).drop 1).any (fun b => decide (b = 35)) = F
  generalize brS (mkS (((rsL r).takeWhile fun b => !decide (b = 35)).takeWhile fun b => !decide (b = 63))) = G
  generalize brS (mkS ((((rsL r).takeWhile fun b => !decide (b = 35)).dropWhile fun b => !decide (b = 63)).drop 1)) = J
  generalize brS (mkS (((rsL r).dropWhile fun b => !decide (b = 35)).drop 1)) = M
  unfold usB poB hoB auOk
  cases hA : haL r with
  | true =>
    rw [if_pos rfl, if_pos rfl, if_pos rfl]
    generalize hostS (auHost (mkS (auL r))) = X
    generalize digS (auPort (mkS (auL r))) = Y
    generalize brS (auUsr (mkS (auL r))) = Z
    cases X <;> cases Y <;> cases Z <;> cases F <;> cases G <;> cases J <;> cases M <;> rfl
  | false =>
    rw [if_neg Bool.false_ne_true, if_neg Bool.false_ne_true, dig_nB, br_nB]
    cases F <;> cases G <;> cases J <;> cases M <;> rfl
theorem vR_eq (a : ByteArray) (r : List UInt8) : vR a r = uV2 a (mkS r) (mkS (rsL r)) := by
  obtain ⟨h1, h2, h3, h4⟩ := tail_eq (rsL r)
  have h5 := any_drop (fun b => decide (b = 35)) (rsL r)
  unfold vR v22 uV2 tFr tPa tQu tHQ tHF cutA cutB cutF
  simp only [mkS_data]
  rw [h1, h2, h3, h4, h5]
  unfold usB poB hoB huB hpB rUsr rHU rHost rPort rHP
  rw [rHA_mk, rAu_mk]
theorem uTl_mk (l : List UInt8) : uTl (mkS l) = mkS (l.drop (findL [58, 47, 63, 35] l)) := by
  have e : pC = mkS [58, 47, 63, 35] := rfl
  unfold uTl
  rw [e, find0, mkS_ext, sizeM, List.take_of_length_le (by simp)]
theorem uHd_mk (l : List UInt8) : uHd (mkS l) = mkS (l.take (findL [58, 47, 63, 35] l)) := by
  have e : pC = mkS [58, 47, 63, 35] := rfl
  unfold uHd
  rw [e, find0, mkS_ext, List.drop_zero, Nat.sub_zero]
theorem uHS_mk (l : List UInt8) : uHS (mkS l) = hcL l := by
  unfold uHS hcL
  rw [uTl_mk, toList_data, toList_data, mkS_data, mkS_at]
  cases l.drop (findL [58, 47, 63, 35] l) with
  | nil => rfl
  | cons c t =>
    have e : ((((c :: t).getD 0 0).toNat : Int) == 58) = (c == 58) := by
      rw [Bool.eq_iff_iff, beq_iff_eq, beq_iff_eq]
      constructor
      · intro hh
        have h2 : (c.toNat : Int) = ((58 : UInt8).toNat : Int) := hh
        exact u8_int.1 h2
      · intro hh; rw [hh]; rfl
    rw [e]; rfl
theorem uRst_mk (l : List UInt8) : uRst (mkS l) = mkS (l.drop (atL l)) := by
  unfold uRst atL
  rw [uHS_mk]
  cases hcL l with
  | true =>
    rw [if_pos rfl, if_pos rfl, uTl_mk, mkS_ext, sizeM, List.take_of_length_le (by simp only [List.length_drop]; omega), List.drop_drop]
  | false => rfl
theorem uSch_mk (l : List UInt8) : uSch (mkS l) = shL l := by
  unfold uSch shL
  rw [uHS_mk, uHd_mk]
theorem uSOk_mk (l : List UInt8) : uSOk (mkS l) = scL l := by
  unfold uSOk scL
  rw [uHS_mk, uHd_mk]
  cases hc : hcL l with
  | false => rfl
  | true =>
    rw [hc_get, Bool.and_eq_true, decide_eq_true_eq] at hc
    have hl := hc.1
    rw [toList_data, toList_data, mkS_data, mkS_ext, List.drop_zero, Nat.sub_zero]
    unfold allS
    rw [mkS_data, mkS_data]
    generalize findL [58, 47, 63, 35] l = f at hl
    cases f with
    | zero => rfl
    | succ f =>
      cases l with
      | nil => simp at hl
      | cons c t =>
        have e1 : (((c :: t).take (f + 1)) == (ByteArray.mk #[]).data.toList) = false := rfl
        have e2 : decide (f + 1 = 0) = false := rfl
        have e3 : ((c :: t).take (f + 1)).take 1 = [c] := rfl
        have e4 : (c :: t).getD 0 0 = c := rfl
        rw [e1, e2, e3, e4, List.all_cons, List.all_nil, Bool.and_true]
        generalize inS letC c.toNat = X
        generalize ((c :: t).take (f + 1)).all (fun c => inS schC c.toNat) = Y
        cases X <;> cases Y <;> rfl
theorem same22 (l : List UInt8) : (stS (mkS l) && (scL l && okR (l.drop (atL l)))) = uOk (mkS l) ∧ vR (shL l) (l.drop (atL l)) = uR (mkS l) := by
  unfold uOk uR
  rw [uSOk_mk, uRst_mk, uSch_mk, rAf_mk, okR_eq, vR_eq]
  refine ⟨?_, rfl⟩
  generalize stS (mkS l) = X
  generalize scL l = Y
  cases X <;> cases Y <;> rfl

def A22 : Table := fun g => if Nat.beq g 23 then L22 else A41 g
theorem g22 (hg : OnGlobals I ng) (h : Kw I ng A41) : Kw I ng A22 := known_add h (contract_of an22 hg (hok_of h) fun cargs rv outs h => by
  unfold L22 at h
  split at h <;> first | (cases h; done) | skip
  rename_i s
  by_cases hs : s.size ≤ 2500
  · refine ⟨3000, ?_⟩
    rw [abody_eq2 (ps := [.c (.str s)]) (H := []) rfl (by kernel_rfl)]
    obtain ⟨l, rfl⟩ : ∃ l, s = mkS l := ⟨_, (mkS_bl s).symm⟩
    have hz := vz22 l 3000 hs (Nat.le_refl _)
    rw [(same22 l).1, (same22 l).2] at hz
    refine Eq.trans hz ?_
    simp only [picked, pickAlt, decide_eq_true hs, Bool.true_and] at h
    unfold fin22
    cases hk : uOk (mkS l) with
    | true => rw [hk] at h; cases h; rfl
    | false => rw [hk] at h; cases h; rfl
  · simp only [picked, pickAlt, decide_eq_false hs, Bool.false_and] at h; cases h)

end Go.Pv

/- URLs: which texts may be hosts. -/
namespace Go.Pv
set_option linter.unusedVariables false
set_option maxRecDepth 100000
set_option maxHeartbeats 200000
open Go Go.Proofs
variable {I : World → Prop} {ng : Nat}

theorem g51 (hg : OnGlobals I ng) (h : Kw I ng A23) (h47 : Cw I ng 98 L47) (h51 : Cw I ng 67 L51) : Kw I ng A51 := known_add (g27 hg h h47) h51
theorem find_any (l : List UInt8) : (((findI (mkS l) 0 (ByteArray.mk #[58, 91, 93, 64]) : Nat) : Int) == ((l.length : Nat) : Int)) = !(l.any fun b => inS (ByteArray.mk #[58, 91, 93, 64]) b.toNat) := by
  have e : (ByteArray.mk #[58, 91, 93, 64]) = mkS [58, 91, 93, 64] := rfl
  rw [e, find0]
  have h1 := findL_lt [58, 91, 93, 64] l
  have h2 := findL_le [58, 91, 93, 64] l
  rw [← h1]
  by_cases h : findL [58, 91, 93, 64] l < l.length
  · rw [decide_eq_true h]
    refine Bool.eq_false_iff.2 fun hh => ?_
    have := eq_of_beq hh; omega
  · rw [decide_eq_false h]
    have : findL [58, 91, 93, 64] l = l.length := by omega
    rw [this]
    exact beq_iff_eq.2 rfl
theorem g41 (hg : OnGlobals I ng) (h : Kw I ng A23) (h47 : Cw I ng 98 L47) (h51 : Cw I ng 67 L51) : Kw I ng A41 := known_add (g51 hg h h47 h51) (contract_of (fun _ => none) hg (hok_of (g51 hg h h47 h51)) fun cargs rv outs h => by
  unfold L41 at h
  split at h <;> first | (cases h; done) | skip
  rename_i s
  by_cases hs : s.size ≤ 2500
  · simp only [picked, pickAlt, decide_eq_true hs] at h
    cases h
    refine ⟨1, ?_⟩
    obtain ⟨l, rfl⟩ : ∃ l, s = mkS l := ⟨_, (mkS_bl s).symm⟩
    rw [sizeM] at hs
    rw [ut41, sizeM]
    have b9 : decide ((ByteArray.mk #[58, 91, 93, 64]).size ≤ 10000) = true := rfl
    have t1 : Int.toNat 1 = 1 := rfl
    rw [toNat0, t1, b9, lez, decide_eq_true (show l.length ≤ 10000 by omega), le00, find_any]
    simp only [Bool.and_self, bT]
    unfold hostS
    rw [sizeM, mkS_data]
    by_cases h2 : 2 ≤ l.length
    · have hw : IntKind.i64.wrap (((l.length : Nat) : Int) - 1) = ((l.length - 1 : Nat) : Int) := by rw [wrap_id (by omega) (by omega)]; omega
      rw [hw, natM]
      rw [decide_eq_true (show ((l.length : Nat) : Int) ≥ 2 by omega), decide_eq_true (show (0 : Int) < ((l.length : Nat) : Int) by omega), decide_eq_true (show (0 : Int) ≤ ((l.length - 1 : Nat) : Int) by omega), decide_eq_true (show ((l.length - 1 : Nat) : Int) < ((l.length : Nat) : Int) by omega), decide_eq_true (show (1 : Int) ≤ ((l.length - 1 : Nat) : Int) by omega), decide_eq_true (show ((l.length - 1 : Nat) : Int) ≤ ((l.length : Nat) : Int) by omega), decide_eq_true h2]
      have hz : ((mkS l).extract 1 (l.length - 1)).size ≤ 3000 := by rw [ByteArray.size_extract, sizeM]; omega
      rw [decide_eq_true hz, atM, atM]
      simp only [bT, Bool.true_and]
      have p1 : preS (mkS l) ⟨#[91]⟩ = (((l.getD 0 0).toNat : Int) == 91) := by
        have : (((l.getD 0 0).toNat : Int) == 91) = (l.getD 0 0 == 91) := beq_by (l.getD 0 0) 91
        rw [this]
        unfold preS
        rw [mkS_data]
        cases l with
        | nil => simp at h2
        | cons a t =>
          show ([91] : List UInt8).isPrefixOf (a :: t) = (a == 91)
          rw [Bool.eq_iff_iff]
          simp [List.isPrefixOf]
          exact eq_comm
      have p2 : sufS (mkS l) ⟨#[93]⟩ = (((l.getD (l.length - 1) 0).toNat : Int) == 93) := by
        have : (((l.getD (l.length - 1) 0).toNat : Int) == 93) = (l.getD (l.length - 1) 0 == 93) := beq_by (l.getD (l.length - 1) 0) 93
        rw [this]
        unfold sufS
        rw [mkS_data]
        show ([93] : List UInt8).isSuffixOf l = _
        have hd : l.drop (l.length - 1) = [l.getD (l.length - 1) 0] := by
          rw [drop_getD (by omega), List.drop_of_length_le (by omega)]
        rw [Bool.eq_iff_iff, List.isSuffixOf_iff_suffix, List.suffix_iff_eq_drop, beq_iff_eq]
        have e1 : l.length - ([93] : List UInt8).length = l.length - 1 := rfl
        rw [e1, hd]
        constructor
        · intro h; simp at h; exact h.symm
        · intro h; rw [h]
      rw [p1, p2]
      generalize (((l.getD 0 0).toNat : Int) == 91) = A
      generalize (((l.getD (l.length - 1) 0).toNat : Int) == 93) = B
      generalize ip6 ((mkS l).extract 1 (l.length - 1)) = C
      generalize ip4 ((mkS l).extract 1 (l.length - 1)) = D
      generalize (l.any fun b => inS (ByteArray.mk #[58, 91, 93, 64]) b.toNat) = F
      cases A <;> cases B <;> cases C <;> cases D <;> cases F <;> rfl
    · rw [decide_eq_false (show ¬ ((l.length : Nat) : Int) ≥ 2 by omega), decide_eq_false h2, bF]
      simp only [Bool.false_and, Bool.false_eq_true, if_false]
  · simp only [picked, pickAlt, decide_eq_false hs] at h; cases h)

end Go.Pv

/- URLs: parts put together: trees. -/
namespace Go.Pv
set_option linter.unusedVariables false
set_option maxRecDepth 100000
open Go Go.Proofs

def kBu : Nat := 2 + 4294967296 * (63 + 1)
def gBu : Nat := 1099511627776 * (5 + 1)
noncomputable def c20 : Code := codeOf Tryz.prog 48
def h20 : Head := ⟨[1, 3, 4], [(1001001, 1)], 2⟩
def h20e : Head := ⟨[3], [(1001001, 1)], 2⟩
def an20 : Ann := fun i => if Nat.beq i 500003 then some h20 else if Nat.beq i 500004 then some h20 else if Nat.beq i 500005 then some h20 else if Nat.beq i 500006 then some h20 else if Nat.beq i 500007 then some h20 else if Nat.beq i 500008 then some h20 else if Nat.beq i 500009 then some h20 else if Nat.beq i 500010 then some h20 else if Nat.beq i 500011 then some h20e else none
noncomputable def hd20 : Handler := inls Tryz.prog (fun _ => none) 4 [75, 50, 51, 76] (call' A0)
def E20 : Env := mkEnv 58 [(1, .bptr 0 0), (3, .bptr 1 0), (4, .fn 75 [.bptr 1 0])]
def B0 (u : CV) : Hp := [.box (.c u) kU, .box (.c (.agg [.nilptr, .nilsl])) kBu]
def B1 (u : CV) : Hp := [.box (.c u) kU, .box (.agg [.bptr 1 0, .c .nilsl]) kBu]
def B2 (u : CV) (xs : List CV) : Hp := [.box (.c u) kU, .box (.agg [.bptr 1 0, .rw 2 gBu]) kBu, .row xs 1 gBu false]
theorem tg0 (sc us ho po pa qu fr : ByteArray) (hu hp ha hq hf : Bool) (n : Nat) (L : Env → Hp → Res) : aexec Tryz.prog hd20 (filt an20 0) n (prefC 3 c20) (envOf Tryz.prog 48 [.c (uV sc us hu ho po hp ha pa qu hq fr hf)]) [] (thenK (headK h20 L) (endOf Tryz.prog 48 [])) =
 L (mkEnv 58 [(1, PV.bptr 0 0), (3, PV.bptr 1 0), (4, PV.fn 75 [PV.bptr 1 0])]) [AO.box (PV.c (CV.agg [CV.str sc, CV.str us, CV.bool hu, CV.str ho, CV.str po, CV.bool hp, CV.bool ha, CV.str pa, CV.str qu, CV.bool hq, CV.str fr, CV.bool hf])) (kOf (uV sc us hu ho po hp ha pa qu hq fr hf).cl.length 26), AO.box (PV.c (CV.agg [CV.nilptr, CV.nilsl])) kBu] := by kernel_rfl
theorem tg3a (sc us ho po pa qu fr : ByteArray) (hu hp ha hq hf : Bool) (n : Nat) (L : Env → Hp → Res) : aexecB Tryz.prog hd20 (filt an20 0) n (prefC 1 (tailC 3 c20)) E20 (B0 (uV sc us hu ho po hp ha pa qu hq fr hf)) (thenK (headK h20 L) (endOf Tryz.prog 48 [])) =
 bif' (!sc.toList == (ByteArray.mk #[]).toList) (bif' (decide ((strBytes sc).length * 1 ≤ 70368744177664)) (bif' (strBytes sc).isEmpty (bif' (!sc.toList == (ByteArray.mk #[]).toList) (L (mkEnv 58 [(1, PV.bptr 0 0), (3, PV.bptr 1 0), (4, PV.fn 75 [PV.bptr 1 0])]) [AO.box (PV.c (CV.agg [CV.str sc, CV.str us, CV.bool hu, CV.str ho, CV.str po, CV.bool hp, CV.bool ha, CV.str pa, CV.str qu, CV.bool hq, CV.str fr, CV.bool hf])) kU, AO.box (PV.agg [PV.bptr 1 0, PV.rw 2 6597069766656]) kBu, AO.row [CV.int IntKind.u8 (Int.ofNat 58)] 1 6597069766656 false]) (L (mkEnv 58 [(1, PV.bptr 0 0), (3, PV.bptr 1 0), (4, PV.fn 75 [PV.bptr 1 0])]) [AO.box (PV.c (CV.agg [CV.str sc, CV.str us, CV.bool hu, CV.str ho, CV.str po, CV.bool hp, CV.bool ha, CV.str pa, CV.str qu, CV.bool hq, CV.str fr, CV.bool hf])) kU, AO.box (PV.agg [PV.bptr 1 0, PV.c CV.nilsl]) kBu])) (bif' (!sc.toList == (ByteArray.mk #[]).toList) (bif' (decide (((strBytes sc).length + 1) * 1 ≤ 70368744177664)) (L (mkEnv 58 [(1, PV.bptr 0 0), (3, PV.bptr 1 0), (4, PV.fn 75 [PV.bptr 1 0])]) [AO.box (PV.c (CV.agg [CV.str sc, CV.str us, CV.bool hu, CV.str ho, CV.str po, CV.bool hp, CV.bool ha, CV.str pa, CV.str qu, CV.bool hq, CV.str fr, CV.bool hf])) kU, AO.box (PV.agg [PV.bptr 1 0, PV.rw 2 6597069766656]) kBu, AO.row (strBytes sc ++ strBytes (ByteArray.mk #[58])) 1 6597069766656 false]) none) (L (mkEnv 58 [(1, PV.bptr 0 0), (3, PV.bptr 1 0), (4, PV.fn 75 [PV.bptr 1 0])]) [AO.box (PV.c (CV.agg [CV.str sc, CV.str us, CV.bool hu, CV.str ho, CV.str po, CV.bool hp, CV.bool ha, CV.str pa, CV.str qu, CV.bool hq, CV.str fr, CV.bool hf])) kU, AO.box (PV.agg [PV.bptr 1 0, PV.rw 2 6597069766656]) kBu, AO.row (strBytes sc) 1 6597069766656 false]))) none) (bif' (!sc.toList == (ByteArray.mk #[]).toList) (L (mkEnv 58 [(1, PV.bptr 0 0), (3, PV.bptr 1 0), (4, PV.fn 75 [PV.bptr 1 0])]) [AO.box (PV.c (CV.agg [CV.str sc, CV.str us, CV.bool hu, CV.str ho, CV.str po, CV.bool hp, CV.bool ha, CV.str pa, CV.str qu, CV.bool hq, CV.str fr, CV.bool hf])) kU, AO.box (PV.agg [PV.bptr 1 0, PV.rw 2 6597069766656]) kBu, AO.row [CV.int IntKind.u8 (Int.ofNat 58)] 1 6597069766656 false]) (L (mkEnv 58 [(1, PV.bptr 0 0), (3, PV.bptr 1 0), (4, PV.fn 75 [PV.bptr 1 0])]) [AO.box (PV.c (CV.agg [CV.str sc, CV.str us, CV.bool hu, CV.str ho, CV.str po, CV.bool hp, CV.bool ha, CV.str pa, CV.str qu, CV.bool hq, CV.str fr, CV.bool hf])) kU, AO.box (PV.c (CV.agg [CV.nilptr, CV.nilsl])) kBu])) := by kernel_rfl
theorem tg4a (sc us ho po pa qu fr : ByteArray) (hu hp ha hq hf : Bool) (n : Nat) (L : Env → Hp → Res) : aexecB Tryz.prog hd20 (filt an20 0) n (prefC 1 (tailC 4 c20)) E20 (B0 (uV sc us hu ho po hp ha pa qu hq fr hf)) (thenK (headK h20 L) (endOf Tryz.prog 48 [])) =
 bif' ha (L (mkEnv 58 [(1, PV.bptr 0 0), (3, PV.bptr 1 0), (4, PV.fn 75 [PV.bptr 1 0])]) [AO.box (PV.c (CV.agg [CV.str sc, CV.str us, CV.bool hu, CV.str ho, CV.str po, CV.bool hp, CV.bool ha, CV.str pa, CV.str qu, CV.bool hq, CV.str fr, CV.bool hf])) kU, AO.box (PV.agg [PV.bptr 1 0, PV.rw 2 6597069766656]) kBu, AO.row [CV.int IntKind.u8 (Int.ofNat 47), CV.int IntKind.u8 (Int.ofNat 47)] 1 6597069766656 false]) (L (mkEnv 58 [(1, PV.bptr 0 0), (3, PV.bptr 1 0), (4, PV.fn 75 [PV.bptr 1 0])]) [AO.box (PV.c (CV.agg [CV.str sc, CV.str us, CV.bool hu, CV.str ho, CV.str po, CV.bool hp, CV.bool ha, CV.str pa, CV.str qu, CV.bool hq, CV.str fr, CV.bool hf])) kU, AO.box (PV.c (CV.agg [CV.nilptr, CV.nilsl])) kBu]) := by kernel_rfl
theorem tg4b (sc us ho po pa qu fr : ByteArray) (hu hp ha hq hf : Bool) (n : Nat) (L : Env → Hp → Res) : aexecB Tryz.prog hd20 (filt an20 0) n (prefC 1 (tailC 4 c20)) E20 (B1 (uV sc us hu ho po hp ha pa qu hq fr hf)) (thenK (headK h20 L) (endOf Tryz.prog 48 [])) =
 bif' ha (L (mkEnv 58 [(1, PV.bptr 0 0), (3, PV.bptr 1 0), (4, PV.fn 75 [PV.bptr 1 0])]) [AO.box (PV.c (CV.agg [CV.str sc, CV.str us, CV.bool hu, CV.str ho, CV.str po, CV.bool hp, CV.bool ha, CV.str pa, CV.str qu, CV.bool hq, CV.str fr, CV.bool hf])) kU, AO.box (PV.agg [PV.bptr 1 0, PV.rw 2 6597069766656]) kBu, AO.row [CV.int IntKind.u8 (Int.ofNat 47), CV.int IntKind.u8 (Int.ofNat 47)] 1 6597069766656 false]) (L (mkEnv 58 [(1, PV.bptr 0 0), (3, PV.bptr 1 0), (4, PV.fn 75 [PV.bptr 1 0])]) [AO.box (PV.c (CV.agg [CV.str sc, CV.str us, CV.bool hu, CV.str ho, CV.str po, CV.bool hp, CV.bool ha, CV.str pa, CV.str qu, CV.bool hq, CV.str fr, CV.bool hf])) kU, AO.box (PV.agg [PV.bptr 1 0, PV.c CV.nilsl]) kBu]) := by kernel_rfl
theorem tg4c (sc us ho po pa qu fr : ByteArray) (hu hp ha hq hf : Bool) (xs : List CV) (n : Nat) (L : Env → Hp → Res) : aexecB Tryz.prog hd20 (filt an20 0) n (prefC 1 (tailC 4 c20)) E20 (B2 (uV sc us hu ho po hp ha pa qu hq fr hf) xs) (thenK (headK h20 L) (endOf Tryz.prog 48 [])) =
 bif' ha (bif' (decide ((xs.length + 2) * 1 ≤ 70368744177664)) (L (mkEnv 58 [(1, PV.bptr 0 0), (3, PV.bptr 1 0), (4, PV.fn 75 [PV.bptr 1 0])]) [AO.box (PV.c (CV.agg [CV.str sc, CV.str us, CV.bool hu, CV.str ho, CV.str po, CV.bool hp, CV.bool ha, CV.str pa, CV.str qu, CV.bool hq, CV.str fr, CV.bool hf])) kU, AO.box (PV.agg [PV.bptr 1 0, PV.rw 2 6597069766656]) kBu, AO.row (xs ++ strBytes (ByteArray.mk #[47, 47])) 1 6597069766656 false]) none) (L (mkEnv 58 [(1, PV.bptr 0 0), (3, PV.bptr 1 0), (4, PV.fn 75 [PV.bptr 1 0])]) [AO.box (PV.c (CV.agg [CV.str sc, CV.str us, CV.bool hu, CV.str ho, CV.str po, CV.bool hp, CV.bool ha, CV.str pa, CV.str qu, CV.bool hq, CV.str fr, CV.bool hf])) kU, AO.box (PV.agg [PV.bptr 1 0, PV.rw 2 6597069766656]) kBu, AO.row xs 1 6597069766656 false]) := by kernel_rfl
theorem tg5a (sc us ho po pa qu fr : ByteArray) (hu hp ha hq hf : Bool) (n : Nat) (L : Env → Hp → Res) : aexecB Tryz.prog hd20 (filt an20 0) n (prefC 1 (tailC 5 c20)) E20 (B0 (uV sc us hu ho po hp ha pa qu hq fr hf)) (thenK (headK h20 L) (endOf Tryz.prog 48 [])) =
 bif' hu (bif' (decide ((strBytes us).length * 1 ≤ 70368744177664)) (bif' (strBytes us).isEmpty (bif' hu (L (mkEnv 58 [(1, PV.bptr 0 0), (3, PV.bptr 1 0), (4, PV.fn 75 [PV.bptr 1 0])]) [AO.box (PV.c (CV.agg [CV.str sc, CV.str us, CV.bool hu, CV.str ho, CV.str po, CV.bool hp, CV.bool ha, CV.str pa, CV.str qu, CV.bool hq, CV.str fr, CV.bool hf])) kU, AO.box (PV.agg [PV.bptr 1 0, PV.rw 2 6597069766656]) kBu, AO.row [CV.int IntKind.u8 (Int.ofNat 64)] 1 6597069766656 false]) (L (mkEnv 58 [(1, PV.bptr 0 0), (3, PV.bptr 1 0), (4, PV.fn 75 [PV.bptr 1 0])]) [AO.box (PV.c (CV.agg [CV.str sc, CV.str us, CV.bool hu, CV.str ho, CV.str po, CV.bool hp, CV.bool ha, CV.str pa, CV.str qu, CV.bool hq, CV.str fr, CV.bool hf])) kU, AO.box (PV.agg [PV.bptr 1 0, PV.c CV.nilsl]) kBu])) (bif' hu (bif' (decide (((strBytes us).length + 1) * 1 ≤ 70368744177664)) (L (mkEnv 58 [(1, PV.bptr 0 0), (3, PV.bptr 1 0), (4, PV.fn 75 [PV.bptr 1 0])]) [AO.box (PV.c (CV.agg [CV.str sc, CV.str us, CV.bool hu, CV.str ho, CV.str po, CV.bool hp, CV.bool ha, CV.str pa, CV.str qu, CV.bool hq, CV.str fr, CV.bool hf])) kU, AO.box (PV.agg [PV.bptr 1 0, PV.rw 2 6597069766656]) kBu, AO.row (strBytes us ++ strBytes (ByteArray.mk #[64])) 1 6597069766656 false]) none) (L (mkEnv 58 [(1, PV.bptr 0 0), (3, PV.bptr 1 0), (4, PV.fn 75 [PV.bptr 1 0])]) [AO.box (PV.c (CV.agg [CV.str sc, CV.str us, CV.bool hu, CV.str ho, CV.str po, CV.bool hp, CV.bool ha, CV.str pa, CV.str qu, CV.bool hq, CV.str fr, CV.bool hf])) kU, AO.box (PV.agg [PV.bptr 1 0, PV.rw 2 6597069766656]) kBu, AO.row (strBytes us) 1 6597069766656 false]))) none) (bif' hu (L (mkEnv 58 [(1, PV.bptr 0 0), (3, PV.bptr 1 0), (4, PV.fn 75 [PV.bptr 1 0])]) [AO.box (PV.c (CV.agg [CV.str sc, CV.str us, CV.bool hu, CV.str ho, CV.str po, CV.bool hp, CV.bool ha, CV.str pa, CV.str qu, CV.bool hq, CV.str fr, CV.bool hf])) kU, AO.box (PV.agg [PV.bptr 1 0, PV.rw 2 6597069766656]) kBu, AO.row [CV.int IntKind.u8 (Int.ofNat 64)] 1 6597069766656 false]) (L (mkEnv 58 [(1, PV.bptr 0 0), (3, PV.bptr 1 0), (4, PV.fn 75 [PV.bptr 1 0])]) [AO.box (PV.c (CV.agg [CV.str sc, CV.str us, CV.bool hu, CV.str ho, CV.str po, CV.bool hp, CV.bool ha, CV.str pa, CV.str qu, CV.bool hq, CV.str fr, CV.bool hf])) kU, AO.box (PV.c (CV.agg [CV.nilptr, CV.nilsl])) kBu])) := by kernel_rfl
theorem tg5b (sc us ho po pa qu fr : ByteArray) (hu hp ha hq hf : Bool) (n : Nat) (L : Env → Hp → Res) : aexecB Tryz.prog hd20 (filt an20 0) n (prefC 1 (tailC 5 c20)) E20 (B1 (uV sc us hu ho po hp ha pa qu hq fr hf)) (thenK (headK h20 L) (endOf Tryz.prog 48 [])) =
 bif' hu (bif' (decide ((strBytes us).length * 1 ≤ 70368744177664)) (bif' (strBytes us).isEmpty (bif' hu (L (mkEnv 58 [(1, PV.bptr 0 0), (3, PV.bptr 1 0), (4, PV.fn 75 [PV.bptr 1 0])]) [AO.box (PV.c (CV.agg [CV.str sc, CV.str us, CV.bool hu, CV.str ho, CV.str po, CV.bool hp, CV.bool ha, CV.str pa, CV.str qu, CV.bool hq, CV.str fr, CV.bool hf])) kU, AO.box (PV.agg [PV.bptr 1 0, PV.rw 2 6597069766656]) kBu, AO.row [CV.int IntKind.u8 (Int.ofNat 64)] 1 6597069766656 false]) (L (mkEnv 58 [(1, PV.bptr 0 0), (3, PV.bptr 1 0), (4, PV.fn 75 [PV.bptr 1 0])]) [AO.box (PV.c (CV.agg [CV.str sc, CV.str us, CV.bool hu, CV.str ho, CV.str po, CV.bool hp, CV.bool ha, CV.str pa, CV.str qu, CV.bool hq, CV.str fr, CV.bool hf])) kU, AO.box (PV.agg [PV.bptr 1 0, PV.c CV.nilsl]) kBu])) (bif' hu (bif' (decide (((strBytes us).length + 1) * 1 ≤ 70368744177664)) (L (mkEnv 58 [(1, PV.bptr 0 0), (3, PV.bptr 1 0), (4, PV.fn 75 [PV.bptr 1 0])]) [AO.box (PV.c (CV.agg [CV.str sc, CV.str us, CV.bool hu, CV.str ho, CV.str po, CV.bool hp, CV.bool ha, CV.str pa, CV.str qu, CV.bool hq, CV.str fr, CV.bool hf])) kU, AO.box (PV.agg [PV.bptr 1 0, PV.rw 2 6597069766656]) kBu, AO.row (strBytes us ++ strBytes (ByteArray.mk #[64])) 1 6597069766656 false]) none) (L (mkEnv 58 [(1, PV.bptr 0 0), (3, PV.bptr 1 0), (4, PV.fn 75 [PV.bptr 1 0])]) [AO.box (PV.c (CV.agg [CV.str sc, CV.str us, CV.bool hu, CV.str ho, CV.str po, CV.bool hp, CV.bool ha, CV.str pa, CV.str qu, CV.bool hq, CV.str fr, CV.bool hf])) kU, AO.box (PV.agg [PV.bptr 1 0, PV.rw 2 6597069766656]) kBu, AO.row (strBytes us) 1 6597069766656 false]))) none) (bif' hu (L (mkEnv 58 [(1, PV.bptr 0 0), (3, PV.bptr 1 0), (4, PV.fn 75 [PV.bptr 1 0])]) [AO.box (PV.c (CV.agg [CV.str sc, CV.str us, CV.bool hu, CV.str ho, CV.str po, CV.bool hp, CV.bool ha, CV.str pa, CV.str qu, CV.bool hq, CV.str fr, CV.bool hf])) kU, AO.box (PV.agg [PV.bptr 1 0, PV.rw 2 6597069766656]) kBu, AO.row [CV.int IntKind.u8 (Int.ofNat 64)] 1 6597069766656 false]) (L (mkEnv 58 [(1, PV.bptr 0 0), (3, PV.bptr 1 0), (4, PV.fn 75 [PV.bptr 1 0])]) [AO.box (PV.c (CV.agg [CV.str sc, CV.str us, CV.bool hu, CV.str ho, CV.str po, CV.bool hp, CV.bool ha, CV.str pa, CV.str qu, CV.bool hq, CV.str fr, CV.bool hf])) kU, AO.box (PV.agg [PV.bptr 1 0, PV.c CV.nilsl]) kBu])) := by kernel_rfl
theorem tg5c (sc us ho po pa qu fr : ByteArray) (hu hp ha hq hf : Bool) (xs : List CV) (n : Nat) (L : Env → Hp → Res) : aexecB Tryz.prog hd20 (filt an20 0) n (prefC 1 (tailC 5 c20)) E20 (B2 (uV sc us hu ho po hp ha pa qu hq fr hf) xs) (thenK (headK h20 L) (endOf Tryz.prog 48 [])) =
 bif' hu (bif' (decide ((xs.length + (strBytes us).length) * 1 ≤ 70368744177664)) (bif' hu (bif' (decide (((xs ++ strBytes us).length + 1) * 1 ≤ 70368744177664)) (L (mkEnv 58 [(1, PV.bptr 0 0), (3, PV.bptr 1 0), (4, PV.fn 75 [PV.bptr 1 0])]) [AO.box (PV.c (CV.agg [CV.str sc, CV.str us, CV.bool hu, CV.str ho, CV.str po, CV.bool hp, CV.bool ha, CV.str pa, CV.str qu, CV.bool hq, CV.str fr, CV.bool hf])) kU, AO.box (PV.agg [PV.bptr 1 0, PV.rw 2 6597069766656]) kBu, AO.row (xs ++ strBytes us ++ strBytes (ByteArray.mk #[64])) 1 6597069766656 false]) none) (L (mkEnv 58 [(1, PV.bptr 0 0), (3, PV.bptr 1 0), (4, PV.fn 75 [PV.bptr 1 0])]) [AO.box (PV.c (CV.agg [CV.str sc, CV.str us, CV.bool hu, CV.str ho, CV.str po, CV.bool hp, CV.bool ha, CV.str pa, CV.str qu, CV.bool hq, CV.str fr, CV.bool hf])) kU, AO.box (PV.agg [PV.bptr 1 0, PV.rw 2 6597069766656]) kBu, AO.row (xs ++ strBytes us) 1 6597069766656 false])) none) (bif' hu (bif' (decide ((xs.length + 1) * 1 ≤ 70368744177664)) (L (mkEnv 58 [(1, PV.bptr 0 0), (3, PV.bptr 1 0), (4, PV.fn 75 [PV.bptr 1 0])]) [AO.box (PV.c (CV.agg [CV.str sc, CV.str us, CV.bool hu, CV.str ho, CV.str po, CV.bool hp, CV.bool ha, CV.str pa, CV.str qu, CV.bool hq, CV.str fr, CV.bool hf])) kU, AO.box (PV.agg [PV.bptr 1 0, PV.rw 2 6597069766656]) kBu, AO.row (xs ++ strBytes (ByteArray.mk #[64])) 1 6597069766656 false]) none) (L (mkEnv 58 [(1, PV.bptr 0 0), (3, PV.bptr 1 0), (4, PV.fn 75 [PV.bptr 1 0])]) [AO.box (PV.c (CV.agg [CV.str sc, CV.str us, CV.bool hu, CV.str ho, CV.str po, CV.bool hp, CV.bool ha, CV.str pa, CV.str qu, CV.bool hq, CV.str fr, CV.bool hf])) kU, AO.box (PV.agg [PV.bptr 1 0, PV.rw 2 6597069766656]) kBu, AO.row xs 1 6597069766656 false])) := by kernel_rfl
theorem tg6a (sc us ho po pa qu fr : ByteArray) (hu hp ha hq hf : Bool) (n : Nat) (L : Env → Hp → Res) : aexecB Tryz.prog hd20 (filt an20 0) n (prefC 1 (tailC 6 c20)) E20 (B0 (uV sc us hu ho po hp ha pa qu hq fr hf)) (thenK (headK h20 L) (endOf Tryz.prog 48 [])) =
 bif' (decide ((strBytes ho).length * 1 ≤ 70368744177664)) (bif' (strBytes ho).isEmpty (L (mkEnv 58 [(1, PV.bptr 0 0), (3, PV.bptr 1 0), (4, PV.fn 75 [PV.bptr 1 0])]) [AO.box (PV.c (CV.agg [CV.str sc, CV.str us, CV.bool hu, CV.str ho, CV.str po, CV.bool hp, CV.bool ha, CV.str pa, CV.str qu, CV.bool hq, CV.str fr, CV.bool hf])) kU, AO.box (PV.agg [PV.bptr 1 0, PV.c CV.nilsl]) kBu]) (L (mkEnv 58 [(1, PV.bptr 0 0), (3, PV.bptr 1 0), (4, PV.fn 75 [PV.bptr 1 0])]) [AO.box (PV.c (CV.agg [CV.str sc, CV.str us, CV.bool hu, CV.str ho, CV.str po, CV.bool hp, CV.bool ha, CV.str pa, CV.str qu, CV.bool hq, CV.str fr, CV.bool hf])) kU, AO.box (PV.agg [PV.bptr 1 0, PV.rw 2 6597069766656]) kBu, AO.row (strBytes ho) 1 6597069766656 false])) none := by kernel_rfl
theorem tg6b (sc us ho po pa qu fr : ByteArray) (hu hp ha hq hf : Bool) (n : Nat) (L : Env → Hp → Res) : aexecB Tryz.prog hd20 (filt an20 0) n (prefC 1 (tailC 6 c20)) E20 (B1 (uV sc us hu ho po hp ha pa qu hq fr hf)) (thenK (headK h20 L) (endOf Tryz.prog 48 [])) =
 bif' (decide ((strBytes ho).length * 1 ≤ 70368744177664)) (bif' (strBytes ho).isEmpty (L (mkEnv 58 [(1, PV.bptr 0 0), (3, PV.bptr 1 0), (4, PV.fn 75 [PV.bptr 1 0])]) [AO.box (PV.c (CV.agg [CV.str sc, CV.str us, CV.bool hu, CV.str ho, CV.str po, CV.bool hp, CV.bool ha, CV.str pa, CV.str qu, CV.bool hq, CV.str fr, CV.bool hf])) kU, AO.box (PV.agg [PV.bptr 1 0, PV.c CV.nilsl]) kBu]) (L (mkEnv 58 [(1, PV.bptr 0 0), (3, PV.bptr 1 0), (4, PV.fn 75 [PV.bptr 1 0])]) [AO.box (PV.c (CV.agg [CV.str sc, CV.str us, CV.bool hu, CV.str ho, CV.str po, CV.bool hp, CV.bool ha, CV.str pa, CV.str qu, CV.bool hq, CV.str fr, CV.bool hf])) kU, AO.box (PV.agg [PV.bptr 1 0, PV.rw 2 6597069766656]) kBu, AO.row (strBytes ho) 1 6597069766656 false])) none := by kernel_rfl
theorem tg6c (sc us ho po pa qu fr : ByteArray) (hu hp ha hq hf : Bool) (xs : List CV) (n : Nat) (L : Env → Hp → Res) : aexecB Tryz.prog hd20 (filt an20 0) n (prefC 1 (tailC 6 c20)) E20 (B2 (uV sc us hu ho po hp ha pa qu hq fr hf) xs) (thenK (headK h20 L) (endOf Tryz.prog 48 [])) =
 bif' (decide ((xs.length + (strBytes ho).length) * 1 ≤ 70368744177664)) (L (mkEnv 58 [(1, PV.bptr 0 0), (3, PV.bptr 1 0), (4, PV.fn 75 [PV.bptr 1 0])]) [AO.box (PV.c (CV.agg [CV.str sc, CV.str us, CV.bool hu, CV.str ho, CV.str po, CV.bool hp, CV.bool ha, CV.str pa, CV.str qu, CV.bool hq, CV.str fr, CV.bool hf])) kU, AO.box (PV.agg [PV.bptr 1 0, PV.rw 2 6597069766656]) kBu, AO.row (xs ++ strBytes ho) 1 6597069766656 false]) none := by kernel_rfl
theorem tg7b (sc us ho po pa qu fr : ByteArray) (hu hp ha hq hf : Bool) (n : Nat) (L : Env → Hp → Res) : aexecB Tryz.prog hd20 (filt an20 0) n (prefC 1 (tailC 7 c20)) E20 (B1 (uV sc us hu ho po hp ha pa qu hq fr hf)) (thenK (headK h20 L) (endOf Tryz.prog 48 [])) =
 bif' hp (bif' hp (bif' (decide ((1 + (strBytes po).length) * 1 ≤ 70368744177664)) (L (mkEnv 58 [(1, PV.bptr 0 0), (3, PV.bptr 1 0), (4, PV.fn 75 [PV.bptr 1 0])]) [AO.box (PV.c (CV.agg [CV.str sc, CV.str us, CV.bool hu, CV.str ho, CV.str po, CV.bool hp, CV.bool ha, CV.str pa, CV.str qu, CV.bool hq, CV.str fr, CV.bool hf])) kU, AO.box (PV.agg [PV.bptr 1 0, PV.rw 2 6597069766656]) kBu, AO.row (CV.int IntKind.u8 (Int.ofNat 58) :: strBytes po) 1 6597069766656 false]) none) (L (mkEnv 58 [(1, PV.bptr 0 0), (3, PV.bptr 1 0), (4, PV.fn 75 [PV.bptr 1 0])]) [AO.box (PV.c (CV.agg [CV.str sc, CV.str us, CV.bool hu, CV.str ho, CV.str po, CV.bool hp, CV.bool ha, CV.str pa, CV.str qu, CV.bool hq, CV.str fr, CV.bool hf])) kU, AO.box (PV.agg [PV.bptr 1 0, PV.rw 2 6597069766656]) kBu, AO.row [CV.int IntKind.u8 (Int.ofNat 58)] 1 6597069766656 false])) (bif' hp (bif' (decide ((strBytes po).length * 1 ≤ 70368744177664)) (bif' (strBytes po).isEmpty (L (mkEnv 58 [(1, PV.bptr 0 0), (3, PV.bptr 1 0), (4, PV.fn 75 [PV.bptr 1 0])]) [AO.box (PV.c (CV.agg [CV.str sc, CV.str us, CV.bool hu, CV.str ho, CV.str po, CV.bool hp, CV.bool ha, CV.str pa, CV.str qu, CV.bool hq, CV.str fr, CV.bool hf])) kU, AO.box (PV.agg [PV.bptr 1 0, PV.c CV.nilsl]) kBu]) (L (mkEnv 58 [(1, PV.bptr 0 0), (3, PV.bptr 1 0), (4, PV.fn 75 [PV.bptr 1 0])]) [AO.box (PV.c (CV.agg [CV.str sc, CV.str us, CV.bool hu, CV.str ho, CV.str po, CV.bool hp, CV.bool ha, CV.str pa, CV.str qu, CV.bool hq, CV.str fr, CV.bool hf])) kU, AO.box (PV.agg [PV.bptr 1 0, PV.rw 2 6597069766656]) kBu, AO.row (strBytes po) 1 6597069766656 false])) none) (L (mkEnv 58 [(1, PV.bptr 0 0), (3, PV.bptr 1 0), (4, PV.fn 75 [PV.bptr 1 0])]) [AO.box (PV.c (CV.agg [CV.str sc, CV.str us, CV.bool hu, CV.str ho, CV.str po, CV.bool hp, CV.bool ha, CV.str pa, CV.str qu, CV.bool hq, CV.str fr, CV.bool hf])) kU, AO.box (PV.agg [PV.bptr 1 0, PV.c CV.nilsl]) kBu])) := by kernel_rfl
theorem tg7c (sc us ho po pa qu fr : ByteArray) (hu hp ha hq hf : Bool) (xs : List CV) (n : Nat) (L : Env → Hp → Res) : aexecB Tryz.prog hd20 (filt an20 0) n (prefC 1 (tailC 7 c20)) E20 (B2 (uV sc us hu ho po hp ha pa qu hq fr hf) xs) (thenK (headK h20 L) (endOf Tryz.prog 48 [])) =
 bif' hp (bif' (decide ((xs.length + 1) * 1 ≤ 70368744177664)) (bif' hp (bif' (decide (((xs ++ strBytes (ByteArray.mk #[58])).length + (strBytes po).length) * 1 ≤ 70368744177664)) (L (mkEnv 58 [(1, PV.bptr 0 0), (3, PV.bptr 1 0), (4, PV.fn 75 [PV.bptr 1 0])]) [AO.box (PV.c (CV.agg [CV.str sc, CV.str us, CV.bool hu, CV.str ho, CV.str po, CV.bool hp, CV.bool ha, CV.str pa, CV.str qu, CV.bool hq, CV.str fr, CV.bool hf])) kU, AO.box (PV.agg [PV.bptr 1 0, PV.rw 2 6597069766656]) kBu, AO.row (xs ++ strBytes (ByteArray.mk #[58]) ++ strBytes po) 1 6597069766656 false]) none) (L (mkEnv 58 [(1, PV.bptr 0 0), (3, PV.bptr 1 0), (4, PV.fn 75 [PV.bptr 1 0])]) [AO.box (PV.c (CV.agg [CV.str sc, CV.str us, CV.bool hu, CV.str ho, CV.str po, CV.bool hp, CV.bool ha, CV.str pa, CV.str qu, CV.bool hq, CV.str fr, CV.bool hf])) kU, AO.box (PV.agg [PV.bptr 1 0, PV.rw 2 6597069766656]) kBu, AO.row (xs ++ strBytes (ByteArray.mk #[58])) 1 6597069766656 false])) none) (bif' hp (bif' (decide ((xs.length + (strBytes po).length) * 1 ≤ 70368744177664)) (L (mkEnv 58 [(1, PV.bptr 0 0), (3, PV.bptr 1 0), (4, PV.fn 75 [PV.bptr 1 0])]) [AO.box (PV.c (CV.agg [CV.str sc, CV.str us, CV.bool hu, CV.str ho, CV.str po, CV.bool hp, CV.bool ha, CV.str pa, CV.str qu, CV.bool hq, CV.str fr, CV.bool hf])) kU, AO.box (PV.agg [PV.bptr 1 0, PV.rw 2 6597069766656]) kBu, AO.row (xs ++ strBytes po) 1 6597069766656 false]) none) (L (mkEnv 58 [(1, PV.bptr 0 0), (3, PV.bptr 1 0), (4, PV.fn 75 [PV.bptr 1 0])]) [AO.box (PV.c (CV.agg [CV.str sc, CV.str us, CV.bool hu, CV.str ho, CV.str po, CV.bool hp, CV.bool ha, CV.str pa, CV.str qu, CV.bool hq, CV.str fr, CV.bool hf])) kU, AO.box (PV.agg [PV.bptr 1 0, PV.rw 2 6597069766656]) kBu, AO.row xs 1 6597069766656 false])) := by kernel_rfl
theorem tg8b (sc us ho po pa qu fr : ByteArray) (hu hp ha hq hf : Bool) (n : Nat) (L : Env → Hp → Res) : aexecB Tryz.prog hd20 (filt an20 0) n (prefC 1 (tailC 8 c20)) E20 (B1 (uV sc us hu ho po hp ha pa qu hq fr hf)) (thenK (headK h20 L) (endOf Tryz.prog 48 [])) =
 bif' (decide ((strBytes pa).length * 1 ≤ 70368744177664)) (bif' (strBytes pa).isEmpty (L (mkEnv 58 [(1, PV.bptr 0 0), (3, PV.bptr 1 0), (4, PV.fn 75 [PV.bptr 1 0])]) [AO.box (PV.c (CV.agg [CV.str sc, CV.str us, CV.bool hu, CV.str ho, CV.str po, CV.bool hp, CV.bool ha, CV.str pa, CV.str qu, CV.bool hq, CV.str fr, CV.bool hf])) kU, AO.box (PV.agg [PV.bptr 1 0, PV.c CV.nilsl]) kBu]) (L (mkEnv 58 [(1, PV.bptr 0 0), (3, PV.bptr 1 0), (4, PV.fn 75 [PV.bptr 1 0])]) [AO.box (PV.c (CV.agg [CV.str sc, CV.str us, CV.bool hu, CV.str ho, CV.str po, CV.bool hp, CV.bool ha, CV.str pa, CV.str qu, CV.bool hq, CV.str fr, CV.bool hf])) kU, AO.box (PV.agg [PV.bptr 1 0, PV.rw 2 6597069766656]) kBu, AO.row (strBytes pa) 1 6597069766656 false])) none := by kernel_rfl
theorem tg8c (sc us ho po pa qu fr : ByteArray) (hu hp ha hq hf : Bool) (xs : List CV) (n : Nat) (L : Env → Hp → Res) : aexecB Tryz.prog hd20 (filt an20 0) n (prefC 1 (tailC 8 c20)) E20 (B2 (uV sc us hu ho po hp ha pa qu hq fr hf) xs) (thenK (headK h20 L) (endOf Tryz.prog 48 [])) =
 bif' (decide ((xs.length + (strBytes pa).length) * 1 ≤ 70368744177664)) (L (mkEnv 58 [(1, PV.bptr 0 0), (3, PV.bptr 1 0), (4, PV.fn 75 [PV.bptr 1 0])]) [AO.box (PV.c (CV.agg [CV.str sc, CV.str us, CV.bool hu, CV.str ho, CV.str po, CV.bool hp, CV.bool ha, CV.str pa, CV.str qu, CV.bool hq, CV.str fr, CV.bool hf])) kU, AO.box (PV.agg [PV.bptr 1 0, PV.rw 2 6597069766656]) kBu, AO.row (xs ++ strBytes pa) 1 6597069766656 false]) none := by kernel_rfl
theorem tg9b (sc us ho po pa qu fr : ByteArray) (hu hp ha hq hf : Bool) (n : Nat) (L : Env → Hp → Res) : aexecB Tryz.prog hd20 (filt an20 0) n (prefC 1 (tailC 9 c20)) E20 (B1 (uV sc us hu ho po hp ha pa qu hq fr hf)) (thenK (headK h20 L) (endOf Tryz.prog 48 [])) =
 bif' hq (bif' hq (bif' (decide ((1 + (strBytes qu).length) * 1 ≤ 70368744177664)) (L (mkEnv 58 [(1, PV.bptr 0 0), (3, PV.bptr 1 0), (4, PV.fn 75 [PV.bptr 1 0])]) [AO.box (PV.c (CV.agg [CV.str sc, CV.str us, CV.bool hu, CV.str ho, CV.str po, CV.bool hp, CV.bool ha, CV.str pa, CV.str qu, CV.bool hq, CV.str fr, CV.bool hf])) kU, AO.box (PV.agg [PV.bptr 1 0, PV.rw 2 6597069766656]) kBu, AO.row (CV.int IntKind.u8 (Int.ofNat 63) :: strBytes qu) 1 6597069766656 false]) none) (L (mkEnv 58 [(1, PV.bptr 0 0), (3, PV.bptr 1 0), (4, PV.fn 75 [PV.bptr 1 0])]) [AO.box (PV.c (CV.agg [CV.str sc, CV.str us, CV.bool hu, CV.str ho, CV.str po, CV.bool hp, CV.bool ha, CV.str pa, CV.str qu, CV.bool hq, CV.str fr, CV.bool hf])) kU, AO.box (PV.agg [PV.bptr 1 0, PV.rw 2 6597069766656]) kBu, AO.row [CV.int IntKind.u8 (Int.ofNat 63)] 1 6597069766656 false])) (bif' hq (bif' (decide ((strBytes qu).length * 1 ≤ 70368744177664)) (bif' (strBytes qu).isEmpty (L (mkEnv 58 [(1, PV.bptr 0 0), (3, PV.bptr 1 0), (4, PV.fn 75 [PV.bptr 1 0])]) [AO.box (PV.c (CV.agg [CV.str sc, CV.str us, CV.bool hu, CV.str ho, CV.str po, CV.bool hp, CV.bool ha, CV.str pa, CV.str qu, CV.bool hq, CV.str fr, CV.bool hf])) kU, AO.box (PV.agg [PV.bptr 1 0, PV.c CV.nilsl]) kBu]) (L (mkEnv 58 [(1, PV.bptr 0 0), (3, PV.bptr 1 0), (4, PV.fn 75 [PV.bptr 1 0])]) [AO.box (PV.c (CV.agg [CV.str sc, CV.str us, CV.bool hu, CV.str ho, CV.str po, CV.bool hp, CV.bool ha, CV.str pa, CV.str qu, CV.bool hq, CV.str fr, CV.bool hf])) kU, AO.box (PV.agg [PV.bptr 1 0, PV.rw 2 6597069766656]) kBu, AO.row (strBytes qu) 1 6597069766656 false])) none) (L (mkEnv 58 [(1, PV.bptr 0 0), (3, PV.bptr 1 0), (4, PV.fn 75 [PV.bptr 1 0])]) [AO.box (PV.c (CV.agg [CV.str sc, CV.str us, CV.bool hu, CV.str ho, CV.str po, CV.bool hp, CV.bool ha, CV.str pa, CV.str qu, CV.bool hq, CV.str fr, CV.bool hf])) kU, AO.box (PV.agg [PV.bptr 1 0, PV.c CV.nilsl]) kBu])) := by kernel_rfl
theorem tg9c (sc us ho po pa qu fr : ByteArray) (hu hp ha hq hf : Bool) (xs : List CV) (n : Nat) (L : Env → Hp → Res) : aexecB Tryz.prog hd20 (filt an20 0) n (prefC 1 (tailC 9 c20)) E20 (B2 (uV sc us hu ho po hp ha pa qu hq fr hf) xs) (thenK (headK h20 L) (endOf Tryz.prog 48 [])) =
 bif' hq (bif' (decide ((xs.length + 1) * 1 ≤ 70368744177664)) (bif' hq (bif' (decide (((xs ++ strBytes (ByteArray.mk #[63])).length + (strBytes qu).length) * 1 ≤ 70368744177664)) (L (mkEnv 58 [(1, PV.bptr 0 0), (3, PV.bptr 1 0), (4, PV.fn 75 [PV.bptr 1 0])]) [AO.box (PV.c (CV.agg [CV.str sc, CV.str us, CV.bool hu, CV.str ho, CV.str po, CV.bool hp, CV.bool ha, CV.str pa, CV.str qu, CV.bool hq, CV.str fr, CV.bool hf])) kU, AO.box (PV.agg [PV.bptr 1 0, PV.rw 2 6597069766656]) kBu, AO.row (xs ++ strBytes (ByteArray.mk #[63]) ++ strBytes qu) 1 6597069766656 false]) none) (L (mkEnv 58 [(1, PV.bptr 0 0), (3, PV.bptr 1 0), (4, PV.fn 75 [PV.bptr 1 0])]) [AO.box (PV.c (CV.agg [CV.str sc, CV.str us, CV.bool hu, CV.str ho, CV.str po, CV.bool hp, CV.bool ha, CV.str pa, CV.str qu, CV.bool hq, CV.str fr, CV.bool hf])) kU, AO.box (PV.agg [PV.bptr 1 0, PV.rw 2 6597069766656]) kBu, AO.row (xs ++ strBytes (ByteArray.mk #[63])) 1 6597069766656 false])) none) (bif' hq (bif' (decide ((xs.length + (strBytes qu).length) * 1 ≤ 70368744177664)) (L (mkEnv 58 [(1, PV.bptr 0 0), (3, PV.bptr 1 0), (4, PV.fn 75 [PV.bptr 1 0])]) [AO.box (PV.c (CV.agg [CV.str sc, CV.str us, CV.bool hu, CV.str ho, CV.str po, CV.bool hp, CV.bool ha, CV.str pa, CV.str qu, CV.bool hq, CV.str fr, CV.bool hf])) kU, AO.box (PV.agg [PV.bptr 1 0, PV.rw 2 6597069766656]) kBu, AO.row (xs ++ strBytes qu) 1 6597069766656 false]) none) (L (mkEnv 58 [(1, PV.bptr 0 0), (3, PV.bptr 1 0), (4, PV.fn 75 [PV.bptr 1 0])]) [AO.box (PV.c (CV.agg [CV.str sc, CV.str us, CV.bool hu, CV.str ho, CV.str po, CV.bool hp, CV.bool ha, CV.str pa, CV.str qu, CV.bool hq, CV.str fr, CV.bool hf])) kU, AO.box (PV.agg [PV.bptr 1 0, PV.rw 2 6597069766656]) kBu, AO.row xs 1 6597069766656 false])) := by kernel_rfl
theorem tg10b (sc us ho po pa qu fr : ByteArray) (hu hp ha hq hf : Bool) (n : Nat) (L : Env → Hp → Res) : aexecB Tryz.prog hd20 (filt an20 0) n (prefC 1 (tailC 10 c20)) E20 (B1 (uV sc us hu ho po hp ha pa qu hq fr hf)) (thenK (headK h20e L) (endOf Tryz.prog 48 [])) =
 bif' hf (bif' hf (bif' (decide ((1 + (strBytes fr).length) * 1 ≤ 70368744177664)) (L (mkEnv 58 [(3, PV.bptr 1 0)]) [AO.box (PV.c (CV.agg [CV.str sc, CV.str us, CV.bool hu, CV.str ho, CV.str po, CV.bool hp, CV.bool ha, CV.str pa, CV.str qu, CV.bool hq, CV.str fr, CV.bool hf])) kU, AO.box (PV.agg [PV.bptr 1 0, PV.rw 2 6597069766656]) kBu, AO.row (CV.int IntKind.u8 (Int.ofNat 35) :: strBytes fr) 1 6597069766656 false]) none) (L (mkEnv 58 [(3, PV.bptr 1 0)]) [AO.box (PV.c (CV.agg [CV.str sc, CV.str us, CV.bool hu, CV.str ho, CV.str po, CV.bool hp, CV.bool ha, CV.str pa, CV.str qu, CV.bool hq, CV.str fr, CV.bool hf])) kU, AO.box (PV.agg [PV.bptr 1 0, PV.rw 2 6597069766656]) kBu, AO.row [CV.int IntKind.u8 (Int.ofNat 35)] 1 6597069766656 false])) (bif' hf (bif' (decide ((strBytes fr).length * 1 ≤ 70368744177664)) (bif' (strBytes fr).isEmpty (L (mkEnv 58 [(3, PV.bptr 1 0)]) [AO.box (PV.c (CV.agg [CV.str sc, CV.str us, CV.bool hu, CV.str ho, CV.str po, CV.bool hp, CV.bool ha, CV.str pa, CV.str qu, CV.bool hq, CV.str fr, CV.bool hf])) kU, AO.box (PV.agg [PV.bptr 1 0, PV.c CV.nilsl]) kBu]) (L (mkEnv 58 [(3, PV.bptr 1 0)]) [AO.box (PV.c (CV.agg [CV.str sc, CV.str us, CV.bool hu, CV.str ho, CV.str po, CV.bool hp, CV.bool ha, CV.str pa, CV.str qu, CV.bool hq, CV.str fr, CV.bool hf])) kU, AO.box (PV.agg [PV.bptr 1 0, PV.rw 2 6597069766656]) kBu, AO.row (strBytes fr) 1 6597069766656 false])) none) (L (mkEnv 58 [(3, PV.bptr 1 0)]) [AO.box (PV.c (CV.agg [CV.str sc, CV.str us, CV.bool hu, CV.str ho, CV.str po, CV.bool hp, CV.bool ha, CV.str pa, CV.str qu, CV.bool hq, CV.str fr, CV.bool hf])) kU, AO.box (PV.agg [PV.bptr 1 0, PV.c CV.nilsl]) kBu])) := by kernel_rfl
theorem tg10c (sc us ho po pa qu fr : ByteArray) (hu hp ha hq hf : Bool) (xs : List CV) (n : Nat) (L : Env → Hp → Res) : aexecB Tryz.prog hd20 (filt an20 0) n (prefC 1 (tailC 10 c20)) E20 (B2 (uV sc us hu ho po hp ha pa qu hq fr hf) xs) (thenK (headK h20e L) (endOf Tryz.prog 48 [])) =
 bif' hf (bif' (decide ((xs.length + 1) * 1 ≤ 70368744177664)) (bif' hf (bif' (decide (((xs ++ strBytes (ByteArray.mk #[35])).length + (strBytes fr).length) * 1 ≤ 70368744177664)) (L (mkEnv 58 [(3, PV.bptr 1 0)]) [AO.box (PV.c (CV.agg [CV.str sc, CV.str us, CV.bool hu, CV.str ho, CV.str po, CV.bool hp, CV.bool ha, CV.str pa, CV.str qu, CV.bool hq, CV.str fr, CV.bool hf])) kU, AO.box (PV.agg [PV.bptr 1 0, PV.rw 2 6597069766656]) kBu, AO.row (xs ++ strBytes (ByteArray.mk #[35]) ++ strBytes fr) 1 6597069766656 false]) none) (L (mkEnv 58 [(3, PV.bptr 1 0)]) [AO.box (PV.c (CV.agg [CV.str sc, CV.str us, CV.bool hu, CV.str ho, CV.str po, CV.bool hp, CV.bool ha, CV.str pa, CV.str qu, CV.bool hq, CV.str fr, CV.bool hf])) kU, AO.box (PV.agg [PV.bptr 1 0, PV.rw 2 6597069766656]) kBu, AO.row (xs ++ strBytes (ByteArray.mk #[35])) 1 6597069766656 false])) none) (bif' hf (bif' (decide ((xs.length + (strBytes fr).length) * 1 ≤ 70368744177664)) (L (mkEnv 58 [(3, PV.bptr 1 0)]) [AO.box (PV.c (CV.agg [CV.str sc, CV.str us, CV.bool hu, CV.str ho, CV.str po, CV.bool hp, CV.bool ha, CV.str pa, CV.str qu, CV.bool hq, CV.str fr, CV.bool hf])) kU, AO.box (PV.agg [PV.bptr 1 0, PV.rw 2 6597069766656]) kBu, AO.row (xs ++ strBytes fr) 1 6597069766656 false]) none) (L (mkEnv 58 [(3, PV.bptr 1 0)]) [AO.box (PV.c (CV.agg [CV.str sc, CV.str us, CV.bool hu, CV.str ho, CV.str po, CV.bool hp, CV.bool ha, CV.str pa, CV.str qu, CV.bool hq, CV.str fr, CV.bool hf])) kU, AO.box (PV.agg [PV.bptr 1 0, PV.rw 2 6597069766656]) kBu, AO.row xs 1 6597069766656 false])) := by kernel_rfl
theorem tg11b (sc us ho po pa qu fr : ByteArray) (hu hp ha hq hf : Bool) (n : Nat) : aexecB Tryz.prog hd20 (filt an20 0) n (tailC 11 c20) (mkEnv 58 [(3, .bptr 1 0)]) (B1 (uV sc us hu ho po hp ha pa qu hq fr hf)) (endOf Tryz.prog 48 []) =
 some (CV.str ⟨⟨[]⟩⟩, []) := by kernel_rfl
theorem tg11c (sc us ho po pa qu fr : ByteArray) (hu hp ha hq hf : Bool) (xs : List CV) (n : Nat) : aexecB Tryz.prog hd20 (filt an20 0) n (tailC 11 c20) (mkEnv 58 [(3, .bptr 1 0)]) (B2 (uV sc us hu ho po hp ha pa qu hq fr hf) xs) (endOf Tryz.prog 48 []) =
 bif' (!xs.isEmpty) (bif' (decide (0 < (↑xs.length : Int))) (bif' (decide ((↑xs.length : Int) ≤ (↑xs.length : Int))) (bif' (decide ((↑xs.length : Int) ≤ 9223372036854775807)) (bif' ((List.take (↑xs.length : Int).toNat xs).all isU8) (some (CV.str (bytesOf (List.take (↑xs.length : Int).toNat xs)), [])) none) none) none) none) none := by kernel_rfl

end Go.Pv

/- URLs: parts put together: what it is (lines printed by a small program of mine). -/
namespace Go.Pv
set_option linter.unusedVariables false
set_option linter.unusedSimpArgs false
set_option maxRecDepth 100000
open Go Go.Proofs

theorem sB_app (a b : ByteArray) : strBytes (a ++ b) = strBytes a ++ strBytes b := by
  unfold strBytes
  rw [ByteArray.data_append, Array.toList_append, List.map_append]
theorem sB_nil {a : ByteArray} (h : a.size = 0) : strBytes a = [] := List.eq_nil_of_length_eq_zero (by rw [bytes_len, h])
theorem bA_nil {a : ByteArray} (h : a.size = 0) : a = ⟨#[]⟩ := by
  rw [← mkS_bl a] at h ⊢
  rw [sizeM] at h
  rw [List.eq_nil_of_length_eq_zero h]
  rfl
theorem sB_emp (a : ByteArray) : (strBytes a).isEmpty = decide (a.size = 0) := by
  rw [Bool.eq_iff_iff, List.isEmpty_iff_length_eq_zero, bytes_len, decide_eq_true_iff]
theorem bA_emp (a : ByteArray) : (a.toList == (ByteArray.mk #[]).toList) = decide (a.size = 0) := by
  rw [toList_data, toList_data, beq_list, Bool.eq_iff_iff, decide_eq_true_iff, decide_eq_true_iff]
  constructor
  · intro h
    rw [← mkS_bl a, h]
    rfl
  · intro h; rw [bA_nil h]
theorem bA_appNil (a : ByteArray) : a ++ (⟨#[]⟩ : ByteArray) = a := by
  rw [← mkS_bl a]
  show mkS _ ++ mkS [] = _
  rw [mkS_app, List.append_nil]
theorem bA_nilApp (a : ByteArray) : (⟨#[]⟩ : ByteArray) ++ a = a := by
  rw [← mkS_bl a]
  show mkS [] ++ mkS _ = _
  rw [mkS_app, List.nil_append]
def StA (u : CV) (s : ByteArray) (H : Hp) : Prop := (H = B0 u ∧ s = ⟨#[]⟩) ∨ (H = B1 u ∧ s = ⟨#[]⟩) ∨ (H = B2 u (strBytes s) ∧ s.size ≠ 0)
def StB (u : CV) (s : ByteArray) (H : Hp) : Prop := (H = B1 u ∧ s = ⟨#[]⟩) ∨ (H = B2 u (strBytes s) ∧ s.size ≠ 0)

def jSc (sc : ByteArray) : ByteArray := if sc.size = 0 then ⟨#[]⟩ else sc ++ (⟨#[58]⟩ : ByteArray)
def jAu (ha : Bool) : ByteArray := if ha = true then (⟨#[47, 47]⟩ : ByteArray) else ⟨#[]⟩
def jUs (hu : Bool) (us : ByteArray) : ByteArray := if hu = true then us ++ (⟨#[64]⟩ : ByteArray) else ⟨#[]⟩
def jPo (h : Bool) (s : ByteArray) : ByteArray := if h = true then (⟨#[58]⟩ : ByteArray) ++ s else ⟨#[]⟩
def jQu (h : Bool) (s : ByteArray) : ByteArray := if h = true then (⟨#[63]⟩ : ByteArray) ++ s else ⟨#[]⟩
def jFr (h : Bool) (s : ByteArray) : ByteArray := if h = true then (⟨#[35]⟩ : ByteArray) ++ s else ⟨#[]⟩
theorem sg3 (sc us ho po pa qu fr : ByteArray) (hu hp ha hq hf : Bool)  (zsc : sc.size ≤ 4000) : ∃ H', StA (uV sc us hu ho po hp ha pa qu hq fr hf) (⟨#[]⟩ ++ jSc sc) H' ∧ ∀ n L, aexecB Tryz.prog hd20 (filt an20 0) n (prefC 1 (tailC 3 c20)) E20 (B0 (uV sc us hu ho po hp ha pa qu hq fr hf)) (thenK (headK h20 L) (endOf Tryz.prog 48 [])) = L E20 H' := by
  have da0 : decide ((strBytes sc).length * 1 ≤ 70368744177664) = true := decide_eq_true (by have q : (⟨#[58]⟩ : ByteArray).size = 1 := rfl; simp only [List.length_append, bytes_len]; omega)
  have da1 : decide (((strBytes sc).length + 1) * 1 ≤ 70368744177664) = true := decide_eq_true (by have q : (⟨#[58]⟩ : ByteArray).size = 1 := rfl; simp only [List.length_append, bytes_len]; omega)
  by_cases e0 : sc.size = 0
  · have ea : jSc sc = ⟨#[]⟩ := by unfold jSc; rw [if_pos e0]
    refine ⟨B0 (uV sc us hu ho po hp ha pa qu hq fr hf), by rw [ea, bA_appNil]; exact .inl ⟨rfl, rfl⟩, fun n L => ?_⟩
    rw [tg3a]
    rw [bA_emp, decide_eq_true e0]
    rfl
  · have e1 : ¬ sc.size = 0 := e0
    have ea : jSc sc = sc ++ (⟨#[58]⟩ : ByteArray) := by unfold jSc; rw [if_neg e0]
    have nz : ((⟨#[]⟩ : ByteArray) ++ (sc ++ (⟨#[58]⟩ : ByteArray))).size ≠ 0 := by
      have q0 : (⟨#[58]⟩ : ByteArray).size = 1 := rfl
      have q1 : (⟨#[]⟩ : ByteArray).size = 0 := rfl
      simp only [ByteArray.size_append]; omega
    refine ⟨B2 (uV sc us hu ho po hp ha pa qu hq fr hf) (strBytes ((⟨#[]⟩ : ByteArray) ++ (sc ++ (⟨#[58]⟩ : ByteArray)))), by rw [ea]; exact .inr (.inr ⟨rfl, nz⟩), fun n L => ?_⟩
    rw [tg3a]
    rw [bA_emp, decide_eq_false e0]
    simp only [da0, da1, sB_emp, decide_eq_false e1, bif_tt, bif_ff, Bool.not_true, Bool.not_false]
    rw [sB_app, sB_app]
    rfl
theorem sg4 (sc us ho po pa qu fr : ByteArray) (hu hp ha hq hf : Bool) (s : ByteArray) (H : Hp) (hz : s.size ≤ 60000) (hs : StA (uV sc us hu ho po hp ha pa qu hq fr hf) s H) : ∃ H', StA (uV sc us hu ho po hp ha pa qu hq fr hf) (s ++ jAu ha) H' ∧ ∀ n L, aexecB Tryz.prog hd20 (filt an20 0) n (prefC 1 (tailC 4 c20)) E20 H (thenK (headK h20 L) (endOf Tryz.prog 48 [])) = L E20 H' := by
  have dc0 : decide (((strBytes s).length + 2) * 1 ≤ 70368744177664) = true := decide_eq_true (by have q : (⟨#[47, 47]⟩ : ByteArray).size = 2 := rfl; simp only [List.length_append, bytes_len]; omega)
  rcases hs with ⟨rfl, rfl⟩ | ⟨rfl, rfl⟩ | ⟨rfl, hne⟩
  · cases ha
    · have ea : jAu false = ⟨#[]⟩ := rfl
      refine ⟨B0 (uV sc us hu ho po hp false pa qu hq fr hf), by rw [ea, bA_appNil]; exact .inl ⟨rfl, rfl⟩, fun n L => ?_⟩
      rw [tg4a]
      rfl
    · have ea : jAu true = (⟨#[47, 47]⟩ : ByteArray) := rfl
      have nz : ((⟨#[]⟩ : ByteArray) ++ ((⟨#[47, 47]⟩ : ByteArray))).size ≠ 0 := by
        have q0 : (⟨#[47, 47]⟩ : ByteArray).size = 2 := rfl
        have q1 : (⟨#[]⟩ : ByteArray).size = 0 := rfl
        simp only [ByteArray.size_append]; omega
      refine ⟨B2 (uV sc us hu ho po hp true pa qu hq fr hf) (strBytes ((⟨#[]⟩ : ByteArray) ++ ((⟨#[47, 47]⟩ : ByteArray)))), by rw [ea]; exact .inr (.inr ⟨rfl, nz⟩), fun n L => ?_⟩
      rw [tg4a]
      simp only [sB_emp, Bool.not_true, bif_tt, bif_ff, Bool.not_true, Bool.not_false]
      rw [sB_app]
      rfl
  · cases ha
    · have ea : jAu false = ⟨#[]⟩ := rfl
      refine ⟨B1 (uV sc us hu ho po hp false pa qu hq fr hf), by rw [ea, bA_appNil]; exact .inr (.inl ⟨rfl, rfl⟩), fun n L => ?_⟩
      rw [tg4b]
      rfl
    · have ea : jAu true = (⟨#[47, 47]⟩ : ByteArray) := rfl
      have nz : ((⟨#[]⟩ : ByteArray) ++ ((⟨#[47, 47]⟩ : ByteArray))).size ≠ 0 := by
        have q0 : (⟨#[47, 47]⟩ : ByteArray).size = 2 := rfl
        have q1 : (⟨#[]⟩ : ByteArray).size = 0 := rfl
        simp only [ByteArray.size_append]; omega
      refine ⟨B2 (uV sc us hu ho po hp true pa qu hq fr hf) (strBytes ((⟨#[]⟩ : ByteArray) ++ ((⟨#[47, 47]⟩ : ByteArray)))), by rw [ea]; exact .inr (.inr ⟨rfl, nz⟩), fun n L => ?_⟩
      rw [tg4b]
      simp only [sB_emp, Bool.not_true, bif_tt, bif_ff, Bool.not_true, Bool.not_false]
      rw [sB_app]
      rfl
  · cases ha
    · have ea : jAu false = ⟨#[]⟩ := rfl
      refine ⟨B2 (uV sc us hu ho po hp false pa qu hq fr hf) (strBytes s), by rw [ea, bA_appNil]; exact .inr (.inr ⟨rfl, hne⟩), fun n L => ?_⟩
      rw [tg4c]
      rfl
    · have ea : jAu true = (⟨#[47, 47]⟩ : ByteArray) := rfl
      have nz : (s ++ ((⟨#[47, 47]⟩ : ByteArray))).size ≠ 0 := by
        have q0 : (⟨#[47, 47]⟩ : ByteArray).size = 2 := rfl
        simp only [ByteArray.size_append]; omega
      refine ⟨B2 (uV sc us hu ho po hp true pa qu hq fr hf) (strBytes (s ++ ((⟨#[47, 47]⟩ : ByteArray)))), by rw [ea]; exact .inr (.inr ⟨rfl, nz⟩), fun n L => ?_⟩
      rw [tg4c]
      simp only [dc0, bif_tt, bif_ff, Bool.not_true, Bool.not_false]
      rw [sB_app]
      rfl
theorem sg5 (sc us ho po pa qu fr : ByteArray) (hu hp ha hq hf : Bool) (s : ByteArray) (H : Hp) (hz : s.size ≤ 60000) (hs : StA (uV sc us hu ho po hp ha pa qu hq fr hf) s H) (zus : us.size ≤ 4000) : ∃ H', StA (uV sc us hu ho po hp ha pa qu hq fr hf) (s ++ jUs hu us) H' ∧ ∀ n L, aexecB Tryz.prog hd20 (filt an20 0) n (prefC 1 (tailC 5 c20)) E20 H (thenK (headK h20 L) (endOf Tryz.prog 48 [])) = L E20 H' := by
  have da0 : decide ((strBytes us).length * 1 ≤ 70368744177664) = true := decide_eq_true (by have q : (⟨#[64]⟩ : ByteArray).size = 1 := rfl; simp only [List.length_append, bytes_len]; omega)
  have da1 : decide (((strBytes us).length + 1) * 1 ≤ 70368744177664) = true := decide_eq_true (by have q : (⟨#[64]⟩ : ByteArray).size = 1 := rfl; simp only [List.length_append, bytes_len]; omega)
  have db0 : decide ((strBytes us).length * 1 ≤ 70368744177664) = true := decide_eq_true (by have q : (⟨#[64]⟩ : ByteArray).size = 1 := rfl; simp only [List.length_append, bytes_len]; omega)
  have db1 : decide (((strBytes us).length + 1) * 1 ≤ 70368744177664) = true := decide_eq_true (by have q : (⟨#[64]⟩ : ByteArray).size = 1 := rfl; simp only [List.length_append, bytes_len]; omega)
  have dc0 : decide (((strBytes s).length + (strBytes us).length) * 1 ≤ 70368744177664) = true := decide_eq_true (by have q : (⟨#[64]⟩ : ByteArray).size = 1 := rfl; simp only [List.length_append, bytes_len]; omega)
  have dc1 : decide (((strBytes s ++ strBytes us).length + 1) * 1 ≤ 70368744177664) = true := decide_eq_true (by have q : (⟨#[64]⟩ : ByteArray).size = 1 := rfl; simp only [List.length_append, bytes_len]; omega)
  have dc2 : decide (((strBytes s).length + 1) * 1 ≤ 70368744177664) = true := decide_eq_true (by have q : (⟨#[64]⟩ : ByteArray).size = 1 := rfl; simp only [List.length_append, bytes_len]; omega)
  rcases hs with ⟨rfl, rfl⟩ | ⟨rfl, rfl⟩ | ⟨rfl, hne⟩
  · cases hu
    · have ea : jUs false us = ⟨#[]⟩ := rfl
      refine ⟨B0 (uV sc us false ho po hp ha pa qu hq fr hf), by rw [ea, bA_appNil]; exact .inl ⟨rfl, rfl⟩, fun n L => ?_⟩
      rw [tg5a]
      rfl
    · by_cases e1 : us.size = 0
      · have ea : jUs true us = us ++ (⟨#[64]⟩ : ByteArray) := rfl
        have nz : ((⟨#[]⟩ : ByteArray) ++ (us ++ (⟨#[64]⟩ : ByteArray))).size ≠ 0 := by
          have q0 : (⟨#[64]⟩ : ByteArray).size = 1 := rfl
          have q1 : (⟨#[]⟩ : ByteArray).size = 0 := rfl
          simp only [ByteArray.size_append]; omega
        refine ⟨B2 (uV sc us true ho po hp ha pa qu hq fr hf) (strBytes ((⟨#[]⟩ : ByteArray) ++ (us ++ (⟨#[64]⟩ : ByteArray)))), by rw [ea]; exact .inr (.inr ⟨rfl, nz⟩), fun n L => ?_⟩
        rw [tg5a]
        simp only [da0, da1, sB_emp, decide_eq_true e1, bif_tt, bif_ff, Bool.not_true, Bool.not_false]
        rw [sB_app, sB_app, sB_nil e1]
        rfl
      · have ea : jUs true us = us ++ (⟨#[64]⟩ : ByteArray) := rfl
        have nz : ((⟨#[]⟩ : ByteArray) ++ (us ++ (⟨#[64]⟩ : ByteArray))).size ≠ 0 := by
          have q0 : (⟨#[64]⟩ : ByteArray).size = 1 := rfl
          have q1 : (⟨#[]⟩ : ByteArray).size = 0 := rfl
          simp only [ByteArray.size_append]; omega
        refine ⟨B2 (uV sc us true ho po hp ha pa qu hq fr hf) (strBytes ((⟨#[]⟩ : ByteArray) ++ (us ++ (⟨#[64]⟩ : ByteArray)))), by rw [ea]; exact .inr (.inr ⟨rfl, nz⟩), fun n L => ?_⟩
        rw [tg5a]
        simp only [da0, da1, sB_emp, decide_eq_false e1, bif_tt, bif_ff, Bool.not_true, Bool.not_false]
        rw [sB_app, sB_app]
        rfl
  · cases hu
    · have ea : jUs false us = ⟨#[]⟩ := rfl
      refine ⟨B1 (uV sc us false ho po hp ha pa qu hq fr hf), by rw [ea, bA_appNil]; exact .inr (.inl ⟨rfl, rfl⟩), fun n L => ?_⟩
      rw [tg5b]
      rfl
    · by_cases e1 : us.size = 0
      · have ea : jUs true us = us ++ (⟨#[64]⟩ : ByteArray) := rfl
        have nz : ((⟨#[]⟩ : ByteArray) ++ (us ++ (⟨#[64]⟩ : ByteArray))).size ≠ 0 := by
          have q0 : (⟨#[64]⟩ : ByteArray).size = 1 := rfl
          have q1 : (⟨#[]⟩ : ByteArray).size = 0 := rfl
          simp only [ByteArray.size_append]; omega
        refine ⟨B2 (uV sc us true ho po hp ha pa qu hq fr hf) (strBytes ((⟨#[]⟩ : ByteArray) ++ (us ++ (⟨#[64]⟩ : ByteArray)))), by rw [ea]; exact .inr (.inr ⟨rfl, nz⟩), fun n L => ?_⟩
        rw [tg5b]
        simp only [db0, db1, sB_emp, decide_eq_true e1, bif_tt, bif_ff, Bool.not_true, Bool.not_false]
        rw [sB_app, sB_app, sB_nil e1]
        rfl
      · have ea : jUs true us = us ++ (⟨#[64]⟩ : ByteArray) := rfl
        have nz : ((⟨#[]⟩ : ByteArray) ++ (us ++ (⟨#[64]⟩ : ByteArray))).size ≠ 0 := by
          have q0 : (⟨#[64]⟩ : ByteArray).size = 1 := rfl
          have q1 : (⟨#[]⟩ : ByteArray).size = 0 := rfl
          simp only [ByteArray.size_append]; omega
        refine ⟨B2 (uV sc us true ho po hp ha pa qu hq fr hf) (strBytes ((⟨#[]⟩ : ByteArray) ++ (us ++ (⟨#[64]⟩ : ByteArray)))), by rw [ea]; exact .inr (.inr ⟨rfl, nz⟩), fun n L => ?_⟩
        rw [tg5b]
        simp only [db0, db1, sB_emp, decide_eq_false e1, bif_tt, bif_ff, Bool.not_true, Bool.not_false]
        rw [sB_app, sB_app]
        rfl
  · cases hu
    · have ea : jUs false us = ⟨#[]⟩ := rfl
      refine ⟨B2 (uV sc us false ho po hp ha pa qu hq fr hf) (strBytes s), by rw [ea, bA_appNil]; exact .inr (.inr ⟨rfl, hne⟩), fun n L => ?_⟩
      rw [tg5c]
      rfl
    · have ea : jUs true us = us ++ (⟨#[64]⟩ : ByteArray) := rfl
      have nz : (s ++ (us ++ (⟨#[64]⟩ : ByteArray))).size ≠ 0 := by
        have q0 : (⟨#[64]⟩ : ByteArray).size = 1 := rfl
        simp only [ByteArray.size_append]; omega
      refine ⟨B2 (uV sc us true ho po hp ha pa qu hq fr hf) (strBytes (s ++ (us ++ (⟨#[64]⟩ : ByteArray)))), by rw [ea]; exact .inr (.inr ⟨rfl, nz⟩), fun n L => ?_⟩
      rw [tg5c]
      simp only [dc0, dc1, dc2, bif_tt, bif_ff, Bool.not_true, Bool.not_false]
      rw [sB_app, sB_app]
      rw [← List.append_assoc]
      rfl
theorem sg6 (sc us ho po pa qu fr : ByteArray) (hu hp ha hq hf : Bool) (s : ByteArray) (H : Hp) (hz : s.size ≤ 60000) (hs : StA (uV sc us hu ho po hp ha pa qu hq fr hf) s H) (zho : ho.size ≤ 4000) : ∃ H', StB (uV sc us hu ho po hp ha pa qu hq fr hf) (s ++ ho) H' ∧ ∀ n L, aexecB Tryz.prog hd20 (filt an20 0) n (prefC 1 (tailC 6 c20)) E20 H (thenK (headK h20 L) (endOf Tryz.prog 48 [])) = L E20 H' := by
  have da0 : decide ((strBytes ho).length * 1 ≤ 70368744177664) = true := decide_eq_true (by simp only [List.length_append, bytes_len]; omega)
  have db0 : decide ((strBytes ho).length * 1 ≤ 70368744177664) = true := decide_eq_true (by simp only [List.length_append, bytes_len]; omega)
  have dc0 : decide (((strBytes s).length + (strBytes ho).length) * 1 ≤ 70368744177664) = true := decide_eq_true (by simp only [List.length_append, bytes_len]; omega)
  rcases hs with ⟨rfl, rfl⟩ | ⟨rfl, rfl⟩ | ⟨rfl, hne⟩
  · by_cases e1 : ho.size = 0
    · refine ⟨B1 (uV sc us hu ho po hp ha pa qu hq fr hf), by rw [bA_nil e1, bA_appNil]; exact .inl ⟨rfl, rfl⟩, fun n L => ?_⟩
      rw [tg6a, da0, sB_emp, decide_eq_true e1]
      rfl
    · have nz : ((⟨#[]⟩ : ByteArray) ++ (ho)).size ≠ 0 := by
        have q0 : (⟨#[]⟩ : ByteArray).size = 0 := rfl
        simp only [ByteArray.size_append]; omega
      refine ⟨B2 (uV sc us hu ho po hp ha pa qu hq fr hf) (strBytes ((⟨#[]⟩ : ByteArray) ++ (ho))), by exact .inr ⟨rfl, nz⟩, fun n L => ?_⟩
      rw [tg6a]
      simp only [da0, sB_emp, decide_eq_false e1, bif_tt, bif_ff, Bool.not_true, Bool.not_false]
      rw [sB_app]
      rfl
  · by_cases e1 : ho.size = 0
    · refine ⟨B1 (uV sc us hu ho po hp ha pa qu hq fr hf), by rw [bA_nil e1, bA_appNil]; exact .inl ⟨rfl, rfl⟩, fun n L => ?_⟩
      rw [tg6b, db0, sB_emp, decide_eq_true e1]
      rfl
    · have nz : ((⟨#[]⟩ : ByteArray) ++ (ho)).size ≠ 0 := by
        have q0 : (⟨#[]⟩ : ByteArray).size = 0 := rfl
        simp only [ByteArray.size_append]; omega
      refine ⟨B2 (uV sc us hu ho po hp ha pa qu hq fr hf) (strBytes ((⟨#[]⟩ : ByteArray) ++ (ho))), by exact .inr ⟨rfl, nz⟩, fun n L => ?_⟩
      rw [tg6b]
      simp only [db0, sB_emp, decide_eq_false e1, bif_tt, bif_ff, Bool.not_true, Bool.not_false]
      rw [sB_app]
      rfl
  · have nz : (s ++ (ho)).size ≠ 0 := by
      simp only [ByteArray.size_append]; omega
    refine ⟨B2 (uV sc us hu ho po hp ha pa qu hq fr hf) (strBytes (s ++ (ho))), by exact .inr ⟨rfl, nz⟩, fun n L => ?_⟩
    rw [tg6c]
    simp only [dc0, bif_tt, bif_ff, Bool.not_true, Bool.not_false]
    rw [sB_app]
    rfl
theorem sg7 (sc us ho po pa qu fr : ByteArray) (hu hp ha hq hf : Bool) (s : ByteArray) (H : Hp) (hz : s.size ≤ 60000) (hs : StB (uV sc us hu ho po hp ha pa qu hq fr hf) s H) (zpo : po.size ≤ 4000) : ∃ H', StB (uV sc us hu ho po hp ha pa qu hq fr hf) (s ++ jPo hp po) H' ∧ ∀ n L, aexecB Tryz.prog hd20 (filt an20 0) n (prefC 1 (tailC 7 c20)) E20 H (thenK (headK h20 L) (endOf Tryz.prog 48 [])) = L E20 H' := by
  have db0 : decide ((1 + (strBytes po).length) * 1 ≤ 70368744177664) = true := decide_eq_true (by have q : (⟨#[58]⟩ : ByteArray).size = 1 := rfl; simp only [List.length_append, bytes_len]; omega)
  have db1 : decide ((strBytes po).length * 1 ≤ 70368744177664) = true := decide_eq_true (by have q : (⟨#[58]⟩ : ByteArray).size = 1 := rfl; simp only [List.length_append, bytes_len]; omega)
  have dc0 : decide (((strBytes s).length + 1) * 1 ≤ 70368744177664) = true := decide_eq_true (by have q : (⟨#[58]⟩ : ByteArray).size = 1 := rfl; simp only [List.length_append, bytes_len]; omega)
  have dc1 : decide (((strBytes s ++ strBytes (ByteArray.mk #[58])).length + (strBytes po).length) * 1 ≤ 70368744177664) = true := decide_eq_true (by have q : (⟨#[58]⟩ : ByteArray).size = 1 := rfl; simp only [List.length_append, bytes_len]; omega)
  have dc2 : decide (((strBytes s).length + (strBytes po).length) * 1 ≤ 70368744177664) = true := decide_eq_true (by have q : (⟨#[58]⟩ : ByteArray).size = 1 := rfl; simp only [List.length_append, bytes_len]; omega)
  rcases hs with ⟨rfl, rfl⟩ | ⟨rfl, hne⟩
  · cases hp
    · have ea : jPo false po = ⟨#[]⟩ := rfl
      refine ⟨B1 (uV sc us hu ho po false ha pa qu hq fr hf), by rw [ea, bA_appNil]; exact .inl ⟨rfl, rfl⟩, fun n L => ?_⟩
      rw [tg7b]
      rfl
    · have ea : jPo true po = (⟨#[58]⟩ : ByteArray) ++ po := rfl
      have nz : ((⟨#[]⟩ : ByteArray) ++ ((⟨#[58]⟩ : ByteArray) ++ po)).size ≠ 0 := by
        have q0 : (⟨#[58]⟩ : ByteArray).size = 1 := rfl
        have q1 : (⟨#[]⟩ : ByteArray).size = 0 := rfl
        simp only [ByteArray.size_append]; omega
      refine ⟨B2 (uV sc us hu ho po true ha pa qu hq fr hf) (strBytes ((⟨#[]⟩ : ByteArray) ++ ((⟨#[58]⟩ : ByteArray) ++ po))), by rw [ea]; exact .inr ⟨rfl, nz⟩, fun n L => ?_⟩
      rw [tg7b]
      simp only [db0, db1, sB_emp, Bool.not_true, bif_tt, bif_ff, Bool.not_true, Bool.not_false]
      rw [sB_app, sB_app]
      rfl
  · cases hp
    · have ea : jPo false po = ⟨#[]⟩ := rfl
      refine ⟨B2 (uV sc us hu ho po false ha pa qu hq fr hf) (strBytes s), by rw [ea, bA_appNil]; exact .inr ⟨rfl, hne⟩, fun n L => ?_⟩
      rw [tg7c]
      rfl
    · have ea : jPo true po = (⟨#[58]⟩ : ByteArray) ++ po := rfl
      have nz : (s ++ ((⟨#[58]⟩ : ByteArray) ++ po)).size ≠ 0 := by
        have q0 : (⟨#[58]⟩ : ByteArray).size = 1 := rfl
        simp only [ByteArray.size_append]; omega
      refine ⟨B2 (uV sc us hu ho po true ha pa qu hq fr hf) (strBytes (s ++ ((⟨#[58]⟩ : ByteArray) ++ po))), by rw [ea]; exact .inr ⟨rfl, nz⟩, fun n L => ?_⟩
      rw [tg7c]
      simp only [dc0, dc1, dc2, bif_tt, bif_ff, Bool.not_true, Bool.not_false]
      rw [sB_app, sB_app]
      rw [← List.append_assoc]
      rfl
theorem sg8 (sc us ho po pa qu fr : ByteArray) (hu hp ha hq hf : Bool) (s : ByteArray) (H : Hp) (hz : s.size ≤ 60000) (hs : StB (uV sc us hu ho po hp ha pa qu hq fr hf) s H) (zpa : pa.size ≤ 4000) : ∃ H', StB (uV sc us hu ho po hp ha pa qu hq fr hf) (s ++ pa) H' ∧ ∀ n L, aexecB Tryz.prog hd20 (filt an20 0) n (prefC 1 (tailC 8 c20)) E20 H (thenK (headK h20 L) (endOf Tryz.prog 48 [])) = L E20 H' := by
  have db0 : decide ((strBytes pa).length * 1 ≤ 70368744177664) = true := decide_eq_true (by simp only [List.length_append, bytes_len]; omega)
  have dc0 : decide (((strBytes s).length + (strBytes pa).length) * 1 ≤ 70368744177664) = true := decide_eq_true (by simp only [List.length_append, bytes_len]; omega)
  rcases hs with ⟨rfl, rfl⟩ | ⟨rfl, hne⟩
  · by_cases e1 : pa.size = 0
    · refine ⟨B1 (uV sc us hu ho po hp ha pa qu hq fr hf), by rw [bA_nil e1, bA_appNil]; exact .inl ⟨rfl, rfl⟩, fun n L => ?_⟩
      rw [tg8b, db0, sB_emp, decide_eq_true e1]
      rfl
    · have nz : ((⟨#[]⟩ : ByteArray) ++ (pa)).size ≠ 0 := by
        have q0 : (⟨#[]⟩ : ByteArray).size = 0 := rfl
        simp only [ByteArray.size_append]; omega
      refine ⟨B2 (uV sc us hu ho po hp ha pa qu hq fr hf) (strBytes ((⟨#[]⟩ : ByteArray) ++ (pa))), by exact .inr ⟨rfl, nz⟩, fun n L => ?_⟩
      rw [tg8b]
      simp only [db0, sB_emp, decide_eq_false e1, bif_tt, bif_ff, Bool.not_true, Bool.not_false]
      rw [sB_app]
      rfl
  · have nz : (s ++ (pa)).size ≠ 0 := by
      simp only [ByteArray.size_append]; omega
    refine ⟨B2 (uV sc us hu ho po hp ha pa qu hq fr hf) (strBytes (s ++ (pa))), by exact .inr ⟨rfl, nz⟩, fun n L => ?_⟩
    rw [tg8c]
    simp only [dc0, bif_tt, bif_ff, Bool.not_true, Bool.not_false]
    rw [sB_app]
    rfl
theorem sg9 (sc us ho po pa qu fr : ByteArray) (hu hp ha hq hf : Bool) (s : ByteArray) (H : Hp) (hz : s.size ≤ 60000) (hs : StB (uV sc us hu ho po hp ha pa qu hq fr hf) s H) (zqu : qu.size ≤ 4000) : ∃ H', StB (uV sc us hu ho po hp ha pa qu hq fr hf) (s ++ jQu hq qu) H' ∧ ∀ n L, aexecB Tryz.prog hd20 (filt an20 0) n (prefC 1 (tailC 9 c20)) E20 H (thenK (headK h20 L) (endOf Tryz.prog 48 [])) = L E20 H' := by
  have db0 : decide ((1 + (strBytes qu).length) * 1 ≤ 70368744177664) = true := decide_eq_true (by have q : (⟨#[63]⟩ : ByteArray).size = 1 := rfl; simp only [List.length_append, bytes_len]; omega)
  have db1 : decide ((strBytes qu).length * 1 ≤ 70368744177664) = true := decide_eq_true (by have q : (⟨#[63]⟩ : ByteArray).size = 1 := rfl; simp only [List.length_append, bytes_len]; omega)
  have dc0 : decide (((strBytes s).length + 1) * 1 ≤ 70368744177664) = true := decide_eq_true (by have q : (⟨#[63]⟩ : ByteArray).size = 1 := rfl; simp only [List.length_append, bytes_len]; omega)
  have dc1 : decide (((strBytes s ++ strBytes (ByteArray.mk #[63])).length + (strBytes qu).length) * 1 ≤ 70368744177664) = true := decide_eq_true (by have q : (⟨#[63]⟩ : ByteArray).size = 1 := rfl; simp only [List.length_append, bytes_len]; omega)
  have dc2 : decide (((strBytes s).length + (strBytes qu).length) * 1 ≤ 70368744177664) = true := decide_eq_true (by have q : (⟨#[63]⟩ : ByteArray).size = 1 := rfl; simp only [List.length_append, bytes_len]; omega)
  rcases hs with ⟨rfl, rfl⟩ | ⟨rfl, hne⟩
  · cases hq
    · have ea : jQu false qu = ⟨#[]⟩ := rfl
      refine ⟨B1 (uV sc us hu ho po hp ha pa qu false fr hf), by rw [ea, bA_appNil]; exact .inl ⟨rfl, rfl⟩, fun n L => ?_⟩
      rw [tg9b]
      rfl
    · have ea : jQu true qu = (⟨#[63]⟩ : ByteArray) ++ qu := rfl
      have nz : ((⟨#[]⟩ : ByteArray) ++ ((⟨#[63]⟩ : ByteArray) ++ qu)).size ≠ 0 := by
        have q0 : (⟨#[63]⟩ : ByteArray).size = 1 := rfl
        have q1 : (⟨#[]⟩ : ByteArray).size = 0 := rfl
        simp only [ByteArray.size_append]; omega
      refine ⟨B2 (uV sc us hu ho po hp ha pa qu true fr hf) (strBytes ((⟨#[]⟩ : ByteArray) ++ ((⟨#[63]⟩ : ByteArray) ++ qu))), by rw [ea]; exact .inr ⟨rfl, nz⟩, fun n L => ?_⟩
      rw [tg9b]
      simp only [db0, db1, sB_emp, Bool.not_true, bif_tt, bif_ff, Bool.not_true, Bool.not_false]
      rw [sB_app, sB_app]
      rfl
  · cases hq
    · have ea : jQu false qu = ⟨#[]⟩ := rfl
      refine ⟨B2 (uV sc us hu ho po hp ha pa qu false fr hf) (strBytes s), by rw [ea, bA_appNil]; exact .inr ⟨rfl, hne⟩, fun n L => ?_⟩
      rw [tg9c]
      rfl
    · have ea : jQu true qu = (⟨#[63]⟩ : ByteArray) ++ qu := rfl
      have nz : (s ++ ((⟨#[63]⟩ : ByteArray) ++ qu)).size ≠ 0 := by
        have q0 : (⟨#[63]⟩ : ByteArray).size = 1 := rfl
        simp only [ByteArray.size_append]; omega
      refine ⟨B2 (uV sc us hu ho po hp ha pa qu true fr hf) (strBytes (s ++ ((⟨#[63]⟩ : ByteArray) ++ qu))), by rw [ea]; exact .inr ⟨rfl, nz⟩, fun n L => ?_⟩
      rw [tg9c]
      simp only [dc0, dc1, dc2, bif_tt, bif_ff, Bool.not_true, Bool.not_false]
      rw [sB_app, sB_app]
      rw [← List.append_assoc]
      rfl
theorem sg10 (sc us ho po pa qu fr : ByteArray) (hu hp ha hq hf : Bool) (s : ByteArray) (H : Hp) (hz : s.size ≤ 60000) (hs : StB (uV sc us hu ho po hp ha pa qu hq fr hf) s H) (zfr : fr.size ≤ 4000) : ∃ H', StB (uV sc us hu ho po hp ha pa qu hq fr hf) (s ++ jFr hf fr) H' ∧ ∀ n L, aexecB Tryz.prog hd20 (filt an20 0) n (prefC 1 (tailC 10 c20)) E20 H (thenK (headK h20e L) (endOf Tryz.prog 48 [])) = L (mkEnv 58 [(3, .bptr 1 0)]) H' := by
  have db0 : decide ((1 + (strBytes fr).length) * 1 ≤ 70368744177664) = true := decide_eq_true (by have q : (⟨#[35]⟩ : ByteArray).size = 1 := rfl; simp only [List.length_append, bytes_len]; omega)
  have db1 : decide ((strBytes fr).length * 1 ≤ 70368744177664) = true := decide_eq_true (by have q : (⟨#[35]⟩ : ByteArray).size = 1 := rfl; simp only [List.length_append, bytes_len]; omega)
  have dc0 : decide (((strBytes s).length + 1) * 1 ≤ 70368744177664) = true := decide_eq_true (by have q : (⟨#[35]⟩ : ByteArray).size = 1 := rfl; simp only [List.length_append, bytes_len]; omega)
  have dc1 : decide (((strBytes s ++ strBytes (ByteArray.mk #[35])).length + (strBytes fr).length) * 1 ≤ 70368744177664) = true := decide_eq_true (by have q : (⟨#[35]⟩ : ByteArray).size = 1 := rfl; simp only [List.length_append, bytes_len]; omega)
  have dc2 : decide (((strBytes s).length + (strBytes fr).length) * 1 ≤ 70368744177664) = true := decide_eq_true (by have q : (⟨#[35]⟩ : ByteArray).size = 1 := rfl; simp only [List.length_append, bytes_len]; omega)
  rcases hs with ⟨rfl, rfl⟩ | ⟨rfl, hne⟩
  · cases hf
    · have ea : jFr false fr = ⟨#[]⟩ := rfl
      refine ⟨B1 (uV sc us hu ho po hp ha pa qu hq fr false), by rw [ea, bA_appNil]; exact .inl ⟨rfl, rfl⟩, fun n L => ?_⟩
      rw [tg10b]
      rfl
    · have ea : jFr true fr = (⟨#[35]⟩ : ByteArray) ++ fr := rfl
      have nz : ((⟨#[]⟩ : ByteArray) ++ ((⟨#[35]⟩ : ByteArray) ++ fr)).size ≠ 0 := by
        have q0 : (⟨#[35]⟩ : ByteArray).size = 1 := rfl
        have q1 : (⟨#[]⟩ : ByteArray).size = 0 := rfl
        simp only [ByteArray.size_append]; omega
      refine ⟨B2 (uV sc us hu ho po hp ha pa qu hq fr true) (strBytes ((⟨#[]⟩ : ByteArray) ++ ((⟨#[35]⟩ : ByteArray) ++ fr))), by rw [ea]; exact .inr ⟨rfl, nz⟩, fun n L => ?_⟩
      rw [tg10b]
      simp only [db0, db1, sB_emp, Bool.not_true, bif_tt, bif_ff, Bool.not_true, Bool.not_false]
      rw [sB_app, sB_app]
      rfl
  · cases hf
    · have ea : jFr false fr = ⟨#[]⟩ := rfl
      refine ⟨B2 (uV sc us hu ho po hp ha pa qu hq fr false) (strBytes s), by rw [ea, bA_appNil]; exact .inr ⟨rfl, hne⟩, fun n L => ?_⟩
      rw [tg10c]
      rfl
    · have ea : jFr true fr = (⟨#[35]⟩ : ByteArray) ++ fr := rfl
      have nz : (s ++ ((⟨#[35]⟩ : ByteArray) ++ fr)).size ≠ 0 := by
        have q0 : (⟨#[35]⟩ : ByteArray).size = 1 := rfl
        simp only [ByteArray.size_append]; omega
      refine ⟨B2 (uV sc us hu ho po hp ha pa qu hq fr true) (strBytes (s ++ ((⟨#[35]⟩ : ByteArray) ++ fr))), by rw [ea]; exact .inr ⟨rfl, nz⟩, fun n L => ?_⟩
      rw [tg10c]
      simp only [dc0, dc1, dc2, bif_tt, bif_ff, Bool.not_true, Bool.not_false]
      rw [sB_app, sB_app]
      rw [← List.append_assoc]
      rfl

end Go.Pv

/- URLs: parts put together: all of it. -/
namespace Go.Pv
set_option linter.unusedVariables false
set_option maxRecDepth 100000
open Go Go.Proofs
variable {I : World → Prop} {ng : Nat}

theorem bytes_back (s : ByteArray) : bytesOf (strBytes s) = s := by
  unfold bytesOf strBytes
  rw [List.map_map]
  have e : ((fun c : CV => UInt8.ofNat c.toInt.toNat) ∘ encByte) = id := by
    funext b
    show UInt8.ofNat (Int.toNat ((b.toNat : Nat) : Int)) = b
    rw [natM]; simp
  rw [e, List.map_id]
theorem bytes_u8 (s : ByteArray) : (strBytes s).all isU8 = true := by
  unfold strBytes
  rw [List.all_map, List.all_eq_true]
  intro b _
  show isU8 (CV.int .u8 ((b.toNat : Nat) : Int)) = true
  have := b.toNat_lt
  simp [isU8]
def joinU (sc us ho po pa qu fr : ByteArray) (hu hp ha hq hf : Bool) : ByteArray :=
  (((((((jSc sc ++ jAu ha) ++ jUs hu us) ++ ho) ++ jPo hp po) ++ pa) ++ jQu hq qu) ++ jFr hf fr)
theorem tg11' (sc us ho po pa qu fr : ByteArray) (hu hp ha hq hf : Bool) (s : ByteArray) (H : Hp) (hz : s.size ≤ 60000) (hs : StB (uV sc us hu ho po hp ha pa qu hq fr hf) s H) (n : Nat) :
    aexecB Tryz.prog hd20 (filt an20 0) n (tailC 11 c20) (mkEnv 58 [(3, .bptr 1 0)]) H (endOf Tryz.prog 48 []) = some (.str s, []) := by
  rcases hs with ⟨rfl, rfl⟩ | ⟨rfl, hne⟩
  · rw [tg11b]
  · rw [tg11c]
    have d0 : decide (0 < (((strBytes s).length : Nat) : Int)) = true := decide_eq_true (by rw [bytes_len]; omega)
    have d1 : decide ((((strBytes s).length : Nat) : Int) ≤ (((strBytes s).length : Nat) : Int)) = true := decide_eq_true (Int.le_refl _)
    have d2 : decide ((((strBytes s).length : Nat) : Int) ≤ 9223372036854775807) = true := decide_eq_true (by rw [bytes_len]; omega)
    rw [d0, d1, d2, natM, List.take_length, bytes_u8, bytes_back, sB_emp, decide_eq_false hne]
    rfl
theorem sp20 (k : Nat) : spine k c20 = spine k c20 := rfl
theorem sp20_3 : spine 3 c20 = true := by kernel_rfl
theorem ha20_3 : headAt (filt an20 0) (tailC 3 c20) = some h20 := by kernel_rfl
theorem sp20_4 : spine 1 (tailC 3 c20) = true := by kernel_rfl
theorem ha20_4 : headAt (filt an20 0) (tailC 1 (tailC 3 c20)) = some h20 := by kernel_rfl
theorem ta20_4 : tailC 1 (tailC 3 c20) = tailC 4 c20 := eq_of_heq (heq_of_eq (by kernel_rfl))
theorem sp20_5 : spine 1 (tailC 4 c20) = true := by kernel_rfl
theorem ha20_5 : headAt (filt an20 0) (tailC 1 (tailC 4 c20)) = some h20 := by kernel_rfl
theorem ta20_5 : tailC 1 (tailC 4 c20) = tailC 5 c20 := eq_of_heq (heq_of_eq (by kernel_rfl))
theorem sp20_6 : spine 1 (tailC 5 c20) = true := by kernel_rfl
theorem ha20_6 : headAt (filt an20 0) (tailC 1 (tailC 5 c20)) = some h20 := by kernel_rfl
theorem ta20_6 : tailC 1 (tailC 5 c20) = tailC 6 c20 := eq_of_heq (heq_of_eq (by kernel_rfl))
theorem sp20_7 : spine 1 (tailC 6 c20) = true := by kernel_rfl
theorem ha20_7 : headAt (filt an20 0) (tailC 1 (tailC 6 c20)) = some h20 := by kernel_rfl
theorem ta20_7 : tailC 1 (tailC 6 c20) = tailC 7 c20 := eq_of_heq (heq_of_eq (by kernel_rfl))
theorem sp20_8 : spine 1 (tailC 7 c20) = true := by kernel_rfl
theorem ha20_8 : headAt (filt an20 0) (tailC 1 (tailC 7 c20)) = some h20 := by kernel_rfl
theorem ta20_8 : tailC 1 (tailC 7 c20) = tailC 8 c20 := eq_of_heq (heq_of_eq (by kernel_rfl))
theorem sp20_9 : spine 1 (tailC 8 c20) = true := by kernel_rfl
theorem ha20_9 : headAt (filt an20 0) (tailC 1 (tailC 8 c20)) = some h20 := by kernel_rfl
theorem ta20_9 : tailC 1 (tailC 8 c20) = tailC 9 c20 := eq_of_heq (heq_of_eq (by kernel_rfl))
theorem sp20_10 : spine 1 (tailC 9 c20) = true := by kernel_rfl
theorem ha20_10 : headAt (filt an20 0) (tailC 1 (tailC 9 c20)) = some h20 := by kernel_rfl
theorem ta20_10 : tailC 1 (tailC 9 c20) = tailC 10 c20 := eq_of_heq (heq_of_eq (by kernel_rfl))
theorem sp20_11 : spine 1 (tailC 10 c20) = true := by kernel_rfl
theorem ha20_11 : headAt (filt an20 0) (tailC 1 (tailC 10 c20)) = some h20e := by kernel_rfl
theorem ta20_11 : tailC 1 (tailC 10 c20) = tailC 11 c20 := eq_of_heq (heq_of_eq (by kernel_rfl))
theorem jz (c : ByteArray) (h : c.size = 1) (b : Bool) (s : ByteArray) (hs : s.size ≤ 4000) : (if b = true then c ++ s else (⟨#[]⟩ : ByteArray)).size ≤ 4001 := by
  cases b
  · exact Nat.zero_le _
  · simp only [if_true, ByteArray.size_append]; omega
theorem together_eq (sc us ho po pa qu fr : ByteArray) (hu hp ha hq hf : Bool) (zsc : sc.size ≤ 4000) (zus : us.size ≤ 4000) (zho : ho.size ≤ 4000) (zpo : po.size ≤ 4000) (zpa : pa.size ≤ 4000) (zqu : qu.size ≤ 4000) (zfr : fr.size ≤ 4000) (n : Nat) :
    aexec Tryz.prog hd20 (filt an20 0) n c20 (envOf Tryz.prog 48 [.c (uV sc us hu ho po hp ha pa qu hq fr hf)]) [] (endOf Tryz.prog 48 []) = some (.str (joinU sc us ho po pa qu fr hu hp ha hq hf), []) := by
  have y1 : (jSc sc).size ≤ 4001 := by
    unfold jSc
    split
    · exact Nat.zero_le _
    · have q : (⟨#[58]⟩ : ByteArray).size = 1 := rfl
      simp only [ByteArray.size_append]; omega
  have y2 : (jAu ha).size ≤ 2 := by cases ha <;> exact Nat.le_of_ble_eq_true rfl
  have y3 : (jUs hu us).size ≤ 4001 := by
    have q : (⟨#[64]⟩ : ByteArray).size = 1 := rfl
    cases hu
    · exact Nat.zero_le _
    · show (us ++ _).size ≤ _
      simp only [ByteArray.size_append]; omega
  have y4 : (jPo hp po).size ≤ 4001 := jz _ rfl hp po zpo
  have y5 : (jQu hq qu).size ≤ 4001 := jz _ rfl hq qu zqu
  have y6 : (jFr hf fr).size ≤ 4001 := jz _ rfl hf fr zfr
  rw [seg_a (k := 3) (by decide) sp20_3 ha20_3, tg0]
  show aexecB Tryz.prog hd20 (filt an20 0) n (tailC 3 c20) E20 (B0 (uV sc us hu ho po hp ha pa qu hq fr hf)) (endOf Tryz.prog 48 []) = _
  obtain ⟨H3, s3, x3⟩ := sg3 sc us ho po pa qu fr hu hp ha hq hf zsc
  rw [bA_nilApp] at s3
  rw [seg_b (k := 1) (by decide) sp20_4 ha20_4, x3, ta20_4]
  obtain ⟨H4, s4, x4⟩ := sg4 sc us ho po pa qu fr hu hp ha hq hf _ _ (by first | omega | (simp only [ByteArray.size_append]; omega)) s3
  rw [seg_b (k := 1) (by decide) sp20_5 ha20_5, x4, ta20_5]
  obtain ⟨H5, s5, x5⟩ := sg5 sc us ho po pa qu fr hu hp ha hq hf _ _ (by first | omega | (simp only [ByteArray.size_append]; omega)) s4 zus
  rw [seg_b (k := 1) (by decide) sp20_6 ha20_6, x5, ta20_6]
  obtain ⟨H6, s6, x6⟩ := sg6 sc us ho po pa qu fr hu hp ha hq hf _ _ (by first | omega | (simp only [ByteArray.size_append]; omega)) s5 zho
  rw [seg_b (k := 1) (by decide) sp20_7 ha20_7, x6, ta20_7]
  obtain ⟨H7, s7, x7⟩ := sg7 sc us ho po pa qu fr hu hp ha hq hf _ _ (by first | omega | (simp only [ByteArray.size_append]; omega)) s6 zpo
  rw [seg_b (k := 1) (by decide) sp20_8 ha20_8, x7, ta20_8]
  obtain ⟨H8, s8, x8⟩ := sg8 sc us ho po pa qu fr hu hp ha hq hf _ _ (by first | omega | (simp only [ByteArray.size_append]; omega)) s7 zpa
  rw [seg_b (k := 1) (by decide) sp20_9 ha20_9, x8, ta20_9]
  obtain ⟨H9, s9, x9⟩ := sg9 sc us ho po pa qu fr hu hp ha hq hf _ _ (by first | omega | (simp only [ByteArray.size_append]; omega)) s8 zqu
  rw [seg_b (k := 1) (by decide) sp20_10 ha20_10, x9, ta20_10]
  obtain ⟨H10, s10, x10⟩ := sg10 sc us ho po pa qu fr hu hp ha hq hf _ _ (by first | omega | (simp only [ByteArray.size_append]; omega)) s9 zfr
  rw [seg_b (k := 1) (by decide) sp20_11 ha20_11, x10, ta20_11]
  exact tg11' sc us ho po pa qu fr hu hp ha hq hf _ _ (by first | omega | (simp only [ByteArray.size_append]; omega)) s10 n

def n4 (s : ByteArray) : Bool := decide (s.size ≤ 4000)
def uSmall : CV → Bool
  | .agg [.str sc, .str us, .bool hu, .str ho, .str po, .bool hp, .bool ha, .str pa, .str qu, .bool hq, .str fr, .bool hf] => n4 sc && (n4 us && (n4 ho && (n4 po && (n4 pa && (n4 qu && n4 fr)))))
  | _ => false
def L20 : Fn1 := fun cargs => match cargs with
  | [.agg [.str sc, .str us, .bool hu, .str ho, .str po, .bool hp, .bool ha, .str pa, .str qu, .bool hq, .str fr, .bool hf]] => some [(n4 sc && (n4 us && (n4 ho && (n4 po && (n4 pa && (n4 qu && n4 fr))))), .str (joinU sc us ho po pa qu fr hu hp ha hq hf), [])]
  | _ => none
theorem n4_iff {s : ByteArray} : n4 s = true ↔ s.size ≤ 4000 := decide_eq_true_iff
theorem known0 : Kw I ng A0 := fun f cargs rv outs h => by cases h
theorem g20 (hg : OnGlobals I ng) : Cw I ng 48 L20 := contract_of an20 hg (inls_ok hg (hok_of known0) [75, 50, 51, 76]) fun cargs rv outs h => by
  unfold L20 at h
  split at h <;> first | (cases h; done) | skip
  rename_i sc us hu ho po hp ha pa qu hq fr hf
  cases hc : (n4 sc && (n4 us && (n4 ho && (n4 po && (n4 pa && (n4 qu && n4 fr)))))) with
  | false => rw [hc] at h; cases h
  | true =>
    rw [hc] at h
    cases h
    simp only [Bool.and_eq_true, n4_iff] at hc
    refine ⟨1, ?_⟩
    rw [abody_eq2 (ps := [.c (uV sc us hu ho po hp ha pa qu hq fr hf)]) (H := []) rfl (by kernel_rfl)]
    exact together_eq sc us ho po pa qu fr hu hp ha hq hf hc.1 hc.2.1 hc.2.2.1 hc.2.2.2.1 hc.2.2.2.2.1 hc.2.2.2.2.2.1 hc.2.2.2.2.2.2 1

end Go.Pv

/- URLs: the document's parts put together: trees. -/
namespace Go.Pv
set_option linter.unusedVariables false
set_option maxRecDepth 100000
open Go Go.Proofs

noncomputable def c14 : Code := codeOf Tryz.prog 21
def h14 : Head := ⟨[1, 3], [], 1⟩
def h14e : Head := ⟨[3], [], 1⟩
def an14 : Ann := fun i => if Nat.beq i 500004 then some h14 else if Nat.beq i 500006 then some h14 else if Nat.beq i 500008 then some h14 else if Nat.beq i 500009 then some h14 else if Nat.beq i 500011 then some h14 else if Nat.beq i 500012 then some h14 else if Nat.beq i 500014 then some h14 else if Nat.beq i 500016 then some h14e else none
def E14 (s : ByteArray) : Env := mkEnv 51 [(1, .bptr 0 0), (3, .c (.str s))]
def B14 (u : CV) : Hp := [.box (.c u) kU]
theorem tj2 (sc us ho po pa qu fr : ByteArray) (hu hp ha hq hf : Bool) (n : Nat) (L : Env → Hp → Res) : aexec Tryz.prog (call' A0) (filt an14 0) n (prefC 3 c14) (envOf Tryz.prog 21 [.c (uV sc us hu ho po hp ha pa qu hq fr hf)]) [] (thenK (headK h14 L) (endOf Tryz.prog 21 [])) =
 bif' (!sc.toList == (ByteArray.mk #[]).toList) (bif' (fitsS (sc.size + 1)) (L (mkEnv 51 [(1, PV.bptr 0 0), (3, PV.c (CV.str (sc ++ ByteArray.mk #[58])))]) [AO.box (PV.c (CV.agg [CV.str sc, CV.str us, CV.bool hu, CV.str ho, CV.str po, CV.bool hp, CV.bool ha, CV.str pa, CV.str qu, CV.bool hq, CV.str fr, CV.bool hf])) (kOf (uV sc us hu ho po hp ha pa qu hq fr hf).cl.length 26)]) none) (L (mkEnv 51 [(1, PV.bptr 0 0), (3, PV.c (CV.str ⟨⟨[]⟩⟩))]) [AO.box (PV.c (CV.agg [CV.str sc, CV.str us, CV.bool hu, CV.str ho, CV.str po, CV.bool hp, CV.bool ha, CV.str pa, CV.str qu, CV.bool hq, CV.str fr, CV.bool hf])) (kOf (uV sc us hu ho po hp ha pa qu hq fr hf).cl.length 26)]) := by kernel_rfl
theorem tj3 (sc us ho po pa qu fr : ByteArray) (hu hp ha hq hf : Bool) (s : ByteArray) (n : Nat) (L : Env → Hp → Res) : aexecB Tryz.prog (call' A0) (filt an14 0) n (prefC 1 (tailC 3 c14)) (E14 s) (B14 (uV sc us hu ho po hp ha pa qu hq fr hf)) (thenK (headK h14 L) (endOf Tryz.prog 21 [])) =
 bif' ha (bif' (fitsS (s.size + 2)) (L (mkEnv 51 [(1, PV.bptr 0 0), (3, PV.c (CV.str (s ++ ByteArray.mk #[47, 47])))]) [AO.box (PV.c (CV.agg [CV.str sc, CV.str us, CV.bool hu, CV.str ho, CV.str po, CV.bool hp, CV.bool ha, CV.str pa, CV.str qu, CV.bool hq, CV.str fr, CV.bool hf])) kU]) none) (L (mkEnv 51 [(1, PV.bptr 0 0), (3, PV.c (CV.str s))]) [AO.box (PV.c (CV.agg [CV.str sc, CV.str us, CV.bool hu, CV.str ho, CV.str po, CV.bool hp, CV.bool ha, CV.str pa, CV.str qu, CV.bool hq, CV.str fr, CV.bool hf])) kU]) := by kernel_rfl
theorem tj4 (sc us ho po pa qu fr : ByteArray) (hu hp ha hq hf : Bool) (s : ByteArray) (n : Nat) (L : Env → Hp → Res) : aexecB Tryz.prog (call' A0) (filt an14 0) n (prefC 1 (tailC 4 c14)) (E14 s) (B14 (uV sc us hu ho po hp ha pa qu hq fr hf)) (thenK (headK h14 L) (endOf Tryz.prog 21 [])) =
 bif' hu (bif' (fitsS (s.size + us.size)) (bif' (fitsS ((s ++ us).size + 1)) (L (mkEnv 51 [(1, PV.bptr 0 0), (3, PV.c (CV.str (s ++ us ++ ByteArray.mk #[64])))]) [AO.box (PV.c (CV.agg [CV.str sc, CV.str us, CV.bool hu, CV.str ho, CV.str po, CV.bool hp, CV.bool ha, CV.str pa, CV.str qu, CV.bool hq, CV.str fr, CV.bool hf])) kU]) none) none) (L (mkEnv 51 [(1, PV.bptr 0 0), (3, PV.c (CV.str s))]) [AO.box (PV.c (CV.agg [CV.str sc, CV.str us, CV.bool hu, CV.str ho, CV.str po, CV.bool hp, CV.bool ha, CV.str pa, CV.str qu, CV.bool hq, CV.str fr, CV.bool hf])) kU]) := by kernel_rfl
theorem tj5 (sc us ho po pa qu fr : ByteArray) (hu hp ha hq hf : Bool) (s : ByteArray) (n : Nat) (L : Env → Hp → Res) : aexecB Tryz.prog (call' A0) (filt an14 0) n (prefC 1 (tailC 5 c14)) (E14 s) (B14 (uV sc us hu ho po hp ha pa qu hq fr hf)) (thenK (headK h14 L) (endOf Tryz.prog 21 [])) =
 bif' (fitsS (s.size + ho.size)) (L (mkEnv 51 [(1, PV.bptr 0 0), (3, PV.c (CV.str (s ++ ho)))]) [AO.box (PV.c (CV.agg [CV.str sc, CV.str us, CV.bool hu, CV.str ho, CV.str po, CV.bool hp, CV.bool ha, CV.str pa, CV.str qu, CV.bool hq, CV.str fr, CV.bool hf])) kU]) none := by kernel_rfl
theorem tj6 (sc us ho po pa qu fr : ByteArray) (hu hp ha hq hf : Bool) (s : ByteArray) (n : Nat) (L : Env → Hp → Res) : aexecB Tryz.prog (call' A0) (filt an14 0) n (prefC 1 (tailC 6 c14)) (E14 s) (B14 (uV sc us hu ho po hp ha pa qu hq fr hf)) (thenK (headK h14 L) (endOf Tryz.prog 21 [])) =
 bif' hp (bif' (fitsS (s.size + 1)) (bif' (fitsS ((s ++ ByteArray.mk #[58]).size + po.size)) (L (mkEnv 51 [(1, PV.bptr 0 0), (3, PV.c (CV.str (s ++ ByteArray.mk #[58] ++ po)))]) [AO.box (PV.c (CV.agg [CV.str sc, CV.str us, CV.bool hu, CV.str ho, CV.str po, CV.bool hp, CV.bool ha, CV.str pa, CV.str qu, CV.bool hq, CV.str fr, CV.bool hf])) kU]) none) none) (L (mkEnv 51 [(1, PV.bptr 0 0), (3, PV.c (CV.str s))]) [AO.box (PV.c (CV.agg [CV.str sc, CV.str us, CV.bool hu, CV.str ho, CV.str po, CV.bool hp, CV.bool ha, CV.str pa, CV.str qu, CV.bool hq, CV.str fr, CV.bool hf])) kU]) := by kernel_rfl
theorem tj7 (sc us ho po pa qu fr : ByteArray) (hu hp ha hq hf : Bool) (s : ByteArray) (n : Nat) (L : Env → Hp → Res) : aexecB Tryz.prog (call' A0) (filt an14 0) n (prefC 1 (tailC 7 c14)) (E14 s) (B14 (uV sc us hu ho po hp ha pa qu hq fr hf)) (thenK (headK h14 L) (endOf Tryz.prog 21 [])) =
 bif' (fitsS (s.size + pa.size)) (L (mkEnv 51 [(1, PV.bptr 0 0), (3, PV.c (CV.str (s ++ pa)))]) [AO.box (PV.c (CV.agg [CV.str sc, CV.str us, CV.bool hu, CV.str ho, CV.str po, CV.bool hp, CV.bool ha, CV.str pa, CV.str qu, CV.bool hq, CV.str fr, CV.bool hf])) kU]) none := by kernel_rfl
theorem tj8 (sc us ho po pa qu fr : ByteArray) (hu hp ha hq hf : Bool) (s : ByteArray) (n : Nat) (L : Env → Hp → Res) : aexecB Tryz.prog (call' A0) (filt an14 0) n (prefC 1 (tailC 8 c14)) (E14 s) (B14 (uV sc us hu ho po hp ha pa qu hq fr hf)) (thenK (headK h14 L) (endOf Tryz.prog 21 [])) =
 bif' hq (bif' (fitsS (s.size + 1)) (bif' (fitsS ((s ++ ByteArray.mk #[63]).size + qu.size)) (L (mkEnv 51 [(1, PV.bptr 0 0), (3, PV.c (CV.str (s ++ ByteArray.mk #[63] ++ qu)))]) [AO.box (PV.c (CV.agg [CV.str sc, CV.str us, CV.bool hu, CV.str ho, CV.str po, CV.bool hp, CV.bool ha, CV.str pa, CV.str qu, CV.bool hq, CV.str fr, CV.bool hf])) kU]) none) none) (L (mkEnv 51 [(1, PV.bptr 0 0), (3, PV.c (CV.str s))]) [AO.box (PV.c (CV.agg [CV.str sc, CV.str us, CV.bool hu, CV.str ho, CV.str po, CV.bool hp, CV.bool ha, CV.str pa, CV.str qu, CV.bool hq, CV.str fr, CV.bool hf])) kU]) := by kernel_rfl
theorem tj9 (sc us ho po pa qu fr : ByteArray) (hu hp ha hq hf : Bool) (s : ByteArray) (n : Nat) (L : Env → Hp → Res) : aexecB Tryz.prog (call' A0) (filt an14 0) n (prefC 1 (tailC 9 c14)) (E14 s) (B14 (uV sc us hu ho po hp ha pa qu hq fr hf)) (thenK (headK h14e L) (endOf Tryz.prog 21 [])) =
 bif' hf (bif' (fitsS (s.size + 1)) (bif' (fitsS ((s ++ ByteArray.mk #[35]).size + fr.size)) (L (mkEnv 51 [(3, PV.c (CV.str (s ++ ByteArray.mk #[35] ++ fr)))]) [AO.box (PV.c (CV.agg [CV.str sc, CV.str us, CV.bool hu, CV.str ho, CV.str po, CV.bool hp, CV.bool ha, CV.str pa, CV.str qu, CV.bool hq, CV.str fr, CV.bool hf])) kU]) none) none) (L (mkEnv 51 [(3, PV.c (CV.str s))]) [AO.box (PV.c (CV.agg [CV.str sc, CV.str us, CV.bool hu, CV.str ho, CV.str po, CV.bool hp, CV.bool ha, CV.str pa, CV.str qu, CV.bool hq, CV.str fr, CV.bool hf])) kU]) := by kernel_rfl
theorem tj10 (sc us ho po pa qu fr : ByteArray) (hu hp ha hq hf : Bool) (s : ByteArray) (n : Nat) : aexecB Tryz.prog (call' A0) (filt an14 0) n (tailC 10 c14) (mkEnv 51 [(3, .c (.str s))]) (B14 (uV sc us hu ho po hp ha pa qu hq fr hf)) (endOf Tryz.prog 21 []) =
 some (CV.str s, []) := by kernel_rfl

end Go.Pv

/- URLs: the document's parts put together: what it is. -/
namespace Go.Pv
set_option linter.unusedVariables false
set_option linter.unusedSimpArgs false
set_option maxRecDepth 100000
open Go Go.Proofs
variable {I : World → Prop} {ng : Nat}

theorem jg2 (sc us ho po pa qu fr : ByteArray) (hu hp ha hq hf : Bool) (zsc : sc.size ≤ 4000) (n : Nat) (L : Env → Hp → Res) : aexec Tryz.prog (call' A0) (filt an14 0) n (prefC 3 c14) (envOf Tryz.prog 21 [.c (uV sc us hu ho po hp ha pa qu hq fr hf)]) [] (thenK (headK h14 L) (endOf Tryz.prog 21 [])) = L (E14 (jSc sc)) (B14 (uV sc us hu ho po hp ha pa qu hq fr hf)) := by
  rw [tj2, bA_emp]
  by_cases e0 : sc.size = 0
  · rw [decide_eq_true e0, show jSc sc = ⟨#[]⟩ from if_pos e0]; rfl
  · rw [decide_eq_false e0, fits_small (by omega), show jSc sc = sc ++ (⟨#[58]⟩ : ByteArray) from if_neg e0]; rfl
theorem jg3 (sc us ho po pa qu fr : ByteArray) (hu hp ha hq hf : Bool) (s : ByteArray) (hz : s.size ≤ 60000) (n : Nat) (L : Env → Hp → Res) : aexecB Tryz.prog (call' A0) (filt an14 0) n (prefC 1 (tailC 3 c14)) (E14 s) (B14 (uV sc us hu ho po hp ha pa qu hq fr hf)) (thenK (headK h14 L) (endOf Tryz.prog 21 [])) = L (E14 (s ++ jAu ha)) (B14 (uV sc us hu ho po hp ha pa qu hq fr hf)) := by
  rw [tj3]
  have q : (⟨#[47, 47]⟩ : ByteArray).size = 2 := rfl
  have f0 : fitsS (s.size + 2) = true := fits_small (by omega)
  rw [f0]
  cases ha
  · rw [show jAu false = ⟨#[]⟩ from rfl, bA_appNil]; rfl
  · rw [show jAu true = (⟨#[47, 47]⟩ : ByteArray) from rfl]; rfl
theorem jg4 (sc us ho po pa qu fr : ByteArray) (hu hp ha hq hf : Bool) (s : ByteArray) (hz : s.size ≤ 60000) (zus : us.size ≤ 4000) (n : Nat) (L : Env → Hp → Res) : aexecB Tryz.prog (call' A0) (filt an14 0) n (prefC 1 (tailC 4 c14)) (E14 s) (B14 (uV sc us hu ho po hp ha pa qu hq fr hf)) (thenK (headK h14 L) (endOf Tryz.prog 21 [])) = L (E14 (s ++ jUs hu us)) (B14 (uV sc us hu ho po hp ha pa qu hq fr hf)) := by
  rw [tj4]
  have q : (⟨#[64]⟩ : ByteArray).size = 1 := rfl
  have f0 : fitsS (s.size + us.size) = true := fits_small (by omega)
  have f1 : fitsS ((s ++ us).size + 1) = true := fits_small (by simp only [ByteArray.size_append]; omega)
  rw [f0, f1]
  cases hu
  · rw [show jUs false us = ⟨#[]⟩ from rfl, bA_appNil]; rfl
  · rw [show jUs true us = us ++ (⟨#[64]⟩ : ByteArray) from rfl, ← ByteArray.append_assoc]; rfl
theorem jg5 (sc us ho po pa qu fr : ByteArray) (hu hp ha hq hf : Bool) (s : ByteArray) (hz : s.size ≤ 60000) (zho : ho.size ≤ 4000) (n : Nat) (L : Env → Hp → Res) : aexecB Tryz.prog (call' A0) (filt an14 0) n (prefC 1 (tailC 5 c14)) (E14 s) (B14 (uV sc us hu ho po hp ha pa qu hq fr hf)) (thenK (headK h14 L) (endOf Tryz.prog 21 [])) = L (E14 (s ++ ho)) (B14 (uV sc us hu ho po hp ha pa qu hq fr hf)) := by
  rw [tj5]
  have f0 : fitsS (s.size + ho.size) = true := fits_small (by omega)
  rw [f0]
  rfl
theorem jg6 (sc us ho po pa qu fr : ByteArray) (hu hp ha hq hf : Bool) (s : ByteArray) (hz : s.size ≤ 60000) (zpo : po.size ≤ 4000) (n : Nat) (L : Env → Hp → Res) : aexecB Tryz.prog (call' A0) (filt an14 0) n (prefC 1 (tailC 6 c14)) (E14 s) (B14 (uV sc us hu ho po hp ha pa qu hq fr hf)) (thenK (headK h14 L) (endOf Tryz.prog 21 [])) = L (E14 (s ++ jPo hp po)) (B14 (uV sc us hu ho po hp ha pa qu hq fr hf)) := by
  rw [tj6]
  have q : (⟨#[58]⟩ : ByteArray).size = 1 := rfl
  have f0 : fitsS (s.size + 1) = true := fits_small (by omega)
  have f1 : fitsS ((s ++ (⟨#[58]⟩ : ByteArray)).size + po.size) = true := fits_small (by simp only [ByteArray.size_append]; omega)
  rw [f0, f1]
  cases hp
  · rw [show jPo false po = ⟨#[]⟩ from rfl, bA_appNil]; rfl
  · rw [show jPo true po = (⟨#[58]⟩ : ByteArray) ++ po from rfl, ← ByteArray.append_assoc]; rfl
theorem jg7 (sc us ho po pa qu fr : ByteArray) (hu hp ha hq hf : Bool) (s : ByteArray) (hz : s.size ≤ 60000) (zpa : pa.size ≤ 4000) (n : Nat) (L : Env → Hp → Res) : aexecB Tryz.prog (call' A0) (filt an14 0) n (prefC 1 (tailC 7 c14)) (E14 s) (B14 (uV sc us hu ho po hp ha pa qu hq fr hf)) (thenK (headK h14 L) (endOf Tryz.prog 21 [])) = L (E14 (s ++ pa)) (B14 (uV sc us hu ho po hp ha pa qu hq fr hf)) := by
  rw [tj7]
  have f0 : fitsS (s.size + pa.size) = true := fits_small (by omega)
  rw [f0]
  rfl
theorem jg8 (sc us ho po pa qu fr : ByteArray) (hu hp ha hq hf : Bool) (s : ByteArray) (hz : s.size ≤ 60000) (zqu : qu.size ≤ 4000) (n : Nat) (L : Env → Hp → Res) : aexecB Tryz.prog (call' A0) (filt an14 0) n (prefC 1 (tailC 8 c14)) (E14 s) (B14 (uV sc us hu ho po hp ha pa qu hq fr hf)) (thenK (headK h14 L) (endOf Tryz.prog 21 [])) = L (E14 (s ++ jQu hq qu)) (B14 (uV sc us hu ho po hp ha pa qu hq fr hf)) := by
  rw [tj8]
  have q : (⟨#[63]⟩ : ByteArray).size = 1 := rfl
  have f0 : fitsS (s.size + 1) = true := fits_small (by omega)
  have f1 : fitsS ((s ++ (⟨#[63]⟩ : ByteArray)).size + qu.size) = true := fits_small (by simp only [ByteArray.size_append]; omega)
  rw [f0, f1]
  cases hq
  · rw [show jQu false qu = ⟨#[]⟩ from rfl, bA_appNil]; rfl
  · rw [show jQu true qu = (⟨#[63]⟩ : ByteArray) ++ qu from rfl, ← ByteArray.append_assoc]; rfl
theorem jg9 (sc us ho po pa qu fr : ByteArray) (hu hp ha hq hf : Bool) (s : ByteArray) (hz : s.size ≤ 60000) (zfr : fr.size ≤ 4000) (n : Nat) (L : Env → Hp → Res) : aexecB Tryz.prog (call' A0) (filt an14 0) n (prefC 1 (tailC 9 c14)) (E14 s) (B14 (uV sc us hu ho po hp ha pa qu hq fr hf)) (thenK (headK h14e L) (endOf Tryz.prog 21 [])) = L (mkEnv 51 [(3, .c (.str (s ++ jFr hf fr)))]) (B14 (uV sc us hu ho po hp ha pa qu hq fr hf)) := by
  rw [tj9]
  have q : (⟨#[35]⟩ : ByteArray).size = 1 := rfl
  have f0 : fitsS (s.size + 1) = true := fits_small (by omega)
  have f1 : fitsS ((s ++ (⟨#[35]⟩ : ByteArray)).size + fr.size) = true := fits_small (by simp only [ByteArray.size_append]; omega)
  rw [f0, f1]
  cases hf
  · rw [show jFr false fr = ⟨#[]⟩ from rfl, bA_appNil]; rfl
  · rw [show jFr true fr = (⟨#[35]⟩ : ByteArray) ++ fr from rfl, ← ByteArray.append_assoc]; rfl
theorem sp14_2 : spine 3 c14 = true := by kernel_rfl
theorem ha14_2 : headAt (filt an14 0) (tailC 3 c14) = some h14 := by kernel_rfl
theorem sp14_3 : spine 1 (tailC 3 c14) = true := by kernel_rfl
theorem ha14_3 : headAt (filt an14 0) (tailC 1 (tailC 3 c14)) = some h14 := by kernel_rfl
theorem ta14_3 : tailC 1 (tailC 3 c14) = tailC 4 c14 := eq_of_heq (heq_of_eq (by kernel_rfl))
theorem sp14_4 : spine 1 (tailC 4 c14) = true := by kernel_rfl
theorem ha14_4 : headAt (filt an14 0) (tailC 1 (tailC 4 c14)) = some h14 := by kernel_rfl
theorem ta14_4 : tailC 1 (tailC 4 c14) = tailC 5 c14 := eq_of_heq (heq_of_eq (by kernel_rfl))
theorem sp14_5 : spine 1 (tailC 5 c14) = true := by kernel_rfl
theorem ha14_5 : headAt (filt an14 0) (tailC 1 (tailC 5 c14)) = some h14 := by kernel_rfl
theorem ta14_5 : tailC 1 (tailC 5 c14) = tailC 6 c14 := eq_of_heq (heq_of_eq (by kernel_rfl))
theorem sp14_6 : spine 1 (tailC 6 c14) = true := by kernel_rfl
theorem ha14_6 : headAt (filt an14 0) (tailC 1 (tailC 6 c14)) = some h14 := by kernel_rfl
theorem ta14_6 : tailC 1 (tailC 6 c14) = tailC 7 c14 := eq_of_heq (heq_of_eq (by kernel_rfl))
theorem sp14_7 : spine 1 (tailC 7 c14) = true := by kernel_rfl
theorem ha14_7 : headAt (filt an14 0) (tailC 1 (tailC 7 c14)) = some h14 := by kernel_rfl
theorem ta14_7 : tailC 1 (tailC 7 c14) = tailC 8 c14 := eq_of_heq (heq_of_eq (by kernel_rfl))
theorem sp14_8 : spine 1 (tailC 8 c14) = true := by kernel_rfl
theorem ha14_8 : headAt (filt an14 0) (tailC 1 (tailC 8 c14)) = some h14 := by kernel_rfl
theorem ta14_8 : tailC 1 (tailC 8 c14) = tailC 9 c14 := eq_of_heq (heq_of_eq (by kernel_rfl))
theorem sp14_9 : spine 1 (tailC 9 c14) = true := by kernel_rfl
theorem ha14_9 : headAt (filt an14 0) (tailC 1 (tailC 9 c14)) = some h14e := by kernel_rfl
theorem ta14_9 : tailC 1 (tailC 9 c14) = tailC 10 c14 := eq_of_heq (heq_of_eq (by kernel_rfl))
theorem join_eq (sc us ho po pa qu fr : ByteArray) (hu hp ha hq hf : Bool) (zsc : sc.size ≤ 4000) (zus : us.size ≤ 4000) (zho : ho.size ≤ 4000) (zpo : po.size ≤ 4000) (zpa : pa.size ≤ 4000) (zqu : qu.size ≤ 4000) (zfr : fr.size ≤ 4000) (n : Nat) :
    aexec Tryz.prog (call' A0) (filt an14 0) n c14 (envOf Tryz.prog 21 [.c (uV sc us hu ho po hp ha pa qu hq fr hf)]) [] (endOf Tryz.prog 21 []) = some (.str (joinU sc us ho po pa qu fr hu hp ha hq hf), []) := by
  have y1 : (jSc sc).size ≤ 4001 := by
    unfold jSc
    split
    · exact Nat.zero_le _
    · have q : (⟨#[58]⟩ : ByteArray).size = 1 := rfl
      simp only [ByteArray.size_append]; omega
  have y2 : (jAu ha).size ≤ 2 := by cases ha <;> exact Nat.le_of_ble_eq_true rfl
  have y3 : (jUs hu us).size ≤ 4001 := by
    have q : (⟨#[64]⟩ : ByteArray).size = 1 := rfl
    cases hu
    · exact Nat.zero_le _
    · show (us ++ _).size ≤ _
      simp only [ByteArray.size_append]; omega
  have y4 : (jPo hp po).size ≤ 4001 := jz _ rfl hp po zpo
  have y5 : (jQu hq qu).size ≤ 4001 := jz _ rfl hq qu zqu
  rw [seg_a (k := 3) (by decide) sp14_2 ha14_2, jg2 sc us ho po pa qu fr hu hp ha hq hf zsc]
  rw [seg_b (k := 1) (by decide) sp14_3 ha14_3, jg3 sc us ho po pa qu fr hu hp ha hq hf _ (by first | omega | (simp only [ByteArray.size_append]; omega)), ta14_3]
  rw [seg_b (k := 1) (by decide) sp14_4 ha14_4, jg4 sc us ho po pa qu fr hu hp ha hq hf _ (by first | omega | (simp only [ByteArray.size_append]; omega)) zus, ta14_4]
  rw [seg_b (k := 1) (by decide) sp14_5 ha14_5, jg5 sc us ho po pa qu fr hu hp ha hq hf _ (by first | omega | (simp only [ByteArray.size_append]; omega)) zho, ta14_5]
  rw [seg_b (k := 1) (by decide) sp14_6 ha14_6, jg6 sc us ho po pa qu fr hu hp ha hq hf _ (by first | omega | (simp only [ByteArray.size_append]; omega)) zpo, ta14_6]
  rw [seg_b (k := 1) (by decide) sp14_7 ha14_7, jg7 sc us ho po pa qu fr hu hp ha hq hf _ (by first | omega | (simp only [ByteArray.size_append]; omega)) zpa, ta14_7]
  rw [seg_b (k := 1) (by decide) sp14_8 ha14_8, jg8 sc us ho po pa qu fr hu hp ha hq hf _ (by first | omega | (simp only [ByteArray.size_append]; omega)) zqu, ta14_8]
  rw [seg_b (k := 1) (by decide) sp14_9 ha14_9, jg9 sc us ho po pa qu fr hu hp ha hq hf _ (by first | omega | (simp only [ByteArray.size_append]; omega)) zfr, ta14_9]
  rw [tj10]
  rfl
theorem g14 (hg : OnGlobals I ng) : Cw I ng 21 L20 := contract_of an14 hg (hok_of known0) fun cargs rv outs h => by
  unfold L20 at h
  split at h <;> first | (cases h; done) | skip
  rename_i sc us hu ho po hp ha pa qu hq fr hf
  cases hc : (n4 sc && (n4 us && (n4 ho && (n4 po && (n4 pa && (n4 qu && n4 fr)))))) with
  | false => rw [hc] at h; cases h
  | true =>
    rw [hc] at h
    cases h
    simp only [Bool.and_eq_true, n4_iff] at hc
    refine ⟨1, ?_⟩
    rw [abody_eq2 (ps := [.c (uV sc us hu ho po hp ha pa qu hq fr hf)]) (H := []) rfl (by kernel_rfl)]
    exact join_eq sc us ho po pa qu fr hu hp ha hq hf hc.1 hc.2.1 hc.2.2.1 hc.2.2.2.1 hc.2.2.2.2.1 hc.2.2.2.2.2.1 hc.2.2.2.2.2.2 1

end Go.Pv

/- URLs: which parts may be. -/
namespace Go.Pv
set_option linter.unusedVariables false
set_option maxRecDepth 100000
open Go Go.Proofs

def w0 (s : ByteArray) : ByteArray := uSch s
def w1 (s : ByteArray) : ByteArray := rUsr (uRst s)
def x2 (s : ByteArray) : Bool := rHU (uRst s)
def w3 (s : ByteArray) : ByteArray := rHost (uRst s)
def w4 (s : ByteArray) : ByteArray := rPort (uRst s)
def x5 (s : ByteArray) : Bool := rHP (uRst s)
def x6 (s : ByteArray) : Bool := rHA (uRst s)
def w7 (s : ByteArray) : ByteArray := tPa (rAf (uRst s))
def w8 (s : ByteArray) : ByteArray := tQu (rAf (uRst s))
def x9 (s : ByteArray) : Bool := tHQ (rAf (uRst s))
def wT (s : ByteArray) : ByteArray := tFr (rAf (uRst s))
def xE (s : ByteArray) : Bool := tHF (rAf (uRst s))
def n7 (sc us ho po pa qu fr : ByteArray) : Bool := n4 sc && (n4 us && (n4 ho && (n4 po && (n4 pa && (n4 qu && n4 fr)))))
def eqU (J sc us ho po pa qu fr : ByteArray) (hu hp ha hq hf : Bool) : Bool := w0 J == sc && (w1 J == us && (x2 J == hu && (w3 J == ho && (w4 J == po && (x5 J == hp && (x6 J == ha && (w7 J == pa && (w8 J == qu && (x9 J == hq && (wT J == fr && (xE J == hf && true)))))))))))
def mayU (sc us ho po pa qu fr : ByteArray) (hu hp ha hq hf : Bool) : Bool := !decide (2048 < (joinU sc us ho po pa qu fr hu hp ha hq hf).size) && (uOk (joinU sc us ho po pa qu fr hu hp ha hq hf) && eqU (joinU sc us ho po pa qu fr hu hp ha hq hf) sc us ho po pa qu fr hu hp ha hq hf)

end Go.Pv

/- URLs: checking and printing: trees. -/
namespace Go.Pv
set_option linter.unusedVariables false
set_option maxRecDepth 100000
open Go Go.Proofs

def uVe (s : ByteArray) : CV := uV (w0 s) (w1 s) (x2 s) (w3 s) (w4 s) (x5 s) (x6 s) (w7 s) (w8 s) (x9 s) (wT s) (xE s)
def zVe : CV := uV nB nB false nB nB false false nB nB false nB false
def M13 : Fn1 := fun x => match x with
  | [.str s] => some [(decide (2048 < s.size), .tup [zVe, .int .i64 3], []), (uOk s, .tup [uVe s, .int .i64 0], []), (true, .tup [zVe, .int .i64 5], [])]
  | _ => none
def M22 : Fn1 := fun x => match x with
  | [.str s] => some [(decide (s.size ≤ 2500) && uOk s, .tup [uVe s, .bool true], []), (decide (s.size ≤ 2500), .tup [zVe, .bool false], [])]
  | _ => none
def M20 : Fn1 := fun cargs => match cargs with
  | [.agg [.str sc, .str us, .bool hu, .str ho, .str po, .bool hp, .bool ha, .str pa, .str qu, .bool hq, .str fr, .bool hf]] => some [(n7 sc us ho po pa qu fr, .str (joinU sc us ho po pa qu fr hu hp ha hq hf), [])]
  | _ => none
def M21 : Fn1 := fun cargs => match cargs with
  | [.agg [.str sc, .str us, .bool hu, .str ho, .str po, .bool hp, .bool ha, .str pa, .str qu, .bool hq, .str fr, .bool hf]] => some [(n7 sc us ho po pa qu fr, .bool (decide (2048 < (joinU sc us ho po pa qu fr hu hp ha hq hf).size)), [])]
  | _ => none
def M12 : Fn1 := fun cargs => match cargs with
  | [.agg [.str sc, .str us, .bool hu, .str ho, .str po, .bool hp, .bool ha, .str pa, .str qu, .bool hq, .str fr, .bool hf]] => some [(n7 sc us ho po pa qu fr && mayU sc us ho po pa qu fr hu hp ha hq hf, .int .i64 0, []), (n7 sc us ho po pa qu fr, .int .i64 1, [])]
  | _ => none
def M11 : Fn1 := fun cargs => match cargs with
  | [.agg [.str sc, .str us, .bool hu, .str ho, .str po, .bool hp, .bool ha, .str pa, .str qu, .bool hq, .str fr, .bool hf]] => some [(n7 sc us ho po pa qu fr && mayU sc us ho po pa qu fr hu hp ha hq hf, .bool true, []), (n7 sc us ho po pa qu fr, .bool false, [])]
  | _ => none
def T0 : Table := fun _ _ => none
def T13 : Table := fun g => if Nat.beq g 47 then M13 else T0 g
def T22 : Table := fun g => if Nat.beq g 23 then M22 else T13 g
def T20 : Table := fun g => if Nat.beq g 48 then M20 else T22 g
def T14 : Table := fun g => if Nat.beq g 21 then M20 else T20 g
def T21 : Table := fun g => if Nat.beq g 18 then M21 else T14 g
def T12 : Table := fun g => if Nat.beq g 24 then M12 else T21 g
def T11 : Table := fun g => if Nat.beq g 10 then M11 else T12 g
theorem vm21 (sc us ho po pa qu fr : ByteArray) (hu hp ha hq hf : Bool) : abody Tryz.prog (call' T14) (fun _ => none) 1 18 [uV sc us hu ho po hp ha pa qu hq fr hf] =
 bif' (n7 sc us ho po pa qu fr) (some (CV.bool (decide ((↑(joinU sc us ho po pa qu fr hu hp ha hq hf).size : Int) > 2048)), [])) none := by kernel_rfl
theorem vm12 (sc us ho po pa qu fr : ByteArray) (hu hp ha hq hf : Bool) : abody Tryz.prog (call' T21) (fun _ => none) 1 24 [uV sc us hu ho po hp ha pa qu hq fr hf] =
 bif' (n7 sc us ho po pa qu fr) (bif' (decide (2048 < (joinU sc us ho po pa qu fr hu hp ha hq hf).size)) (some (CV.int IntKind.i64 (Int.ofNat 1), [])) (bif' (uOk (joinU sc us ho po pa qu fr hu hp ha hq hf)) (bif' (!(w0 (joinU sc us ho po pa qu fr hu hp ha hq hf) == sc && (w1 (joinU sc us ho po pa qu fr hu hp ha hq hf) == us && (x2 (joinU sc us ho po pa qu fr hu hp ha hq hf) == hu && (w3 (joinU sc us ho po pa qu fr hu hp ha hq hf) == ho && (w4 (joinU sc us ho po pa qu fr hu hp ha hq hf) == po && (x5 (joinU sc us ho po pa qu fr hu hp ha hq hf) == hp && (x6 (joinU sc us ho po pa qu fr hu hp ha hq hf) == ha && (w7 (joinU sc us ho po pa qu fr hu hp ha hq hf) == pa && (w8 (joinU sc us ho po pa qu fr hu hp ha hq hf) == qu && (x9 (joinU sc us ho po pa qu fr hu hp ha hq hf) == hq && (wT (joinU sc us ho po pa qu fr hu hp ha hq hf) == fr && (xE (joinU sc us ho po pa qu fr hu hp ha hq hf) == hf && true))))))))))))) (some (CV.int IntKind.i64 (Int.ofNat 1), [])) (some (CV.int IntKind.i64 (Int.ofNat 0), []))) (some (CV.int IntKind.i64 (Int.ofNat 1), [])))) none := by kernel_rfl
theorem vm11 (sc us ho po pa qu fr : ByteArray) (hu hp ha hq hf : Bool) : abody Tryz.prog (call' T12) (fun _ => none) 1 10 [uV sc us hu ho po hp ha pa qu hq fr hf] =
 bif' (n7 sc us ho po pa qu fr) (bif' (decide (2048 < (joinU sc us ho po pa qu fr hu hp ha hq hf).size)) (some (CV.bool false, [])) (bif' (n7 sc us ho po pa qu fr) (bif' (decide ((joinU sc us ho po pa qu fr hu hp ha hq hf).size ≤ 2500) && uOk (joinU sc us ho po pa qu fr hu hp ha hq hf)) (some (CV.bool (w0 (joinU sc us ho po pa qu fr hu hp ha hq hf) == sc && (w1 (joinU sc us ho po pa qu fr hu hp ha hq hf) == us && (x2 (joinU sc us ho po pa qu fr hu hp ha hq hf) == hu && (w3 (joinU sc us ho po pa qu fr hu hp ha hq hf) == ho && (w4 (joinU sc us ho po pa qu fr hu hp ha hq hf) == po && (x5 (joinU sc us ho po pa qu fr hu hp ha hq hf) == hp && (x6 (joinU sc us ho po pa qu fr hu hp ha hq hf) == ha && (w7 (joinU sc us ho po pa qu fr hu hp ha hq hf) == pa && (w8 (joinU sc us ho po pa qu fr hu hp ha hq hf) == qu && (x9 (joinU sc us ho po pa qu fr hu hp ha hq hf) == hq && (wT (joinU sc us ho po pa qu fr hu hp ha hq hf) == fr && (xE (joinU sc us ho po pa qu fr hu hp ha hq hf) == hf && true)))))))))))), [])) (bif' (decide ((joinU sc us ho po pa qu fr hu hp ha hq hf).size ≤ 2500)) (some (CV.bool false, [])) none)) none)) none := by kernel_rfl

end Go.Pv

/- URLs: checking and printing: the law of UrlPrints. -/
namespace Go.Pv
set_option linter.unusedVariables false
set_option linter.unusedSimpArgs false
set_option maxRecDepth 100000
open Go Go.Proofs
variable {I : World → Prop} {ng : Nat}

theorem l13_eq (s : ByteArray) : L13 [.str s] = M13 [.str s] := rfl
theorem l22_eq (s : ByteArray) : L22 [.str s] = M22 [.str s] := rfl
theorem gm13 (hg : OnGlobals I ng) (h : Kw I ng A23) (h47 : Cw I ng 98 L47) : Kw I ng T13 := known_add known_no fun cargs rv outs hF => by
  unfold M13 at hF
  split at hF <;> first | (cases hF; done) | skip
  rename_i s
  exact (g13 hg h h47 47) [.str s] rv outs hF
theorem gm22 (hg : OnGlobals I ng) (h : Kw I ng A23) (h47 : Cw I ng 98 L47) (h51 : Cw I ng 67 L51) : Kw I ng T22 := known_add (gm13 hg h h47) fun cargs rv outs hF => by
  unfold M22 at hF
  split at hF <;> first | (cases hF; done) | skip
  rename_i s
  exact (g22 hg (g41 hg h h47 h51) 23) [.str s] rv outs hF
theorem m20 {F : Fn1} {f : FuncId} (h : Cw I ng f L20) : Cw I ng f M20 := fun cargs rv outs hF => by
  unfold M20 at hF
  split at hF <;> first | (cases hF; done) | skip
  rename_i sc us hu ho po hp ha pa qu hq fr hf
  exact h [uV sc us hu ho po hp ha pa qu hq fr hf] rv outs hF
theorem gm20 (hg : OnGlobals I ng) (h : Kw I ng A23) (h47 : Cw I ng 98 L47) (h51 : Cw I ng 67 L51) : Kw I ng T20 := known_add (gm22 hg h h47 h51) (m20 (F := M20) (g20 hg))
theorem gm14 (hg : OnGlobals I ng) (h : Kw I ng A23) (h47 : Cw I ng 98 L47) (h51 : Cw I ng 67 L51) : Kw I ng T14 := known_add (gm20 hg h h47 h51) (m20 (F := M20) (g14 hg))
theorem big_eq (n : Nat) : decide (((n : Nat) : Int) > 2048) = decide (2048 < n) := by
  rw [Bool.eq_iff_iff, decide_eq_true_iff, decide_eq_true_iff]; omega
theorem gm21 (hg : OnGlobals I ng) (h : Kw I ng A23) (h47 : Cw I ng 98 L47) (h51 : Cw I ng 67 L51) : Kw I ng T21 := known_add (gm14 hg h h47 h51) (contract_of (fun _ => none) hg (hok_of (gm14 hg h h47 h51)) fun cargs rv outs hF => by
  unfold M21 at hF
  split at hF <;> first | (cases hF; done) | skip
  rename_i sc us hu ho po hp ha pa qu hq fr hf
  refine ⟨1, ?_⟩
  have e := vm21 sc us ho po pa qu fr hu hp ha hq hf
  cases hn : n7 sc us ho po pa qu fr with
  | false => rw [hn] at hF; cases hF
  | true =>
    rw [hn] at hF e
    cases hF
    rw [big_eq] at e
    exact e)
theorem gm12 (hg : OnGlobals I ng) (h : Kw I ng A23) (h47 : Cw I ng 98 L47) (h51 : Cw I ng 67 L51) : Kw I ng T12 := known_add (gm21 hg h h47 h51) (contract_of (fun _ => none) hg (hok_of (gm21 hg h h47 h51)) fun cargs rv outs hF => by
  unfold M12 at hF
  split at hF <;> first | (cases hF; done) | skip
  rename_i sc us hu ho po hp ha pa qu hq fr hf
  refine ⟨1, ?_⟩
  have e := vm12 sc us ho po pa qu fr hu hp ha hq hf
  cases hn : n7 sc us ho po pa qu fr with
  | false => rw [hn] at hF; cases hF
  | true =>
    unfold mayU at hF
    unfold eqU at hF
    rw [hn] at hF e
    refine e.trans ?_
    clear e
    simp only [bif_tt, Bool.true_and] at hF ⊢
    revert hF
    generalize decide (2048 < (joinU sc us ho po pa qu fr hu hp ha hq hf).size) = a
    generalize uOk (joinU sc us ho po pa qu fr hu hp ha hq hf) = b
    generalize (w0 (joinU sc us ho po pa qu fr hu hp ha hq hf) == sc && _) = c
    intro hF
    cases a <;> cases b <;> cases c <;> first | (cases hF; done) | (cases hF; rfl))
theorem gm11 (hg : OnGlobals I ng) (h : Kw I ng A23) (h47 : Cw I ng 98 L47) (h51 : Cw I ng 67 L51) : Kw I ng T11 := known_add (gm12 hg h h47 h51) (contract_of (fun _ => none) hg (hok_of (gm12 hg h h47 h51)) fun cargs rv outs hF => by
  unfold M11 at hF
  split at hF <;> first | (cases hF; done) | skip
  rename_i sc us hu ho po hp ha pa qu hq fr hf
  refine ⟨1, ?_⟩
  have e := vm11 sc us ho po pa qu fr hu hp ha hq hf
  cases hn : n7 sc us ho po pa qu fr with
  | false => rw [hn] at hF; cases hF
  | true =>
    unfold mayU at hF
    unfold eqU at hF
    rw [hn] at hF e
    refine e.trans ?_
    clear e
    by_cases hz : 2048 < (joinU sc us ho po pa qu fr hu hp ha hq hf).size
    · rw [decide_eq_true hz] at hF ⊢
      cases hF
      rfl
    · have hz2 : (joinU sc us ho po pa qu fr hu hp ha hq hf).size ≤ 2500 := by omega
      rw [decide_eq_false hz] at hF ⊢
      rw [decide_eq_true hz2]
      revert hF
      generalize uOk (joinU sc us ho po pa qu fr hu hp ha hq hf) = b
      generalize (w0 (joinU sc us ho po pa qu fr hu hp ha hq hf) == sc && _) = c
      intro hF
      cases b <;> cases c <;> (cases hF; rfl))
theorem big4 (s : ByteArray) : decide (((s.size : Nat) : Int) > 4000) = !n4 s := by
  unfold n4
  rw [Bool.eq_iff_iff, decide_eq_true_iff]
  simp
  omega

end Go.Pv

/- Contracts that others have proved: a function of data that may read package variables and hand over what is new. -/
namespace Go.Pv
set_option linter.unusedVariables false
open Go

variable {P : Program} {I : World → Prop}

theorem contract_new {f : FuncId} {F : Fn1} {ng : Nat} (hg : OnGlobals I ng)
    (h : ∀ cargs rv outs, picked (F cargs) = some (rv, outs) → outs = [] ∧ noBox cargs = true ∧ ∀ (S : St) (vals : Array Value), Ok S → I S.w → All2 (Vc S) cargs vals.toList →
      Calls P f vals S.w fun e w' => ∃ v, e = .returned v ∧ RowKit.Below S.w.heap.size S.w w' ∧
        ∀ S' : St, S'.w = w' → (∀ r, S'.ι r = none) → (∀ b off, S'.F b off → b < S.w.heap.size) → AllR S' rv v []) : Contract P I ng f F := by
  intro cargs rv outs hF S vals hH ok hng hI hv
  obtain ⟨rfl, hb, h⟩ := h cargs rv outs hF
  rw [openArgs_data hb] at hH hv
  refine (h S vals ok hI (c_list hv)).mono ?_
  rintro e w' ⟨v, rfl, B, hd⟩
  have hι : ∀ r, S.ι r = none := fun r => ok.out r (by rw [hH]; exact Nat.zero_le _)
  let S' : St := { S with w := w' }
  have K : Keeps S S' := ⟨B.os, B.tape, B.output, B.size, fun b hb _ => B.block b hb, fun r b hr => .inl ⟨r, hr⟩, rfl, rfl, rfl⟩
  have ok' : Ok S' := by
    refine ⟨fun r o hr => ?_, fun r _ => hι r, fun r r' b h1 _ => ?_, fun r b h1 => ?_, fun r b off h1 => ?_, ok.forb, Nat.le_trans ok.n0 B.size, fun r b h1 => ?_, ok.ng⟩
    · have hr' : S.H[r]? = some o := hr
      rw [hH] at hr'; simp at hr'
    all_goals
      have h1' : S.ι r = some b := h1
      rw [hι] at h1'; cases h1'
  refine ⟨v, S', [], rfl, rfl, ok', K, ?_, ?_, List.nodup_nil, ⟨by rw [hH]; rfl, fun i e k x hi => ?_⟩⟩
  · have := K.inv (I := I) ok (by rw [hng]; exact hg) hI
    exact this
  · exact hd S' rfl hι fun b off hf => Nat.lt_of_lt_of_le (ok.forb b off hf) ok.n0
  · rw [hH] at hi; simp at hi

end Go.Pv
