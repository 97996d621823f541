/- URLs: authority and url.Parse in pieces: trees. -/
import Derived.Test.YtpclikkakhcomaaGreatDoorQd
set_option linter.unusedSimpArgs false
set_option linter.unusedVariables false
namespace Go.Pv
set_option maxRecDepth 100000
open Go Go.Proofs
def letC : ByteArray := mkS ([97, 98, 99, 100, 101, 102, 103, 104, 105, 106, 107, 108, 109, 110, 111, 112, 113, 114, 115, 116, 117, 118, 119, 120, 121, 122, 65, 66, 67, 68, 69, 70] ++ [71, 72, 73, 74, 75, 76, 77, 78, 79, 80, 81, 82, 83, 84, 85, 86, 87, 88, 89, 90])
def schC : ByteArray := mkS ([97, 98, 99, 100, 101, 102, 103, 104, 105, 106, 107, 108, 109, 110, 111, 112, 113, 114, 115, 116, 117, 118, 119, 120, 121, 122, 65, 66, 67, 68, 69, 70] ++ [71, 72, 73, 74, 75, 76, 77, 78, 79, 80, 81, 82, 83, 84, 85, 86, 87, 88, 89, 90, 48, 49, 50, 51, 52, 53, 54, 55, 56, 57, 43, 45, 46])
def h27 : Head := ⟨[0, 1], [], 1⟩
def an27 : Ann := fun i => if Nat.beq i 500004 then some h27 else if Nat.beq i 500007 then some h27 else none
noncomputable def c27 : Code := codeOf Tryz.prog 72
abbrev uV (a us : ByteArray) (hu : Bool) (ho po : ByteArray) (hp t : Bool) (pa qu : ByteArray) (hq : Bool) (fr : ByteArray) (hf : Bool) : CV := .agg [.str a, .str us, .bool hu, .str ho, .str po, .bool hp, .bool t, .str pa, .str qu, .bool hq, .str fr, .bool hf]
abbrev zU (a : ByteArray) (t : Bool) : CV := uV a ⟨⟨[]⟩⟩ false ⟨⟨[]⟩⟩ ⟨⟨[]⟩⟩ false t ⟨⟨[]⟩⟩ ⟨⟨[]⟩⟩ false ⟨⟨[]⟩⟩ false
noncomputable def c13 : Code := codeOf Tryz.prog 47
noncomputable def d27a : Code := tailC 2 c27
noncomputable def d27b : Code := tailC 1 d27a
noncomputable def d13a : Code := tailC 4 c13
noncomputable def d13b : Code := tailC 1 d13a
noncomputable def d13c : Code := tailC 1 d13b
noncomputable def d13d : Code := tailC 1 d13c
def h13a : Head := ⟨[0, 2, 4, 5], [], 2⟩
def h13b : Head := ⟨[2, 4, 5, 8], [], 2⟩
def an13 : Ann := fun i => if Nat.beq i 500005 then some h13a else if Nat.beq i 500010 then some h13a else if Nat.beq i 500011 then some h13b else if Nat.beq i 500017 then some h13b else none
abbrev z0 : AO := .box (.c (zU ⟨⟨[]⟩⟩ false)) kU
theorem up27 (s a : ByteArray) (n : Nat) (L : Env → Hp → Res) (K : KX) : aexec Tryz.prog (call' A47) (filt an27 1) n (prefC 2 c27) (envOf Tryz.prog 72 [.bptr 0 0, .c (.str s)]) [.box (.c (zU a true)) kU] (thenK (headK h27 L) K) =
 bif' (decide (s.size ≤ 10000)) (bif' (decide (lastI s 64 ≥ 0)) (bif' (decide (0 ≤ lastI s 64)) (bif' (decide (lastI s 64 ≤ (↑s.size : Int))) (bif' (decide (0 ≤ IntKind.i64.wrap (lastI s 64 + 1))) (bif' (decide (IntKind.i64.wrap (lastI s 64 + 1) ≤ (↑s.size : Int))) (bif' (decide ((↑s.size : Int) ≤ (↑s.size : Int))) (L (mkEnv 122 [(0, .bptr 0 0), (1, .c (CV.str (s.extract (IntKind.i64.wrap (lastI s 64 + 1)).toNat (↑s.size : Int).toNat)))]) [.box (.c (CV.agg [CV.str a, CV.str (s.extract (Int.toNat 0) (lastI s 64).toNat), CV.bool true, CV.str ⟨⟨[]⟩⟩, CV.str ⟨⟨[]⟩⟩, CV.bool false, CV.bool true, CV.str ⟨⟨[]⟩⟩, CV.str ⟨⟨[]⟩⟩, CV.bool false, CV.str ⟨⟨[]⟩⟩, CV.bool false])) kU]) none) none) none) none) none) (L (mkEnv 122 [(0, .bptr 0 0), (1, .c (CV.str s))]) [.box (.c (CV.agg [CV.str a, CV.str ⟨⟨[]⟩⟩, CV.bool false, CV.str ⟨⟨[]⟩⟩, CV.str ⟨⟨[]⟩⟩, CV.bool false, CV.bool true, CV.str ⟨⟨[]⟩⟩, CV.str ⟨⟨[]⟩⟩, CV.bool false, CV.str ⟨⟨[]⟩⟩, CV.bool false])) kU])) none := by kernel_rfl
theorem uq27 (s a us : ByteArray) (hu : Bool) (n : Nat) (L : Env → Hp → Res) (K : KX) : aexecB Tryz.prog (call' A47) (filt an27 1) n (prefC 1 d27a) (mkEnv 122 [(0, .bptr 0 0), (1, .c (.str s))]) [.box (.c (uV a us hu ⟨⟨[]⟩⟩ ⟨⟨[]⟩⟩ false true ⟨⟨[]⟩⟩ ⟨⟨[]⟩⟩ false ⟨⟨[]⟩⟩ false)) kU] (thenK (headK h27 L) K) =
 bif' (decide (s.size ≤ 10000)) (bif' (decide (lastI s 58 ≥ 0)) (bif' (decide (s.size ≤ 10000)) (bif' (decide (lastI s 58 > lastI s 93)) (bif' (decide (0 ≤ IntKind.i64.wrap (lastI s 58 + 1))) (bif' (decide (IntKind.i64.wrap (lastI s 58 + 1) ≤ (↑s.size : Int))) (bif' (decide ((↑s.size : Int) ≤ (↑s.size : Int))) (bif' (decide (0 ≤ lastI s 58)) (bif' (decide (lastI s 58 ≤ (↑s.size : Int))) (L (mkEnv 122 [(0, .bptr 0 0), (1, .c (CV.str (s.extract (Int.toNat 0) (lastI s 58).toNat)))]) [.box (.c (CV.agg [CV.str a, CV.str us, CV.bool hu, CV.str ⟨⟨[]⟩⟩, CV.str (s.extract (IntKind.i64.wrap (lastI s 58 + 1)).toNat (↑s.size : Int).toNat), CV.bool true, CV.bool true, CV.str ⟨⟨[]⟩⟩, CV.str ⟨⟨[]⟩⟩, CV.bool false, CV.str ⟨⟨[]⟩⟩, CV.bool false])) kU]) none) none) none) none) none) (L (mkEnv 122 [(0, .bptr 0 0), (1, .c (CV.str s))]) [.box (.c (CV.agg [CV.str a, CV.str us, CV.bool hu, CV.str ⟨⟨[]⟩⟩, CV.str ⟨⟨[]⟩⟩, CV.bool false, CV.bool true, CV.str ⟨⟨[]⟩⟩, CV.str ⟨⟨[]⟩⟩, CV.bool false, CV.str ⟨⟨[]⟩⟩, CV.bool false])) kU])) none) (L (mkEnv 122 [(0, .bptr 0 0), (1, .c (CV.str s))]) [.box (.c (CV.agg [CV.str a, CV.str us, CV.bool hu, CV.str ⟨⟨[]⟩⟩, CV.str ⟨⟨[]⟩⟩, CV.bool false, CV.bool true, CV.str ⟨⟨[]⟩⟩, CV.str ⟨⟨[]⟩⟩, CV.bool false, CV.str ⟨⟨[]⟩⟩, CV.bool false])) kU])) none := by kernel_rfl
theorem us27 (s a us po : ByteArray) (hu hp : Bool) (n : Nat) : aexecB Tryz.prog (call' A47) (filt an27 1) n d27b (mkEnv 122 [(0, .bptr 0 0), (1, .c (.str s))]) [.box (.c (uV a us hu ⟨⟨[]⟩⟩ po hp true ⟨⟨[]⟩⟩ ⟨⟨[]⟩⟩ false ⟨⟨[]⟩⟩ false)) kU] (endOf Tryz.prog 72 [kU]) =
 bif' (preS s (ByteArray.mk #[91])) (bif' (decide ((s.extract (ByteArray.mk #[91]).size s.size).size ≤ 10000) && sufS (s.extract (ByteArray.mk #[91]).size s.size) (ByteArray.mk #[93])) (bif' (decide (((s.extract (ByteArray.mk #[91]).size s.size).extract 0 ((s.extract (ByteArray.mk #[91]).size s.size).size - (ByteArray.mk #[93]).size)).size ≤ 3000) && ip6 ((s.extract (ByteArray.mk #[91]).size s.size).extract 0 ((s.extract (ByteArray.mk #[91]).size s.size).size - (ByteArray.mk #[93]).size))) (bif' (decide (po.size ≤ 10000) && (decide ((ByteArray.mk #[48, 49, 50, 51, 52, 53, 54, 55, 56, 57]).size ≤ 100) && asciiS (ByteArray.mk #[48, 49, 50, 51, 52, 53, 54, 55, 56, 57]))) (bif' (allS po (ByteArray.mk #[48, 49, 50, 51, 52, 53, 54, 55, 56, 57])) (bif' (decide (us.size ≤ 10000)) (some (CV.bool !brS us, [CV.agg [CV.str a, CV.str us, CV.bool hu, CV.str s, CV.str po, CV.bool hp, CV.bool true, CV.str ⟨⟨[]⟩⟩, CV.str ⟨⟨[]⟩⟩, CV.bool false, CV.str ⟨⟨[]⟩⟩, CV.bool false]])) none) (some (CV.bool false, [CV.agg [CV.str a, CV.str us, CV.bool hu, CV.str s, CV.str po, CV.bool hp, CV.bool true, CV.str ⟨⟨[]⟩⟩, CV.str ⟨⟨[]⟩⟩, CV.bool false, CV.str ⟨⟨[]⟩⟩, CV.bool false]]))) none) (bif' (decide (((s.extract (ByteArray.mk #[91]).size s.size).extract 0 ((s.extract (ByteArray.mk #[91]).size s.size).size - (ByteArray.mk #[93]).size)).size ≤ 3000) && ip4 ((s.extract (ByteArray.mk #[91]).size s.size).extract 0 ((s.extract (ByteArray.mk #[91]).size s.size).size - (ByteArray.mk #[93]).size))) (some (CV.bool false, [CV.agg [CV.str a, CV.str us, CV.bool hu, CV.str s, CV.str po, CV.bool hp, CV.bool true, CV.str ⟨⟨[]⟩⟩, CV.str ⟨⟨[]⟩⟩, CV.bool false, CV.str ⟨⟨[]⟩⟩, CV.bool false]])) (bif' (decide (((s.extract (ByteArray.mk #[91]).size s.size).extract 0 ((s.extract (ByteArray.mk #[91]).size s.size).size - (ByteArray.mk #[93]).size)).size ≤ 3000)) (some (CV.bool false, [CV.agg [CV.str a, CV.str us, CV.bool hu, CV.str s, CV.str po, CV.bool hp, CV.bool true, CV.str ⟨⟨[]⟩⟩, CV.str ⟨⟨[]⟩⟩, CV.bool false, CV.str ⟨⟨[]⟩⟩, CV.bool false]])) none))) (bif' (decide ((s.extract (ByteArray.mk #[91]).size s.size).size ≤ 10000)) (bif' (decide (s.size ≤ 10000) && decide ((ByteArray.mk #[58, 91, 93, 64]).size ≤ 10000)) (bif' ((s.extract 0 (findI s 0 (ByteArray.mk #[58, 91, 93, 64]))).toList == s.toList) (bif' (decide (po.size ≤ 10000) && (decide ((ByteArray.mk #[48, 49, 50, 51, 52, 53, 54, 55, 56, 57]).size ≤ 100) && asciiS (ByteArray.mk #[48, 49, 50, 51, 52, 53, 54, 55, 56, 57]))) (bif' (allS po (ByteArray.mk #[48, 49, 50, 51, 52, 53, 54, 55, 56, 57])) (bif' (decide (us.size ≤ 10000)) (some (CV.bool !brS us, [CV.agg [CV.str a, CV.str us, CV.bool hu, CV.str s, CV.str po, CV.bool hp, CV.bool true, CV.str ⟨⟨[]⟩⟩, CV.str ⟨⟨[]⟩⟩, CV.bool false, CV.str ⟨⟨[]⟩⟩, CV.bool false]])) none) (some (CV.bool false, [CV.agg [CV.str a, CV.str us, CV.bool hu, CV.str s, CV.str po, CV.bool hp, CV.bool true, CV.str ⟨⟨[]⟩⟩, CV.str ⟨⟨[]⟩⟩, CV.bool false, CV.str ⟨⟨[]⟩⟩, CV.bool false]]))) none) (some (CV.bool false, [CV.agg [CV.str a, CV.str us, CV.bool hu, CV.str s, CV.str po, CV.bool hp, CV.bool true, CV.str ⟨⟨[]⟩⟩, CV.str ⟨⟨[]⟩⟩, CV.bool false, CV.str ⟨⟨[]⟩⟩, CV.bool false]]))) none) none)) (bif' (decide (s.size ≤ 10000) && sufS s (ByteArray.mk #[93])) (bif' (decide (s.size ≤ 10000) && decide ((ByteArray.mk #[58, 91, 93, 64]).size ≤ 10000)) (bif' ((s.extract 0 (findI s 0 (ByteArray.mk #[58, 91, 93, 64]))).toList == s.toList) (bif' (decide (po.size ≤ 10000) && (decide ((ByteArray.mk #[48, 49, 50, 51, 52, 53, 54, 55, 56, 57]).size ≤ 100) && asciiS (ByteArray.mk #[48, 49, 50, 51, 52, 53, 54, 55, 56, 57]))) (bif' (allS po (ByteArray.mk #[48, 49, 50, 51, 52, 53, 54, 55, 56, 57])) (bif' (decide (us.size ≤ 10000)) (some (CV.bool !brS us, [CV.agg [CV.str a, CV.str us, CV.bool hu, CV.str s, CV.str po, CV.bool hp, CV.bool true, CV.str ⟨⟨[]⟩⟩, CV.str ⟨⟨[]⟩⟩, CV.bool false, CV.str ⟨⟨[]⟩⟩, CV.bool false]])) none) (some (CV.bool false, [CV.agg [CV.str a, CV.str us, CV.bool hu, CV.str s, CV.str po, CV.bool hp, CV.bool true, CV.str ⟨⟨[]⟩⟩, CV.str ⟨⟨[]⟩⟩, CV.bool false, CV.str ⟨⟨[]⟩⟩, CV.bool false]]))) none) (some (CV.bool false, [CV.agg [CV.str a, CV.str us, CV.bool hu, CV.str s, CV.str po, CV.bool hp, CV.bool true, CV.str ⟨⟨[]⟩⟩, CV.str ⟨⟨[]⟩⟩, CV.bool false, CV.str ⟨⟨[]⟩⟩, CV.bool false]]))) none) (bif' (decide (s.size ≤ 10000)) (bif' (decide (s.size ≤ 10000) && decide ((ByteArray.mk #[58, 91, 93, 64]).size ≤ 10000)) (bif' ((s.extract 0 (findI s 0 (ByteArray.mk #[58, 91, 93, 64]))).toList == s.toList) (bif' (decide (po.size ≤ 10000) && (decide ((ByteArray.mk #[48, 49, 50, 51, 52, 53, 54, 55, 56, 57]).size ≤ 100) && asciiS (ByteArray.mk #[48, 49, 50, 51, 52, 53, 54, 55, 56, 57]))) (bif' (allS po (ByteArray.mk #[48, 49, 50, 51, 52, 53, 54, 55, 56, 57])) (bif' (decide (us.size ≤ 10000)) (some (CV.bool !brS us, [CV.agg [CV.str a, CV.str us, CV.bool hu, CV.str s, CV.str po, CV.bool hp, CV.bool true, CV.str ⟨⟨[]⟩⟩, CV.str ⟨⟨[]⟩⟩, CV.bool false, CV.str ⟨⟨[]⟩⟩, CV.bool false]])) none) (some (CV.bool false, [CV.agg [CV.str a, CV.str us, CV.bool hu, CV.str s, CV.str po, CV.bool hp, CV.bool true, CV.str ⟨⟨[]⟩⟩, CV.str ⟨⟨[]⟩⟩, CV.bool false, CV.str ⟨⟨[]⟩⟩, CV.bool false]]))) none) (some (CV.bool false, [CV.agg [CV.str a, CV.str us, CV.bool hu, CV.str s, CV.str po, CV.bool hp, CV.bool true, CV.str ⟨⟨[]⟩⟩, CV.str ⟨⟨[]⟩⟩, CV.bool false, CV.str ⟨⟨[]⟩⟩, CV.bool false]]))) none) none)) := by kernel_rfl
theorem up13 (s : ByteArray) (n : Nat) (L : Env → Hp → Res) : aexec Tryz.prog (call' A27) (filt an13 0) n (prefC 4 c13) (envOf Tryz.prog 47 [.c (.str s)]) [] (thenK (headK h13a L) (endOf Tryz.prog 47 [])) =
 bif' (decide ((↑s.size : Int) > 2048)) (some (CV.tup [CV.agg [CV.str ⟨⟨[]⟩⟩, CV.str ⟨⟨[]⟩⟩, CV.bool false, CV.str ⟨⟨[]⟩⟩, CV.str ⟨⟨[]⟩⟩, CV.bool false, CV.bool false, CV.str ⟨⟨[]⟩⟩, CV.str ⟨⟨[]⟩⟩, CV.bool false, CV.str ⟨⟨[]⟩⟩, CV.bool false], CV.int .i64 (.ofNat 3)], [])) (L (mkEnv 104 [(0, .c (CV.str s)), (2, .bptr 0 0), (4, .bptr 1 0), (5, .c (CV.str s))]) [.box (.c (CV.agg [CV.str ⟨⟨[]⟩⟩, CV.str ⟨⟨[]⟩⟩, CV.bool false, CV.str ⟨⟨[]⟩⟩, CV.str ⟨⟨[]⟩⟩, CV.bool false, CV.bool false, CV.str ⟨⟨[]⟩⟩, CV.str ⟨⟨[]⟩⟩, CV.bool false, CV.str ⟨⟨[]⟩⟩, CV.bool false])) kU, .box (.c (CV.agg [CV.str ⟨⟨[]⟩⟩, CV.str ⟨⟨[]⟩⟩, CV.bool false, CV.str ⟨⟨[]⟩⟩, CV.str ⟨⟨[]⟩⟩, CV.bool false, CV.bool false, CV.str ⟨⟨[]⟩⟩, CV.str ⟨⟨[]⟩⟩, CV.bool false, CV.str ⟨⟨[]⟩⟩, CV.bool false])) kU]) := by kernel_rfl
theorem uq13 (s : ByteArray) (n : Nat) (L : Env → Hp → Res) : aexecB Tryz.prog (call' A27) (filt an13 0) n (prefC 1 d13a) (mkEnv 104 [(0, .c (.str s)), (2, .bptr 0 0), (4, .bptr 1 0), (5, .c (.str s))]) [z0, z0] (thenK (headK h13a L) (endOf Tryz.prog 47 [])) =
 bif' (decide (s.size ≤ 10000) && decide ((ByteArray.mk #[58, 47, 63, 35]).size ≤ 10000)) (bif' (!(s.extract (findI s 0 (ByteArray.mk #[58, 47, 63, 35])) s.size).toList == (ByteArray.mk #[]).toList) (bif' (decide (0 < (↑(s.extract (findI s 0 (ByteArray.mk #[58, 47, 63, 35])) s.size).size : Int))) (bif' (byteAt (s.extract (findI s 0 (ByteArray.mk #[58, 47, 63, 35])) s.size) (Int.toNat 0) == 58) (bif' ((s.extract 0 (findI s 0 (ByteArray.mk #[58, 47, 63, 35]))).toList == (ByteArray.mk #[]).toList) (some (CV.tup [CV.agg [CV.str ⟨⟨[]⟩⟩, CV.str ⟨⟨[]⟩⟩, CV.bool false, CV.str ⟨⟨[]⟩⟩, CV.str ⟨⟨[]⟩⟩, CV.bool false, CV.bool false, CV.str ⟨⟨[]⟩⟩, CV.str ⟨⟨[]⟩⟩, CV.bool false, CV.str ⟨⟨[]⟩⟩, CV.bool false], CV.int .i64 (.ofNat 5)], [])) (bif' (decide ((s.extract 0 (findI s 0 (ByteArray.mk #[58, 47, 63, 35]))).size ≤ 10000) && (decide (schC.size ≤ 100) && asciiS schC)) (bif' (!allS (s.extract 0 (findI s 0 (ByteArray.mk #[58, 47, 63, 35]))) schC) (some (CV.tup [CV.agg [CV.str ⟨⟨[]⟩⟩, CV.str ⟨⟨[]⟩⟩, CV.bool false, CV.str ⟨⟨[]⟩⟩, CV.str ⟨⟨[]⟩⟩, CV.bool false, CV.bool false, CV.str ⟨⟨[]⟩⟩, CV.str ⟨⟨[]⟩⟩, CV.bool false, CV.str ⟨⟨[]⟩⟩, CV.bool false], CV.int .i64 (.ofNat 5)], [])) (bif' (decide (1 ≤ (↑(s.extract 0 (findI s 0 (ByteArray.mk #[58, 47, 63, 35]))).size : Int))) (bif' (decide (((s.extract 0 (findI s 0 (ByteArray.mk #[58, 47, 63, 35]))).extract (Int.toNat 0) (Int.toNat 1)).size ≤ 10000) && (decide (letC.size ≤ 100) && asciiS letC)) (bif' (!allS ((s.extract 0 (findI s 0 (ByteArray.mk #[58, 47, 63, 35]))).extract (Int.toNat 0) (Int.toNat 1)) letC) (some (CV.tup [CV.agg [CV.str ⟨⟨[]⟩⟩, CV.str ⟨⟨[]⟩⟩, CV.bool false, CV.str ⟨⟨[]⟩⟩, CV.str ⟨⟨[]⟩⟩, CV.bool false, CV.bool false, CV.str ⟨⟨[]⟩⟩, CV.str ⟨⟨[]⟩⟩, CV.bool false, CV.str ⟨⟨[]⟩⟩, CV.bool false], CV.int .i64 (.ofNat 5)], [])) (bif' (decide (1 ≤ (↑(s.extract (findI s 0 (ByteArray.mk #[58, 47, 63, 35])) s.size).size : Int))) (bif' (decide ((↑(s.extract (findI s 0 (ByteArray.mk #[58, 47, 63, 35])) s.size).size : Int) ≤ (↑(s.extract (findI s 0 (ByteArray.mk #[58, 47, 63, 35])) s.size).size : Int))) (L (mkEnv 104 [(0, .c (CV.str s)), (2, .bptr 0 0), (4, .bptr 1 0), (5, .c (CV.str ((s.extract (findI s 0 (ByteArray.mk #[58, 47, 63, 35])) s.size).extract (Int.toNat 1) (↑(s.extract (findI s 0 (ByteArray.mk #[58, 47, 63, 35])) s.size).size : Int).toNat)))]) [.box (.c (CV.agg [CV.str ⟨⟨[]⟩⟩, CV.str ⟨⟨[]⟩⟩, CV.bool false, CV.str ⟨⟨[]⟩⟩, CV.str ⟨⟨[]⟩⟩, CV.bool false, CV.bool false, CV.str ⟨⟨[]⟩⟩, CV.str ⟨⟨[]⟩⟩, CV.bool false, CV.str ⟨⟨[]⟩⟩, CV.bool false])) kU, .box (.c (CV.agg [CV.str (s.extract 0 (findI s 0 (ByteArray.mk #[58, 47, 63, 35]))), CV.str ⟨⟨[]⟩⟩, CV.bool false, CV.str ⟨⟨[]⟩⟩, CV.str ⟨⟨[]⟩⟩, CV.bool false, CV.bool false, CV.str ⟨⟨[]⟩⟩, CV.str ⟨⟨[]⟩⟩, CV.bool false, CV.str ⟨⟨[]⟩⟩, CV.bool false])) kU]) none) none)) none) none)) none)) (L (mkEnv 104 [(0, .c (CV.str s)), (2, .bptr 0 0), (4, .bptr 1 0), (5, .c (CV.str s))]) [.box (.c (CV.agg [CV.str ⟨⟨[]⟩⟩, CV.str ⟨⟨[]⟩⟩, CV.bool false, CV.str ⟨⟨[]⟩⟩, CV.str ⟨⟨[]⟩⟩, CV.bool false, CV.bool false, CV.str ⟨⟨[]⟩⟩, CV.str ⟨⟨[]⟩⟩, CV.bool false, CV.str ⟨⟨[]⟩⟩, CV.bool false])) kU, .box (.c (CV.agg [CV.str ⟨⟨[]⟩⟩, CV.str ⟨⟨[]⟩⟩, CV.bool false, CV.str ⟨⟨[]⟩⟩, CV.str ⟨⟨[]⟩⟩, CV.bool false, CV.bool false, CV.str ⟨⟨[]⟩⟩, CV.str ⟨⟨[]⟩⟩, CV.bool false, CV.str ⟨⟨[]⟩⟩, CV.bool false])) kU])) none) (L (mkEnv 104 [(0, .c (CV.str s)), (2, .bptr 0 0), (4, .bptr 1 0), (5, .c (CV.str s))]) [.box (.c (CV.agg [CV.str ⟨⟨[]⟩⟩, CV.str ⟨⟨[]⟩⟩, CV.bool false, CV.str ⟨⟨[]⟩⟩, CV.str ⟨⟨[]⟩⟩, CV.bool false, CV.bool false, CV.str ⟨⟨[]⟩⟩, CV.str ⟨⟨[]⟩⟩, CV.bool false, CV.str ⟨⟨[]⟩⟩, CV.bool false])) kU, .box (.c (CV.agg [CV.str ⟨⟨[]⟩⟩, CV.str ⟨⟨[]⟩⟩, CV.bool false, CV.str ⟨⟨[]⟩⟩, CV.str ⟨⟨[]⟩⟩, CV.bool false, CV.bool false, CV.str ⟨⟨[]⟩⟩, CV.str ⟨⟨[]⟩⟩, CV.bool false, CV.str ⟨⟨[]⟩⟩, CV.bool false])) kU])) none := by kernel_rfl
theorem ur13 (s r a : ByteArray) (n : Nat) (L : Env → Hp → Res) : aexecB Tryz.prog (call' A27) (filt an13 0) n (prefC 1 d13b) (mkEnv 104 [(0, .c (.str s)), (2, .bptr 0 0), (4, .bptr 1 0), (5, .c (.str r))]) [z0, .box (.c (zU a false)) kU] (thenK (headK h13b L) (endOf Tryz.prog 47 [])) =
 bif' (decide (s.size ≤ 10000)) (L (mkEnv 104 [(2, .bptr 0 0), (4, .bptr 1 0), (5, .c (CV.str r)), (8, .c (CV.bool (stS s)))]) [.box (.c (CV.agg [CV.str ⟨⟨[]⟩⟩, CV.str ⟨⟨[]⟩⟩, CV.bool false, CV.str ⟨⟨[]⟩⟩, CV.str ⟨⟨[]⟩⟩, CV.bool false, CV.bool false, CV.str ⟨⟨[]⟩⟩, CV.str ⟨⟨[]⟩⟩, CV.bool false, CV.str ⟨⟨[]⟩⟩, CV.bool false])) kU, .box (.c (CV.agg [CV.str a, CV.str ⟨⟨[]⟩⟩, CV.bool false, CV.str ⟨⟨[]⟩⟩, CV.str ⟨⟨[]⟩⟩, CV.bool false, CV.bool false, CV.str ⟨⟨[]⟩⟩, CV.str ⟨⟨[]⟩⟩, CV.bool false, CV.str ⟨⟨[]⟩⟩, CV.bool false])) kU]) none := by kernel_rfl
theorem us13 (r a : ByteArray) (ok : Bool) (n : Nat) (L : Env → Hp → Res) : aexecB Tryz.prog (call' A27) (filt an13 0) n (prefC 1 d13c) (mkEnv 104 [(2, .bptr 0 0), (4, .bptr 1 0), (5, .c (.str r)), (8, .c (.bool ok))]) [z0, .box (.c (zU a false)) kU] (thenK (headK h13b L) (endOf Tryz.prog 47 [])) =
 bif' (preS r (ByteArray.mk #[47, 47])) (bif' (decide ((r.extract (ByteArray.mk #[47, 47]).size r.size).size ≤ 10000) && decide ((ByteArray.mk #[47, 63, 35]).size ≤ 10000)) (bif' ok (bif' (decide (((r.extract (ByteArray.mk #[47, 47]).size r.size).extract 0 (findI (r.extract (ByteArray.mk #[47, 47]).size r.size) 0 (ByteArray.mk #[47, 63, 35]))).size ≤ 2500)) (L (mkEnv 104 [(2, .bptr 0 0), (4, .bptr 1 0), (5, .c (CV.str ((r.extract (ByteArray.mk #[47, 47]).size r.size).extract (findI (r.extract (ByteArray.mk #[47, 47]).size r.size) 0 (ByteArray.mk #[47, 63, 35])) (r.extract (ByteArray.mk #[47, 47]).size r.size).size))), (8, .c (CV.bool (auOk ((r.extract (ByteArray.mk #[47, 47]).size r.size).extract 0 (findI (r.extract (ByteArray.mk #[47, 47]).size r.size) 0 (ByteArray.mk #[47, 63, 35]))))))]) [.box (.c (CV.agg [CV.str ⟨⟨[]⟩⟩, CV.str ⟨⟨[]⟩⟩, CV.bool false, CV.str ⟨⟨[]⟩⟩, CV.str ⟨⟨[]⟩⟩, CV.bool false, CV.bool false, CV.str ⟨⟨[]⟩⟩, CV.str ⟨⟨[]⟩⟩, CV.bool false, CV.str ⟨⟨[]⟩⟩, CV.bool false])) kU, .box (.c (CV.agg [CV.str a, CV.str (auUsr ((r.extract (ByteArray.mk #[47, 47]).size r.size).extract 0 (findI (r.extract (ByteArray.mk #[47, 47]).size r.size) 0 (ByteArray.mk #[47, 63, 35])))), CV.bool (auHU ((r.extract (ByteArray.mk #[47, 47]).size r.size).extract 0 (findI (r.extract (ByteArray.mk #[47, 47]).size r.size) 0 (ByteArray.mk #[47, 63, 35])))), CV.str (auHost ((r.extract (ByteArray.mk #[47, 47]).size r.size).extract 0 (findI (r.extract (ByteArray.mk #[47, 47]).size r.size) 0 (ByteArray.mk #[47, 63, 35])))), CV.str (auPort ((r.extract (ByteArray.mk #[47, 47]).size r.size).extract 0 (findI (r.extract (ByteArray.mk #[47, 47]).size r.size) 0 (ByteArray.mk #[47, 63, 35])))), CV.bool (auHP ((r.extract (ByteArray.mk #[47, 47]).size r.size).extract 0 (findI (r.extract (ByteArray.mk #[47, 47]).size r.size) 0 (ByteArray.mk #[47, 63, 35])))), CV.bool true, CV.str ⟨⟨[]⟩⟩, CV.str ⟨⟨[]⟩⟩, CV.bool false, CV.str ⟨⟨[]⟩⟩, CV.bool false])) kU]) none) (L (mkEnv 104 [(2, .bptr 0 0), (4, .bptr 1 0), (5, .c (CV.str ((r.extract (ByteArray.mk #[47, 47]).size r.size).extract (findI (r.extract (ByteArray.mk #[47, 47]).size r.size) 0 (ByteArray.mk #[47, 63, 35])) (r.extract (ByteArray.mk #[47, 47]).size r.size).size))), (8, .c (CV.bool false))]) [.box (.c (CV.agg [CV.str ⟨⟨[]⟩⟩, CV.str ⟨⟨[]⟩⟩, CV.bool false, CV.str ⟨⟨[]⟩⟩, CV.str ⟨⟨[]⟩⟩, CV.bool false, CV.bool false, CV.str ⟨⟨[]⟩⟩, CV.str ⟨⟨[]⟩⟩, CV.bool false, CV.str ⟨⟨[]⟩⟩, CV.bool false])) kU, .box (.c (CV.agg [CV.str a, CV.str ⟨⟨[]⟩⟩, CV.bool false, CV.str ⟨⟨[]⟩⟩, CV.str ⟨⟨[]⟩⟩, CV.bool false, CV.bool true, CV.str ⟨⟨[]⟩⟩, CV.str ⟨⟨[]⟩⟩, CV.bool false, CV.str ⟨⟨[]⟩⟩, CV.bool false])) kU])) none) (L (mkEnv 104 [(2, .bptr 0 0), (4, .bptr 1 0), (5, .c (CV.str r)), (8, .c (CV.bool ok))]) [.box (.c (CV.agg [CV.str ⟨⟨[]⟩⟩, CV.str ⟨⟨[]⟩⟩, CV.bool false, CV.str ⟨⟨[]⟩⟩, CV.str ⟨⟨[]⟩⟩, CV.bool false, CV.bool false, CV.str ⟨⟨[]⟩⟩, CV.str ⟨⟨[]⟩⟩, CV.bool false, CV.str ⟨⟨[]⟩⟩, CV.bool false])) kU, .box (.c (CV.agg [CV.str a, CV.str ⟨⟨[]⟩⟩, CV.bool false, CV.str ⟨⟨[]⟩⟩, CV.str ⟨⟨[]⟩⟩, CV.bool false, CV.bool false, CV.str ⟨⟨[]⟩⟩, CV.str ⟨⟨[]⟩⟩, CV.bool false, CV.str ⟨⟨[]⟩⟩, CV.bool false])) kU]) := by kernel_rfl
theorem ut13 (r a us ho po : ByteArray) (hu hp t ok : Bool) (n : Nat) : aexecB Tryz.prog (call' A27) (filt an13 0) n d13d (mkEnv 104 [(2, .bptr 0 0), (4, .bptr 1 0), (5, .c (.str r)), (8, .c (.bool ok))]) [z0, .box (.c (uV a us hu ho po hp t ⟨⟨[]⟩⟩ ⟨⟨[]⟩⟩ false ⟨⟨[]⟩⟩ false)) kU] (endOf Tryz.prog 47 []) =
 bif' (decide (r.size ≤ 10000)) (bif' (decide ((cutB r 35).size ≤ 10000)) (bif' (!ok) (some (CV.tup [CV.agg [CV.str ⟨⟨[]⟩⟩, CV.str ⟨⟨[]⟩⟩, CV.bool false, CV.str ⟨⟨[]⟩⟩, CV.str ⟨⟨[]⟩⟩, CV.bool false, CV.bool false, CV.str ⟨⟨[]⟩⟩, CV.str ⟨⟨[]⟩⟩, CV.bool false, CV.str ⟨⟨[]⟩⟩, CV.bool false], CV.int .i64 (.ofNat 5)], [])) (bif' (decide (Lib.indexByte (cutA r 35).data.toList (Int.toNat 35).toUInt8 ≥ 0)) (some (CV.tup [CV.agg [CV.str ⟨⟨[]⟩⟩, CV.str ⟨⟨[]⟩⟩, CV.bool false, CV.str ⟨⟨[]⟩⟩, CV.str ⟨⟨[]⟩⟩, CV.bool false, CV.bool false, CV.str ⟨⟨[]⟩⟩, CV.str ⟨⟨[]⟩⟩, CV.bool false, CV.str ⟨⟨[]⟩⟩, CV.bool false], CV.int .i64 (.ofNat 5)], [])) (bif' (fitsS ((cutB (cutB r 35) 63).size + (cutA (cutB r 35) 63).size)) (bif' (fitsS ((cutB (cutB r 35) 63 ++ cutA (cutB r 35) 63).size + (cutA r 35).size)) (bif' (decide ((cutB (cutB r 35) 63 ++ cutA (cutB r 35) 63 ++ cutA r 35).size ≤ 10000)) (bif' (brS (cutB (cutB r 35) 63 ++ cutA (cutB r 35) 63 ++ cutA r 35)) (some (CV.tup [CV.agg [CV.str ⟨⟨[]⟩⟩, CV.str ⟨⟨[]⟩⟩, CV.bool false, CV.str ⟨⟨[]⟩⟩, CV.str ⟨⟨[]⟩⟩, CV.bool false, CV.bool false, CV.str ⟨⟨[]⟩⟩, CV.str ⟨⟨[]⟩⟩, CV.bool false, CV.str ⟨⟨[]⟩⟩, CV.bool false], CV.int .i64 (.ofNat 5)], [])) (some (CV.tup [CV.agg [CV.str a, CV.str us, CV.bool hu, CV.str ho, CV.str po, CV.bool hp, CV.bool t, CV.str (cutB (cutB r 35) 63), CV.str (cutA (cutB r 35) 63), CV.bool (cutF (cutB r 35) 63), CV.str (cutA r 35), CV.bool (cutF r 35)], CV.int .i64 (.ofNat 0)], []))) none) none) none))) none) none := by kernel_rfl
end Go.Pv
namespace Go.Pv
set_option maxRecDepth 100000
open Go Go.Proofs
variable {I : World → Prop} {ng : Nat}
theorem findL_le (p : List UInt8) : ∀ l : List UInt8, findL p l ≤ l.length
 | [] => Nat.le_refl _
 | b :: t => by
   unfold findL
   split
   · omega
   · have := findL_le p t; simp only [List.length_cons]; omega
theorem take_findL (p : List UInt8) : ∀ l : List UInt8, l.take (findL p l) = l.takeWhile fun b => !inS (mkS p) b.toNat
 | [] => rfl
 | b :: t => by
   unfold findL
   cases h : inS (mkS p) b.toNat with
   | true => simp [List.takeWhile_cons, h]
   | false => simp [List.takeWhile_cons, h, take_findL p t]
theorem drop_findL (p : List UInt8) : ∀ l : List UInt8, l.drop (findL p l) = l.dropWhile fun b => !inS (mkS p) b.toNat
 | [] => rfl
 | b :: t => by
   unfold findL
   cases h : inS (mkS p) b.toNat with
   | true => simp [List.dropWhile_cons, h]
   | false => simp [List.dropWhile_cons, h, drop_findL p t]
theorem in_lit (p : List UInt8) (b : UInt8) : inS (mkS p) b.toNat = p.contains b := by
 unfold inS
 rw [mkS_data, Bool.eq_iff_iff, List.any_eq_true, List.contains_iff_mem]
 constructor
 · rintro ⟨x, hx, h⟩
   rw [decide_eq_true_eq] at h
   have : x = b := u8_int.1 h
   subst this; exact hx
 · intro h
   exact ⟨b, h, by simp⟩
theorem dropWhile_nil {q : UInt8 → Bool} : ∀ {l : List UInt8}, l.dropWhile q = [] ↔ l.all q = true
 | [] => by simp
 | b :: t => by
   rw [List.dropWhile_cons, List.all_cons]
   cases h : q b with
   | true => simpa using dropWhile_nil
   | false => simp
theorem find0 (l p : List UInt8) : findI (mkS l) 0 (mkS p) = findL p l := by
 unfold findI
 rw [mkS_data, mkS_data, List.drop_zero, Nat.zero_add]
theorem brS_mk (l : List UInt8) : brS (mkS l) = !decide (l.drop (findL [91, 93] l) = []) := by
 unfold brS
 rw [mkS_data, drop_findL, Bool.eq_iff_iff, List.any_eq_true, Bool.not_eq_true', decide_eq_false_iff_not, dropWhile_nil, List.all_eq_true]
 constructor
 · rintro ⟨x, hx, h⟩ ha
   have := ha x hx
   rw [in_lit] at this
   simp at this h
   rcases h with rfl | rfl <;> simp at this
 · intro h
   refine Classical.byContradiction fun hn => h fun x hx => ?_
   rw [in_lit]
   refine Classical.byContradiction fun h2 => hn ⟨x, hx, ?_⟩
   simp at h2
   simp only [Bool.or_eq_true, decide_eq_true_eq]
   exact Decidable.or_iff_not_imp_left.2 h2
theorem size_lit : (decide ((mkS [91, 93]).size ≤ 10000)) = true := rfl
theorem g30 (hg : OnGlobals I ng) (h : Kw I ng A23) : Kw I ng A30 := known_add (g25 hg h) (contract_of (fun _ => none) hg (hok_of (g25 hg h)) fun cargs rv outs h => by
 unfold L30 at h
 split at h <;> first | (cases h; done) | skip
 rename_i s
 by_cases hs : s.size ≤ 10000
 · simp only [picked, pickAlt, decide_eq_true hs] at h
   cases h
   refine ⟨1, ?_⟩
   obtain ⟨l, rfl⟩ : ∃ l, s = mkS l := ⟨_, (mkS_bl s).symm⟩
   rw [ur30]
   have e : (ByteArray.mk #[91, 93]) = mkS [91, 93] := rfl
   have e0 : (ByteArray.mk #[]) = mkS [] := rfl
   rw [e, e0, size_lit, Bool.and_true, bif_t _ _ (decide_eq_true hs), find0, mkS_ext, toList_data, toList_data, mkS_data, mkS_data, sizeM]
   have hl : (l.drop (findL [91, 93] l)).take (l.length - findL [91, 93] l) = l.drop (findL [91, 93] l) := List.take_of_length_le (by simp)
   rw [hl, brS_mk]
   congr 3
   cases l.drop (findL [91, 93] l) <;> rfl
 · simp only [picked, pickAlt, decide_eq_false hs] at h; cases h)
theorem idx_cut (c : UInt8) : ∀ l : List UInt8, (0 ≤ Lib.indexByte l c → l.take (Lib.indexByte l c).toNat = (l.takeWhile fun b => !decide (b = c)) ∧ l.drop (Lib.indexByte l c).toNat = (l.dropWhile fun b => !decide (b = c)) ∧ (Lib.indexByte l c).toNat < l.length) ∧
   (Lib.indexByte l c < 0 → (l.takeWhile fun b => !decide (b = c)) = l ∧ (l.dropWhile fun b => !decide (b = c)) = [])
 | [] => ⟨fun h => by simp [Lib.indexByte] at h, fun _ => ⟨rfl, rfl⟩⟩
 | b :: t => by
   have ih := idx_cut c t
   have e : Lib.indexByte (b :: t) c = if b == c then (0 : Int) else if Lib.indexByte t c == -1 then -1 else Lib.indexByte t c + 1 := rfl
   rw [e]
   by_cases hb : b = c
   · subst hb
     simp
   · have h1 : (b == c) = false := by simpa using hb
     have := Lib.indexByte_ge t c
     rw [h1]
     simp only [Bool.false_eq_true, if_false, List.takeWhile_cons, List.dropWhile_cons, decide_eq_false hb, Bool.not_false, if_true]
     by_cases h2 : Lib.indexByte t c = -1
     · have h3 : (Lib.indexByte t c == -1) = true := by simpa using h2
       rw [h3]
       have := ih.2 (by omega)
       refine ⟨fun h => by simp at h, fun _ => ?_⟩
       rw [this.1, this.2]
       exact ⟨rfl, rfl⟩
     · have h3 : (Lib.indexByte t c == -1) = false := by simpa using h2
       rw [h3]
       simp only [Bool.false_eq_true, if_false]
       have ih1 := ih.1 (by omega)
       have e2 : (Lib.indexByte t c + 1).toNat = (Lib.indexByte t c).toNat + 1 := by omega
       rw [e2]
       refine ⟨fun _ => ⟨?_, ?_, ?_⟩, fun h => by omega⟩
       · rw [List.take_succ_cons, ih1.1]
       · rw [List.drop_succ_cons, ih1.2.1]
       · simp only [List.length_cons]; omega
theorem g60 (hg : OnGlobals I ng) (h : Kw I ng A23) : Kw I ng A60 := known_add (g30 hg h) (contract_of (fun _ => none) hg (hok_of (g30 hg h)) fun cargs rv outs h => by
 unfold L60 at h
 split at h <;> first | (cases h; done) | skip
 rename_i s c
 by_cases hs : s.size ≤ 10000
 · simp only [picked, pickAlt, decide_eq_true hs] at h
   cases h
   refine ⟨1, ?_⟩
   rw [ur60, toList_data, toList_data]
   have e : byteAt (ByteArray.mk (Array.mk [c])) (Int.toNat 0) = ((c.toNat : Nat) : Int) := rfl
   rw [e, natM, u8_cast', bif_b]
   split
   · rename_i h1
     have h1 : [c] = s.data.toList := by simpa using h1
     rw [← h1]
     simp [Lib.indexByte]
   · rfl
 · simp only [picked, pickAlt, decide_eq_false hs] at h; cases h)
theorem g48 (hg : OnGlobals I ng) (h : Kw I ng A23) : Kw I ng A48 := known_add (g60 hg h) (contract_of (fun _ => none) hg (hok_of (g60 hg h)) fun cargs rv outs h => by
 unfold L28 at h
 split at h <;> first | (cases h; done) | skip
 rename_i s c
 by_cases hs : s.size ≤ 10000
 · simp only [picked, pickAlt, decide_eq_true hs] at h
   cases h
   refine ⟨1, ?_⟩
   obtain ⟨l, rfl⟩ : ∃ l, s = mkS l := ⟨_, (mkS_bl s).symm⟩
   rw [ur48, bif_t _ _ (decide_eq_true hs), mkS_data]
   rw [sizeM] at *
   unfold cutB cutA cutF
   simp only [dataM]
   obtain ⟨q1, q2⟩ := idx_cut c l
   have hm := index_mem l c
   by_cases hi : 0 ≤ Lib.indexByte l c
   · obtain ⟨a1, a2, a3⟩ := q1 hi
     rw [bif_t _ _ (decide_eq_true hi), bif_t _ _ (decide_eq_true hi), bif_t _ _ (decide_eq_true (by omega))]
     have e : IntKind.i64.wrap (Lib.indexByte l c + (((ByteArray.mk (Array.mk [c])).size : Nat) : Int)) = Lib.indexByte l c + 1 := by
       show IntKind.i64.wrap (Lib.indexByte l c + 1) = _
       rw [wrap_id (by omega) (by omega)]
     rw [e, bif_t _ _ (decide_eq_true (by omega)), bif_t _ _ (decide_eq_true (by omega)), bif_t _ _ (decide_eq_true (by omega))]
     have e2 : (Lib.indexByte l c + 1).toNat = (Lib.indexByte l c).toNat + 1 := by omega
     have e3 : Int.toNat 0 = 0 := rfl
     rw [e2, e3, natM, mkS_ext, mkS_ext, List.drop_zero, Nat.sub_zero, a1, ← a2, List.drop_drop]
     rw [← hm, decide_eq_true hi]
     have e4 : (l.drop ((Lib.indexByte l c).toNat + 1)).take (l.length - ((Lib.indexByte l c).toNat + 1)) = l.drop ((Lib.indexByte l c).toNat + 1) := List.take_of_length_le (by simp)
     rw [e4]
   · obtain ⟨a1, a2⟩ := q2 (by omega)
     rw [bif_f _ _ (decide_eq_false hi), a1, a2, ← hm, decide_eq_false hi]
     rfl
 · simp only [picked, pickAlt, decide_eq_false hs] at h; cases h)
theorem g28 (hg : OnGlobals I ng) (h : Kw I ng A23) : Kw I ng A28 := known_add (g48 hg h) (contract_of (fun _ => none) hg (hok_of (g48 hg h)) fun cargs rv outs h => by
 unfold L28 at h
 split at h <;> first | (cases h; done) | skip
 rename_i s c
 by_cases hs : s.size ≤ 10000
 · simp only [picked, pickAlt, decide_eq_true hs] at h
   cases h
   exact ⟨1, by rw [ur28, bif_t _ _ (decide_eq_true hs)]⟩
 · simp only [picked, pickAlt, decide_eq_false hs] at h; cases h)
end Go.Pv
namespace Go.Pv
set_option maxRecDepth 100000
open Go Go.Proofs
variable {I : World → Prop} {ng : Nat}
theorem abody_eq2 {P : Program} {tb : Handler} {an : Ann} {n : Nat} {f : FuncId} {cargs : List CV} {ps : List PV} {H : Hp} (ho : openArgs cargs [] = (ps, H)) (hf : ((P.funcs[f]?).bind (·.body)).isSome = true) :
   abody P tb an n f cargs = aexec P tb (filt an H.length) n (codeOf P f) (envOf P f ps) H (endOf P f (lentOf H)) := by
 unfold abody codeOf envOf endOf
 cases h1 : P.funcs[f]? with
 | none => rw [h1] at hf; cases hf
 | some fn =>
   cases h2 : fn.body with
   | none => rw [h1] at hf; simp [h2] at hf
   | some c =>
     simp only [ho, h2]
theorem lastL_b (l : List UInt8) (c : Int) : ∀ k, -1 ≤ lastL k l c ∧ lastL k l c < k
 | 0 => by simp [lastL]
 | k + 1 => by
   unfold lastL
   have := lastL_b l c k
   split <;> omega
theorem lastI_b (s : ByteArray) (c : Int) : -1 ≤ lastI s c ∧ lastI s c < s.size := lastL_b _ _ _
theorem ten_in : ∀ n : Nat, n < 256 → inS (ByteArray.mk #[48, 49, 50, 51, 52, 53, 54, 55, 56, 57]) (n : Int) = (decide (48 ≤ n) && decide (n ≤ 57)) := by decide +kernel
theorem ten_all (s : ByteArray) : allS s (ByteArray.mk #[48, 49, 50, 51, 52, 53, 54, 55, 56, 57]) = digS s := by
 unfold allS digS
 congr 1
 funext b
 exact ten_in _ b.toNat_lt
theorem tw_id {q : UInt8 → Bool} : ∀ {l : List UInt8}, l.takeWhile q = l ↔ l.all q = true
 | [] => by simp
 | b :: t => by
   rw [List.takeWhile_cons, List.all_cons]
   cases h : q b with
   | true => simpa using tw_id
   | false => simp
theorem no_find (l p : List UInt8) : (((mkS l).extract 0 (findI (mkS l) 0 (mkS p))).toList == (mkS l).toList) = true ↔ (l.any fun b => inS (mkS p) b.toNat) = false := by
 rw [find0, mkS_ext, List.drop_zero, Nat.sub_zero, toList_data, toList_data, mkS_data, mkS_data, take_findL, beq_iff_eq]
 rw [tw_id, List.any_eq_false, List.all_eq_true]
 constructor
 · intro h x hx
   have := h x hx
   simpa using this
 · intro h x hx
   have := h x hx
   simpa using this
theorem hostS_eq (s : ByteArray) (h : s.size ≤ 10000) : hostS s = if preS s (ByteArray.mk #[91]) = true then if sufS (s.extract (ByteArray.mk #[91]).size s.size) (ByteArray.mk #[93]) = true then
   ip6 ((s.extract (ByteArray.mk #[91]).size s.size).extract 0 ((s.extract (ByteArray.mk #[91]).size s.size).size - (ByteArray.mk #[93]).size))
   else (s.extract 0 (findI s 0 (ByteArray.mk #[58, 91, 93, 64]))).toList == s.toList
 else (s.extract 0 (findI s 0 (ByteArray.mk #[58, 91, 93, 64]))).toList == s.toList := by
 obtain ⟨l, rfl⟩ : ∃ l, s = mkS l := ⟨_, (mkS_bl s).symm⟩
 have hF : (((mkS l).extract 0 (findI (mkS l) 0 (ByteArray.mk #[58, 91, 93, 64]))).toList == (mkS l).toList) = !(l.any fun b => inS ⟨#[58, 91, 93, 64]⟩ b.toNat) := by
   have := no_find l [58, 91, 93, 64]
   rw [Bool.eq_iff_iff, Bool.not_eq_true']
   exact this
 rw [hF]
 unfold hostS
 rw [mkS_data]
 have e1 : (ByteArray.mk #[91]).size = 1 := rfl
 have e3 : (ByteArray.mk #[93]).size = 1 := rfl
 have e2 : (ByteArray.mk (Array.mk [91] : Array UInt8)) = ByteArray.mk #[91] := rfl
 have hl : (l.drop 1).take (l.length - 1) = l.drop 1 := List.take_of_length_le (by simp)
 simp only [e1, e3, sizeM, mkS_ext, hl, List.drop_zero, Nat.sub_zero, List.length_drop]
 unfold preS sufS
 simp only [dataM]
 cases l with
 | nil => rfl
 | cons a t =>
   have e5 : (a :: t).drop 1 = t := rfl
   rw [e5]
   have p1 : ([91] : List UInt8).isPrefixOf (a :: t) = (91 == a) := by simp [List.isPrefixOf]
   rw [p1]
   by_cases ha : (91 == a) = true
   · rw [ha, if_pos rfl]
     have ha' : a = 91 := by simpa using (eq_of_beq ha).symm
     subst ha'
     cases t with
     | nil =>
       have : decide (2 ≤ ([91] : List UInt8).length) = false := rfl
       rw [this]
       have s2 : ([93] : List UInt8).isSuffixOf [] = false := rfl
       rw [s2]
       rfl
     | cons b u =>
       have c1 : decide (2 ≤ (91 :: b :: u : List UInt8).length) = true := decide_eq_true (by simp)
       have s1 : ([93] : List UInt8).isSuffixOf (91 :: b :: u) = ([93] : List UInt8).isSuffixOf (b :: u) := by
         rw [Bool.eq_iff_iff, List.isSuffixOf_iff_suffix, List.isSuffixOf_iff_suffix, List.suffix_cons_iff]
         simp
       rw [c1, s1, Bool.true_and, Bool.true_and]
   · have ha' : (91 == a) = false := by simpa using ha
     rw [ha']
     simp
theorem us27' (s a us po : ByteArray) (hu hp : Bool) (n : Nat) (hs : s.size ≤ 2500) (h1 : us.size ≤ 2500) (h2 : po.size ≤ 2500) (R : Res)
   (hR : R = some (.bool (hostS s && (digS po && !brS us)), [uV a us hu s po hp true ⟨⟨[]⟩⟩ ⟨⟨[]⟩⟩ false ⟨⟨[]⟩⟩ false])) :
   aexecB Tryz.prog (call' A47) (filt an27 1) n d27b (mkEnv 122 [(0, .bptr 0 0), (1, .c (.str s))]) [.box (.c (uV a us hu ⟨⟨[]⟩⟩ po hp true ⟨⟨[]⟩⟩ ⟨⟨[]⟩⟩ false ⟨⟨[]⟩⟩ false)) kU] (endOf Tryz.prog 72 [kU]) = R := by
 rw [us27, hR, hostS_eq s (by omega), ten_all]
 have b1 : decide (s.size ≤ 10000) = true := decide_eq_true (by omega)
 have b2 : decide (us.size ≤ 10000) = true := decide_eq_true (by omega)
 have b3 : decide (po.size ≤ 10000) = true := decide_eq_true (by omega)
 have b4 : decide ((s.extract (ByteArray.mk #[91]).size s.size).size ≤ 10000) = true := decide_eq_true (by rw [ByteArray.size_extract]; omega)
 have b5 : decide (((s.extract (ByteArray.mk #[91]).size s.size).extract 0 ((s.extract (ByteArray.mk #[91]).size s.size).size - (ByteArray.mk #[93]).size)).size ≤ 3000) = true := decide_eq_true (by rw [ByteArray.size_extract, ByteArray.size_extract]; omega)
 have b6 : decide ((ByteArray.mk #[58, 91, 93, 64]).size ≤ 10000) = true := rfl
 have b7 : decide ((ByteArray.mk #[48, 49, 50, 51, 52, 53, 54, 55, 56, 57]).size ≤ 100) = true := rfl
 have b8 : asciiS (ByteArray.mk #[48, 49, 50, 51, 52, 53, 54, 55, 56, 57]) = true := by decide +kernel
 rw [b1, b2, b3, b4, b5, b6, b7, b8]
 generalize ((s.extract 0 (findI s 0 (ByteArray.mk #[58, 91, 93, 64]))).toList == s.toList) = F
 generalize ip6 ((s.extract (ByteArray.mk #[91]).size s.size).extract 0 ((s.extract (ByteArray.mk #[91]).size s.size).size - (ByteArray.mk #[93]).size)) = C
 generalize ip4 ((s.extract (ByteArray.mk #[91]).size s.size).extract 0 ((s.extract (ByteArray.mk #[91]).size s.size).size - (ByteArray.mk #[93]).size)) = C4
 generalize preS s (ByteArray.mk #[91]) = A
 generalize sufS (s.extract (ByteArray.mk #[91]).size s.size) (ByteArray.mk #[93]) = B
 generalize sufS s (ByteArray.mk #[93]) = B'
 generalize digS po = D
 generalize brS us = E
 cases A <;> cases B <;> cases B' <;> cases C <;> cases C4 <;> cases D <;> cases F <;> cases E <;> rfl
theorem bif_tt {α : Type} (x y : Option α) : bif' true x y = x := bif_t x y (Eq.refl true)
theorem bif_ff {α : Type} (x y : Option α) : bif' false x y = y := bif_f x y (Eq.refl false)
theorem toNat0 : Int.toNat 0 = 0 := by simp
theorem fo27a : tailC 2 c27 = d27a := eq_of_heq (heq_of_eq (by kernel_rfl))
theorem fo27b : tailC 1 d27a = d27b := eq_of_heq (heq_of_eq (by kernel_rfl))
theorem sp27 : spine 2 c27 = true := by kernel_rfl
theorem ha27 : headAt (filt an27 1) (tailC 2 c27) = some h27 := by kernel_rfl
theorem sp27b : spine 1 d27a = true := by kernel_rfl
theorem ha27b : headAt (filt an27 1) (tailC 1 d27a) = some h27 := by kernel_rfl
theorem uq27' (s a us : ByteArray) (hu : Bool) (n : Nat) (hs : s.size ≤ 2500) (h1 : us.size ≤ 2500) (R : Res)
   (hR : R = some (.bool (hostS (if decide (0 ≤ lastI s 58) && decide (lastI s 93 < lastI s 58) then s.extract 0 (lastI s 58).toNat else s) && (digS (if decide (0 ≤ lastI s 58) && decide (lastI s 93 < lastI s 58) then s.extract ((lastI s 58).toNat + 1) s.size else ⟨⟨[]⟩⟩) && !brS us)),
     [uV a us hu (if decide (0 ≤ lastI s 58) && decide (lastI s 93 < lastI s 58) then s.extract 0 (lastI s 58).toNat else s) (if decide (0 ≤ lastI s 58) && decide (lastI s 93 < lastI s 58) then s.extract ((lastI s 58).toNat + 1) s.size else ⟨⟨[]⟩⟩) (decide (0 ≤ lastI s 58) && decide (lastI s 93 < lastI s 58)) true ⟨⟨[]⟩⟩ ⟨⟨[]⟩⟩ false ⟨⟨[]⟩⟩ false])) :
   aexecB Tryz.prog (call' A47) (filt an27 1) n d27a (mkEnv 122 [(0, .bptr 0 0), (1, .c (.str s))]) [.box (.c (uV a us hu ⟨⟨[]⟩⟩ ⟨⟨[]⟩⟩ false true ⟨⟨[]⟩⟩ ⟨⟨[]⟩⟩ false ⟨⟨[]⟩⟩ false)) kU] (endOf Tryz.prog 72 [kU]) = R := by
 have b1 : decide (s.size ≤ 10000) = true := decide_eq_true (by omega)
 rw [seg_b (k := 1) (by decide) sp27b ha27b, uq27, b1]
 have hb := lastI_b s 58
 by_cases hp : 0 ≤ lastI s 58
 · have b2 : decide (lastI s 58 ≥ 0) = true := decide_eq_true hp
   have b2' : decide (0 ≤ lastI s 58) = true := decide_eq_true hp
   by_cases hq : lastI s 93 < lastI s 58
   · have b3 : decide (lastI s 58 > lastI s 93) = true := decide_eq_true hq
     have b3' : decide (lastI s 93 < lastI s 58) = true := decide_eq_true hq
     have e : IntKind.i64.wrap (lastI s 58 + 1) = lastI s 58 + 1 := wrap_id (by omega) (by omega)
     have e' : (lastI s 58 + 1).toNat = (lastI s 58).toNat + 1 := by omega
     have b4 : decide (0 ≤ lastI s 58 + 1) = true := decide_eq_true (by omega)
     have b5 : decide (lastI s 58 + 1 ≤ (s.size : Int)) = true := decide_eq_true (by omega)
     have b6 : decide ((s.size : Int) ≤ (s.size : Int)) = true := decide_eq_true (by omega)
     have b7 : decide (lastI s 58 ≤ (s.size : Int)) = true := decide_eq_true (by omega)
     rw [b2, b3, e, b4, b5, b6, b7, e', natM]
     simp only [bif_tt, fo27b, toNat0]
     rw [b2', b3'] at hR
     simp only [Bool.and_self, Bool.and_false, if_true, Bool.false_eq_true, if_false] at hR
     exact us27' _ _ _ _ _ _ n (by rw [ByteArray.size_extract]; omega) h1 (by rw [ByteArray.size_extract]; omega) R hR
   · have b3 : decide (lastI s 58 > lastI s 93) = false := decide_eq_false hq
     have b3' : decide (lastI s 93 < lastI s 58) = false := decide_eq_false hq
     rw [b2, b3]
     simp only [bif_tt, bif_ff, fo27b]
     rw [b2', b3'] at hR
     simp only [Bool.and_self, Bool.and_false, if_true, Bool.false_eq_true, if_false] at hR
     exact us27' _ _ _ _ _ _ n hs h1 (by decide) R hR
 · have b2 : decide (lastI s 58 ≥ 0) = false := decide_eq_false hp
   have b2' : decide (0 ≤ lastI s 58) = false := decide_eq_false hp
   rw [b2]
   simp only [bif_tt, bif_ff, fo27b]
   rw [b2'] at hR
   simp only [Bool.false_and, Bool.false_eq_true, if_false] at hR
   exact us27' _ _ _ _ _ _ n hs h1 (by decide) R hR
theorem g47 (hg : OnGlobals I ng) (h : Kw I ng A23) (h47 : Cw I ng 98 L47) : Kw I ng A47 := known_add (g28 hg h) h47
theorem g27 (hg : OnGlobals I ng) (h : Kw I ng A23) (h47 : Cw I ng 98 L47) : Kw I ng A27 := known_add (g47 hg h h47) (contract_of an27 hg (hok_of (g47 hg h h47)) fun cargs rv outs h => by
 unfold L27 at h
 split at h <;> first | (cases h; done) | skip
 rename_i k a s
 split at h <;> first | (cases h; done) | skip
 rename_i hk
 have hk := Nat.eq_of_beq_eq_true hk
 subst hk
 by_cases hs : s.size ≤ 2500
 · simp only [picked, pickAlt, decide_eq_true hs] at h
   cases h
   refine ⟨1, ?_⟩
   rw [abody_eq2 (ps := [.bptr 0 0, .c (.str s)]) (H := [.box (.c (zU a true)) kU]) rfl (by kernel_rfl)]
   show aexec Tryz.prog (call' A47) (filt an27 1) 1 c27 (envOf Tryz.prog 72 [.bptr 0 0, .c (.str s)]) [.box (.c (zU a true)) kU] (endOf Tryz.prog 72 [kU]) = _
   have b1 : decide (s.size ≤ 10000) = true := decide_eq_true (by omega)
   rw [seg_a (k := 2) (by decide) sp27 ha27, up27, b1]
   have hb := lastI_b s 64
   by_cases hp : 0 ≤ lastI s 64
   · have b2 : decide (lastI s 64 ≥ 0) = true := decide_eq_true hp
     have b2' : decide (0 ≤ lastI s 64) = true := decide_eq_true hp
     have e : IntKind.i64.wrap (lastI s 64 + 1) = lastI s 64 + 1 := wrap_id (by omega) (by omega)
     have e' : (lastI s 64 + 1).toNat = (lastI s 64).toNat + 1 := by omega
     have b4 : decide (0 ≤ lastI s 64 + 1) = true := decide_eq_true (by omega)
     have b5 : decide (lastI s 64 + 1 ≤ (s.size : Int)) = true := decide_eq_true (by omega)
     have b6 : decide ((s.size : Int) ≤ (s.size : Int)) = true := decide_eq_true (by omega)
     have b7 : decide (lastI s 64 ≤ (s.size : Int)) = true := decide_eq_true (by omega)
     rw [b2, e, b4, b5, b6, b7, e', natM]
     simp only [bif_tt, fo27a, toNat0]
     refine uq27' _ _ _ _ 1 (by rw [ByteArray.size_extract]; omega) (by rw [ByteArray.size_extract]; omega) _ ?_
     unfold auOk auHost auPort auHP auRest auUsr auHU
     rw [b2']
     first | rfl | (simp only [if_true, Bool.false_eq_true, if_false])
   · have b2 : decide (lastI s 64 ≥ 0) = false := decide_eq_false hp
     have b2' : decide (0 ≤ lastI s 64) = false := decide_eq_false hp
     rw [b2]
     simp only [bif_tt, bif_ff, fo27a]
     refine uq27' _ _ _ _ 1 hs (by decide) _ ?_
     unfold auOk auHost auPort auHP auRest auUsr auHU
     rw [b2']
     first | rfl | (simp only [if_true, Bool.false_eq_true, if_false])
 · simp only [picked, pickAlt, decide_eq_false hs] at h; cases h)
end Go.Pv
namespace Go.Pv
set_option maxRecDepth 100000
set_option maxHeartbeats 20000
open Go Go.Proofs
variable {I : World → Prop} {ng : Nat}
abbrev pC : ByteArray := ByteArray.mk #[58, 47, 63, 35]
abbrev pD : ByteArray := ByteArray.mk #[47, 63, 35]
abbrev nB : ByteArray := ⟨⟨[]⟩⟩
def uTl (s : ByteArray) : ByteArray := s.extract (findI s 0 pC) s.size
def uHd (s : ByteArray) : ByteArray := s.extract 0 (findI s 0 pC)
def uHS (s : ByteArray) : Bool := !((uTl s).toList == (ByteArray.mk #[]).toList) && (byteAt (uTl s) 0 == 58)
def uSch (s : ByteArray) : ByteArray := if uHS s then uHd s else nB
def uRst (s : ByteArray) : ByteArray := if uHS s then (uTl s).extract 1 (uTl s).size else s
def uSOk (s : ByteArray) : Bool := !uHS s || (!((uHd s).toList == (ByteArray.mk #[]).toList) && (allS (uHd s) schC && allS ((uHd s).extract 0 1) letC))
def rHA (r : ByteArray) : Bool := preS r (ByteArray.mk #[47, 47])
def rIn (r : ByteArray) : ByteArray := r.extract 2 r.size
def rAu (r : ByteArray) : ByteArray := (rIn r).extract 0 (findI (rIn r) 0 pD)
def rAf (r : ByteArray) : ByteArray := if rHA r then (rIn r).extract (findI (rIn r) 0 pD) (rIn r).size else r
def rUsr (r : ByteArray) : ByteArray := if rHA r then auUsr (rAu r) else nB
def rHU (r : ByteArray) : Bool := rHA r && auHU (rAu r)
def rHost (r : ByteArray) : ByteArray := if rHA r then auHost (rAu r) else nB
def rPort (r : ByteArray) : ByteArray := if rHA r then auPort (rAu r) else nB
def rHP (r : ByteArray) : Bool := rHA r && auHP (rAu r)
def rOkU (r : ByteArray) : Bool := !rHA r || auOk (rAu r)
def tPa (t : ByteArray) : ByteArray := cutB (cutB t 35) 63
def tQu (t : ByteArray) : ByteArray := cutA (cutB t 35) 63
def tHQ (t : ByteArray) : Bool := cutF (cutB t 35) 63
def tFr (t : ByteArray) : ByteArray := cutA t 35
def tHF (t : ByteArray) : Bool := cutF t 35
def tOk (t : ByteArray) : Bool := !((tFr t).data.toList.any fun b => decide (b = 35)) && !brS (tPa t ++ tQu t ++ tFr t)
def uV2 (a r t : ByteArray) : CV := uV a (rUsr r) (rHU r) (rHost r) (rPort r) (rHP r) (rHA r) (tPa t) (tQu t) (tHQ t) (tFr t) (tHF t)
def uOk (s : ByteArray) : Bool := uSOk s && (stS s && (rOkU (uRst s) && tOk (rAf (uRst s))))
def uR (s : ByteArray) : CV := uV2 (uSch s) (uRst s) (rAf (uRst s))
def L13 : Fn1 := fun x => match x with
 | [.str s] => some [(decide (2048 < s.size), .tup [zU nB false, .int .i64 3], []), (uOk s, .tup [uR s, .int .i64 0], []), (true, .tup [zU nB false, .int .i64 5], [])]
 | _ => none
def L22 : Fn1 := fun x => match x with
 | [.str s] => some [(decide (s.size ≤ 2500) && uOk s, .tup [uR s, .bool true], []), (decide (s.size ≤ 2500), .tup [zU nB false, .bool false], [])]
 | _ => none
def fin13 (ok : Bool) (v : CV) : Res := if ok = true then some (.tup [v, .int .i64 0], []) else some (.tup [zU nB false, .int .i64 5], [])
theorem cutB_sz (s : ByteArray) (c : UInt8) : (cutB s c).size ≤ s.size := by
 unfold cutB
 rw [sizeM]
 have := (List.takeWhile_sublist (fun b => !decide (b = c)) (l := s.data.toList)).length_le
 rw [data_len] at this
 exact this
theorem cutA_sz (s : ByteArray) (c : UInt8) : (cutA s c).size ≤ s.size := by
 unfold cutA
 rw [sizeM, List.length_drop]
 have := (List.dropWhile_sublist (fun b => !decide (b = c)) (l := s.data.toList)).length_le
 rw [data_len] at this
 omega
theorem u35 : (Int.toNat 35).toUInt8 = 35 := rfl
theorem ut13' (r a us ho po : ByteArray) (hu hp t ok : Bool) (n : Nat) (hr : r.size ≤ 2500) (R : Res)
   (hR : R = fin13 (ok && tOk r) (uV a us hu ho po hp t (tPa r) (tQu r) (tHQ r) (tFr r) (tHF r))) :
   aexecB Tryz.prog (call' A27) (filt an13 0) n d13d (mkEnv 104 [(2, .bptr 0 0), (4, .bptr 1 0), (5, .c (.str r)), (8, .c (.bool ok))]) [z0, .box (.c (uV a us hu ho po hp t ⟨⟨[]⟩⟩ ⟨⟨[]⟩⟩ false ⟨⟨[]⟩⟩ false)) kU] (endOf Tryz.prog 47 []) = R := by
 have z1 := cutB_sz r 35
 have z2 := cutA_sz r 35
 have z3 := cutB_sz (cutB r 35) 63
 have z4 := cutA_sz (cutB r 35) 63
 have b1 : decide (r.size ≤ 10000) = true := decide_eq_true (by omega)
 have b2 : decide ((cutB r 35).size ≤ 10000) = true := decide_eq_true (by omega)
 have b3 : fitsS ((cutB (cutB r 35) 63).size + (cutA (cutB r 35) 63).size) = true := fits_small (by omega)
 have b4 : fitsS ((cutB (cutB r 35) 63 ++ cutA (cutB r 35) 63).size + (cutA r 35).size) = true := fits_small (by rw [ByteArray.size_append]; omega)
 have b5 : decide ((cutB (cutB r 35) 63 ++ cutA (cutB r 35) 63 ++ cutA r 35).size ≤ 10000) = true := decide_eq_true (by rw [ByteArray.size_append, ByteArray.size_append]; omega)
 rw [ut13, hR, b1, b2, b3, b4, b5, u35, index_mem]
 unfold tOk tFr tPa tQu tHQ tHF fin13
 simp only [bif_tt]
 generalize ((cutA r 35).data.toList.any fun b => decide (b = 35)) = X
 generalize brS (cutB (cutB r 35) 63 ++ cutA (cutB r 35) 63 ++ cutA r 35) = Y
 cases ok <;> cases X <;> cases Y <;> rfl
theorem sp13c : spine 1 d13c = true := by kernel_rfl
theorem ha13c : headAt (filt an13 0) (tailC 1 d13c) = some h13b := by kernel_rfl
theorem fo13c : tailC 1 d13c = d13d := eq_of_heq (heq_of_eq (by kernel_rfl))
theorem us13' (r a : ByteArray) (ok : Bool) (n : Nat) (hr : r.size ≤ 2500) (R : Res) (hR : R = fin13 ((ok && rOkU r) && tOk (rAf r)) (uV2 a r (rAf r))) :
   aexecB Tryz.prog (call' A27) (filt an13 0) n d13c (mkEnv 104 [(2, .bptr 0 0), (4, .bptr 1 0), (5, .c (.str r)), (8, .c (.bool ok))]) [z0, .box (.c (zU a false)) kU] (endOf Tryz.prog 47 []) = R := by
 rw [seg_b (k := 1) (by decide) sp13c ha13c, us13]
 have e2 : (ByteArray.mk #[47, 47]).size = 2 := rfl
 have e3 : r.extract 2 r.size = rIn r := by unfold rIn; rfl
 have e4 : (rIn r).extract 0 (findI (rIn r) 0 pD) = rAu r := by unfold rAu; rfl
 have z1 : (rIn r).size ≤ 2500 := by unfold rIn; rw [ByteArray.size_extract]; omega
 have z2 : (rAu r).size ≤ 2500 := by unfold rAu; rw [ByteArray.size_extract]; omega
 have z3 : (rAf r).size ≤ 2500 := by
   unfold rAf
   split
   · rw [ByteArray.size_extract]; omega
   · exact hr
 have b1 : decide ((rIn r).size ≤ 10000) = true := decide_eq_true (by omega)
 have b2 : decide ((rAu r).size ≤ 2500) = true := decide_eq_true z2
 have b3 : decide ((ByteArray.mk #[47, 63, 35]).size ≤ 10000) = true := rfl
 have e5 : preS r (ByteArray.mk #[47, 47]) = rHA r := by unfold rHA; rfl
 rw [e2, e3, e4, e5, b1, b2, b3]
 cases hA : rHA r with
 | true =>
   have e6 : (rIn r).extract (findI (rIn r) 0 pD) (rIn r).size = rAf r := by unfold rAf; rw [hA, if_pos rfl]
   rw [e6]
   rw [Bool.true_and]
   rw [bif_tt]
   cases ok with
   | true =>
     rw [bif_tt, bif_tt, bif_tt, fo13c]
     refine ut13' _ _ _ _ _ _ _ _ _ n z3 R ?_
     rw [hR]
     unfold uV2 rUsr rHU rHost rPort rHP rOkU
     rw [hA]
     simp only [Bool.true_and, Bool.false_and, Bool.and_true, Bool.and_false, Bool.not_true, Bool.not_false, Bool.false_or, Bool.true_or, if_true, Bool.false_eq_true, if_false]
   | false =>
     rw [bif_ff, bif_tt, fo13c]
     refine ut13' _ _ _ _ _ _ _ _ _ n z3 R ?_
     rw [hR, Bool.false_and, Bool.false_and]
     unfold fin13
     simp only [Bool.true_and, Bool.false_and, Bool.and_true, Bool.and_false, Bool.not_true, Bool.not_false, Bool.false_or, Bool.true_or, if_true, Bool.false_eq_true, if_false]
 | false =>
   simp only [bif_ff, fo13c]
   have e6 : rAf r = r := by unfold rAf; rw [hA]; simp only [Bool.false_eq_true, if_false]
   rw [e6] at hR
   refine ut13' _ _ _ _ _ _ _ _ _ n hr R ?_
   rw [hR]
   unfold uV2 rUsr rHU rHost rPort rHP rOkU
   rw [hA]
   simp only [Bool.true_and, Bool.false_and, Bool.and_true, Bool.and_false, Bool.not_true, Bool.not_false, Bool.false_or, Bool.true_or, if_true, Bool.false_eq_true, if_false]
theorem sp13b : spine 1 d13b = true := by kernel_rfl
theorem ha13b : headAt (filt an13 0) (tailC 1 d13b) = some h13b := by kernel_rfl
theorem fo13b : tailC 1 d13b = d13c := eq_of_heq (heq_of_eq (by kernel_rfl))
theorem ur13' (s r a : ByteArray) (n : Nat) (hs : s.size ≤ 2500) (hr : r.size ≤ 2500) (R : Res) (hR : R = fin13 ((stS s && rOkU r) && tOk (rAf r)) (uV2 a r (rAf r))) :
   aexecB Tryz.prog (call' A27) (filt an13 0) n d13b (mkEnv 104 [(0, .c (.str s)), (2, .bptr 0 0), (4, .bptr 1 0), (5, .c (.str r))]) [z0, .box (.c (zU a false)) kU] (endOf Tryz.prog 47 []) = R := by
 have b1 : decide (s.size ≤ 10000) = true := decide_eq_true (by omega)
 rw [seg_b (k := 1) (by decide) sp13b ha13b, ur13, b1]
 simp only [bif_tt, fo13b]
 exact us13' r a (stS s) n hr R hR
theorem sp13a : spine 1 d13a = true := by kernel_rfl
theorem ha13a : headAt (filt an13 0) (tailC 1 d13a) = some h13a := by kernel_rfl
theorem fo13a : tailC 1 d13a = d13b := eq_of_heq (heq_of_eq (by kernel_rfl))
theorem sch_as : asciiS schC = true := by decide +kernel
theorem let_as : asciiS letC = true := by decide +kernel
theorem uq13' (s : ByteArray) (n : Nat) (hs : s.size ≤ 2500) (R : Res) (hR : R = fin13 (uOk s) (uR s)) :
   aexecB Tryz.prog (call' A27) (filt an13 0) n d13a (mkEnv 104 [(0, .c (.str s)), (2, .bptr 0 0), (4, .bptr 1 0), (5, .c (.str s))]) [z0, z0] (endOf Tryz.prog 47 []) = R := by
 rw [seg_b (k := 1) (by decide) sp13a ha13a, uq13]
 have e1 : s.extract (findI s 0 (ByteArray.mk #[58, 47, 63, 35])) s.size = uTl s := by unfold uTl; rfl
 have e2 : s.extract 0 (findI s 0 (ByteArray.mk #[58, 47, 63, 35])) = uHd s := by unfold uHd; rfl
 have z1 : (uTl s).size ≤ 2500 := by unfold uTl; rw [ByteArray.size_extract]; omega
 have z2 : (uHd s).size ≤ 2500 := by unfold uHd; rw [ByteArray.size_extract]; omega
 have z3 : ((uHd s).extract 0 1).size ≤ 2500 := by rw [ByteArray.size_extract]; omega
 have t0 : Int.toNat 1 = 1 := rfl
 rw [e1, e2]
 simp only [toNat0, t0, natM]
 have b1 : decide (s.size ≤ 10000) = true := decide_eq_true (by omega)
 have b2 : decide ((ByteArray.mk #[58, 47, 63, 35]).size ≤ 10000) = true := rfl
 have b3 : decide ((uHd s).size ≤ 10000) = true := decide_eq_true (by omega)
 have b4 : decide (((uHd s).extract 0 1).size ≤ 10000) = true := decide_eq_true (by omega)
 have b5 : decide (schC.size ≤ 100) = true := rfl
 have b6 : decide (letC.size ≤ 100) = true := rfl
 have b7 : decide (((uTl s).size : Int) ≤ ((uTl s).size : Int)) = true := decide_eq_true (by omega)
 rw [b1, b2, b3, b4, b5, b6, b7, sch_as, let_as]
 have ne : ∀ x : ByteArray, (x.toList == (ByteArray.mk #[]).toList) = decide (x.size = 0) := by
   intro x
   obtain ⟨l, rfl⟩ : ∃ l, x = mkS l := ⟨_, (mkS_bl x).symm⟩
   have e0 : (ByteArray.mk #[]) = mkS [] := rfl
   rw [e0, toList_data, toList_data, mkS_data, mkS_data, sizeM]
   cases l <;> rfl
 have hOk : uOk s = (uSOk s && ((stS s && rOkU (uRst s)) && tOk (rAf (uRst s)))) := by unfold uOk; simp only [Bool.and_assoc]
 rw [hOk] at hR
 by_cases h0 : (uTl s).size = 0
 · have b8 : ((uTl s).toList == (ByteArray.mk #[]).toList) = true := by rw [ne, decide_eq_true h0]
   have hS : uHS s = false := by unfold uHS; rw [b8]; simp only [Bool.true_and, Bool.false_and, Bool.and_true, Bool.and_false, Bool.not_true, Bool.not_false, Bool.false_or, Bool.true_or, if_true, Bool.false_eq_true, if_false]
   rw [b8]
   simp only [Bool.not_true, Bool.and_self, bif_tt, bif_ff, fo13a]
   refine ur13' s s nB n hs hs R ?_
   rw [hR]
   unfold uR uSOk uSch uRst
   rw [hS]
   simp only [Bool.true_and, Bool.false_and, Bool.and_true, Bool.and_false, Bool.not_true, Bool.not_false, Bool.false_or, Bool.true_or, if_true, Bool.false_eq_true, if_false]
 · have b8 : ((uTl s).toList == (ByteArray.mk #[]).toList) = false := by rw [ne, decide_eq_false h0]
   have b9 : decide (0 < ((uTl s).size : Int)) = true := decide_eq_true (by omega)
   have b10 : decide (1 ≤ ((uTl s).size : Int)) = true := decide_eq_true (by omega)
   rw [b8, b9, b10]
   simp only [Bool.not_false, Bool.and_self, bif_tt, bif_ff, fo13a]
   cases h58 : (byteAt (uTl s) 0 == 58) with
   | false =>
     have hS : uHS s = false := by unfold uHS; rw [h58, Bool.and_false]
     simp only [bif_ff, bif_tt]
     refine ur13' s s nB n hs hs R ?_
     rw [hR]
     unfold uR uSOk uSch uRst
     rw [hS]
     simp only [Bool.true_and, Bool.false_and, Bool.and_true, Bool.and_false, Bool.not_true, Bool.not_false, Bool.false_or, Bool.true_or, if_true, Bool.false_eq_true, if_false]
   | true =>
     have hS : uHS s = true := by unfold uHS; rw [h58, b8]; simp only [Bool.true_and, Bool.false_and, Bool.and_true, Bool.and_false, Bool.not_true, Bool.not_false, Bool.false_or, Bool.true_or, if_true, Bool.false_eq_true, if_false]
     simp only [bif_tt]
     have hSO : uSOk s = (!((uHd s).toList == (ByteArray.mk #[]).toList) && (allS (uHd s) schC && allS ((uHd s).extract 0 1) letC)) := by unfold uSOk; rw [hS]; simp only [Bool.true_and, Bool.false_and, Bool.and_true, Bool.and_false, Bool.not_true, Bool.not_false, Bool.false_or, Bool.true_or, if_true, Bool.false_eq_true, if_false]
     rw [hSO] at hR
     by_cases h1 : (uHd s).size = 0
     · have c1 : ((uHd s).toList == (ByteArray.mk #[]).toList) = true := by rw [ne, decide_eq_true h1]
       rw [c1] at hR ⊢
       rw [hR]
       simp only [bif_tt]
       unfold fin13
       simp only [Bool.true_and, Bool.false_and, Bool.and_true, Bool.and_false, Bool.not_true, Bool.not_false, Bool.false_or, Bool.true_or, if_true, Bool.false_eq_true, if_false]
       rfl
     · have c1 : ((uHd s).toList == (ByteArray.mk #[]).toList) = false := by rw [ne, decide_eq_false h1]
       have c2 : decide (1 ≤ ((uHd s).size : Int)) = true := decide_eq_true (by omega)
       rw [c1] at hR ⊢
       rw [c2]
       simp only [bif_ff, bif_tt]
       cases h2 : allS (uHd s) schC with
       | false =>
         rw [h2] at hR; rw [hR]
         simp only [Bool.not_false, bif_tt]
         unfold fin13
         simp only [Bool.true_and, Bool.false_and, Bool.and_true, Bool.and_false, Bool.not_true, Bool.not_false, Bool.false_or, Bool.true_or, if_true, Bool.false_eq_true, if_false]
         rfl
       | true =>
         cases h3 : allS ((uHd s).extract 0 1) letC with
         | false =>
           rw [h2, h3] at hR; rw [hR]
           simp only [Bool.not_true, Bool.not_false, bif_tt, bif_ff]
           unfold fin13
           simp only [Bool.true_and, Bool.false_and, Bool.and_true, Bool.and_false, Bool.not_true, Bool.not_false, Bool.false_or, Bool.true_or, if_true, Bool.false_eq_true, if_false]
           rfl
         | true =>
           simp only [Bool.not_true, bif_ff, bif_tt]
           refine ur13' s ((uTl s).extract 1 (uTl s).size) (uHd s) n hs (by rw [ByteArray.size_extract]; omega) R ?_
           rw [hR, h2, h3]
           unfold uR uSch uRst
           rw [hS]
           simp only [Bool.true_and, Bool.false_and, Bool.and_true, Bool.and_false, Bool.not_true, Bool.not_false, Bool.false_or, Bool.true_or, if_true, Bool.false_eq_true, if_false]
theorem sp13 : spine 4 c13 = true := by kernel_rfl
theorem ha13 : headAt (filt an13 0) (tailC 4 c13) = some h13a := by kernel_rfl
theorem fo13 : tailC 4 c13 = d13a := eq_of_heq (heq_of_eq (by kernel_rfl))
def A13 : Table := fun g => if Nat.beq g 47 then L13 else A27 g
theorem g13 (hg : OnGlobals I ng) (h : Kw I ng A23) (h47 : Cw I ng 98 L47) : Kw I ng A13 := known_add (g27 hg h h47) (contract_of an13 hg (hok_of (g27 hg h h47)) fun cargs rv outs h => by
 unfold L13 at h
 split at h <;> first | (cases h; done) | skip
 rename_i s
 refine ⟨1, ?_⟩
 rw [abody_eq2 (ps := [.c (.str s)]) (H := []) rfl (by kernel_rfl)]
 show aexec Tryz.prog (call' A27) (filt an13 0) 1 c13 (envOf Tryz.prog 47 [.c (.str s)]) [] (endOf Tryz.prog 47 []) = _
 rw [seg_a (k := 4) (by decide) sp13 ha13, up13]
 by_cases hs : 2048 < s.size
 · have b1 : decide ((s.size : Int) > 2048) = true := decide_eq_true (by omega)
   simp only [picked, pickAlt, decide_eq_true hs] at h
   cases h
   rw [b1]; rfl
 · have b1 : decide ((s.size : Int) > 2048) = false := decide_eq_false (by omega)
   simp only [picked, pickAlt, decide_eq_false hs] at h
   rw [b1]
   simp only [bif_ff, fo13]
   refine uq13' s 1 (by omega) _ ?_
   unfold fin13
   cases hk : uOk s with
   | true => rw [hk] at h; cases h; rfl
   | false => rw [hk] at h; cases h; rfl)
end Go.Pv
namespace Go.Pv
set_option maxRecDepth 100000
open Go Go.Proofs
def L41 : Fn1 := fun x => match x with
 | [.str s] => some [(decide (s.size ≤ 2500), .bool (hostS s), [])]
 | _ => none
def A41 : Table := fun g => if Nat.beq g 46 then L41 else A51 g
noncomputable def c22 : Code := codeOf Tryz.prog 23
noncomputable def d22a : Code := tailC 5 c22
noncomputable def p22a : Code := prefC 1 d22a
noncomputable def r22a : Code := lastArm p22a
noncomputable def q22a : Code := prefC 1 (tailC 1 r22a)
noncomputable def d22b : Code := tailC 1 d22a
noncomputable def p22b : Code := prefC 1 d22b
noncomputable def r22b : Code := lastArm p22b
noncomputable def q22b : Code := prefC 1 (tailC 4 r22b)
noncomputable def q22c : Code := prefC 1 (tailC 1 (tailC 4 r22b))
noncomputable def e22c : Code := tailC 1 d22b
def h22a : Head := ⟨[0, 2, 4, 5, 6], [], 2⟩
def h22b : Head := ⟨[0, 2, 4, 6], [], 2⟩
def hl10 : Head := ⟨[0, 2, 4, 6, 7], [], 2⟩
def h22c : Head := ⟨[0, 2, 4, 5], [], 2⟩
def h22d : Head := ⟨[0, 2, 4, 5, 9], [], 2⟩
def hl22 : Head := ⟨[0, 2, 4, 5, 9, 10], [], 2⟩
def hl29 : Head := ⟨[0, 2, 4, 5, 9, 11], [], 2⟩
def h22e : Head := ⟨[0, 2, 4, 12], [], 2⟩
def h22f : Head := ⟨[2, 4], [], 2⟩
def an22 : Ann := fun i => if Nat.beq i 500006 then some h22a else if Nat.beq i 500007 then some h22b else if Nat.beq i 500009 then some h22b else if Nat.beq i 10 then some hl10 else if Nat.beq i 500014 then some h22b
 else if Nat.beq i 500016 then some h22c else if Nat.beq i 500017 then some h22c else if Nat.beq i 500021 then some h22d else if Nat.beq i 22 then some hl22 else if Nat.beq i 500028 then some h22d else if Nat.beq i 29 then some hl29
 else if Nat.beq i 500035 then some h22d else if Nat.beq i 500036 then some h22c else if Nat.beq i 500038 then some h22e else if Nat.beq i 500043 then some h22e else if Nat.beq i 500046 then some h22f else none
theorem ut41 (s : ByteArray) : abody Tryz.prog (call' A51) (fun _ => none) 1 46 [.str s] =
 bif' (decide ((↑s.size : Int) ≥ 2)) (bif' (decide (0 < (↑s.size : Int))) (bif' (byteAt s (Int.toNat 0) == 91) (bif' (decide (0 ≤ IntKind.i64.wrap ((↑s.size : Int) - 1))) (bif' (decide (IntKind.i64.wrap ((↑s.size : Int) - 1) < (↑s.size : Int))) (bif' (byteAt s (IntKind.i64.wrap ((↑s.size : Int) - 1)).toNat == 93) (bif' (decide (1 ≤ IntKind.i64.wrap ((↑s.size : Int) - 1))) (bif' (decide (IntKind.i64.wrap ((↑s.size : Int) - 1) ≤ (↑s.size : Int))) (bif' (decide ((s.extract (Int.toNat 1) (IntKind.i64.wrap ((↑s.size : Int) - 1)).toNat).size ≤ 3000) && ip6 (s.extract (Int.toNat 1) (IntKind.i64.wrap ((↑s.size : Int) - 1)).toNat)) (some (CV.bool true, [])) (bif' (decide ((s.extract (Int.toNat 1) (IntKind.i64.wrap ((↑s.size : Int) - 1)).toNat).size ≤ 3000) && ip4 (s.extract (Int.toNat 1) (IntKind.i64.wrap ((↑s.size : Int) - 1)).toNat)) (some (CV.bool false, [])) (bif' (decide ((s.extract (Int.toNat 1) (IntKind.i64.wrap ((↑s.size : Int) - 1)).toNat).size ≤ 3000)) (some (CV.bool false, [])) none))) none) none) (bif' (decide (0 ≤ 0) && (decide (0 ≤ (↑s.size : Int)) && (decide (s.size ≤ 10000) && decide ((ByteArray.mk #[58, 91, 93, 64]).size ≤ 10000)))) (some (CV.bool ((↑(findI s (Int.toNat 0) (ByteArray.mk #[58, 91, 93, 64])) : Int) == (↑s.size : Int)), [])) none)) none) none) (bif' (decide (0 ≤ 0) && (decide (0 ≤ (↑s.size : Int)) && (decide (s.size ≤ 10000) && decide ((ByteArray.mk #[58, 91, 93, 64]).size ≤ 10000)))) (some (CV.bool ((↑(findI s (Int.toNat 0) (ByteArray.mk #[58, 91, 93, 64])) : Int) == (↑s.size : Int)), [])) none)) none) (bif' (decide (0 ≤ 0) && (decide (0 ≤ (↑s.size : Int)) && (decide (s.size ≤ 10000) && decide ((ByteArray.mk #[58, 91, 93, 64]).size ≤ 10000)))) (some (CV.bool ((↑(findI s (Int.toNat 0) (ByteArray.mk #[58, 91, 93, 64])) : Int) == (↑s.size : Int)), [])) none) := by kernel_rfl
theorem up22 (s : ByteArray) (n : Nat) (L : Env → Hp → Res) : aexec Tryz.prog (call' A41) (filt an22 0) n (prefC 5 c22) (envOf Tryz.prog 23 [.c (.str s)]) [] (thenK (headK h22a L) (endOf Tryz.prog 23 [])) =
 bif' (decide (s.size ≤ 10000)) (bif' (!stS s) (some (CV.tup [CV.agg [CV.str ⟨⟨[]⟩⟩, CV.str ⟨⟨[]⟩⟩, CV.bool false, CV.str ⟨⟨[]⟩⟩, CV.str ⟨⟨[]⟩⟩, CV.bool false, CV.bool false, CV.str ⟨⟨[]⟩⟩, CV.str ⟨⟨[]⟩⟩, CV.bool false, CV.str ⟨⟨[]⟩⟩, CV.bool false], CV.bool false], [])) (bif' (decide (0 ≤ 0) && (decide (0 ≤ (↑s.size : Int)) && (decide (s.size ≤ 10000) && decide ((ByteArray.mk #[58, 47, 63, 35]).size ≤ 10000)))) (L (mkEnv 226 [(0, .c (CV.str s)), (2, .bptr 0 0), (4, .bptr 1 0), (5, .c (CV.int .i64 (.ofNat 0))), (6, .c (CV.int .i64 (↑(findI s (Int.toNat 0) (ByteArray.mk #[58, 47, 63, 35])) : Int)))]) [.box (.c (CV.agg [CV.str ⟨⟨[]⟩⟩, CV.str ⟨⟨[]⟩⟩, CV.bool false, CV.str ⟨⟨[]⟩⟩, CV.str ⟨⟨[]⟩⟩, CV.bool false, CV.bool false, CV.str ⟨⟨[]⟩⟩, CV.str ⟨⟨[]⟩⟩, CV.bool false, CV.str ⟨⟨[]⟩⟩, CV.bool false])) kU, .box (.c (CV.agg [CV.str ⟨⟨[]⟩⟩, CV.str ⟨⟨[]⟩⟩, CV.bool false, CV.str ⟨⟨[]⟩⟩, CV.str ⟨⟨[]⟩⟩, CV.bool false, CV.bool false, CV.str ⟨⟨[]⟩⟩, CV.str ⟨⟨[]⟩⟩, CV.bool false, CV.str ⟨⟨[]⟩⟩, CV.bool false])) kU]) none)) none := by kernel_rfl
theorem uq22 (s : ByteArray) (i : Int) (n : Nat) (L M : Env → Hp → Res) : aexecB Tryz.prog (call' A41) (filt an22 0) n (holeC p22a) (mkEnv 226 [(0, .c (.str s)), (2, .bptr 0 0), (4, .bptr 1 0), (5, .c (.int .i64 0)), (6, .c (.int .i64 i))]) [z0, .box (.c (zU ⟨⟨[]⟩⟩ false)) kU] (armK (headK h22b L) (thenK (headK h22c M) (endOf Tryz.prog 23 []))) =
 bif' (decide (i < (↑s.size : Int))) (bif' (decide (0 ≤ i)) (bif' (decide (i < (↑s.size : Int))) (bif' (byteAt s i.toNat == 58) (L (mkEnv 226 [(0, .c (CV.str s)), (2, .bptr 0 0), (4, .bptr 1 0), (6, .c (CV.int .i64 i))]) [.box (.c (CV.agg [CV.str ⟨⟨[]⟩⟩, CV.str ⟨⟨[]⟩⟩, CV.bool false, CV.str ⟨⟨[]⟩⟩, CV.str ⟨⟨[]⟩⟩, CV.bool false, CV.bool false, CV.str ⟨⟨[]⟩⟩, CV.str ⟨⟨[]⟩⟩, CV.bool false, CV.str ⟨⟨[]⟩⟩, CV.bool false])) kU, .box (.c (CV.agg [CV.str ⟨⟨[]⟩⟩, CV.str ⟨⟨[]⟩⟩, CV.bool false, CV.str ⟨⟨[]⟩⟩, CV.str ⟨⟨[]⟩⟩, CV.bool false, CV.bool false, CV.str ⟨⟨[]⟩⟩, CV.str ⟨⟨[]⟩⟩, CV.bool false, CV.str ⟨⟨[]⟩⟩, CV.bool false])) kU]) (M (mkEnv 226 [(0, .c (CV.str s)), (2, .bptr 0 0), (4, .bptr 1 0), (5, .c (CV.int .i64 (.ofNat 0)))]) [.box (.c (CV.agg [CV.str ⟨⟨[]⟩⟩, CV.str ⟨⟨[]⟩⟩, CV.bool false, CV.str ⟨⟨[]⟩⟩, CV.str ⟨⟨[]⟩⟩, CV.bool false, CV.bool false, CV.str ⟨⟨[]⟩⟩, CV.str ⟨⟨[]⟩⟩, CV.bool false, CV.str ⟨⟨[]⟩⟩, CV.bool false])) kU, .box (.c (CV.agg [CV.str ⟨⟨[]⟩⟩, CV.str ⟨⟨[]⟩⟩, CV.bool false, CV.str ⟨⟨[]⟩⟩, CV.str ⟨⟨[]⟩⟩, CV.bool false, CV.bool false, CV.str ⟨⟨[]⟩⟩, CV.str ⟨⟨[]⟩⟩, CV.bool false, CV.str ⟨⟨[]⟩⟩, CV.bool false])) kU])) none) none) (M (mkEnv 226 [(0, .c (CV.str s)), (2, .bptr 0 0), (4, .bptr 1 0), (5, .c (CV.int .i64 (.ofNat 0)))]) [.box (.c (CV.agg [CV.str ⟨⟨[]⟩⟩, CV.str ⟨⟨[]⟩⟩, CV.bool false, CV.str ⟨⟨[]⟩⟩, CV.str ⟨⟨[]⟩⟩, CV.bool false, CV.bool false, CV.str ⟨⟨[]⟩⟩, CV.str ⟨⟨[]⟩⟩, CV.bool false, CV.str ⟨⟨[]⟩⟩, CV.bool false])) kU, .box (.c (CV.agg [CV.str ⟨⟨[]⟩⟩, CV.str ⟨⟨[]⟩⟩, CV.bool false, CV.str ⟨⟨[]⟩⟩, CV.str ⟨⟨[]⟩⟩, CV.bool false, CV.bool false, CV.str ⟨⟨[]⟩⟩, CV.str ⟨⟨[]⟩⟩, CV.bool false, CV.str ⟨⟨[]⟩⟩, CV.bool false])) kU]) := by kernel_rfl
theorem ur22 (s : ByteArray) (i : Int) (n : Nat) (L M : Env → Hp → Res) : aexecB Tryz.prog (call' A41) (filt an22 0) n (prefC 1 r22a) (mkEnv 226 [(0, .c (.str s)), (2, .bptr 0 0), (4, .bptr 1 0), (6, .c (.int .i64 i))]) [z0, .box (.c (zU ⟨⟨[]⟩⟩ false)) kU] (thenK (headK h22b L) (thenK (headK h22c M) (endOf Tryz.prog 23 []))) =
 bif' (i == 0) (some (CV.tup [CV.agg [CV.str ⟨⟨[]⟩⟩, CV.str ⟨⟨[]⟩⟩, CV.bool false, CV.str ⟨⟨[]⟩⟩, CV.str ⟨⟨[]⟩⟩, CV.bool false, CV.bool false, CV.str ⟨⟨[]⟩⟩, CV.str ⟨⟨[]⟩⟩, CV.bool false, CV.str ⟨⟨[]⟩⟩, CV.bool false], CV.bool false], [])) (bif' (decide (0 < (↑s.size : Int))) (bif' (!decide (97 ≤ byteAt s (Int.toNat 0) ∧ byteAt s (Int.toNat 0) ≤ 122 ∨ 65 ≤ byteAt s (Int.toNat 0) ∧ byteAt s (Int.toNat 0) ≤ 90)) (some (CV.tup [CV.agg [CV.str ⟨⟨[]⟩⟩, CV.str ⟨⟨[]⟩⟩, CV.bool false, CV.str ⟨⟨[]⟩⟩, CV.str ⟨⟨[]⟩⟩, CV.bool false, CV.bool false, CV.str ⟨⟨[]⟩⟩, CV.str ⟨⟨[]⟩⟩, CV.bool false, CV.str ⟨⟨[]⟩⟩, CV.bool false], CV.bool false], [])) (L (mkEnv 226 [(0, .c (CV.str s)), (2, .bptr 0 0), (4, .bptr 1 0), (6, .c (CV.int .i64 i))]) [.box (.c (CV.agg [CV.str ⟨⟨[]⟩⟩, CV.str ⟨⟨[]⟩⟩, CV.bool false, CV.str ⟨⟨[]⟩⟩, CV.str ⟨⟨[]⟩⟩, CV.bool false, CV.bool false, CV.str ⟨⟨[]⟩⟩, CV.str ⟨⟨[]⟩⟩, CV.bool false, CV.str ⟨⟨[]⟩⟩, CV.bool false])) kU, .box (.c (CV.agg [CV.str ⟨⟨[]⟩⟩, CV.str ⟨⟨[]⟩⟩, CV.bool false, CV.str ⟨⟨[]⟩⟩, CV.str ⟨⟨[]⟩⟩, CV.bool false, CV.bool false, CV.str ⟨⟨[]⟩⟩, CV.str ⟨⟨[]⟩⟩, CV.bool false, CV.str ⟨⟨[]⟩⟩, CV.bool false])) kU])) none) := by kernel_rfl
theorem us22 (s : ByteArray) (i : Int) (n : Nat) (L M R : Env → Hp → Res) : partsB Tryz.prog (call' A41) (filt an22 0) n q22a (mkEnv 226 [(0, .c (.str s)), (2, .bptr 0 0), (4, .bptr 1 0), (6, .c (.int .i64 i))]) [z0, .box (.c (zU ⟨⟨[]⟩⟩ false)) kU] (fun _ => headK hl10 R) (thenK (headK h22b L) (thenK (headK h22c M) (endOf Tryz.prog 23 []))) =
 R (mkEnv 226 [(0, .c (CV.str s)), (2, .bptr 0 0), (4, .bptr 1 0), (6, .c (CV.int .i64 i)), (7, .c (CV.int .i64 (.ofNat 0)))]) [.box (.c (CV.agg [CV.str ⟨⟨[]⟩⟩, CV.str ⟨⟨[]⟩⟩, CV.bool false, CV.str ⟨⟨[]⟩⟩, CV.str ⟨⟨[]⟩⟩, CV.bool false, CV.bool false, CV.str ⟨⟨[]⟩⟩, CV.str ⟨⟨[]⟩⟩, CV.bool false, CV.str ⟨⟨[]⟩⟩, CV.bool false])) kU, .box (.c (CV.agg [CV.str ⟨⟨[]⟩⟩, CV.str ⟨⟨[]⟩⟩, CV.bool false, CV.str ⟨⟨[]⟩⟩, CV.str ⟨⟨[]⟩⟩, CV.bool false, CV.bool false, CV.str ⟨⟨[]⟩⟩, CV.str ⟨⟨[]⟩⟩, CV.bool false, CV.str ⟨⟨[]⟩⟩, CV.bool false])) kU] := by kernel_rfl
theorem uc22 (s : ByteArray) (i k : Int) (n : Nat) (L M R : Env → Hp → Res) : aexec Tryz.prog (call' A41) (filt an22 0) n (bodyN 0 q22a) (mkEnv 226 [(0, .c (.str s)), (2, .bptr 0 0), (4, .bptr 1 0), (6, .c (.int .i64 i)), (7, .c (.int .i64 k))]) [z0, .box (.c (zU ⟨⟨[]⟩⟩ false)) kU] (thenK (headK hl10 R) (restN Tryz.prog (call' A41) (filt an22 0) n 0 q22a (thenK (headK h22b L) (thenK (headK h22c M) (endOf Tryz.prog 23 []))))) =
 bif' (decide (k < i)) (bif' (decide (0 ≤ k)) (bif' (decide (k < (↑s.size : Int))) (bif' (!decide (97 ≤ byteAt s k.toNat ∧ byteAt s k.toNat ≤ 122 ∨ 65 ≤ byteAt s k.toNat ∧ byteAt s k.toNat ≤ 90)) (bif' (decide (0 ≤ k)) (bif' (decide (k < (↑s.size : Int))) (bif' (!decide (48 ≤ byteAt s k.toNat ∧ byteAt s k.toNat ≤ 57)) (bif' (decide (0 ≤ k)) (bif' (decide (k < (↑s.size : Int))) (bif' (!inS (ByteArray.mk #[43, 45, 46]) (byteAt s k.toNat)) (some (CV.tup [CV.agg [CV.str ⟨⟨[]⟩⟩, CV.str ⟨⟨[]⟩⟩, CV.bool false, CV.str ⟨⟨[]⟩⟩, CV.str ⟨⟨[]⟩⟩, CV.bool false, CV.bool false, CV.str ⟨⟨[]⟩⟩, CV.str ⟨⟨[]⟩⟩, CV.bool false, CV.str ⟨⟨[]⟩⟩, CV.bool false], CV.bool false], [])) (R (mkEnv 226 [(0, .c (CV.str s)), (2, .bptr 0 0), (4, .bptr 1 0), (6, .c (CV.int .i64 i)), (7, .c (CV.int .i64 (IntKind.i64.wrap (k + 1))))]) [.box (.c (CV.agg [CV.str ⟨⟨[]⟩⟩, CV.str ⟨⟨[]⟩⟩, CV.bool false, CV.str ⟨⟨[]⟩⟩, CV.str ⟨⟨[]⟩⟩, CV.bool false, CV.bool false, CV.str ⟨⟨[]⟩⟩, CV.str ⟨⟨[]⟩⟩, CV.bool false, CV.str ⟨⟨[]⟩⟩, CV.bool false])) kU, .box (.c (CV.agg [CV.str ⟨⟨[]⟩⟩, CV.str ⟨⟨[]⟩⟩, CV.bool false, CV.str ⟨⟨[]⟩⟩, CV.str ⟨⟨[]⟩⟩, CV.bool false, CV.bool false, CV.str ⟨⟨[]⟩⟩, CV.str ⟨⟨[]⟩⟩, CV.bool false, CV.str ⟨⟨[]⟩⟩, CV.bool false])) kU])) none) none) (R (mkEnv 226 [(0, .c (CV.str s)), (2, .bptr 0 0), (4, .bptr 1 0), (6, .c (CV.int .i64 i)), (7, .c (CV.int .i64 (IntKind.i64.wrap (k + 1))))]) [.box (.c (CV.agg [CV.str ⟨⟨[]⟩⟩, CV.str ⟨⟨[]⟩⟩, CV.bool false, CV.str ⟨⟨[]⟩⟩, CV.str ⟨⟨[]⟩⟩, CV.bool false, CV.bool false, CV.str ⟨⟨[]⟩⟩, CV.str ⟨⟨[]⟩⟩, CV.bool false, CV.str ⟨⟨[]⟩⟩, CV.bool false])) kU, .box (.c (CV.agg [CV.str ⟨⟨[]⟩⟩, CV.str ⟨⟨[]⟩⟩, CV.bool false, CV.str ⟨⟨[]⟩⟩, CV.str ⟨⟨[]⟩⟩, CV.bool false, CV.bool false, CV.str ⟨⟨[]⟩⟩, CV.str ⟨⟨[]⟩⟩, CV.bool false, CV.str ⟨⟨[]⟩⟩, CV.bool false])) kU])) none) none) (R (mkEnv 226 [(0, .c (CV.str s)), (2, .bptr 0 0), (4, .bptr 1 0), (6, .c (CV.int .i64 i)), (7, .c (CV.int .i64 (IntKind.i64.wrap (k + 1))))]) [.box (.c (CV.agg [CV.str ⟨⟨[]⟩⟩, CV.str ⟨⟨[]⟩⟩, CV.bool false, CV.str ⟨⟨[]⟩⟩, CV.str ⟨⟨[]⟩⟩, CV.bool false, CV.bool false, CV.str ⟨⟨[]⟩⟩, CV.str ⟨⟨[]⟩⟩, CV.bool false, CV.str ⟨⟨[]⟩⟩, CV.bool false])) kU, .box (.c (CV.agg [CV.str ⟨⟨[]⟩⟩, CV.str ⟨⟨[]⟩⟩, CV.bool false, CV.str ⟨⟨[]⟩⟩, CV.str ⟨⟨[]⟩⟩, CV.bool false, CV.bool false, CV.str ⟨⟨[]⟩⟩, CV.str ⟨⟨[]⟩⟩, CV.bool false, CV.str ⟨⟨[]⟩⟩, CV.bool false])) kU])) none) none) (L (mkEnv 226 [(0, .c (CV.str s)), (2, .bptr 0 0), (4, .bptr 1 0), (6, .c (CV.int .i64 i))]) [.box (.c (CV.agg [CV.str ⟨⟨[]⟩⟩, CV.str ⟨⟨[]⟩⟩, CV.bool false, CV.str ⟨⟨[]⟩⟩, CV.str ⟨⟨[]⟩⟩, CV.bool false, CV.bool false, CV.str ⟨⟨[]⟩⟩, CV.str ⟨⟨[]⟩⟩, CV.bool false, CV.str ⟨⟨[]⟩⟩, CV.bool false])) kU, .box (.c (CV.agg [CV.str ⟨⟨[]⟩⟩, CV.str ⟨⟨[]⟩⟩, CV.bool false, CV.str ⟨⟨[]⟩⟩, CV.str ⟨⟨[]⟩⟩, CV.bool false, CV.bool false, CV.str ⟨⟨[]⟩⟩, CV.str ⟨⟨[]⟩⟩, CV.bool false, CV.str ⟨⟨[]⟩⟩, CV.bool false])) kU]) := by kernel_rfl
theorem ut22 (s : ByteArray) (i : Int) (n : Nat) (M : Env → Hp → Res) : aexecB Tryz.prog (call' A41) (filt an22 0) n (tailC 2 r22a) (mkEnv 226 [(0, .c (.str s)), (2, .bptr 0 0), (4, .bptr 1 0), (6, .c (.int .i64 i))]) [z0, .box (.c (zU ⟨⟨[]⟩⟩ false)) kU] (thenK (headK h22c M) (endOf Tryz.prog 23 [])) =
 bif' (decide (0 ≤ i)) (bif' (decide (i ≤ (↑s.size : Int))) (M (mkEnv 226 [(0, .c (CV.str s)), (2, .bptr 0 0), (4, .bptr 1 0), (5, .c (CV.int .i64 (IntKind.i64.wrap (i + 1))))]) [.box (.c (CV.agg [CV.str ⟨⟨[]⟩⟩, CV.str ⟨⟨[]⟩⟩, CV.bool false, CV.str ⟨⟨[]⟩⟩, CV.str ⟨⟨[]⟩⟩, CV.bool false, CV.bool false, CV.str ⟨⟨[]⟩⟩, CV.str ⟨⟨[]⟩⟩, CV.bool false, CV.str ⟨⟨[]⟩⟩, CV.bool false])) kU, .box (.c (CV.agg [CV.str (s.extract (Int.toNat 0) i.toNat), CV.str ⟨⟨[]⟩⟩, CV.bool false, CV.str ⟨⟨[]⟩⟩, CV.str ⟨⟨[]⟩⟩, CV.bool false, CV.bool false, CV.str ⟨⟨[]⟩⟩, CV.str ⟨⟨[]⟩⟩, CV.bool false, CV.str ⟨⟨[]⟩⟩, CV.bool false])) kU]) none) none := by kernel_rfl
theorem uu22 (s a : ByteArray) (p : Int) (n : Nat) (L M : Env → Hp → Res) : aexecB Tryz.prog (call' A41) (filt an22 0) n (holeC p22b) (mkEnv 226 [(0, .c (.str s)), (2, .bptr 0 0), (4, .bptr 1 0), (5, .c (.int .i64 p))]) [z0, .box (.c (zU a false)) kU] (armK (headK h22c L) (thenK (headK h22c M) (endOf Tryz.prog 23 []))) =
 bif' (decide (IntKind.i64.wrap (p + 2) ≤ (↑s.size : Int))) (bif' (decide (0 ≤ p)) (bif' (decide (p ≤ IntKind.i64.wrap (p + 2))) (bif' (decide (IntKind.i64.wrap (p + 2) ≤ (↑s.size : Int))) (bif' ((s.extract p.toNat (IntKind.i64.wrap (p + 2)).toNat).toList == (ByteArray.mk #[47, 47]).toList) (L (mkEnv 226 [(0, .c (CV.str s)), (2, .bptr 0 0), (4, .bptr 1 0), (5, .c (CV.int .i64 p))]) [.box (.c (CV.agg [CV.str ⟨⟨[]⟩⟩, CV.str ⟨⟨[]⟩⟩, CV.bool false, CV.str ⟨⟨[]⟩⟩, CV.str ⟨⟨[]⟩⟩, CV.bool false, CV.bool false, CV.str ⟨⟨[]⟩⟩, CV.str ⟨⟨[]⟩⟩, CV.bool false, CV.str ⟨⟨[]⟩⟩, CV.bool false])) kU, .box (.c (CV.agg [CV.str a, CV.str ⟨⟨[]⟩⟩, CV.bool false, CV.str ⟨⟨[]⟩⟩, CV.str ⟨⟨[]⟩⟩, CV.bool false, CV.bool false, CV.str ⟨⟨[]⟩⟩, CV.str ⟨⟨[]⟩⟩, CV.bool false, CV.str ⟨⟨[]⟩⟩, CV.bool false])) kU]) (M (mkEnv 226 [(0, .c (CV.str s)), (2, .bptr 0 0), (4, .bptr 1 0), (5, .c (CV.int .i64 p))]) [.box (.c (CV.agg [CV.str ⟨⟨[]⟩⟩, CV.str ⟨⟨[]⟩⟩, CV.bool false, CV.str ⟨⟨[]⟩⟩, CV.str ⟨⟨[]⟩⟩, CV.bool false, CV.bool false, CV.str ⟨⟨[]⟩⟩, CV.str ⟨⟨[]⟩⟩, CV.bool false, CV.str ⟨⟨[]⟩⟩, CV.bool false])) kU, .box (.c (CV.agg [CV.str a, CV.str ⟨⟨[]⟩⟩, CV.bool false, CV.str ⟨⟨[]⟩⟩, CV.str ⟨⟨[]⟩⟩, CV.bool false, CV.bool false, CV.str ⟨⟨[]⟩⟩, CV.str ⟨⟨[]⟩⟩, CV.bool false, CV.str ⟨⟨[]⟩⟩, CV.bool false])) kU])) none) none) none) (M (mkEnv 226 [(0, .c (CV.str s)), (2, .bptr 0 0), (4, .bptr 1 0), (5, .c (CV.int .i64 p))]) [.box (.c (CV.agg [CV.str ⟨⟨[]⟩⟩, CV.str ⟨⟨[]⟩⟩, CV.bool false, CV.str ⟨⟨[]⟩⟩, CV.str ⟨⟨[]⟩⟩, CV.bool false, CV.bool false, CV.str ⟨⟨[]⟩⟩, CV.str ⟨⟨[]⟩⟩, CV.bool false, CV.str ⟨⟨[]⟩⟩, CV.bool false])) kU, .box (.c (CV.agg [CV.str a, CV.str ⟨⟨[]⟩⟩, CV.bool false, CV.str ⟨⟨[]⟩⟩, CV.str ⟨⟨[]⟩⟩, CV.bool false, CV.bool false, CV.str ⟨⟨[]⟩⟩, CV.str ⟨⟨[]⟩⟩, CV.bool false, CV.str ⟨⟨[]⟩⟩, CV.bool false])) kU]) := by kernel_rfl
theorem uv22 (s a : ByteArray) (p : Int) (n : Nat) (L M : Env → Hp → Res) : aexecB Tryz.prog (call' A41) (filt an22 0) n (prefC 4 r22b) (mkEnv 226 [(0, .c (.str s)), (2, .bptr 0 0), (4, .bptr 1 0), (5, .c (.int .i64 p))]) [z0, .box (.c (zU a false)) kU] (thenK (headK h22d L) (thenK (headK h22c M) (endOf Tryz.prog 23 []))) =
 bif' (decide (0 ≤ IntKind.i64.wrap (p + 2)) && (decide (IntKind.i64.wrap (p + 2) ≤ (↑s.size : Int)) && (decide (s.size ≤ 10000) && decide ((ByteArray.mk #[47, 63, 35]).size ≤ 10000)))) (bif' (decide (0 ≤ IntKind.i64.wrap (p + 2))) (bif' (decide (IntKind.i64.wrap (p + 2) ≤ (↑(findI s (IntKind.i64.wrap (p + 2)).toNat (ByteArray.mk #[47, 63, 35])) : Int))) (bif' (decide ((↑(findI s (IntKind.i64.wrap (p + 2)).toNat (ByteArray.mk #[47, 63, 35])) : Int) ≤ (↑s.size : Int))) (L (mkEnv 226 [(0, .c (CV.str s)), (2, .bptr 0 0), (4, .bptr 1 0), (5, .c (CV.int .i64 (↑(findI s (IntKind.i64.wrap (p + 2)).toNat (ByteArray.mk #[47, 63, 35])) : Int))), (9, .c (CV.str (s.extract (IntKind.i64.wrap (p + 2)).toNat (↑(findI s (IntKind.i64.wrap (p + 2)).toNat (ByteArray.mk #[47, 63, 35])) : Int).toNat)))]) [.box (.c (CV.agg [CV.str ⟨⟨[]⟩⟩, CV.str ⟨⟨[]⟩⟩, CV.bool false, CV.str ⟨⟨[]⟩⟩, CV.str ⟨⟨[]⟩⟩, CV.bool false, CV.bool false, CV.str ⟨⟨[]⟩⟩, CV.str ⟨⟨[]⟩⟩, CV.bool false, CV.str ⟨⟨[]⟩⟩, CV.bool false])) kU, .box (.c (CV.agg [CV.str a, CV.str ⟨⟨[]⟩⟩, CV.bool false, CV.str ⟨⟨[]⟩⟩, CV.str ⟨⟨[]⟩⟩, CV.bool false, CV.bool true, CV.str ⟨⟨[]⟩⟩, CV.str ⟨⟨[]⟩⟩, CV.bool false, CV.str ⟨⟨[]⟩⟩, CV.bool false])) kU]) none) none) none) none := by kernel_rfl
theorem uw22 (s a t : ByteArray) (p : Int) (n : Nat) (L M R : Env → Hp → Res) : partsB Tryz.prog (call' A41) (filt an22 0) n q22b (mkEnv 226 [(0, .c (.str s)), (2, .bptr 0 0), (4, .bptr 1 0), (5, .c (.int .i64 p)), (9, .c (.str t))]) [z0, .box (.c (zU a true)) kU] (fun _ => headK hl22 R) (thenK (headK h22d L) (thenK (headK h22c M) (endOf Tryz.prog 23 []))) =
 R (mkEnv 226 [(0, .c (CV.str s)), (2, .bptr 0 0), (4, .bptr 1 0), (5, .c (CV.int .i64 p)), (9, .c (CV.str t)), (10, .c (CV.int .i64 (IntKind.i64.wrap ((↑t.size : Int) - 1))))]) [.box (.c (CV.agg [CV.str ⟨⟨[]⟩⟩, CV.str ⟨⟨[]⟩⟩, CV.bool false, CV.str ⟨⟨[]⟩⟩, CV.str ⟨⟨[]⟩⟩, CV.bool false, CV.bool false, CV.str ⟨⟨[]⟩⟩, CV.str ⟨⟨[]⟩⟩, CV.bool false, CV.str ⟨⟨[]⟩⟩, CV.bool false])) kU, .box (.c (CV.agg [CV.str a, CV.str ⟨⟨[]⟩⟩, CV.bool false, CV.str ⟨⟨[]⟩⟩, CV.str ⟨⟨[]⟩⟩, CV.bool false, CV.bool true, CV.str ⟨⟨[]⟩⟩, CV.str ⟨⟨[]⟩⟩, CV.bool false, CV.str ⟨⟨[]⟩⟩, CV.bool false])) kU] := by kernel_rfl
theorem ud22 (s a t : ByteArray) (p k : Int) (n : Nat) (L M R : Env → Hp → Res) : aexec Tryz.prog (call' A41) (filt an22 0) n (bodyN 0 q22b) (mkEnv 226 [(0, .c (.str s)), (2, .bptr 0 0), (4, .bptr 1 0), (5, .c (.int .i64 p)), (9, .c (.str t)), (10, .c (.int .i64 k))]) [z0, .box (.c (zU a true)) kU] (thenK (headK hl22 R) (restN Tryz.prog (call' A41) (filt an22 0) n 0 q22b (thenK (headK h22d L) (thenK (headK h22c M) (endOf Tryz.prog 23 []))))) =
 bif' (decide (k ≥ 0)) (bif' (decide (0 ≤ k)) (bif' (decide (k < (↑t.size : Int))) (bif' (byteAt t k.toNat == 64) (bif' (decide (0 ≤ k)) (bif' (decide (k ≤ (↑t.size : Int))) (bif' (decide (0 ≤ IntKind.i64.wrap (k + 1))) (bif' (decide (IntKind.i64.wrap (k + 1) ≤ (↑t.size : Int))) (bif' (decide ((↑t.size : Int) ≤ (↑t.size : Int))) (L (mkEnv 226 [(0, .c (CV.str s)), (2, .bptr 0 0), (4, .bptr 1 0), (5, .c (CV.int .i64 p)), (9, .c (CV.str (t.extract (IntKind.i64.wrap (k + 1)).toNat (↑t.size : Int).toNat)))]) [.box (.c (CV.agg [CV.str ⟨⟨[]⟩⟩, CV.str ⟨⟨[]⟩⟩, CV.bool false, CV.str ⟨⟨[]⟩⟩, CV.str ⟨⟨[]⟩⟩, CV.bool false, CV.bool false, CV.str ⟨⟨[]⟩⟩, CV.str ⟨⟨[]⟩⟩, CV.bool false, CV.str ⟨⟨[]⟩⟩, CV.bool false])) kU, .box (.c (CV.agg [CV.str a, CV.str (t.extract (Int.toNat 0) k.toNat), CV.bool true, CV.str ⟨⟨[]⟩⟩, CV.str ⟨⟨[]⟩⟩, CV.bool false, CV.bool true, CV.str ⟨⟨[]⟩⟩, CV.str ⟨⟨[]⟩⟩, CV.bool false, CV.str ⟨⟨[]⟩⟩, CV.bool false])) kU]) none) none) none) none) none) (R (mkEnv 226 [(0, .c (CV.str s)), (2, .bptr 0 0), (4, .bptr 1 0), (5, .c (CV.int .i64 p)), (9, .c (CV.str t)), (10, .c (CV.int .i64 (IntKind.i64.wrap (k - 1))))]) [.box (.c (CV.agg [CV.str ⟨⟨[]⟩⟩, CV.str ⟨⟨[]⟩⟩, CV.bool false, CV.str ⟨⟨[]⟩⟩, CV.str ⟨⟨[]⟩⟩, CV.bool false, CV.bool false, CV.str ⟨⟨[]⟩⟩, CV.str ⟨⟨[]⟩⟩, CV.bool false, CV.str ⟨⟨[]⟩⟩, CV.bool false])) kU, .box (.c (CV.agg [CV.str a, CV.str ⟨⟨[]⟩⟩, CV.bool false, CV.str ⟨⟨[]⟩⟩, CV.str ⟨⟨[]⟩⟩, CV.bool false, CV.bool true, CV.str ⟨⟨[]⟩⟩, CV.str ⟨⟨[]⟩⟩, CV.bool false, CV.str ⟨⟨[]⟩⟩, CV.bool false])) kU])) none) none) (L (mkEnv 226 [(0, .c (CV.str s)), (2, .bptr 0 0), (4, .bptr 1 0), (5, .c (CV.int .i64 p)), (9, .c (CV.str t))]) [.box (.c (CV.agg [CV.str ⟨⟨[]⟩⟩, CV.str ⟨⟨[]⟩⟩, CV.bool false, CV.str ⟨⟨[]⟩⟩, CV.str ⟨⟨[]⟩⟩, CV.bool false, CV.bool false, CV.str ⟨⟨[]⟩⟩, CV.str ⟨⟨[]⟩⟩, CV.bool false, CV.str ⟨⟨[]⟩⟩, CV.bool false])) kU, .box (.c (CV.agg [CV.str a, CV.str ⟨⟨[]⟩⟩, CV.bool false, CV.str ⟨⟨[]⟩⟩, CV.str ⟨⟨[]⟩⟩, CV.bool false, CV.bool true, CV.str ⟨⟨[]⟩⟩, CV.str ⟨⟨[]⟩⟩, CV.bool false, CV.str ⟨⟨[]⟩⟩, CV.bool false])) kU]) := by kernel_rfl
theorem ux22 (s a us t : ByteArray) (hu : Bool) (p : Int) (n : Nat) (L M R : Env → Hp → Res) : partsB Tryz.prog (call' A41) (filt an22 0) n q22c (mkEnv 226 [(0, .c (.str s)), (2, .bptr 0 0), (4, .bptr 1 0), (5, .c (.int .i64 p)), (9, .c (.str t))]) [z0, .box (.c (uV a us hu ⟨⟨[]⟩⟩ ⟨⟨[]⟩⟩ false true ⟨⟨[]⟩⟩ ⟨⟨[]⟩⟩ false ⟨⟨[]⟩⟩ false)) kU] (fun _ => headK hl29 R) (thenK (headK h22d L) (thenK (headK h22c M) (endOf Tryz.prog 23 []))) =
 R (mkEnv 226 [(0, .c (CV.str s)), (2, .bptr 0 0), (4, .bptr 1 0), (5, .c (CV.int .i64 p)), (9, .c (CV.str t)), (11, .c (CV.int .i64 (IntKind.i64.wrap ((↑t.size : Int) - 1))))]) [.box (.c (CV.agg [CV.str ⟨⟨[]⟩⟩, CV.str ⟨⟨[]⟩⟩, CV.bool false, CV.str ⟨⟨[]⟩⟩, CV.str ⟨⟨[]⟩⟩, CV.bool false, CV.bool false, CV.str ⟨⟨[]⟩⟩, CV.str ⟨⟨[]⟩⟩, CV.bool false, CV.str ⟨⟨[]⟩⟩, CV.bool false])) kU, .box (.c (CV.agg [CV.str a, CV.str us, CV.bool hu, CV.str ⟨⟨[]⟩⟩, CV.str ⟨⟨[]⟩⟩, CV.bool false, CV.bool true, CV.str ⟨⟨[]⟩⟩, CV.str ⟨⟨[]⟩⟩, CV.bool false, CV.str ⟨⟨[]⟩⟩, CV.bool false])) kU] := by kernel_rfl
theorem ue22 (s a us t : ByteArray) (hu : Bool) (p k : Int) (n : Nat) (L M R : Env → Hp → Res) : aexec Tryz.prog (call' A41) (filt an22 0) n (bodyN 0 q22c) (mkEnv 226 [(0, .c (.str s)), (2, .bptr 0 0), (4, .bptr 1 0), (5, .c (.int .i64 p)), (9, .c (.str t)), (11, .c (.int .i64 k))]) [z0, .box (.c (uV a us hu ⟨⟨[]⟩⟩ ⟨⟨[]⟩⟩ false true ⟨⟨[]⟩⟩ ⟨⟨[]⟩⟩ false ⟨⟨[]⟩⟩ false)) kU] (thenK (headK hl29 R) (restN Tryz.prog (call' A41) (filt an22 0) n 0 q22c (thenK (headK h22d L) (thenK (headK h22c M) (endOf Tryz.prog 23 []))))) =
 bif' (decide (k ≥ 0)) (bif' (decide (0 ≤ k)) (bif' (decide (k < (↑t.size : Int))) (bif' (byteAt t k.toNat != 93) (bif' (decide (0 ≤ k)) (bif' (decide (k < (↑t.size : Int))) (bif' (byteAt t k.toNat == 58) (bif' (decide (0 ≤ IntKind.i64.wrap (k + 1))) (bif' (decide (IntKind.i64.wrap (k + 1) ≤ (↑t.size : Int))) (bif' (decide ((↑t.size : Int) ≤ (↑t.size : Int))) (bif' (decide (0 ≤ k)) (bif' (decide (k ≤ (↑t.size : Int))) (L (mkEnv 226 [(0, .c (CV.str s)), (2, .bptr 0 0), (4, .bptr 1 0), (5, .c (CV.int .i64 p)), (9, .c (CV.str (t.extract (Int.toNat 0) k.toNat)))]) [.box (.c (CV.agg [CV.str ⟨⟨[]⟩⟩, CV.str ⟨⟨[]⟩⟩, CV.bool false, CV.str ⟨⟨[]⟩⟩, CV.str ⟨⟨[]⟩⟩, CV.bool false, CV.bool false, CV.str ⟨⟨[]⟩⟩, CV.str ⟨⟨[]⟩⟩, CV.bool false, CV.str ⟨⟨[]⟩⟩, CV.bool false])) kU, .box (.c (CV.agg [CV.str a, CV.str us, CV.bool hu, CV.str ⟨⟨[]⟩⟩, CV.str (t.extract (IntKind.i64.wrap (k + 1)).toNat (↑t.size : Int).toNat), CV.bool true, CV.bool true, CV.str ⟨⟨[]⟩⟩, CV.str ⟨⟨[]⟩⟩, CV.bool false, CV.str ⟨⟨[]⟩⟩, CV.bool false])) kU]) none) none) none) none) none) (R (mkEnv 226 [(0, .c (CV.str s)), (2, .bptr 0 0), (4, .bptr 1 0), (5, .c (CV.int .i64 p)), (9, .c (CV.str t)), (11, .c (CV.int .i64 (IntKind.i64.wrap (k - 1))))]) [.box (.c (CV.agg [CV.str ⟨⟨[]⟩⟩, CV.str ⟨⟨[]⟩⟩, CV.bool false, CV.str ⟨⟨[]⟩⟩, CV.str ⟨⟨[]⟩⟩, CV.bool false, CV.bool false, CV.str ⟨⟨[]⟩⟩, CV.str ⟨⟨[]⟩⟩, CV.bool false, CV.str ⟨⟨[]⟩⟩, CV.bool false])) kU, .box (.c (CV.agg [CV.str a, CV.str us, CV.bool hu, CV.str ⟨⟨[]⟩⟩, CV.str ⟨⟨[]⟩⟩, CV.bool false, CV.bool true, CV.str ⟨⟨[]⟩⟩, CV.str ⟨⟨[]⟩⟩, CV.bool false, CV.str ⟨⟨[]⟩⟩, CV.bool false])) kU])) none) none) (L (mkEnv 226 [(0, .c (CV.str s)), (2, .bptr 0 0), (4, .bptr 1 0), (5, .c (CV.int .i64 p)), (9, .c (CV.str t))]) [.box (.c (CV.agg [CV.str ⟨⟨[]⟩⟩, CV.str ⟨⟨[]⟩⟩, CV.bool false, CV.str ⟨⟨[]⟩⟩, CV.str ⟨⟨[]⟩⟩, CV.bool false, CV.bool false, CV.str ⟨⟨[]⟩⟩, CV.str ⟨⟨[]⟩⟩, CV.bool false, CV.str ⟨⟨[]⟩⟩, CV.bool false])) kU, .box (.c (CV.agg [CV.str a, CV.str us, CV.bool hu, CV.str ⟨⟨[]⟩⟩, CV.str ⟨⟨[]⟩⟩, CV.bool false, CV.bool true, CV.str ⟨⟨[]⟩⟩, CV.str ⟨⟨[]⟩⟩, CV.bool false, CV.str ⟨⟨[]⟩⟩, CV.bool false])) kU])) none) none) (L (mkEnv 226 [(0, .c (CV.str s)), (2, .bptr 0 0), (4, .bptr 1 0), (5, .c (CV.int .i64 p)), (9, .c (CV.str t))]) [.box (.c (CV.agg [CV.str ⟨⟨[]⟩⟩, CV.str ⟨⟨[]⟩⟩, CV.bool false, CV.str ⟨⟨[]⟩⟩, CV.str ⟨⟨[]⟩⟩, CV.bool false, CV.bool false, CV.str ⟨⟨[]⟩⟩, CV.str ⟨⟨[]⟩⟩, CV.bool false, CV.str ⟨⟨[]⟩⟩, CV.bool false])) kU, .box (.c (CV.agg [CV.str a, CV.str us, CV.bool hu, CV.str ⟨⟨[]⟩⟩, CV.str ⟨⟨[]⟩⟩, CV.bool false, CV.bool true, CV.str ⟨⟨[]⟩⟩, CV.str ⟨⟨[]⟩⟩, CV.bool false, CV.str ⟨⟨[]⟩⟩, CV.bool false])) kU]) := by kernel_rfl
theorem uy22 (s a us po t : ByteArray) (hu hp : Bool) (p : Int) (n : Nat) (M : Env → Hp → Res) : aexecB Tryz.prog (call' A41) (filt an22 0) n (tailC 6 r22b) (mkEnv 226 [(0, .c (.str s)), (2, .bptr 0 0), (4, .bptr 1 0), (5, .c (.int .i64 p)), (9, .c (.str t))]) [z0, .box (.c (uV a us hu ⟨⟨[]⟩⟩ po hp true ⟨⟨[]⟩⟩ ⟨⟨[]⟩⟩ false ⟨⟨[]⟩⟩ false)) kU] (thenK (headK h22c M) (endOf Tryz.prog 23 [])) =
 M (mkEnv 226 [(0, .c (CV.str s)), (2, .bptr 0 0), (4, .bptr 1 0), (5, .c (CV.int .i64 p))]) [.box (.c (CV.agg [CV.str ⟨⟨[]⟩⟩, CV.str ⟨⟨[]⟩⟩, CV.bool false, CV.str ⟨⟨[]⟩⟩, CV.str ⟨⟨[]⟩⟩, CV.bool false, CV.bool false, CV.str ⟨⟨[]⟩⟩, CV.str ⟨⟨[]⟩⟩, CV.bool false, CV.str ⟨⟨[]⟩⟩, CV.bool false])) kU, .box (.c (CV.agg [CV.str a, CV.str us, CV.bool hu, CV.str t, CV.str po, CV.bool hp, CV.bool true, CV.str ⟨⟨[]⟩⟩, CV.str ⟨⟨[]⟩⟩, CV.bool false, CV.str ⟨⟨[]⟩⟩, CV.bool false])) kU] := by kernel_rfl
theorem va22 (s a us ho po : ByteArray) (hu hp t : Bool) (p : Int) (n : Nat) (M : Env → Hp → Res) : aexecB Tryz.prog (call' A41) (filt an22 0) n (prefC 2 e22c) (mkEnv 226 [(0, .c (.str s)), (2, .bptr 0 0), (4, .bptr 1 0), (5, .c (.int .i64 p))]) [z0, .box (.c (uV a us hu ho po hp t ⟨⟨[]⟩⟩ ⟨⟨[]⟩⟩ false ⟨⟨[]⟩⟩ false)) kU] (thenK (headK h22e M) (endOf Tryz.prog 23 [])) =
 bif' (decide (0 ≤ p) && (decide (p ≤ (↑s.size : Int)) && (decide (s.size ≤ 10000) && decide ((ByteArray.mk #[63, 35]).size ≤ 10000)))) (bif' (decide (0 ≤ p)) (bif' (decide (p ≤ (↑(findI s p.toNat (ByteArray.mk #[63, 35])) : Int))) (bif' (decide ((↑(findI s p.toNat (ByteArray.mk #[63, 35])) : Int) ≤ (↑s.size : Int))) (M (mkEnv 226 [(0, .c (CV.str s)), (2, .bptr 0 0), (4, .bptr 1 0), (12, .c (CV.int .i64 (↑(findI s p.toNat (ByteArray.mk #[63, 35])) : Int)))]) [.box (.c (CV.agg [CV.str ⟨⟨[]⟩⟩, CV.str ⟨⟨[]⟩⟩, CV.bool false, CV.str ⟨⟨[]⟩⟩, CV.str ⟨⟨[]⟩⟩, CV.bool false, CV.bool false, CV.str ⟨⟨[]⟩⟩, CV.str ⟨⟨[]⟩⟩, CV.bool false, CV.str ⟨⟨[]⟩⟩, CV.bool false])) kU, .box (.c (CV.agg [CV.str a, CV.str us, CV.bool hu, CV.str ho, CV.str po, CV.bool hp, CV.bool t, CV.str (s.extract p.toNat (↑(findI s p.toNat (ByteArray.mk #[63, 35])) : Int).toNat), CV.str ⟨⟨[]⟩⟩, CV.bool false, CV.str ⟨⟨[]⟩⟩, CV.bool false])) kU]) none) none) none) none := by kernel_rfl
theorem vb22 (s a us ho po pa : ByteArray) (hu hp t : Bool) (e : Int) (n : Nat) (M : Env → Hp → Res) : aexecB Tryz.prog (call' A41) (filt an22 0) n (prefC 1 (tailC 2 e22c)) (mkEnv 226 [(0, .c (.str s)), (2, .bptr 0 0), (4, .bptr 1 0), (12, .c (.int .i64 e))]) [z0, .box (.c (uV a us hu ho po hp t pa ⟨⟨[]⟩⟩ false ⟨⟨[]⟩⟩ false)) kU] (thenK (headK h22e M) (endOf Tryz.prog 23 [])) =
 bif' (decide (e < (↑s.size : Int))) (bif' (decide (0 ≤ e)) (bif' (decide (e < (↑s.size : Int))) (bif' (byteAt s e.toNat == 63) (bif' (decide (0 ≤ IntKind.i64.wrap (e + 1)) && (decide (IntKind.i64.wrap (e + 1) ≤ (↑s.size : Int)) && (decide (s.size ≤ 10000) && decide ((ByteArray.mk #[35]).size ≤ 10000)))) (bif' (decide (0 ≤ IntKind.i64.wrap (e + 1))) (bif' (decide (IntKind.i64.wrap (e + 1) ≤ (↑(findI s (IntKind.i64.wrap (e + 1)).toNat (ByteArray.mk #[35])) : Int))) (bif' (decide ((↑(findI s (IntKind.i64.wrap (e + 1)).toNat (ByteArray.mk #[35])) : Int) ≤ (↑s.size : Int))) (M (mkEnv 226 [(0, .c (CV.str s)), (2, .bptr 0 0), (4, .bptr 1 0), (12, .c (CV.int .i64 (↑(findI s (IntKind.i64.wrap (e + 1)).toNat (ByteArray.mk #[35])) : Int)))]) [.box (.c (CV.agg [CV.str ⟨⟨[]⟩⟩, CV.str ⟨⟨[]⟩⟩, CV.bool false, CV.str ⟨⟨[]⟩⟩, CV.str ⟨⟨[]⟩⟩, CV.bool false, CV.bool false, CV.str ⟨⟨[]⟩⟩, CV.str ⟨⟨[]⟩⟩, CV.bool false, CV.str ⟨⟨[]⟩⟩, CV.bool false])) kU, .box (.c (CV.agg [CV.str a, CV.str us, CV.bool hu, CV.str ho, CV.str po, CV.bool hp, CV.bool t, CV.str pa, CV.str (s.extract (IntKind.i64.wrap (e + 1)).toNat (↑(findI s (IntKind.i64.wrap (e + 1)).toNat (ByteArray.mk #[35])) : Int).toNat), CV.bool true, CV.str ⟨⟨[]⟩⟩, CV.bool false])) kU]) none) none) none) none) (M (mkEnv 226 [(0, .c (CV.str s)), (2, .bptr 0 0), (4, .bptr 1 0), (12, .c (CV.int .i64 e))]) [.box (.c (CV.agg [CV.str ⟨⟨[]⟩⟩, CV.str ⟨⟨[]⟩⟩, CV.bool false, CV.str ⟨⟨[]⟩⟩, CV.str ⟨⟨[]⟩⟩, CV.bool false, CV.bool false, CV.str ⟨⟨[]⟩⟩, CV.str ⟨⟨[]⟩⟩, CV.bool false, CV.str ⟨⟨[]⟩⟩, CV.bool false])) kU, .box (.c (CV.agg [CV.str a, CV.str us, CV.bool hu, CV.str ho, CV.str po, CV.bool hp, CV.bool t, CV.str pa, CV.str ⟨⟨[]⟩⟩, CV.bool false, CV.str ⟨⟨[]⟩⟩, CV.bool false])) kU])) none) none) (M (mkEnv 226 [(0, .c (CV.str s)), (2, .bptr 0 0), (4, .bptr 1 0), (12, .c (CV.int .i64 e))]) [.box (.c (CV.agg [CV.str ⟨⟨[]⟩⟩, CV.str ⟨⟨[]⟩⟩, CV.bool false, CV.str ⟨⟨[]⟩⟩, CV.str ⟨⟨[]⟩⟩, CV.bool false, CV.bool false, CV.str ⟨⟨[]⟩⟩, CV.str ⟨⟨[]⟩⟩, CV.bool false, CV.str ⟨⟨[]⟩⟩, CV.bool false])) kU, .box (.c (CV.agg [CV.str a, CV.str us, CV.bool hu, CV.str ho, CV.str po, CV.bool hp, CV.bool t, CV.str pa, CV.str ⟨⟨[]⟩⟩, CV.bool false, CV.str ⟨⟨[]⟩⟩, CV.bool false])) kU]) := by kernel_rfl
theorem vc22 (s a us ho po pa qu : ByteArray) (hu hp t hq : Bool) (e : Int) (n : Nat) (M : Env → Hp → Res) : aexecB Tryz.prog (call' A41) (filt an22 0) n (prefC 1 (tailC 3 e22c)) (mkEnv 226 [(0, .c (.str s)), (2, .bptr 0 0), (4, .bptr 1 0), (12, .c (.int .i64 e))]) [z0, .box (.c (uV a us hu ho po hp t pa qu hq ⟨⟨[]⟩⟩ false)) kU] (thenK (headK h22f M) (endOf Tryz.prog 23 [])) =
 bif' (decide (e < (↑s.size : Int))) (bif' (decide (0 ≤ IntKind.i64.wrap (e + 1))) (bif' (decide (IntKind.i64.wrap (e + 1) ≤ (↑s.size : Int))) (bif' (decide ((↑s.size : Int) ≤ (↑s.size : Int))) (M (mkEnv 226 [(2, .bptr 0 0), (4, .bptr 1 0)]) [.box (.c (CV.agg [CV.str ⟨⟨[]⟩⟩, CV.str ⟨⟨[]⟩⟩, CV.bool false, CV.str ⟨⟨[]⟩⟩, CV.str ⟨⟨[]⟩⟩, CV.bool false, CV.bool false, CV.str ⟨⟨[]⟩⟩, CV.str ⟨⟨[]⟩⟩, CV.bool false, CV.str ⟨⟨[]⟩⟩, CV.bool false])) kU, .box (.c (CV.agg [CV.str a, CV.str us, CV.bool hu, CV.str ho, CV.str po, CV.bool hp, CV.bool t, CV.str pa, CV.str qu, CV.bool hq, CV.str (s.extract (IntKind.i64.wrap (e + 1)).toNat (↑s.size : Int).toNat), CV.bool true])) kU]) none) none) none) (M (mkEnv 226 [(2, .bptr 0 0), (4, .bptr 1 0)]) [.box (.c (CV.agg [CV.str ⟨⟨[]⟩⟩, CV.str ⟨⟨[]⟩⟩, CV.bool false, CV.str ⟨⟨[]⟩⟩, CV.str ⟨⟨[]⟩⟩, CV.bool false, CV.bool false, CV.str ⟨⟨[]⟩⟩, CV.str ⟨⟨[]⟩⟩, CV.bool false, CV.str ⟨⟨[]⟩⟩, CV.bool false])) kU, .box (.c (CV.agg [CV.str a, CV.str us, CV.bool hu, CV.str ho, CV.str po, CV.bool hp, CV.bool t, CV.str pa, CV.str qu, CV.bool hq, CV.str ⟨⟨[]⟩⟩, CV.bool false])) kU]) := by kernel_rfl
theorem vd22 (a us ho po pa qu fr : ByteArray) (hu hp t hq hf : Bool) (n : Nat) : aexecB Tryz.prog (call' A41) (filt an22 0) n (tailC 4 e22c) (mkEnv 226 [(2, .bptr 0 0), (4, .bptr 1 0)]) [z0, .box (.c (uV a us hu ho po hp t pa qu hq fr hf)) kU] (endOf Tryz.prog 23 []) =
 bif' (fitsS (us.size + pa.size)) (bif' (fitsS ((us ++ pa).size + qu.size)) (bif' (fitsS ((us ++ pa ++ qu).size + fr.size)) (bif' (decide (0 ≤ 0) && (decide (0 ≤ (↑fr.size : Int)) && (decide (fr.size ≤ 10000) && decide ((ByteArray.mk #[35]).size ≤ 10000)))) (bif' (decide ((↑(findI fr (Int.toNat 0) (ByteArray.mk #[35])) : Int) < (↑fr.size : Int))) (some (CV.tup [CV.agg [CV.str ⟨⟨[]⟩⟩, CV.str ⟨⟨[]⟩⟩, CV.bool false, CV.str ⟨⟨[]⟩⟩, CV.str ⟨⟨[]⟩⟩, CV.bool false, CV.bool false, CV.str ⟨⟨[]⟩⟩, CV.str ⟨⟨[]⟩⟩, CV.bool false, CV.str ⟨⟨[]⟩⟩, CV.bool false], CV.bool false], [])) (bif' (decide (0 ≤ 0) && (decide (0 ≤ (↑(us ++ pa ++ qu ++ fr).size : Int)) && (decide ((us ++ pa ++ qu ++ fr).size ≤ 10000) && decide ((ByteArray.mk #[91, 93]).size ≤ 10000)))) (bif' (decide ((↑(findI (us ++ pa ++ qu ++ fr) (Int.toNat 0) (ByteArray.mk #[91, 93])) : Int) < (↑(us ++ pa ++ qu ++ fr).size : Int))) (some (CV.tup [CV.agg [CV.str ⟨⟨[]⟩⟩, CV.str ⟨⟨[]⟩⟩, CV.bool false, CV.str ⟨⟨[]⟩⟩, CV.str ⟨⟨[]⟩⟩, CV.bool false, CV.bool false, CV.str ⟨⟨[]⟩⟩, CV.str ⟨⟨[]⟩⟩, CV.bool false, CV.str ⟨⟨[]⟩⟩, CV.bool false], CV.bool false], [])) (bif' (decide (po.size ≤ 10000)) (bif' (!digS po) (some (CV.tup [CV.agg [CV.str ⟨⟨[]⟩⟩, CV.str ⟨⟨[]⟩⟩, CV.bool false, CV.str ⟨⟨[]⟩⟩, CV.str ⟨⟨[]⟩⟩, CV.bool false, CV.bool false, CV.str ⟨⟨[]⟩⟩, CV.str ⟨⟨[]⟩⟩, CV.bool false, CV.str ⟨⟨[]⟩⟩, CV.bool false], CV.bool false], [])) (bif' t (bif' (decide (ho.size ≤ 2500)) (bif' (!hostS ho) (some (CV.tup [CV.agg [CV.str ⟨⟨[]⟩⟩, CV.str ⟨⟨[]⟩⟩, CV.bool false, CV.str ⟨⟨[]⟩⟩, CV.str ⟨⟨[]⟩⟩, CV.bool false, CV.bool false, CV.str ⟨⟨[]⟩⟩, CV.str ⟨⟨[]⟩⟩, CV.bool false, CV.str ⟨⟨[]⟩⟩, CV.bool false], CV.bool false], [])) (some (CV.tup [CV.agg [CV.str a, CV.str us, CV.bool hu, CV.str ho, CV.str po, CV.bool hp, CV.bool t, CV.str pa, CV.str qu, CV.bool hq, CV.str fr, CV.bool hf], CV.bool true], []))) none) (some (CV.tup [CV.agg [CV.str a, CV.str us, CV.bool hu, CV.str ho, CV.str po, CV.bool hp, CV.bool t, CV.str pa, CV.str qu, CV.bool hq, CV.str fr, CV.bool hf], CV.bool true], [])))) none)) none)) none) none) none) none := by kernel_rfl
end Go.Pv
namespace Go.Pv
set_option maxRecDepth 100000
set_option maxHeartbeats 40000
open Go Go.Proofs
variable {I : World → Prop} {ng : Nat}
def fin22 (ok : Bool) (v : CV) : Res := if ok = true then some (.tup [v, .bool true], []) else some (.tup [zU nB false, .bool false], [])
theorem findL_lt (p : List UInt8) : ∀ l : List UInt8, decide (findL p l < l.length) = l.any fun b => inS (mkS p) b.toNat
 | [] => rfl
 | b :: t => by
   unfold findL
   have ih := findL_lt p t
   cases h : inS (mkS p) b.toNat with
   | true => simp [h]
   | false => simp [h, ← ih]
theorem find_lt (l p : List UInt8) : decide (((findI (mkS l) 0 (mkS p) : Nat) : Int) < (((mkS l).size : Nat) : Int)) = l.any fun b => inS (mkS p) b.toNat := by
 rw [find0, sizeM, ← findL_lt]
 rw [Bool.eq_iff_iff, decide_eq_true_eq, decide_eq_true_eq]
 omega
theorem in1 (c b : UInt8) : inS (mkS [c]) b.toNat = decide (b = c) := by
 rw [in_lit]
 simp [List.contains, List.elem]
 by_cases h : b = c
 · subst h; simp
 · have : (b == c) = false := by simpa using h
   rw [this]; simp [h]
theorem brS_any (l : List UInt8) : brS (mkS l) = l.any fun b => inS (mkS [91, 93]) b.toNat := by
 unfold brS
 rw [mkS_data]
 congr 1
 funext b
 rw [in_lit, Bool.eq_iff_iff]
 simp
theorem le00 : decide ((0 : Nat) ≤ 0) = true := by decide
theorem lez (n : Nat) : decide ((0 : Int) ≤ (n : Int)) = true := decide_eq_true (by omega)
theorem vd22' (a us ho po pa qu fr : ByteArray) (hu hp t hq hf : Bool) (n : Nat) (z1 : us.size ≤ 2500) (z2 : pa.size ≤ 2500) (z3 : qu.size ≤ 2500) (z4 : fr.size ≤ 2500) (z5 : po.size ≤ 2500) (z6 : ho.size ≤ 2500) (R : Res)
   (hR : R = fin22 (!(fr.data.toList.any fun b => decide (b = 35)) && (!brS (us ++ pa ++ qu ++ fr) && (digS po && (!t || hostS ho)))) (uV a us hu ho po hp t pa qu hq fr hf)) :
   aexecB Tryz.prog (call' A41) (filt an22 0) n (tailC 4 e22c) (mkEnv 226 [(2, .bptr 0 0), (4, .bptr 1 0)]) [z0, .box (.c (uV a us hu ho po hp t pa qu hq fr hf)) kU] (endOf Tryz.prog 23 []) = R := by
 have b1 : fitsS (us.size + pa.size) = true := fits_small (by omega)
 have b2 : fitsS ((us ++ pa).size + qu.size) = true := fits_small (by rw [ByteArray.size_append]; omega)
 have b3 : fitsS ((us ++ pa ++ qu).size + fr.size) = true := fits_small (by rw [ByteArray.size_append, ByteArray.size_append]; omega)
 have b4 : decide (fr.size ≤ 10000) = true := decide_eq_true (by omega)
 have b5 : decide ((us ++ pa ++ qu ++ fr).size ≤ 10000) = true := decide_eq_true (by rw [ByteArray.size_append, ByteArray.size_append, ByteArray.size_append]; omega)
 have b6 : decide (po.size ≤ 10000) = true := decide_eq_true (by omega)
 have b7 : decide (ho.size ≤ 2500) = true := decide_eq_true z6
 have b8 : decide ((ByteArray.mk #[35]).size ≤ 10000) = true := rfl
 have b9 : decide ((ByteArray.mk #[91, 93]).size ≤ 10000) = true := rfl
 have f1 : ∀ x : ByteArray, decide (((findI x 0 (ByteArray.mk #[35]) : Nat) : Int) < ((x.size : Nat) : Int)) = (x.data.toList.any fun b => decide (b = 35)) := by
   intro x
   obtain ⟨l, rfl⟩ : ∃ l, x = mkS l := ⟨_, (mkS_bl x).symm⟩
   have e : (ByteArray.mk #[35]) = mkS [35] := rfl
   rw [e, find_lt, mkS_data]
   simp only [in1]
 have f2 : ∀ x : ByteArray, decide (((findI x 0 (ByteArray.mk #[91, 93]) : Nat) : Int) < ((x.size : Nat) : Int)) = brS x := by
   intro x
   obtain ⟨l, rfl⟩ : ∃ l, x = mkS l := ⟨_, (mkS_bl x).symm⟩
   have e : (ByteArray.mk #[91, 93]) = mkS [91, 93] := rfl
   rw [e, find_lt, brS_any]
 rw [vd22, hR, toNat0, f1, f2, b1, b2, b3, b4, b5, b6, b7, b8, b9, le00, lez, lez]
 unfold fin22
 simp only [Bool.and_self, bif_tt]
 generalize (fr.data.toList.any fun b => decide (b = 35)) = X
 generalize brS (us ++ pa ++ qu ++ fr) = Y
 generalize digS po = D
 generalize hostS ho = G
 cases X <;> cases Y <;> cases D <;> cases t <;> cases G <;> rfl
theorem sp22d : spine 1 (tailC 3 e22c) = true := by kernel_rfl
theorem ha22d : headAt (filt an22 0) (tailC 1 (tailC 3 e22c)) = some h22f := by kernel_rfl
theorem fo22d : tailC 1 (tailC 3 e22c) = tailC 4 e22c := eq_of_heq (heq_of_eq (by kernel_rfl))
theorem vc22' (l : List UInt8) (a us ho po pa qu : ByteArray) (hu hp t hq : Bool) (e n : Nat) (hl : l.length ≤ 2500) (he : e ≤ l.length) (z1 : us.size ≤ 2500) (z2 : pa.size ≤ 2500) (z3 : qu.size ≤ 2500) (z5 : po.size ≤ 2500) (z6 : ho.size ≤ 2500) (R : Res)
   (hR : R = fin22 (!(((l.drop e).drop 1).any fun b => decide (b = 35)) && (!brS (us ++ pa ++ qu ++ mkS ((l.drop e).drop 1)) && (digS po && (!t || hostS ho)))) (uV a us hu ho po hp t pa qu hq (mkS ((l.drop e).drop 1)) (!(l.drop e).isEmpty))) :
   aexecB Tryz.prog (call' A41) (filt an22 0) n (tailC 3 e22c) (mkEnv 226 [(0, .c (.str (mkS l))), (2, .bptr 0 0), (4, .bptr 1 0), (12, .c (.int .i64 (e : Int)))]) [z0, .box (.c (uV a us hu ho po hp t pa qu hq ⟨⟨[]⟩⟩ false)) kU] (endOf Tryz.prog 23 []) = R := by
 rw [seg_b (k := 1) (by decide) sp22d ha22d, vc22]
 simp only [sizeM]
 have hw : IntKind.i64.wrap ((e : Int) + 1) = ((e + 1 : Nat) : Int) := wrp1 (by omega)
 by_cases h : e < l.length
 · have b1 : decide ((e : Int) < ((l.length : Nat) : Int)) = true := decide_eq_true (by omega)
   have b2 : decide (((e + 1 : Nat) : Int) ≤ ((l.length : Nat) : Int)) = true := decide_eq_true (by omega)
   have b3 : decide (((l.length : Nat) : Int) ≤ ((l.length : Nat) : Int)) = true := decide_eq_true (by omega)
   rw [b1, hw, lez, b2, b3, natM, natM, mkS_ext]
   simp only [bif_tt, fo22d]
   have e1 : (l.drop (e + 1)).take (l.length - (e + 1)) = l.drop (e + 1) := List.take_of_length_le (by simp)
   have e2 : (l.drop e).drop 1 = l.drop (e + 1) := by rw [List.drop_drop]
   have e3 : (!(l.drop e).isEmpty) = true := by rw [drop_getD h]; rfl
   rw [e1]
   rw [e2, e3] at hR
   exact vd22' _ _ _ _ _ _ _ _ _ _ _ _ n z1 z2 z3 (by rw [sizeM, List.length_drop]; omega) z5 z6 R (by rw [mkS_data]; exact hR)
 · have b1 : decide ((e : Int) < ((l.length : Nat) : Int)) = false := decide_eq_false (by omega)
   rw [b1]
   simp only [bif_ff, fo22d]
   have e1 : l.drop e = [] := List.drop_of_length_le (by omega)
   rw [e1] at hR
   exact vd22' _ _ _ _ _ _ _ _ _ _ _ _ n z1 z2 z3 (by decide) z5 z6 R hR
theorem sp22c : spine 1 (tailC 2 e22c) = true := by kernel_rfl
theorem ha22c : headAt (filt an22 0) (tailC 1 (tailC 2 e22c)) = some h22e := by kernel_rfl
theorem fo22c : tailC 1 (tailC 2 e22c) = tailC 3 e22c := eq_of_heq (heq_of_eq (by kernel_rfl))
def hqL : List UInt8 → Bool
 | c :: _ => c == 63
 | [] => false
def quL (d : List UInt8) : List UInt8 := if hqL d then (d.drop 1).take (findL [35] (d.drop 1)) else []
def afL (d : List UInt8) : List UInt8 := if hqL d then (d.drop 1).drop (findL [35] (d.drop 1)) else d
theorem vb22' (l : List UInt8) (a us ho po pa : ByteArray) (hu hp t : Bool) (e n : Nat) (hl : l.length ≤ 2500) (he : e ≤ l.length) (z1 : us.size ≤ 2500) (z2 : pa.size ≤ 2500) (z5 : po.size ≤ 2500) (z6 : ho.size ≤ 2500) (R : Res)
   (hR : R = fin22 (!(((afL (l.drop e)).drop 1).any fun b => decide (b = 35)) && (!brS (us ++ pa ++ mkS (quL (l.drop e)) ++ mkS ((afL (l.drop e)).drop 1)) && (digS po && (!t || hostS ho)))) (uV a us hu ho po hp t pa (mkS (quL (l.drop e))) (hqL (l.drop e)) (mkS ((afL (l.drop e)).drop 1)) (!(afL (l.drop e)).isEmpty))) :
   aexecB Tryz.prog (call' A41) (filt an22 0) n (tailC 2 e22c) (mkEnv 226 [(0, .c (.str (mkS l))), (2, .bptr 0 0), (4, .bptr 1 0), (12, .c (.int .i64 (e : Int)))]) [z0, .box (.c (uV a us hu ho po hp t pa ⟨⟨[]⟩⟩ false ⟨⟨[]⟩⟩ false)) kU] (endOf Tryz.prog 23 []) = R := by
 rw [seg_b (k := 1) (by decide) sp22c ha22c, vb22]
 simp only [sizeM]
 have hw : IntKind.i64.wrap ((e : Int) + 1) = ((e + 1 : Nat) : Int) := wrp1 (by omega)
 have b9 : decide ((ByteArray.mk #[35]).size ≤ 10000) = true := rfl
 have ee : (ByteArray.mk #[35]) = mkS [35] := rfl
 by_cases h : e < l.length
 · have b1 : decide ((e : Int) < ((l.length : Nat) : Int)) = true := decide_eq_true (by omega)
   have hd : l.drop e = l.getD e 0 :: l.drop (e + 1) := drop_getD h
   rw [b1, lez, natM, atM]
   simp only [bif_tt]
   by_cases hc : l.getD e 0 = 63
   · have c1 : (((l.getD e 0).toNat : Int) == 63) = true := by rw [hc]; rfl
     have hq : hqL (l.drop e) = true := by rw [hd, hc]; rfl
     have b2 : decide (((e + 1 : Nat) : Int) ≤ ((l.length : Nat) : Int)) = true := decide_eq_true (by omega)
     have b3 : decide (l.length ≤ 10000) = true := decide_eq_true (by omega)
     have ef : findI (mkS l) (e + 1) (mkS [35]) = e + 1 + findL [35] (l.drop (e + 1)) := by unfold findI; rw [mkS_data, mkS_data]
     have hle := findL_le [35] (l.drop (e + 1))
     rw [List.length_drop] at hle
     rw [c1, hw, lez, b2, b3, b9, natM, ee, ef]
     have b4 : decide (((e + 1 : Nat) : Int) ≤ ((e + 1 + findL [35] (l.drop (e + 1)) : Nat) : Int)) = true := decide_eq_true (by omega)
     have b5 : decide (((e + 1 + findL [35] (l.drop (e + 1)) : Nat) : Int) ≤ ((l.length : Nat) : Int)) = true := decide_eq_true (by omega)
     rw [b4, b5, natM, mkS_ext]
     simp only [Bool.and_self, bif_tt, fo22c]
     have e1 : e + 1 + findL [35] (l.drop (e + 1)) - (e + 1) = findL [35] (l.drop (e + 1)) := by omega
     have e2 : (l.drop e).drop 1 = l.drop (e + 1) := by rw [List.drop_drop]
     have e3 : quL (l.drop e) = (l.drop (e + 1)).take (findL [35] (l.drop (e + 1))) := by unfold quL; rw [hq, e2, if_pos rfl]
     have e4 : afL (l.drop e) = l.drop (e + 1 + findL [35] (l.drop (e + 1))) := by unfold afL; rw [hq, e2, if_pos rfl, List.drop_drop]
     rw [e1]
     rw [e3, e4, hq] at hR
     exact vc22' l a us ho po pa _ hu hp t true _ n hl (by omega) z1 z2 (by rw [sizeM, List.length_take, List.length_drop]; omega) z5 z6 R hR
   · have c1 : (((l.getD e 0).toNat : Int) == 63) = false := by
       refine Bool.eq_false_iff.2 fun hh => hc ?_
       have := eq_of_beq hh
       have h2 : ((l.getD e 0).toNat : Int) = ((63 : UInt8).toNat : Int) := this
       exact u8_int.1 h2
     have hq : hqL (l.drop e) = false := by
       rw [hd]
       exact beq_eq_false_iff_ne.2 hc
     rw [c1]
     simp only [bif_ff, fo22c]
     have e3 : quL (l.drop e) = [] := by unfold quL; rw [hq]; simp only [Bool.false_eq_true, if_false]
     have e4 : afL (l.drop e) = l.drop e := by unfold afL; rw [hq]; simp only [Bool.false_eq_true, if_false]
     rw [e3, e4, hq] at hR
     exact vc22' l a us ho po pa _ hu hp t false _ n hl he z1 z2 (by decide) z5 z6 R hR
 · have b1 : decide ((e : Int) < ((l.length : Nat) : Int)) = false := decide_eq_false (by omega)
   rw [b1]
   simp only [bif_ff, fo22c]
   have e1 : l.drop e = [] := List.drop_of_length_le (by omega)
   have e3 : quL (l.drop e) = [] := by rw [e1]; rfl
   have e4 : afL (l.drop e) = l.drop e := by rw [e1]; rfl
   have hq : hqL (l.drop e) = false := by rw [e1]; rfl
   rw [e3, e4, hq] at hR
   exact vc22' l a us ho po pa _ hu hp t false _ n hl he z1 z2 (by decide) z5 z6 R hR
theorem sp22b : spine 2 e22c = true := by kernel_rfl
theorem ha22b : headAt (filt an22 0) (tailC 2 e22c) = some h22e := by kernel_rfl
def paL (t : List UInt8) : List UInt8 := t.take (findL [63, 35] t)
def deL (t : List UInt8) : List UInt8 := t.drop (findL [63, 35] t)
theorem va22' (l : List UInt8) (a us ho po : ByteArray) (hu hp t : Bool) (p n : Nat) (hl : l.length ≤ 2500) (he : p ≤ l.length) (z1 : us.size ≤ 2500) (z5 : po.size ≤ 2500) (z6 : ho.size ≤ 2500) (R : Res)
   (hR : R = fin22 (!(((afL (deL (l.drop p))).drop 1).any fun b => decide (b = 35)) && (!brS (us ++ mkS (paL (l.drop p)) ++ mkS (quL (deL (l.drop p))) ++ mkS ((afL (deL (l.drop p))).drop 1)) && (digS po && (!t || hostS ho)))) (uV a us hu ho po hp t (mkS (paL (l.drop p))) (mkS (quL (deL (l.drop p)))) (hqL (deL (l.drop p))) (mkS ((afL (deL (l.drop p))).drop 1)) (!(afL (deL (l.drop p))).isEmpty))) :
   aexecB Tryz.prog (call' A41) (filt an22 0) n e22c (mkEnv 226 [(0, .c (.str (mkS l))), (2, .bptr 0 0), (4, .bptr 1 0), (5, .c (.int .i64 (p : Int)))]) [z0, .box (.c (uV a us hu ho po hp t ⟨⟨[]⟩⟩ ⟨⟨[]⟩⟩ false ⟨⟨[]⟩⟩ false)) kU] (endOf Tryz.prog 23 []) = R := by
 have b9 : decide ((ByteArray.mk #[63, 35]).size ≤ 10000) = true := rfl
 have ee : (ByteArray.mk #[63, 35]) = mkS [63, 35] := rfl
 have ef : findI (mkS l) p (mkS [63, 35]) = p + findL [63, 35] (l.drop p) := by unfold findI; rw [mkS_data, mkS_data]
 have hle := findL_le [63, 35] (l.drop p)
 rw [List.length_drop] at hle
 have b2 : decide ((p : Int) ≤ ((l.length : Nat) : Int)) = true := decide_eq_true (by omega)
 have b3 : decide (l.length ≤ 10000) = true := decide_eq_true (by omega)
 have b4 : decide ((p : Int) ≤ ((p + findL [63, 35] (l.drop p) : Nat) : Int)) = true := decide_eq_true (by omega)
 have b5 : decide (((p + findL [63, 35] (l.drop p) : Nat) : Int) ≤ ((l.length : Nat) : Int)) = true := decide_eq_true (by omega)
 rw [seg_b (k := 2) (by decide) sp22b ha22b, va22]
 simp only [sizeM]
 rw [lez, b2, b3, b9, natM, ee, ef, b4, b5, natM, mkS_ext]
 simp only [Bool.and_self, bif_tt]
 have e1 : p + findL [63, 35] (l.drop p) - p = findL [63, 35] (l.drop p) := by omega
 have e2 : l.drop (p + findL [63, 35] (l.drop p)) = deL (l.drop p) := by unfold deL; rw [List.drop_drop]
 rw [e1]
 refine vb22' l a us ho po _ hu hp t _ n hl (by omega) z1 (by rw [sizeM, List.length_take, List.length_drop]; omega) z5 z6 R ?_
 rw [e2]
 exact hR
end Go.Pv
namespace Go.Pv
set_option maxRecDepth 100000
set_option maxHeartbeats 40000
open Go Go.Proofs
variable {I : World → Prop} {ng : Nat}
noncomputable abbrev K22 (L M : Env → Hp → Res) : KX := thenK (headK h22d L) (thenK (headK h22c M) (endOf Tryz.prog 23 []))
def E9 (l t : List UInt8) (p : Nat) : Env := mkEnv 226 [(0, .c (.str (mkS l))), (2, .bptr 0 0), (4, .bptr 1 0), (5, .c (.int .i64 (p : Int))), (9, .c (.str (mkS t)))]
def H9 (a us : ByteArray) (hu : Bool) (po : ByteArray) (hp : Bool) : Hp := [z0, .box (.c (uV a us hu ⟨⟨[]⟩⟩ po hp true ⟨⟨[]⟩⟩ ⟨⟨[]⟩⟩ false ⟨⟨[]⟩⟩ false)) kU]
noncomputable abbrev R22 (n j : Nat) (L M : Env → Hp → Res) (env : Env) (H : Hp) : Res := rounds Tryz.prog (call' A41) (filt an22 0) n hl22 (bodyN 0 q22b) j env H (restN Tryz.prog (call' A41) (filt an22 0) n 0 q22b (K22 L M))
theorem wrmI {i : Int} (h0 : 0 ≤ i) (h : i ≤ 100000) : IntKind.i64.wrap (i - 1) = i - 1 := by
 by_cases h1 : i = 0
 · subst h1; rfl
 · exact wrap_id (by omega) (by omega)
theorem lo22 (n : Nat) (l t : List UInt8) (a : ByteArray) (p : Nat) (L M : Env → Hp → Res) (ht : t.length ≤ 2500) : ∀ (j k : Nat), k < j → k ≤ t.length →
   R22 n j L M (mkEnv 226 [(0, .c (.str (mkS l))), (2, .bptr 0 0), (4, .bptr 1 0), (5, .c (.int .i64 (p : Int))), (9, .c (.str (mkS t))), (10, .c (.int .i64 ((k : Int) - 1)))]) (H9 a nB false nB false) =
     if 0 ≤ lastL k t 64 then L (E9 l (t.drop ((lastL k t 64).toNat + 1)) p) (H9 a (mkS (t.take (lastL k t 64).toNat)) true nB false) else L (E9 l t p) (H9 a nB false nB false)
 | 0, k, hj, hk => by omega
 | j + 1, 0, hj, hk => by
   show aexec Tryz.prog (call' A41) (filt an22 0) n (bodyN 0 q22b) _ _ (thenK (headK hl22 fun env H => R22 n j L M env H) _) = _
   rw [H9, ud22]
   have b1 : decide (((0 : Nat) : Int) - 1 ≥ 0) = false := by decide
   rw [b1, bif_ff]
   have : ¬ (0 : Int) ≤ lastL 0 t 64 := by unfold lastL; decide
   rw [if_neg this]
   rfl
 | j + 1, k + 1, hj, hk => by
   show aexec Tryz.prog (call' A41) (filt an22 0) n (bodyN 0 q22b) _ _ (thenK (headK hl22 fun env H => R22 n j L M env H) _) = _
   rw [H9, ud22]
   have e0 : ((k + 1 : Nat) : Int) - 1 = (k : Int) := by omega
   have b1 : decide ((k : Int) ≥ 0) = true := decide_eq_true (by omega)
   have b2 : decide ((k : Int) < ((t.length : Nat) : Int)) = true := decide_eq_true (by omega)
   have b3 : decide ((k : Int) ≤ ((t.length : Nat) : Int)) = true := decide_eq_true (by omega)
   have b4 : decide (((k + 1 : Nat) : Int) ≤ ((t.length : Nat) : Int)) = true := decide_eq_true (by omega)
   have b5 : decide (((t.length : Nat) : Int) ≤ ((t.length : Nat) : Int)) = true := decide_eq_true (by omega)
   have hw : IntKind.i64.wrap ((k : Int) + 1) = ((k + 1 : Nat) : Int) := wrp1 (by omega)
   have hw2 : IntKind.i64.wrap ((k : Int) - 1) = (k : Int) - 1 := wrmI (by omega) (by omega)
   simp only [sizeM, e0]
   rw [b1, b2, b3, hw, hw2, lez, b4, b5, natM, natM, natM, atM, toNat0, mkS_ext, mkS_ext]
   simp only [bif_tt, List.drop_zero, Nat.sub_zero]
   have el : lastL (k + 1) t 64 = if ((t.getD k 0).toNat : Int) = 64 then (k : Int) else lastL k t 64 := rfl
   rw [el]
   by_cases hc : ((t.getD k 0).toNat : Int) = 64
   · have c1 : (((t.getD k 0).toNat : Int) == 64) = true := beq_iff_eq.2 hc
     rw [c1, bif_tt, if_pos hc, if_pos (by omega), natM]
     have e1 : (t.drop (k + 1)).take (t.length - (k + 1)) = t.drop (k + 1) := List.take_of_length_le (by simp)
     rw [e1]
     rfl
   · have c1 : (((t.getD k 0).toNat : Int) == 64) = false := beq_eq_false_iff_ne.2 hc
     rw [c1, bif_ff, if_neg hc]
     exact lo22 n l t a p L M ht j k (by omega) (by omega)
noncomputable abbrev R29 (n j : Nat) (L M : Env → Hp → Res) (env : Env) (H : Hp) : Res := rounds Tryz.prog (call' A41) (filt an22 0) n hl29 (bodyN 0 q22c) j env H (restN Tryz.prog (call' A41) (filt an22 0) n 0 q22c (K22 L M))
theorem lastL_lt (l : List UInt8) (c : Int) (k : Nat) : lastL k l c < k := (lastL_b l c k).2
theorem lo29 (n : Nat) (l t : List UInt8) (a us : ByteArray) (hu : Bool) (p : Nat) (L M : Env → Hp → Res) (ht : t.length ≤ 2500) : ∀ (j k : Nat), k < j → k ≤ t.length →
   R29 n j L M (mkEnv 226 [(0, .c (.str (mkS l))), (2, .bptr 0 0), (4, .bptr 1 0), (5, .c (.int .i64 (p : Int))), (9, .c (.str (mkS t))), (11, .c (.int .i64 ((k : Int) - 1)))]) (H9 a us hu nB false) =
     if 0 ≤ lastL k t 58 ∧ lastL k t 93 < lastL k t 58 then L (E9 l (t.take (lastL k t 58).toNat) p) (H9 a us hu (mkS (t.drop ((lastL k t 58).toNat + 1))) true) else L (E9 l t p) (H9 a us hu nB false)
 | 0, k, hj, hk => by omega
 | j + 1, 0, hj, hk => by
   show aexec Tryz.prog (call' A41) (filt an22 0) n (bodyN 0 q22c) _ _ (thenK (headK hl29 fun env H => R29 n j L M env H) _) = _
   rw [H9, ue22]
   have b1 : decide (((0 : Nat) : Int) - 1 ≥ 0) = false := by decide
   rw [b1, bif_ff]
   have : ¬ ((0 : Int) ≤ lastL 0 t 58 ∧ lastL 0 t 93 < lastL 0 t 58) := by unfold lastL; decide
   rw [if_neg this]
   rfl
 | j + 1, k + 1, hj, hk => by
   show aexec Tryz.prog (call' A41) (filt an22 0) n (bodyN 0 q22c) _ _ (thenK (headK hl29 fun env H => R29 n j L M env H) _) = _
   rw [H9, ue22]
   have e0 : ((k + 1 : Nat) : Int) - 1 = (k : Int) := by omega
   have b1 : decide ((k : Int) ≥ 0) = true := decide_eq_true (by omega)
   have b2 : decide ((k : Int) < ((t.length : Nat) : Int)) = true := decide_eq_true (by omega)
   have b3 : decide ((k : Int) ≤ ((t.length : Nat) : Int)) = true := decide_eq_true (by omega)
   have b4 : decide (((k + 1 : Nat) : Int) ≤ ((t.length : Nat) : Int)) = true := decide_eq_true (by omega)
   have b5 : decide (((t.length : Nat) : Int) ≤ ((t.length : Nat) : Int)) = true := decide_eq_true (by omega)
   have hw : IntKind.i64.wrap ((k : Int) + 1) = ((k + 1 : Nat) : Int) := wrp1 (by omega)
   have hw2 : IntKind.i64.wrap ((k : Int) - 1) = (k : Int) - 1 := wrmI (by omega) (by omega)
   simp only [sizeM, e0]
   rw [b1, b2, b3, hw, hw2, lez, b4, b5, natM, natM, natM, atM, toNat0, mkS_ext, mkS_ext]
   simp only [bif_tt, List.drop_zero, Nat.sub_zero]
   have el : ∀ c, lastL (k + 1) t c = if ((t.getD k 0).toNat : Int) = c then (k : Int) else lastL k t c := fun _ => rfl
   rw [el, el]
   have k1 := lastL_lt t 58 k
   have k2 := lastL_lt t 93 k
   by_cases h93 : ((t.getD k 0).toNat : Int) = 93
   · have c1 : (((t.getD k 0).toNat : Int) != 93) = false := by rw [h93]; decide
     have h58 : ¬ ((t.getD k 0).toNat : Int) = 58 := by omega
     rw [c1, bif_ff, if_pos h93, if_neg h58, if_neg (by omega)]
     rfl
   · have c1 : (((t.getD k 0).toNat : Int) != 93) = true := by simpa using h93
     rw [c1, bif_tt, if_neg h93]
     by_cases h58 : ((t.getD k 0).toNat : Int) = 58
     · have c2 : (((t.getD k 0).toNat : Int) == 58) = true := beq_iff_eq.2 h58
       rw [c2, bif_tt, if_pos h58, if_pos (by omega), natM]
       have e1 : (t.drop (k + 1)).take (t.length - (k + 1)) = t.drop (k + 1) := List.take_of_length_le (by simp)
       rw [e1]
       rfl
     · have c2 : (((t.getD k 0).toNat : Int) == 58) = false := beq_eq_false_iff_ne.2 h58
       rw [c2, bif_ff, if_neg h58]
       exact lo29 n l t a us hu p L M ht j k (by omega) (by omega)
end Go.Pv
namespace Go.Pv
set_option maxRecDepth 100000
set_option maxHeartbeats 40000
open Go Go.Proofs
variable {I : World → Prop} {ng : Nat}
def E5 (l : List UInt8) (p : Nat) : Env := mkEnv 226 [(0, .c (.str (mkS l))), (2, .bptr 0 0), (4, .bptr 1 0), (5, .c (.int .i64 (p : Int)))]
def HX (a us : ByteArray) (hu : Bool) (ho po : ByteArray) (hp t : Bool) : Hp := [z0, .box (.c (uV a us hu ho po hp t ⟨⟨[]⟩⟩ ⟨⟨[]⟩⟩ false ⟨⟨[]⟩⟩ false)) kU]
noncomputable abbrev KM (M : Env → Hp → Res) : KX := thenK (headK h22c M) (endOf Tryz.prog 23 [])
theorem sp22t : spine 1 (tailC 1 (tailC 4 r22b)) = true := by kernel_rfl
theorem ha22t : headAt (filt an22 0) (tailC 1 (tailC 1 (tailC 4 r22b))) = some h22d := by kernel_rfl
theorem fo22t : tailC 1 (tailC 1 (tailC 4 r22b)) = tailC 6 r22b := eq_of_heq (heq_of_eq (by kernel_rfl))
theorem lp22c : isLoopPiece q22c = true := by kernel_rfl
theorem id22c : idsOk q22c = true := by kernel_rfl
theorem nl22c : nLoops q22c = 1 := by kernel_rfl
theorem hh22c : (firstRegion (bodyN 0 q22c)).bind (filt an22 0) = some hl29 := by kernel_rfl
theorem lp22b : isLoopPiece q22b = true := by kernel_rfl
theorem id22b : idsOk q22b = true := by kernel_rfl
theorem nl22b : nLoops q22b = 1 := by kernel_rfl
theorem hh22b : (firstRegion (bodyN 0 q22b)).bind (filt an22 0) = some hl22 := by kernel_rfl
theorem wrm0 (n : Nat) (h : n ≤ 100000) : IntKind.i64.wrap ((n : Int) - 1) = (n : Int) - 1 := wrmI (by omega) (by omega)
theorem vs22 (l t : List UInt8) (a us : ByteArray) (hu : Bool) (p n : Nat) (M : Env → Hp → Res) (ht : t.length ≤ 2500) (hn : 3000 ≤ n) :
   aexecB Tryz.prog (call' A41) (filt an22 0) n (tailC 1 (tailC 4 r22b)) (E9 l t p) (H9 a us hu nB false) (KM M) =
     if 0 ≤ lastL t.length t 58 ∧ lastL t.length t 93 < lastL t.length t 58 then M (E5 l p) (HX a us hu (mkS (t.take (lastL t.length t 58).toNat)) (mkS (t.drop ((lastL t.length t 58).toNat + 1))) true true)
     else M (E5 l p) (HX a us hu (mkS t) nB false true) := by
 rw [seg_b (k := 1) (by decide) sp22t ha22t]
 show aexecB Tryz.prog (call' A41) (filt an22 0) n q22c _ _ _ = _
 rw [loopB lp22c id22c nl22c hh22c]
 unfold E9 H9
 rw [ux22]
 simp only [sizeM]
 rw [wrm0 _ (by omega), fo22t]
 have h := lo29 n l t a us hu p (fun e H => aexecB Tryz.prog (call' A41) (filt an22 0) n (tailC 6 r22b) e H (KM M)) M ht n t.length (by omega) (Nat.le_refl _)
 refine Eq.trans h ?_
 split
 · unfold E9 H9
   exact uy22 ..
 · unfold E9 H9
   exact uy22 ..
theorem sp22s : spine 1 (tailC 4 r22b) = true := by kernel_rfl
theorem ha22s : headAt (filt an22 0) (tailC 1 (tailC 4 r22b)) = some h22d := by kernel_rfl
theorem sp22r : spine 4 r22b = true := by kernel_rfl
theorem ha22r : headAt (filt an22 0) (tailC 4 r22b) = some h22d := by kernel_rfl
theorem vr22 (l t : List UInt8) (a : ByteArray) (p n : Nat) (M : Env → Hp → Res) (ht : t.length ≤ 2500) (hn : 3000 ≤ n) :
   aexecB Tryz.prog (call' A41) (filt an22 0) n (tailC 4 r22b) (E9 l t p) (H9 a nB false nB false) (KM M) =
     M (E5 l p) (HX a (auUsr (mkS t)) (auHU (mkS t)) (auHost (mkS t)) (auPort (mkS t)) (auHP (mkS t)) true) := by
 rw [seg_b (k := 1) (by decide) sp22s ha22s]
 show aexecB Tryz.prog (call' A41) (filt an22 0) n q22b _ _ _ = _
 rw [loopB lp22b id22b nl22b hh22b]
 unfold E9 H9
 rw [uw22]
 simp only [sizeM]
 rw [wrm0 _ (by omega)]
 have h := lo22 n l t a p (fun e H => aexecB Tryz.prog (call' A41) (filt an22 0) n (tailC 1 (tailC 4 r22b)) e H (KM M)) M ht n t.length (by omega) (Nat.le_refl _)
 refine Eq.trans h ?_
 have e64 : lastI (mkS t) 64 = lastL t.length t 64 := by unfold lastI; rw [mkS_data, sizeM]
 unfold auUsr auHost auPort auHP auRest auHU
 rw [e64]
 have hb := lastL_b t 64 t.length
 generalize lastL t.length t 64 = x at *
 by_cases hx : 0 ≤ x
 · simp only [hx, if_true, decide_true]
   rw [vs22 _ _ _ _ _ _ _ _ (by rw [List.length_drop]; omega) hn]
   have e1 : (mkS t).extract (x.toNat + 1) (mkS t).size = mkS (t.drop (x.toNat + 1)) := by
     rw [mkS_ext, sizeM, List.take_of_length_le (by simp)]
   have e2 : (mkS t).extract 0 x.toNat = mkS (t.take x.toNat) := by rw [mkS_ext, List.drop_zero, Nat.sub_zero]
   rw [e1, e2]
   have e3 : ∀ c, lastI (mkS (t.drop (x.toNat + 1))) c = lastL (t.drop (x.toNat + 1)).length (t.drop (x.toNat + 1)) c := fun c => by unfold lastI; rw [mkS_data, sizeM]
   rw [e3, e3]
   generalize t.drop (x.toNat + 1) = u
   generalize lastL u.length u 58 = y
   generalize lastL u.length u 93 = z
   have e4 : (mkS u).extract 0 y.toNat = mkS (u.take y.toNat) := by rw [mkS_ext, List.drop_zero, Nat.sub_zero]
   have e5 : (mkS u).extract (y.toNat + 1) (mkS u).size = mkS (u.drop (y.toNat + 1)) := by
     rw [mkS_ext, sizeM, List.take_of_length_le (by simp)]
   rw [e4, e5]
   by_cases hy : 0 ≤ y ∧ z < y
   · have b : (decide (0 ≤ y) && decide (z < y)) = true := by rw [decide_eq_true hy.1, decide_eq_true hy.2]; rfl
     rw [if_pos hy, b]; rfl
   · have b : (decide (0 ≤ y) && decide (z < y)) = false := by
       rw [Bool.and_eq_false_iff]
       by_cases h0 : 0 ≤ y
       · exact .inr (decide_eq_false fun h => hy ⟨h0, h⟩)
       · exact .inl (decide_eq_false h0)
     rw [if_neg hy, b]; rfl
 · simp only [hx, if_false, decide_false, Bool.false_eq_true]
   rw [vs22 _ _ _ _ _ _ _ _ ht hn]
   have e3 : ∀ c, lastI (mkS t) c = lastL t.length t c := fun c => by unfold lastI; rw [mkS_data, sizeM]
   rw [e3, e3]
   generalize lastL t.length t 58 = y
   generalize lastL t.length t 93 = z
   have e4 : (mkS t).extract 0 y.toNat = mkS (t.take y.toNat) := by rw [mkS_ext, List.drop_zero, Nat.sub_zero]
   have e5 : (mkS t).extract (y.toNat + 1) (mkS t).size = mkS (t.drop (y.toNat + 1)) := by
     rw [mkS_ext, sizeM, List.take_of_length_le (by simp)]
   rw [e4, e5]
   by_cases hy : 0 ≤ y ∧ z < y
   · have b : (decide (0 ≤ y) && decide (z < y)) = true := by rw [decide_eq_true hy.1, decide_eq_true hy.2]; rfl
     rw [if_pos hy, b]; rfl
   · have b : (decide (0 ≤ y) && decide (z < y)) = false := by
       rw [Bool.and_eq_false_iff]
       by_cases h0 : 0 ≤ y
       · exact .inr (decide_eq_false fun h => hy ⟨h0, h⟩)
       · exact .inl (decide_eq_false h0)
     rw [if_neg hy, b]; rfl
theorem vq22 (l : List UInt8) (a : ByteArray) (p n : Nat) (M : Env → Hp → Res) (hl : l.length ≤ 2500) (hp : p + 2 ≤ l.length) (hn : 3000 ≤ n) :
   aexecB Tryz.prog (call' A41) (filt an22 0) n r22b (E5 l p) (HX a nB false nB nB false false) (KM M) =
     M (E5 l (p + 2 + findL [47, 63, 35] (l.drop (p + 2)))) (HX a (auUsr (mkS ((l.drop (p + 2)).take (findL [47, 63, 35] (l.drop (p + 2)))))) (auHU (mkS ((l.drop (p + 2)).take (findL [47, 63, 35] (l.drop (p + 2)))))) (auHost (mkS ((l.drop (p + 2)).take (findL [47, 63, 35] (l.drop (p + 2)))))) (auPort (mkS ((l.drop (p + 2)).take (findL [47, 63, 35] (l.drop (p + 2)))))) (auHP (mkS ((l.drop (p + 2)).take (findL [47, 63, 35] (l.drop (p + 2)))))) true) := by
 have hw : IntKind.i64.wrap ((p : Int) + 2) = ((p + 2 : Nat) : Int) := wrp (k := 2) (by omega) (by omega)
 have ee : (ByteArray.mk #[47, 63, 35]) = mkS [47, 63, 35] := rfl
 have ef : findI (mkS l) (p + 2) (mkS [47, 63, 35]) = p + 2 + findL [47, 63, 35] (l.drop (p + 2)) := by unfold findI; rw [mkS_data, mkS_data]
 have hle := findL_le [47, 63, 35] (l.drop (p + 2))
 rw [List.length_drop] at hle
 have b2 : decide (((p + 2 : Nat) : Int) ≤ ((l.length : Nat) : Int)) = true := decide_eq_true (by omega)
 have b3 : decide (l.length ≤ 10000) = true := decide_eq_true (by omega)
 have b4 : decide (((p + 2 : Nat) : Int) ≤ ((p + 2 + findL [47, 63, 35] (l.drop (p + 2)) : Nat) : Int)) = true := decide_eq_true (by omega)
 have b5 : decide (((p + 2 + findL [47, 63, 35] (l.drop (p + 2)) : Nat) : Int) ≤ ((l.length : Nat) : Int)) = true := decide_eq_true (by omega)
 have b9 : decide ((ByteArray.mk #[47, 63, 35]).size ≤ 10000) = true := rfl
 rw [seg_b (k := 4) (by decide) sp22r ha22r]
 unfold E5 HX
 rw [uv22]
 simp only [sizeM]
 rw [hw, lez, b2, b3, b9, natM, ee, ef, b4, b5, natM, mkS_ext]
 simp only [Bool.and_self, bif_tt]
 have e1 : p + 2 + findL [47, 63, 35] (l.drop (p + 2)) - (p + 2) = findL [47, 63, 35] (l.drop (p + 2)) := by omega
 rw [e1]
 exact vr22 l _ a _ n M (by rw [List.length_take, List.length_drop]; omega) hn
theorem sp22e : spine 1 d22b = true := by kernel_rfl
theorem ha22e : headAt (filt an22 0) (tailC 1 d22b) = some h22c := by kernel_rfl
theorem io22b : isHole p22b = true := by kernel_rfl
theorem hr22b : headAt (filt an22 0) (lastArm p22b) = some h22c := by kernel_rfl
def haL (r : List UInt8) : Bool := ([47, 47] : List UInt8).isPrefixOf r
def auL (r : List UInt8) : List UInt8 := (r.drop 2).take (findL [47, 63, 35] (r.drop 2))
def rsL (r : List UInt8) : List UInt8 := if haL r then (r.drop 2).drop (findL [47, 63, 35] (r.drop 2)) else r
def usB (r : List UInt8) : ByteArray := if haL r then auUsr (mkS (auL r)) else nB
def huB (r : List UInt8) : Bool := haL r && auHU (mkS (auL r))
def hoB (r : List UInt8) : ByteArray := if haL r then auHost (mkS (auL r)) else nB
def poB (r : List UInt8) : ByteArray := if haL r then auPort (mkS (auL r)) else nB
def hpB (r : List UInt8) : Bool := haL r && auHP (mkS (auL r))
def ok22 (us po ho : ByteArray) (ha : Bool) (t : List UInt8) : Bool := !(((afL (deL t)).drop 1).any fun b => decide (b = 35)) && (!brS (us ++ mkS (paL t) ++ mkS (quL (deL t)) ++ mkS ((afL (deL t)).drop 1)) && (digS po && (!ha || hostS ho)))
def v22 (a us : ByteArray) (hu : Bool) (ho po : ByteArray) (hp ha : Bool) (t : List UInt8) : CV := uV a us hu ho po hp ha (mkS (paL t)) (mkS (quL (deL t))) (hqL (deL t)) (mkS ((afL (deL t)).drop 1)) (!(afL (deL t)).isEmpty)
theorem ext_sz (s : ByteArray) (a b : Nat) : (s.extract a b).size ≤ s.size := by rw [ByteArray.size_extract]; omega
theorem auUsr_sz (s : ByteArray) : (auUsr s).size ≤ s.size := by
 unfold auUsr; split
 · exact ext_sz _ _ _
 · exact Nat.zero_le _
theorem auRest_sz (s : ByteArray) : (auRest s).size ≤ s.size := by
 unfold auRest; split
 · exact ext_sz _ _ _
 · exact Nat.le_refl _
theorem auHost_sz (s : ByteArray) : (auHost s).size ≤ s.size := by
 have := auRest_sz s
 unfold auHost; split
 · have := ext_sz (auRest s) 0 (lastI (auRest s) 58).toNat; omega
 · omega
theorem auPort_sz (s : ByteArray) : (auPort s).size ≤ s.size := by
 have := auRest_sz s
 unfold auPort; split
 · have := ext_sz (auRest s) ((lastI (auRest s) 58).toNat + 1) (auRest s).size; omega
 · exact Nat.zero_le _
theorem vp22 (l : List UInt8) (a : ByteArray) (p n : Nat) (hl : l.length ≤ 2500) (hp : p ≤ l.length) (hn : 3000 ≤ n) :
   aexecB Tryz.prog (call' A41) (filt an22 0) n d22b (E5 l p) (HX a nB false nB nB false false) (endOf Tryz.prog 23 []) =
     fin22 (ok22 (usB (l.drop p)) (poB (l.drop p)) (hoB (l.drop p)) (haL (l.drop p)) (rsL (l.drop p))) (v22 a (usB (l.drop p)) (huB (l.drop p)) (hoB (l.drop p)) (poB (l.drop p)) (hpB (l.drop p)) (haL (l.drop p)) (rsL (l.drop p))) := by
 have hw : IntKind.i64.wrap ((p : Int) + 2) = ((p + 2 : Nat) : Int) := wrp (k := 2) (by omega) (by omega)
 rw [seg_b (k := 1) (by decide) sp22e ha22e]
 show aexecB Tryz.prog (call' A41) (filt an22 0) n p22b _ _ (thenK (headK h22c fun e H => aexecB Tryz.prog (call' A41) (filt an22 0) n e22c e H (endOf Tryz.prog 23 [])) _) = _
 rw [hole_eq io22b hr22b]
 show aexecB Tryz.prog (call' A41) (filt an22 0) n (holeC p22b) _ _ (armK (headK h22c fun e H => aexecB Tryz.prog (call' A41) (filt an22 0) n r22b e H (KM fun e H => aexecB Tryz.prog (call' A41) (filt an22 0) n e22c e H (endOf Tryz.prog 23 []))) _) = _
 unfold E5 HX
 rw [uu22]
 simp only [sizeM]
 rw [hw, lez, natM, natM, mkS_ext]
 have e1 : p + 2 - p = 2 := by omega
 have e2 : (ByteArray.mk #[47, 47]) = mkS [47, 47] := rfl
 rw [e1, e2, toList_data, toList_data, mkS_data, mkS_data]
 have hno : haL (l.drop p) = false → (fun e H => aexecB Tryz.prog (call' A41) (filt an22 0) n e22c e H (endOf Tryz.prog 23 [])) (E5 l p) (HX a nB false nB nB false false) = fin22 (ok22 (usB (l.drop p)) (poB (l.drop p)) (hoB (l.drop p)) (haL (l.drop p)) (rsL (l.drop p))) (v22 a (usB (l.drop p)) (huB (l.drop p)) (hoB (l.drop p)) (poB (l.drop p)) (hpB (l.drop p)) (haL (l.drop p)) (rsL (l.drop p))) := by
   intro hA
   unfold E5 HX
   refine va22' l a nB nB nB false false false p n hl hp (by decide) (by decide) (by decide) _ ?_
   unfold ok22 v22 usB poB hoB huB hpB rsL
   rw [hA]
   simp only [Bool.false_eq_true, if_false, Bool.false_and]
 by_cases h2 : p + 2 ≤ l.length
 · have b1 : decide (((p + 2 : Nat) : Int) ≤ ((l.length : Nat) : Int)) = true := decide_eq_true (by omega)
   have b2 : decide ((p : Int) ≤ ((p + 2 : Nat) : Int)) = true := decide_eq_true (by omega)
   rw [b1, b2]
   simp only [bif_tt]
   have e3 : ((l.drop p).take 2 == ([47, 47] : List UInt8)) = haL (l.drop p) := by
     have hlen : 2 ≤ (l.drop p).length := by rw [List.length_drop]; omega
     unfold haL
     generalize l.drop p = r at hlen
     match r, hlen with
     | x :: y :: r, _ =>
       rw [Bool.eq_iff_iff]
       simp [List.isPrefixOf]
       constructor
       · rintro ⟨h1, h2⟩; exact ⟨h1.symm, h2.symm⟩
       · rintro ⟨h1, h2⟩; exact ⟨h1.symm, h2.symm⟩
   rw [e3]
   cases hA : haL (l.drop p) with
   | false =>
     rw [bif_ff]
     rw [hA] at hno
     exact hno rfl
   | true =>
     rw [bif_tt]
     refine (vq22 l a p n _ hl h2 hn).trans ?_
     have hle := findL_le [47, 63, 35] (l.drop (p + 2))
     rw [List.length_drop] at hle
     have e4 : (l.drop (p + 2)) = (l.drop p).drop 2 := by rw [List.drop_drop]
     have e5 : ((l.drop (p + 2)).take (findL [47, 63, 35] (l.drop (p + 2)))) = auL (l.drop p) := by unfold auL; rw [e4]
     have z : (mkS (auL (l.drop p))).size ≤ 2500 := by unfold auL; rw [sizeM, List.length_take, List.length_drop, List.length_drop]; omega
     have z1 := auUsr_sz (mkS (auL (l.drop p)))
     have z2 := auPort_sz (mkS (auL (l.drop p)))
     have z3 := auHost_sz (mkS (auL (l.drop p)))
     rw [e5]
     unfold E5 HX
     refine va22' l a _ _ _ _ _ true _ n hl (by omega) (by omega) (by omega) (by omega) _ ?_
     have e6 : l.drop (p + 2 + findL [47, 63, 35] (l.drop (p + 2))) = rsL (l.drop p) := by
       unfold rsL
       rw [hA, if_pos rfl, ← e4, List.drop_drop]
     rw [e6]
     unfold ok22 v22 usB poB hoB huB hpB
     rw [hA]
     simp only [if_true, Bool.true_and]
 · have b1 : decide (((p + 2 : Nat) : Int) ≤ ((l.length : Nat) : Int)) = false := decide_eq_false (by omega)
   rw [b1]
   simp only [bif_ff]
   refine hno ?_
   have hlen : (l.drop p).length < 2 := by rw [List.length_drop]; omega
   unfold haL
   generalize l.drop p = r at hlen
   match r, hlen with
   | [], _ => rfl
   | [x], _ => simp [List.isPrefixOf]
   | x :: y :: r, h => simp at h; omega
end Go.Pv
namespace Go.Pv
set_option maxRecDepth 100000
set_option maxHeartbeats 100000
open Go Go.Proofs
variable {I : World → Prop} {ng : Nat}
theorem sch_in : ∀ n : Nat, n < 256 → inS schC (n : Int) = (decide ((97 : Int) ≤ (n : Int) ∧ (n : Int) ≤ 122 ∨ (65 : Int) ≤ (n : Int) ∧ (n : Int) ≤ 90) || (decide ((48 : Int) ≤ (n : Int) ∧ (n : Int) ≤ 57) || inS (ByteArray.mk #[43, 45, 46]) (n : Int))) := by decide +kernel
theorem let_in : ∀ n : Nat, n < 256 → inS letC (n : Int) = decide ((97 : Int) ≤ (n : Int) ∧ (n : Int) ≤ 122 ∨ (65 : Int) ≤ (n : Int) ∧ (n : Int) ≤ 90) := by decide +kernel
def E6 (l : List UInt8) (i : Nat) : Env := mkEnv 226 [(0, .c (.str (mkS l))), (2, .bptr 0 0), (4, .bptr 1 0), (6, .c (.int .i64 (i : Int)))]
def E67 (l : List UInt8) (i k : Nat) : Env := mkEnv 226 [(0, .c (.str (mkS l))), (2, .bptr 0 0), (4, .bptr 1 0), (6, .c (.int .i64 (i : Int))), (7, .c (.int .i64 (k : Int)))]
abbrev H0 : Hp := HX nB nB false nB nB false false
abbrev no22 : Res := some (.tup [zU nB false, .bool false], [])
noncomputable abbrev R10 (n j : Nat) (L M : Env → Hp → Res) (env : Env) (H : Hp) : Res := rounds Tryz.prog (call' A41) (filt an22 0) n hl10 (bodyN 0 q22a) j env H (restN Tryz.prog (call' A41) (filt an22 0) n 0 q22a (thenK (headK h22b L) (KM M)))
theorem lo10 (n : Nat) (l : List UInt8) (i : Nat) (L M : Env → Hp → Res) (hl : l.length ≤ 2500) (hi : i ≤ l.length) : ∀ (j k : Nat), i < j + k → k ≤ i →
   R10 n j L M (E67 l i k) H0 = if ((l.take i).drop k).all (fun c => inS schC c.toNat) = true then L (E6 l i) H0 else no22
 | 0, k, hj, hk => by omega
 | j + 1, k, hj, hk => by
   show aexec Tryz.prog (call' A41) (filt an22 0) n (bodyN 0 q22a) _ _ (thenK (headK hl10 fun env H => R10 n j L M env H) _) = _
   rw [E67, H0, HX, uc22]
   simp only [sizeM]
   rw [lez, natM, atM]
   have hw : IntKind.i64.wrap ((k : Int) + 1) = ((k + 1 : Nat) : Int) := wrp1 (by omega)
   rw [hw]
   by_cases h1 : k < i
   · have b1 : decide ((k : Int) < (i : Int)) = true := decide_eq_true (by omega)
     have b2 : decide ((k : Int) < ((l.length : Nat) : Int)) = true := decide_eq_true (by omega)
     have hd : (l.take i).drop k = l.getD k 0 :: (l.take i).drop (k + 1) := by
       rw [drop_getD (by rw [List.length_take]; omega)]
       congr 1
       simp [List.getD_eq_getElem?_getD, List.getElem?_take, h1]
     have ih := lo10 n l i L M hl hi j (k + 1) (by omega) (by omega)
     rw [b1, b2, hd, List.all_cons, sch_in _ (l.getD k 0).toNat_lt]
     simp only [bif_tt]
     generalize decide ((97 : Int) ≤ ((l.getD k 0).toNat : Int) ∧ ((l.getD k 0).toNat : Int) ≤ 122 ∨ (65 : Int) ≤ ((l.getD k 0).toNat : Int) ∧ ((l.getD k 0).toNat : Int) ≤ 90) = A
     generalize decide ((48 : Int) ≤ ((l.getD k 0).toNat : Int) ∧ ((l.getD k 0).toNat : Int) ≤ 57) = B
     generalize inS (ByteArray.mk #[43, 45, 46]) ((l.getD k 0).toNat : Int) = C
     cases A with
     | true => rw [Bool.true_or, Bool.true_and]; exact ih
     | false =>
       cases B with
       | true => rw [Bool.true_or, Bool.or_true, Bool.true_and]; exact ih
       | false =>
         cases C with
         | true => rw [Bool.or_true, Bool.or_true, Bool.true_and]; exact ih
         | false => rfl
   · have b1 : decide ((k : Int) < (i : Int)) = false := decide_eq_false (by omega)
     have hd : (l.take i).drop k = [] := List.drop_of_length_le (by rw [List.length_take]; omega)
     rw [b1, hd]
     rfl
theorem sp22p : spine 1 r22a = true := by kernel_rfl
theorem ha22p : headAt (filt an22 0) (tailC 1 r22a) = some h22b := by kernel_rfl
theorem sp22q : spine 1 (tailC 1 r22a) = true := by kernel_rfl
theorem ha22q : headAt (filt an22 0) (tailC 1 (tailC 1 r22a)) = some h22b := by kernel_rfl
theorem fo22q : tailC 1 (tailC 1 r22a) = tailC 2 r22a := eq_of_heq (heq_of_eq (by kernel_rfl))
theorem lp22a : isLoopPiece q22a = true := by kernel_rfl
theorem id22a : idsOk q22a = true := by kernel_rfl
theorem nl22a : nLoops q22a = 1 := by kernel_rfl
theorem hh22a : (firstRegion (bodyN 0 q22a)).bind (filt an22 0) = some hl10 := by kernel_rfl
theorem vm22 (l : List UInt8) (i n : Nat) (M : Env → Hp → Res) (hl : l.length ≤ 2500) (hi : i ≤ l.length) (hn : 3000 ≤ n) :
   aexecB Tryz.prog (call' A41) (filt an22 0) n (tailC 1 r22a) (E6 l i) H0 (KM M) = if (l.take i).all (fun c => inS schC c.toNat) = true then M (E5 l (i + 1)) (HX (mkS (l.take i)) nB false nB nB false false) else no22 := by
 rw [seg_b (k := 1) (by decide) sp22q ha22q]
 show aexecB Tryz.prog (call' A41) (filt an22 0) n q22a _ _ _ = _
 rw [loopB lp22a id22a nl22a hh22a]
 unfold E6 H0 HX
 rw [us22, fo22q]
 have h := lo10 n l i (fun e H => aexecB Tryz.prog (call' A41) (filt an22 0) n (tailC 2 r22a) e H (KM M)) M hl hi n 0 (by omega) (by omega)
 refine Eq.trans h ?_
 rw [List.drop_zero]
 split
 · unfold E6 H0 HX
   refine (ut22 ..).trans ?_
   have b2 : decide ((i : Int) ≤ ((l.length : Nat) : Int)) = true := decide_eq_true (by omega)
   have hw : IntKind.i64.wrap ((i : Int) + 1) = ((i + 1 : Nat) : Int) := wrp1 (by omega)
   rw [sizeM, lez, b2, hw, natM, toNat0, mkS_ext, List.drop_zero, Nat.sub_zero]
   rfl
 · rfl
theorem vn22 (l : List UInt8) (i n : Nat) (M : Env → Hp → Res) (hl : l.length ≤ 2500) (hi : i < l.length) (hn : 3000 ≤ n) :
   aexecB Tryz.prog (call' A41) (filt an22 0) n r22a (E6 l i) H0 (KM M) = if (!decide (i = 0) && (inS letC (l.getD 0 0).toNat && (l.take i).all (fun c => inS schC c.toNat))) = true then M (E5 l (i + 1)) (HX (mkS (l.take i)) nB false nB nB false false) else no22 := by
 rw [seg_b (k := 1) (by decide) sp22p ha22p]
 unfold E6 H0 HX
 rw [ur22]
 simp only [sizeM]
 have b2 : decide ((0 : Int) < ((l.length : Nat) : Int)) = true := decide_eq_true (by omega)
 rw [toNat0, atM, b2, let_in _ (l.getD 0 0).toNat_lt]
 have e0 : (((i : Nat) : Int) == 0) = decide (i = 0) := by
   rw [Bool.eq_iff_iff, beq_iff_eq, decide_eq_true_eq]; omega
 rw [e0]
 generalize decide ((97 : Int) ≤ ((l.getD 0 0).toNat : Int) ∧ ((l.getD 0 0).toNat : Int) ≤ 122 ∨ (65 : Int) ≤ ((l.getD 0 0).toNat : Int) ∧ ((l.getD 0 0).toNat : Int) ≤ 90) = A
 generalize decide (i = 0) = B
 cases B with
 | true => rfl
 | false =>
   cases A with
   | false => rfl
   | true =>
     rw [Bool.true_and]
     exact vm22 l i n M hl (by omega) hn
theorem sp22x : spine 1 d22a = true := by kernel_rfl
theorem ha22x : headAt (filt an22 0) (tailC 1 d22a) = some h22c := by kernel_rfl
theorem io22a : isHole p22a = true := by kernel_rfl
theorem hr22a : headAt (filt an22 0) (lastArm p22a) = some h22b := by kernel_rfl
theorem sp22y : spine 5 c22 = true := by kernel_rfl
theorem ha22y : headAt (filt an22 0) (tailC 5 c22) = some h22a := by kernel_rfl
def hcL (l : List UInt8) : Bool := match l.drop (findL [58, 47, 63, 35] l) with
 | c :: _ => c == 58
 | [] => false
def scL (l : List UInt8) : Bool := !hcL l || (!decide (findL [58, 47, 63, 35] l = 0) && (inS letC (l.getD 0 0).toNat && (l.take (findL [58, 47, 63, 35] l)).all (fun c => inS schC c.toNat)))
def atL (l : List UInt8) : Nat := if hcL l then findL [58, 47, 63, 35] l + 1 else 0
def shL (l : List UInt8) : ByteArray := if hcL l then mkS (l.take (findL [58, 47, 63, 35] l)) else nB
def okR (r : List UInt8) : Bool := ok22 (usB r) (poB r) (hoB r) (haL r) (rsL r)
def vR (a : ByteArray) (r : List UInt8) : CV := v22 a (usB r) (huB r) (hoB r) (poB r) (hpB r) (haL r) (rsL r)
theorem hc_get (l : List UInt8) : hcL l = (decide (findL [58, 47, 63, 35] l < l.length) && (l.getD (findL [58, 47, 63, 35] l) 0 == 58)) := by
 unfold hcL
 by_cases h : findL [58, 47, 63, 35] l < l.length
 · rw [drop_getD h, decide_eq_true h, Bool.true_and]
 · rw [List.drop_of_length_le (by omega), decide_eq_false h, Bool.false_and]
theorem vz22 (l : List UInt8) (n : Nat) (hl : l.length ≤ 2500) (hn : 3000 ≤ n) :
   aexec Tryz.prog (call' A41) (filt an22 0) n c22 (envOf Tryz.prog 23 [.c (.str (mkS l))]) [] (endOf Tryz.prog 23 []) = fin22 (stS (mkS l) && (scL l && okR (l.drop (atL l)))) (vR (shL l) (l.drop (atL l))) := by
 rw [seg_a (k := 5) (by decide) sp22y ha22y]
 rw [up22]
 simp only [sizeM]
 have b3 : decide (l.length ≤ 10000) = true := decide_eq_true (by omega)
 have b9 : decide ((ByteArray.mk #[58, 47, 63, 35]).size ≤ 10000) = true := rfl
 have ee : (ByteArray.mk #[58, 47, 63, 35]) = mkS [58, 47, 63, 35] := rfl
 rw [b3, b9, lez, toNat0, ee, find0]
 rw [le00]
 cases hs : stS (mkS l) with
 | false => rfl
 | true =>
   simp only [Bool.not_true, Bool.and_self, bif_tt, bif_ff, Bool.true_and]
   show aexecB Tryz.prog (call' A41) (filt an22 0) n d22a _ _ _ = _
   rw [seg_b (k := 1) (by decide) sp22x ha22x]
   show aexecB Tryz.prog (call' A41) (filt an22 0) n p22a _ _ (thenK (headK h22c fun e H => aexecB Tryz.prog (call' A41) (filt an22 0) n d22b e H (endOf Tryz.prog 23 [])) _) = _
   rw [hole_eq io22a hr22a]
   refine (uq22 (mkS l) (findL [58, 47, 63, 35] l : Nat) n (fun e H => aexecB Tryz.prog (call' A41) (filt an22 0) n r22a e H (KM fun e H => aexecB Tryz.prog (call' A41) (filt an22 0) n d22b e H (endOf Tryz.prog 23 []))) (fun e H => aexecB Tryz.prog (call' A41) (filt an22 0) n d22b e H (endOf Tryz.prog 23 []))).trans ?_
   simp only [sizeM]
   rw [lez, natM, atM]
   have hno : hcL l = false → aexecB Tryz.prog (call' A41) (filt an22 0) n d22b (E5 l 0) H0 (endOf Tryz.prog 23 []) = fin22 (scL l && okR (l.drop (atL l))) (vR (shL l) (l.drop (atL l))) := by
     intro hc
     have := vp22 l nB 0 n hl (by omega) hn
     refine Eq.trans this ?_
     unfold scL okR vR shL atL
     rw [hc]
     simp only [Bool.not_false, Bool.true_or, Bool.true_and, Bool.false_eq_true, if_false]
   by_cases h : findL [58, 47, 63, 35] l < l.length
   · have b1 : decide (((findL [58, 47, 63, 35] l : Nat) : Int) < ((l.length : Nat) : Int)) = true := decide_eq_true (by omega)
     rw [b1]
     simp only [bif_tt]
     have e1 : (((l.getD (findL [58, 47, 63, 35] l) 0).toNat : Int) == 58) = hcL l := by
       rw [hc_get, decide_eq_true h, Bool.true_and, Bool.eq_iff_iff, beq_iff_eq, beq_iff_eq]
       constructor
       · intro hh
         have h2 : ((l.getD (findL [58, 47, 63, 35] l) 0).toNat : Int) = ((58 : UInt8).toNat : Int) := hh
         exact u8_int.1 h2
       · intro hh; rw [hh]; rfl
     rw [e1]
     cases hc : hcL l with
     | false =>
       rw [bif_ff]
       exact (hno hc)
     | true =>
       rw [bif_tt]
       refine (vn22 l (findL [58, 47, 63, 35] l) n _ hl h hn).trans ?_
       have hsc : scL l = (!decide (findL [58, 47, 63, 35] l = 0) && (inS letC (l.getD 0 0).toNat && (l.take (findL [58, 47, 63, 35] l)).all (fun c => inS schC c.toNat))) := by unfold scL; rw [hc]; rfl
       rw [← hsc]
       cases hq : scL l with
       | false => rfl
       | true =>
         rw [if_pos rfl, Bool.true_and]
         refine (vp22 l (mkS (l.take (findL [58, 47, 63, 35] l))) (findL [58, 47, 63, 35] l + 1) n hl (by omega) hn).trans ?_
         have ea : atL l = findL [58, 47, 63, 35] l + 1 := by unfold atL; rw [hc]; rfl
         have es : shL l = mkS (l.take (findL [58, 47, 63, 35] l)) := by unfold shL; rw [hc]; rfl
         rw [ea, es]
         unfold okR vR
         rfl
   · have b1 : decide (((findL [58, 47, 63, 35] l : Nat) : Int) < ((l.length : Nat) : Int)) = false := decide_eq_false (by omega)
     rw [b1, bif_ff]
     refine hno ?_
     rw [hc_get, decide_eq_false h, Bool.false_and]
end Go.Pv
namespace Go.Pv
set_option maxRecDepth 100000
set_option maxHeartbeats 100000
open Go Go.Proofs
variable {I : World → Prop} {ng : Nat}
theorem in2 (b : UInt8) : inS (mkS [63, 35]) b.toNat = (decide (b = 63) || decide (b = 35)) := by
 rw [in_lit, Bool.eq_iff_iff]
 simp
theorem cut35 (l : List UInt8) : l.take (findL [35] l) = (l.takeWhile fun b => !decide (b = 35)) ∧ l.drop (findL [35] l) = l.dropWhile fun b => !decide (b = 35) := by
 rw [take_findL, drop_findL]
 have e : (fun b : UInt8 => !inS (mkS [35]) b.toNat) = fun b => !decide (b = 35) := by funext b; rw [in1]
 rw [e]; exact ⟨rfl, rfl⟩
theorem any_drop (q : UInt8 → Bool) : ∀ t : List UInt8, (t.any q) = !(t.dropWhile fun b => !q b).isEmpty
 | [] => rfl
 | b :: t => by
   rw [List.any_cons, List.dropWhile_cons]
   cases h : q b with
   | true => rfl
   | false => simpa using any_drop q t
theorem tail_eq : ∀ t : List UInt8,
   paL t = ((t.takeWhile fun b => !decide (b = 35)).takeWhile fun b => !decide (b = 63)) ∧
   hqL (deL t) = ((t.takeWhile fun b => !decide (b = 35)).any fun b => decide (b = 63)) ∧
   quL (deL t) = ((t.takeWhile fun b => !decide (b = 35)).dropWhile fun b => !decide (b = 63)).drop 1 ∧
   afL (deL t) = t.dropWhile fun b => !decide (b = 35)
 | [] => ⟨rfl, rfl, rfl, rfl⟩
 | c :: t => by
   have ih := tail_eq t
   by_cases h35 : c = 35
   · subst h35
     have e0 : findL [63, 35] (35 :: t) = 0 := by unfold findL; rw [in2]; rfl
     unfold paL deL
     rw [e0]
     simp [List.takeWhile_cons, List.dropWhile_cons, hqL, quL, afL]
   · by_cases h63 : c = 63
     · subst h63
       have e0 : findL [63, 35] (63 :: t) = 0 := by unfold findL; rw [in2]; rfl
       have hq : hqL (63 :: t) = true := rfl
       unfold paL deL quL afL
       rw [e0]
       simp only [List.drop_zero, hq, if_true, List.take_zero, List.drop_succ_cons]
       rw [(cut35 t).1, (cut35 t).2]
       simp [List.takeWhile_cons, List.dropWhile_cons]
     · have e0 : findL [63, 35] (c :: t) = findL [63, 35] t + 1 := by
         conv => lhs; unfold findL
         rw [in2, decide_eq_false h35, decide_eq_false h63]; rfl
       have e1 : paL (c :: t) = c :: paL t := by unfold paL; rw [e0]; rfl
       have e2 : deL (c :: t) = deL t := by unfold deL; rw [e0]; rfl
       rw [e1, e2, ih.1, ih.2.1, ih.2.2.1, ih.2.2.2]
       simp [List.takeWhile_cons, List.dropWhile_cons, h35, h63]
theorem brS_app (a b : ByteArray) : brS (a ++ b) = (brS a || brS b) := by
 unfold brS
 rw [← mkS_bl a, ← mkS_bl b, mkS_app, mkS_data, mkS_data, mkS_data, List.any_append]
theorem rAu_mk (r : List UInt8) : rAu (mkS r) = mkS (auL r) := by
 have e : rIn (mkS r) = mkS (r.drop 2) := by
   unfold rIn; rw [mkS_ext, sizeM, List.take_of_length_le (by simp)]
 have e2 : pD = mkS [47, 63, 35] := rfl
 unfold rAu auL
 rw [e, e2, find0, mkS_ext, List.drop_zero, Nat.sub_zero]
theorem rHA_mk (r : List UInt8) : rHA (mkS r) = haL r := rfl
theorem rAf_mk (r : List UInt8) : rAf (mkS r) = mkS (rsL r) := by
 have e : rIn (mkS r) = mkS (r.drop 2) := by
   unfold rIn; rw [mkS_ext, sizeM, List.take_of_length_le (by simp)]
 have e2 : pD = mkS [47, 63, 35] := rfl
 unfold rAf rsL
 rw [rHA_mk]
 split
 · rw [e, e2, find0, mkS_ext, sizeM, List.take_of_length_le (by simp only [List.length_drop]; omega)]
 · rfl
theorem dig_nB : digS nB = true := rfl
theorem br_nB : brS nB = false := rfl
theorem okR_eq (r : List UInt8) : okR r = (rOkU (mkS r) && tOk (mkS (rsL r))) := by
 obtain ⟨h1, h2, h3, h4⟩ := tail_eq (rsL r)
 unfold okR ok22 rOkU tOk tFr tPa tQu cutA cutB
 simp only [mkS_data]
 rw [h1, h3, h4, brS_app, brS_app, brS_app, brS_app, brS_app, rHA_mk, rAu_mk]
 generalize (((rsL r).dropWhile fun b => !decide (b = 35)).drop 1).any (fun b => decide (b = 35)) = F
 generalize brS (mkS (((rsL r).takeWhile fun b => !decide (b = 35)).takeWhile fun b => !decide (b = 63))) = G
 generalize brS (mkS ((((rsL r).takeWhile fun b => !decide (b = 35)).dropWhile fun b => !decide (b = 63)).drop 1)) = J
 generalize brS (mkS (((rsL r).dropWhile fun b => !decide (b = 35)).drop 1)) = M
 unfold usB poB hoB auOk
 cases hA : haL r with
 | true =>
   rw [if_pos rfl, if_pos rfl, if_pos rfl]
   generalize hostS (auHost (mkS (auL r))) = X
   generalize digS (auPort (mkS (auL r))) = Y
   generalize brS (auUsr (mkS (auL r))) = Z
   cases X <;> cases Y <;> cases Z <;> cases F <;> cases G <;> cases J <;> cases M <;> rfl
 | false =>
   rw [if_neg Bool.false_ne_true, if_neg Bool.false_ne_true, dig_nB, br_nB]
   cases F <;> cases G <;> cases J <;> cases M <;> rfl
theorem vR_eq (a : ByteArray) (r : List UInt8) : vR a r = uV2 a (mkS r) (mkS (rsL r)) := by
 obtain ⟨h1, h2, h3, h4⟩ := tail_eq (rsL r)
 have h5 := any_drop (fun b => decide (b = 35)) (rsL r)
 unfold vR v22 uV2 tFr tPa tQu tHQ tHF cutA cutB cutF
 simp only [mkS_data]
 rw [h1, h2, h3, h4, h5]
 unfold usB poB hoB huB hpB rUsr rHU rHost rPort rHP
 rw [rHA_mk, rAu_mk]
theorem uTl_mk (l : List UInt8) : uTl (mkS l) = mkS (l.drop (findL [58, 47, 63, 35] l)) := by
 have e : pC = mkS [58, 47, 63, 35] := rfl
 unfold uTl
 rw [e, find0, mkS_ext, sizeM, List.take_of_length_le (by simp)]
theorem uHd_mk (l : List UInt8) : uHd (mkS l) = mkS (l.take (findL [58, 47, 63, 35] l)) := by
 have e : pC = mkS [58, 47, 63, 35] := rfl
 unfold uHd
 rw [e, find0, mkS_ext, List.drop_zero, Nat.sub_zero]
theorem uHS_mk (l : List UInt8) : uHS (mkS l) = hcL l := by
 unfold uHS hcL
 rw [uTl_mk, toList_data, toList_data, mkS_data, mkS_at]
 cases l.drop (findL [58, 47, 63, 35] l) with
 | nil => rfl
 | cons c t =>
   have e : ((((c :: t).getD 0 0).toNat : Int) == 58) = (c == 58) := by
     rw [Bool.eq_iff_iff, beq_iff_eq, beq_iff_eq]
     constructor
     · intro hh
       have h2 : (c.toNat : Int) = ((58 : UInt8).toNat : Int) := hh
       exact u8_int.1 h2
     · intro hh; rw [hh]; rfl
   rw [e]; rfl
theorem uRst_mk (l : List UInt8) : uRst (mkS l) = mkS (l.drop (atL l)) := by
 unfold uRst atL
 rw [uHS_mk]
 cases hcL l with
 | true =>
   rw [if_pos rfl, if_pos rfl, uTl_mk, mkS_ext, sizeM, List.take_of_length_le (by simp only [List.length_drop]; omega), List.drop_drop]
 | false => rfl
theorem uSch_mk (l : List UInt8) : uSch (mkS l) = shL l := by
 unfold uSch shL
 rw [uHS_mk, uHd_mk]
theorem uSOk_mk (l : List UInt8) : uSOk (mkS l) = scL l := by
 unfold uSOk scL
 rw [uHS_mk, uHd_mk]
 cases hc : hcL l with
 | false => rfl
 | true =>
   rw [hc_get, Bool.and_eq_true, decide_eq_true_eq] at hc
   have hl := hc.1
   rw [toList_data, toList_data, mkS_data, mkS_ext, List.drop_zero, Nat.sub_zero]
   unfold allS
   rw [mkS_data, mkS_data]
   generalize findL [58, 47, 63, 35] l = f at hl
   cases f with
   | zero => rfl
   | succ f =>
     cases l with
     | nil => simp at hl
     | cons c t =>
       have e1 : (((c :: t).take (f + 1)) == (ByteArray.mk #[]).data.toList) = false := rfl
       have e2 : decide (f + 1 = 0) = false := rfl
       have e3 : ((c :: t).take (f + 1)).take 1 = [c] := rfl
       have e4 : (c :: t).getD 0 0 = c := rfl
       rw [e1, e2, e3, e4, List.all_cons, List.all_nil, Bool.and_true]
       generalize inS letC c.toNat = X
       generalize ((c :: t).take (f + 1)).all (fun c => inS schC c.toNat) = Y
       cases X <;> cases Y <;> rfl
theorem same22 (l : List UInt8) : (stS (mkS l) && (scL l && okR (l.drop (atL l)))) = uOk (mkS l) ∧ vR (shL l) (l.drop (atL l)) = uR (mkS l) := by
 unfold uOk uR
 rw [uSOk_mk, uRst_mk, uSch_mk, rAf_mk, okR_eq, vR_eq]
 refine ⟨?_, rfl⟩
 generalize stS (mkS l) = X
 generalize scL l = Y
 cases X <;> cases Y <;> rfl
def A22 : Table := fun g => if Nat.beq g 23 then L22 else A41 g
theorem g22 (hg : OnGlobals I ng) (h : Kw I ng A41) : Kw I ng A22 := known_add h (contract_of an22 hg (hok_of h) fun cargs rv outs h => by
 unfold L22 at h
 split at h <;> first | (cases h; done) | skip
 rename_i s
 by_cases hs : s.size ≤ 2500
 · refine ⟨3000, ?_⟩
   rw [abody_eq2 (ps := [.c (.str s)]) (H := []) rfl (by kernel_rfl)]
   obtain ⟨l, rfl⟩ : ∃ l, s = mkS l := ⟨_, (mkS_bl s).symm⟩
   have hz := vz22 l 3000 hs (Nat.le_refl _)
   rw [(same22 l).1, (same22 l).2] at hz
   refine Eq.trans hz ?_
   simp only [picked, pickAlt, decide_eq_true hs, Bool.true_and] at h
   unfold fin22
   cases hk : uOk (mkS l) with
   | true => rw [hk] at h; cases h; rfl
   | false => rw [hk] at h; cases h; rfl
 · simp only [picked, pickAlt, decide_eq_false hs, Bool.false_and] at h; cases h)
end Go.Pv
namespace Go.Pv
set_option maxRecDepth 100000
set_option maxHeartbeats 200000
open Go Go.Proofs
variable {I : World → Prop} {ng : Nat}
theorem g51 (hg : OnGlobals I ng) (h : Kw I ng A23) (h47 : Cw I ng 98 L47) (h51 : Cw I ng 67 L51) : Kw I ng A51 := known_add (g27 hg h h47) h51
theorem find_any (l : List UInt8) : (((findI (mkS l) 0 (ByteArray.mk #[58, 91, 93, 64]) : Nat) : Int) == ((l.length : Nat) : Int)) = !(l.any fun b => inS (ByteArray.mk #[58, 91, 93, 64]) b.toNat) := by
 have e : (ByteArray.mk #[58, 91, 93, 64]) = mkS [58, 91, 93, 64] := rfl
 rw [e, find0]
 have h1 := findL_lt [58, 91, 93, 64] l
 have h2 := findL_le [58, 91, 93, 64] l
 rw [← h1]
 by_cases h : findL [58, 91, 93, 64] l < l.length
 · rw [decide_eq_true h]
   refine Bool.eq_false_iff.2 fun hh => ?_
   have := eq_of_beq hh; omega
 · rw [decide_eq_false h]
   have : findL [58, 91, 93, 64] l = l.length := by omega
   rw [this]
   exact beq_iff_eq.2 rfl
theorem g41 (hg : OnGlobals I ng) (h : Kw I ng A23) (h47 : Cw I ng 98 L47) (h51 : Cw I ng 67 L51) : Kw I ng A41 := known_add (g51 hg h h47 h51) (contract_of (fun _ => none) hg (hok_of (g51 hg h h47 h51)) fun cargs rv outs h => by
 unfold L41 at h
 split at h <;> first | (cases h; done) | skip
 rename_i s
 by_cases hs : s.size ≤ 2500
 · simp only [picked, pickAlt, decide_eq_true hs] at h
   cases h
   refine ⟨1, ?_⟩
   obtain ⟨l, rfl⟩ : ∃ l, s = mkS l := ⟨_, (mkS_bl s).symm⟩
   rw [sizeM] at hs
   rw [ut41, sizeM]
   have b9 : decide ((ByteArray.mk #[58, 91, 93, 64]).size ≤ 10000) = true := rfl
   have t1 : Int.toNat 1 = 1 := rfl
   rw [toNat0, t1, b9, lez, decide_eq_true (show l.length ≤ 10000 by omega), le00, find_any]
   simp only [Bool.and_self, bT]
   unfold hostS
   rw [sizeM, mkS_data]
   by_cases h2 : 2 ≤ l.length
   · have hw : IntKind.i64.wrap (((l.length : Nat) : Int) - 1) = ((l.length - 1 : Nat) : Int) := by rw [wrap_id (by omega) (by omega)]; omega
     rw [hw, natM]
     rw [decide_eq_true (show ((l.length : Nat) : Int) ≥ 2 by omega), decide_eq_true (show (0 : Int) < ((l.length : Nat) : Int) by omega), decide_eq_true (show (0 : Int) ≤ ((l.length - 1 : Nat) : Int) by omega), decide_eq_true (show ((l.length - 1 : Nat) : Int) < ((l.length : Nat) : Int) by omega), decide_eq_true (show (1 : Int) ≤ ((l.length - 1 : Nat) : Int) by omega), decide_eq_true (show ((l.length - 1 : Nat) : Int) ≤ ((l.length : Nat) : Int) by omega), decide_eq_true h2]
     have hz : ((mkS l).extract 1 (l.length - 1)).size ≤ 3000 := by rw [ByteArray.size_extract, sizeM]; omega
     rw [decide_eq_true hz, atM, atM]
     simp only [bT, Bool.true_and]
     have p1 : preS (mkS l) ⟨#[91]⟩ = (((l.getD 0 0).toNat : Int) == 91) := by
       have : (((l.getD 0 0).toNat : Int) == 91) = (l.getD 0 0 == 91) := beq_by (l.getD 0 0) 91
       rw [this]
       unfold preS
       rw [mkS_data]
       cases l with
       | nil => simp at h2
       | cons a t =>
         show ([91] : List UInt8).isPrefixOf (a :: t) = (a == 91)
         rw [Bool.eq_iff_iff]
         simp [List.isPrefixOf]
         exact eq_comm
     have p2 : sufS (mkS l) ⟨#[93]⟩ = (((l.getD (l.length - 1) 0).toNat : Int) == 93) := by
       have : (((l.getD (l.length - 1) 0).toNat : Int) == 93) = (l.getD (l.length - 1) 0 == 93) := beq_by (l.getD (l.length - 1) 0) 93
       rw [this]
       unfold sufS
       rw [mkS_data]
       show ([93] : List UInt8).isSuffixOf l = _
       have hd : l.drop (l.length - 1) = [l.getD (l.length - 1) 0] := by
         rw [drop_getD (by omega), List.drop_of_length_le (by omega)]
       rw [Bool.eq_iff_iff, List.isSuffixOf_iff_suffix, List.suffix_iff_eq_drop, beq_iff_eq]
       have e1 : l.length - ([93] : List UInt8).length = l.length - 1 := rfl
       rw [e1, hd]
       constructor
       · intro h; simp at h; exact h.symm
       · intro h; rw [h]
     rw [p1, p2]
     generalize (((l.getD 0 0).toNat : Int) == 91) = A
     generalize (((l.getD (l.length - 1) 0).toNat : Int) == 93) = B
     generalize ip6 ((mkS l).extract 1 (l.length - 1)) = C
     generalize ip4 ((mkS l).extract 1 (l.length - 1)) = D
     generalize (l.any fun b => inS (ByteArray.mk #[58, 91, 93, 64]) b.toNat) = F
     cases A <;> cases B <;> cases C <;> cases D <;> cases F <;> rfl
   · rw [decide_eq_false (show ¬ ((l.length : Nat) : Int) ≥ 2 by omega), decide_eq_false h2, bF]
     simp only [Bool.false_and, Bool.false_eq_true, if_false]
 · simp only [picked, pickAlt, decide_eq_false hs] at h; cases h)
end Go.Pv
namespace Go.Pv
set_option maxRecDepth 100000
open Go Go.Proofs
def kBu : Nat := 2 + 4294967296 * (63 + 1)
def gBu : Nat := 1099511627776 * (5 + 1)
noncomputable def c20 : Code := codeOf Tryz.prog 48
def h20 : Head := ⟨[1, 3, 4], [(1001001, 1)], 2⟩
def h20e : Head := ⟨[3], [(1001001, 1)], 2⟩
def an20 : Ann := fun i => if Nat.beq i 500003 then some h20 else if Nat.beq i 500004 then some h20 else if Nat.beq i 500005 then some h20 else if Nat.beq i 500006 then some h20 else if Nat.beq i 500007 then some h20 else if Nat.beq i 500008 then some h20 else if Nat.beq i 500009 then some h20 else if Nat.beq i 500010 then some h20 else if Nat.beq i 500011 then some h20e else none
noncomputable def hd20 : Handler := inls Tryz.prog (fun _ => none) 4 [75, 50, 51, 76] (call' A0)
def E20 : Env := mkEnv 58 [(1, .bptr 0 0), (3, .bptr 1 0), (4, .fn 75 [.bptr 1 0])]
def B0 (u : CV) : Hp := [.box (.c u) kU, .box (.c (.agg [.nilptr, .nilsl])) kBu]
def B1 (u : CV) : Hp := [.box (.c u) kU, .box (.agg [.bptr 1 0, .c .nilsl]) kBu]
def B2 (u : CV) (xs : List CV) : Hp := [.box (.c u) kU, .box (.agg [.bptr 1 0, .rw 2 gBu]) kBu, .row xs 1 gBu false]
theorem tg0 (sc us ho po pa qu fr : ByteArray) (hu hp ha hq hf : Bool) (n : Nat) (L : Env → Hp → Res) : aexec Tryz.prog hd20 (filt an20 0) n (prefC 3 c20) (envOf Tryz.prog 48 [.c (uV sc us hu ho po hp ha pa qu hq fr hf)]) [] (thenK (headK h20 L) (endOf Tryz.prog 48 [])) =
 L (mkEnv 58 [(1, .bptr 0 0), (3, .bptr 1 0), (4, .fn 75 [.bptr 1 0])]) [.box (.c (CV.agg [CV.str sc, CV.str us, CV.bool hu, CV.str ho, CV.str po, CV.bool hp, CV.bool ha, CV.str pa, CV.str qu, CV.bool hq, CV.str fr, CV.bool hf])) (kOf (uV sc us hu ho po hp ha pa qu hq fr hf).cl.length 26), .box (.c (CV.agg [CV.nilptr, CV.nilsl])) kBu] := by kernel_rfl
theorem tg3a (sc us ho po pa qu fr : ByteArray) (hu hp ha hq hf : Bool) (n : Nat) (L : Env → Hp → Res) : aexecB Tryz.prog hd20 (filt an20 0) n (prefC 1 (tailC 3 c20)) E20 (B0 (uV sc us hu ho po hp ha pa qu hq fr hf)) (thenK (headK h20 L) (endOf Tryz.prog 48 [])) =
 bif' (!sc.toList == (ByteArray.mk #[]).toList) (bif' (decide ((strBytes sc).length * 1 ≤ 70368744177664)) (bif' (strBytes sc).isEmpty (bif' (!sc.toList == (ByteArray.mk #[]).toList) (L (mkEnv 58 [(1, .bptr 0 0), (3, .bptr 1 0), (4, .fn 75 [.bptr 1 0])]) [.box (.c (CV.agg [CV.str sc, CV.str us, CV.bool hu, CV.str ho, CV.str po, CV.bool hp, CV.bool ha, CV.str pa, CV.str qu, CV.bool hq, CV.str fr, CV.bool hf])) kU, .box (.agg [.bptr 1 0, .rw 2 6597069766656]) kBu, .row [CV.int .u8 (.ofNat 58)] 1 6597069766656 false]) (L (mkEnv 58 [(1, .bptr 0 0), (3, .bptr 1 0), (4, .fn 75 [.bptr 1 0])]) [.box (.c (CV.agg [CV.str sc, CV.str us, CV.bool hu, CV.str ho, CV.str po, CV.bool hp, CV.bool ha, CV.str pa, CV.str qu, CV.bool hq, CV.str fr, CV.bool hf])) kU, .box (.agg [.bptr 1 0, .c CV.nilsl]) kBu])) (bif' (!sc.toList == (ByteArray.mk #[]).toList) (bif' (decide (((strBytes sc).length + 1) * 1 ≤ 70368744177664)) (L (mkEnv 58 [(1, .bptr 0 0), (3, .bptr 1 0), (4, .fn 75 [.bptr 1 0])]) [.box (.c (CV.agg [CV.str sc, CV.str us, CV.bool hu, CV.str ho, CV.str po, CV.bool hp, CV.bool ha, CV.str pa, CV.str qu, CV.bool hq, CV.str fr, CV.bool hf])) kU, .box (.agg [.bptr 1 0, .rw 2 6597069766656]) kBu, .row (strBytes sc ++ strBytes (ByteArray.mk #[58])) 1 6597069766656 false]) none) (L (mkEnv 58 [(1, .bptr 0 0), (3, .bptr 1 0), (4, .fn 75 [.bptr 1 0])]) [.box (.c (CV.agg [CV.str sc, CV.str us, CV.bool hu, CV.str ho, CV.str po, CV.bool hp, CV.bool ha, CV.str pa, CV.str qu, CV.bool hq, CV.str fr, CV.bool hf])) kU, .box (.agg [.bptr 1 0, .rw 2 6597069766656]) kBu, .row (strBytes sc) 1 6597069766656 false]))) none) (bif' (!sc.toList == (ByteArray.mk #[]).toList) (L (mkEnv 58 [(1, .bptr 0 0), (3, .bptr 1 0), (4, .fn 75 [.bptr 1 0])]) [.box (.c (CV.agg [CV.str sc, CV.str us, CV.bool hu, CV.str ho, CV.str po, CV.bool hp, CV.bool ha, CV.str pa, CV.str qu, CV.bool hq, CV.str fr, CV.bool hf])) kU, .box (.agg [.bptr 1 0, .rw 2 6597069766656]) kBu, .row [CV.int .u8 (.ofNat 58)] 1 6597069766656 false]) (L (mkEnv 58 [(1, .bptr 0 0), (3, .bptr 1 0), (4, .fn 75 [.bptr 1 0])]) [.box (.c (CV.agg [CV.str sc, CV.str us, CV.bool hu, CV.str ho, CV.str po, CV.bool hp, CV.bool ha, CV.str pa, CV.str qu, CV.bool hq, CV.str fr, CV.bool hf])) kU, .box (.c (CV.agg [CV.nilptr, CV.nilsl])) kBu])) := by kernel_rfl
theorem tg4a (sc us ho po pa qu fr : ByteArray) (hu hp ha hq hf : Bool) (n : Nat) (L : Env → Hp → Res) : aexecB Tryz.prog hd20 (filt an20 0) n (prefC 1 (tailC 4 c20)) E20 (B0 (uV sc us hu ho po hp ha pa qu hq fr hf)) (thenK (headK h20 L) (endOf Tryz.prog 48 [])) =
 bif' ha (L (mkEnv 58 [(1, .bptr 0 0), (3, .bptr 1 0), (4, .fn 75 [.bptr 1 0])]) [.box (.c (CV.agg [CV.str sc, CV.str us, CV.bool hu, CV.str ho, CV.str po, CV.bool hp, CV.bool ha, CV.str pa, CV.str qu, CV.bool hq, CV.str fr, CV.bool hf])) kU, .box (.agg [.bptr 1 0, .rw 2 6597069766656]) kBu, .row [CV.int .u8 (.ofNat 47), CV.int .u8 (.ofNat 47)] 1 6597069766656 false]) (L (mkEnv 58 [(1, .bptr 0 0), (3, .bptr 1 0), (4, .fn 75 [.bptr 1 0])]) [.box (.c (CV.agg [CV.str sc, CV.str us, CV.bool hu, CV.str ho, CV.str po, CV.bool hp, CV.bool ha, CV.str pa, CV.str qu, CV.bool hq, CV.str fr, CV.bool hf])) kU, .box (.c (CV.agg [CV.nilptr, CV.nilsl])) kBu]) := by kernel_rfl
theorem tg4b (sc us ho po pa qu fr : ByteArray) (hu hp ha hq hf : Bool) (n : Nat) (L : Env → Hp → Res) : aexecB Tryz.prog hd20 (filt an20 0) n (prefC 1 (tailC 4 c20)) E20 (B1 (uV sc us hu ho po hp ha pa qu hq fr hf)) (thenK (headK h20 L) (endOf Tryz.prog 48 [])) =
 bif' ha (L (mkEnv 58 [(1, .bptr 0 0), (3, .bptr 1 0), (4, .fn 75 [.bptr 1 0])]) [.box (.c (CV.agg [CV.str sc, CV.str us, CV.bool hu, CV.str ho, CV.str po, CV.bool hp, CV.bool ha, CV.str pa, CV.str qu, CV.bool hq, CV.str fr, CV.bool hf])) kU, .box (.agg [.bptr 1 0, .rw 2 6597069766656]) kBu, .row [CV.int .u8 (.ofNat 47), CV.int .u8 (.ofNat 47)] 1 6597069766656 false]) (L (mkEnv 58 [(1, .bptr 0 0), (3, .bptr 1 0), (4, .fn 75 [.bptr 1 0])]) [.box (.c (CV.agg [CV.str sc, CV.str us, CV.bool hu, CV.str ho, CV.str po, CV.bool hp, CV.bool ha, CV.str pa, CV.str qu, CV.bool hq, CV.str fr, CV.bool hf])) kU, .box (.agg [.bptr 1 0, .c CV.nilsl]) kBu]) := by kernel_rfl
theorem tg4c (sc us ho po pa qu fr : ByteArray) (hu hp ha hq hf : Bool) (xs : List CV) (n : Nat) (L : Env → Hp → Res) : aexecB Tryz.prog hd20 (filt an20 0) n (prefC 1 (tailC 4 c20)) E20 (B2 (uV sc us hu ho po hp ha pa qu hq fr hf) xs) (thenK (headK h20 L) (endOf Tryz.prog 48 [])) =
 bif' ha (bif' (decide ((xs.length + 2) * 1 ≤ 70368744177664)) (L (mkEnv 58 [(1, .bptr 0 0), (3, .bptr 1 0), (4, .fn 75 [.bptr 1 0])]) [.box (.c (CV.agg [CV.str sc, CV.str us, CV.bool hu, CV.str ho, CV.str po, CV.bool hp, CV.bool ha, CV.str pa, CV.str qu, CV.bool hq, CV.str fr, CV.bool hf])) kU, .box (.agg [.bptr 1 0, .rw 2 6597069766656]) kBu, .row (xs ++ strBytes (ByteArray.mk #[47, 47])) 1 6597069766656 false]) none) (L (mkEnv 58 [(1, .bptr 0 0), (3, .bptr 1 0), (4, .fn 75 [.bptr 1 0])]) [.box (.c (CV.agg [CV.str sc, CV.str us, CV.bool hu, CV.str ho, CV.str po, CV.bool hp, CV.bool ha, CV.str pa, CV.str qu, CV.bool hq, CV.str fr, CV.bool hf])) kU, .box (.agg [.bptr 1 0, .rw 2 6597069766656]) kBu, .row xs 1 6597069766656 false]) := by kernel_rfl
theorem tg5a (sc us ho po pa qu fr : ByteArray) (hu hp ha hq hf : Bool) (n : Nat) (L : Env → Hp → Res) : aexecB Tryz.prog hd20 (filt an20 0) n (prefC 1 (tailC 5 c20)) E20 (B0 (uV sc us hu ho po hp ha pa qu hq fr hf)) (thenK (headK h20 L) (endOf Tryz.prog 48 [])) =
 bif' hu (bif' (decide ((strBytes us).length * 1 ≤ 70368744177664)) (bif' (strBytes us).isEmpty (bif' hu (L (mkEnv 58 [(1, .bptr 0 0), (3, .bptr 1 0), (4, .fn 75 [.bptr 1 0])]) [.box (.c (CV.agg [CV.str sc, CV.str us, CV.bool hu, CV.str ho, CV.str po, CV.bool hp, CV.bool ha, CV.str pa, CV.str qu, CV.bool hq, CV.str fr, CV.bool hf])) kU, .box (.agg [.bptr 1 0, .rw 2 6597069766656]) kBu, .row [CV.int .u8 (.ofNat 64)] 1 6597069766656 false]) (L (mkEnv 58 [(1, .bptr 0 0), (3, .bptr 1 0), (4, .fn 75 [.bptr 1 0])]) [.box (.c (CV.agg [CV.str sc, CV.str us, CV.bool hu, CV.str ho, CV.str po, CV.bool hp, CV.bool ha, CV.str pa, CV.str qu, CV.bool hq, CV.str fr, CV.bool hf])) kU, .box (.agg [.bptr 1 0, .c CV.nilsl]) kBu])) (bif' hu (bif' (decide (((strBytes us).length + 1) * 1 ≤ 70368744177664)) (L (mkEnv 58 [(1, .bptr 0 0), (3, .bptr 1 0), (4, .fn 75 [.bptr 1 0])]) [.box (.c (CV.agg [CV.str sc, CV.str us, CV.bool hu, CV.str ho, CV.str po, CV.bool hp, CV.bool ha, CV.str pa, CV.str qu, CV.bool hq, CV.str fr, CV.bool hf])) kU, .box (.agg [.bptr 1 0, .rw 2 6597069766656]) kBu, .row (strBytes us ++ strBytes (ByteArray.mk #[64])) 1 6597069766656 false]) none) (L (mkEnv 58 [(1, .bptr 0 0), (3, .bptr 1 0), (4, .fn 75 [.bptr 1 0])]) [.box (.c (CV.agg [CV.str sc, CV.str us, CV.bool hu, CV.str ho, CV.str po, CV.bool hp, CV.bool ha, CV.str pa, CV.str qu, CV.bool hq, CV.str fr, CV.bool hf])) kU, .box (.agg [.bptr 1 0, .rw 2 6597069766656]) kBu, .row (strBytes us) 1 6597069766656 false]))) none) (bif' hu (L (mkEnv 58 [(1, .bptr 0 0), (3, .bptr 1 0), (4, .fn 75 [.bptr 1 0])]) [.box (.c (CV.agg [CV.str sc, CV.str us, CV.bool hu, CV.str ho, CV.str po, CV.bool hp, CV.bool ha, CV.str pa, CV.str qu, CV.bool hq, CV.str fr, CV.bool hf])) kU, .box (.agg [.bptr 1 0, .rw 2 6597069766656]) kBu, .row [CV.int .u8 (.ofNat 64)] 1 6597069766656 false]) (L (mkEnv 58 [(1, .bptr 0 0), (3, .bptr 1 0), (4, .fn 75 [.bptr 1 0])]) [.box (.c (CV.agg [CV.str sc, CV.str us, CV.bool hu, CV.str ho, CV.str po, CV.bool hp, CV.bool ha, CV.str pa, CV.str qu, CV.bool hq, CV.str fr, CV.bool hf])) kU, .box (.c (CV.agg [CV.nilptr, CV.nilsl])) kBu])) := by kernel_rfl
theorem tg5b (sc us ho po pa qu fr : ByteArray) (hu hp ha hq hf : Bool) (n : Nat) (L : Env → Hp → Res) : aexecB Tryz.prog hd20 (filt an20 0) n (prefC 1 (tailC 5 c20)) E20 (B1 (uV sc us hu ho po hp ha pa qu hq fr hf)) (thenK (headK h20 L) (endOf Tryz.prog 48 [])) =
 bif' hu (bif' (decide ((strBytes us).length * 1 ≤ 70368744177664)) (bif' (strBytes us).isEmpty (bif' hu (L (mkEnv 58 [(1, .bptr 0 0), (3, .bptr 1 0), (4, .fn 75 [.bptr 1 0])]) [.box (.c (CV.agg [CV.str sc, CV.str us, CV.bool hu, CV.str ho, CV.str po, CV.bool hp, CV.bool ha, CV.str pa, CV.str qu, CV.bool hq, CV.str fr, CV.bool hf])) kU, .box (.agg [.bptr 1 0, .rw 2 6597069766656]) kBu, .row [CV.int .u8 (.ofNat 64)] 1 6597069766656 false]) (L (mkEnv 58 [(1, .bptr 0 0), (3, .bptr 1 0), (4, .fn 75 [.bptr 1 0])]) [.box (.c (CV.agg [CV.str sc, CV.str us, CV.bool hu, CV.str ho, CV.str po, CV.bool hp, CV.bool ha, CV.str pa, CV.str qu, CV.bool hq, CV.str fr, CV.bool hf])) kU, .box (.agg [.bptr 1 0, .c CV.nilsl]) kBu])) (bif' hu (bif' (decide (((strBytes us).length + 1) * 1 ≤ 70368744177664)) (L (mkEnv 58 [(1, .bptr 0 0), (3, .bptr 1 0), (4, .fn 75 [.bptr 1 0])]) [.box (.c (CV.agg [CV.str sc, CV.str us, CV.bool hu, CV.str ho, CV.str po, CV.bool hp, CV.bool ha, CV.str pa, CV.str qu, CV.bool hq, CV.str fr, CV.bool hf])) kU, .box (.agg [.bptr 1 0, .rw 2 6597069766656]) kBu, .row (strBytes us ++ strBytes (ByteArray.mk #[64])) 1 6597069766656 false]) none) (L (mkEnv 58 [(1, .bptr 0 0), (3, .bptr 1 0), (4, .fn 75 [.bptr 1 0])]) [.box (.c (CV.agg [CV.str sc, CV.str us, CV.bool hu, CV.str ho, CV.str po, CV.bool hp, CV.bool ha, CV.str pa, CV.str qu, CV.bool hq, CV.str fr, CV.bool hf])) kU, .box (.agg [.bptr 1 0, .rw 2 6597069766656]) kBu, .row (strBytes us) 1 6597069766656 false]))) none) (bif' hu (L (mkEnv 58 [(1, .bptr 0 0), (3, .bptr 1 0), (4, .fn 75 [.bptr 1 0])]) [.box (.c (CV.agg [CV.str sc, CV.str us, CV.bool hu, CV.str ho, CV.str po, CV.bool hp, CV.bool ha, CV.str pa, CV.str qu, CV.bool hq, CV.str fr, CV.bool hf])) kU, .box (.agg [.bptr 1 0, .rw 2 6597069766656]) kBu, .row [CV.int .u8 (.ofNat 64)] 1 6597069766656 false]) (L (mkEnv 58 [(1, .bptr 0 0), (3, .bptr 1 0), (4, .fn 75 [.bptr 1 0])]) [.box (.c (CV.agg [CV.str sc, CV.str us, CV.bool hu, CV.str ho, CV.str po, CV.bool hp, CV.bool ha, CV.str pa, CV.str qu, CV.bool hq, CV.str fr, CV.bool hf])) kU, .box (.agg [.bptr 1 0, .c CV.nilsl]) kBu])) := by kernel_rfl
theorem tg5c (sc us ho po pa qu fr : ByteArray) (hu hp ha hq hf : Bool) (xs : List CV) (n : Nat) (L : Env → Hp → Res) : aexecB Tryz.prog hd20 (filt an20 0) n (prefC 1 (tailC 5 c20)) E20 (B2 (uV sc us hu ho po hp ha pa qu hq fr hf) xs) (thenK (headK h20 L) (endOf Tryz.prog 48 [])) =
 bif' hu (bif' (decide ((xs.length + (strBytes us).length) * 1 ≤ 70368744177664)) (bif' hu (bif' (decide (((xs ++ strBytes us).length + 1) * 1 ≤ 70368744177664)) (L (mkEnv 58 [(1, .bptr 0 0), (3, .bptr 1 0), (4, .fn 75 [.bptr 1 0])]) [.box (.c (CV.agg [CV.str sc, CV.str us, CV.bool hu, CV.str ho, CV.str po, CV.bool hp, CV.bool ha, CV.str pa, CV.str qu, CV.bool hq, CV.str fr, CV.bool hf])) kU, .box (.agg [.bptr 1 0, .rw 2 6597069766656]) kBu, .row (xs ++ strBytes us ++ strBytes (ByteArray.mk #[64])) 1 6597069766656 false]) none) (L (mkEnv 58 [(1, .bptr 0 0), (3, .bptr 1 0), (4, .fn 75 [.bptr 1 0])]) [.box (.c (CV.agg [CV.str sc, CV.str us, CV.bool hu, CV.str ho, CV.str po, CV.bool hp, CV.bool ha, CV.str pa, CV.str qu, CV.bool hq, CV.str fr, CV.bool hf])) kU, .box (.agg [.bptr 1 0, .rw 2 6597069766656]) kBu, .row (xs ++ strBytes us) 1 6597069766656 false])) none) (bif' hu (bif' (decide ((xs.length + 1) * 1 ≤ 70368744177664)) (L (mkEnv 58 [(1, .bptr 0 0), (3, .bptr 1 0), (4, .fn 75 [.bptr 1 0])]) [.box (.c (CV.agg [CV.str sc, CV.str us, CV.bool hu, CV.str ho, CV.str po, CV.bool hp, CV.bool ha, CV.str pa, CV.str qu, CV.bool hq, CV.str fr, CV.bool hf])) kU, .box (.agg [.bptr 1 0, .rw 2 6597069766656]) kBu, .row (xs ++ strBytes (ByteArray.mk #[64])) 1 6597069766656 false]) none) (L (mkEnv 58 [(1, .bptr 0 0), (3, .bptr 1 0), (4, .fn 75 [.bptr 1 0])]) [.box (.c (CV.agg [CV.str sc, CV.str us, CV.bool hu, CV.str ho, CV.str po, CV.bool hp, CV.bool ha, CV.str pa, CV.str qu, CV.bool hq, CV.str fr, CV.bool hf])) kU, .box (.agg [.bptr 1 0, .rw 2 6597069766656]) kBu, .row xs 1 6597069766656 false])) := by kernel_rfl
theorem tg6a (sc us ho po pa qu fr : ByteArray) (hu hp ha hq hf : Bool) (n : Nat) (L : Env → Hp → Res) : aexecB Tryz.prog hd20 (filt an20 0) n (prefC 1 (tailC 6 c20)) E20 (B0 (uV sc us hu ho po hp ha pa qu hq fr hf)) (thenK (headK h20 L) (endOf Tryz.prog 48 [])) =
 bif' (decide ((strBytes ho).length * 1 ≤ 70368744177664)) (bif' (strBytes ho).isEmpty (L (mkEnv 58 [(1, .bptr 0 0), (3, .bptr 1 0), (4, .fn 75 [.bptr 1 0])]) [.box (.c (CV.agg [CV.str sc, CV.str us, CV.bool hu, CV.str ho, CV.str po, CV.bool hp, CV.bool ha, CV.str pa, CV.str qu, CV.bool hq, CV.str fr, CV.bool hf])) kU, .box (.agg [.bptr 1 0, .c CV.nilsl]) kBu]) (L (mkEnv 58 [(1, .bptr 0 0), (3, .bptr 1 0), (4, .fn 75 [.bptr 1 0])]) [.box (.c (CV.agg [CV.str sc, CV.str us, CV.bool hu, CV.str ho, CV.str po, CV.bool hp, CV.bool ha, CV.str pa, CV.str qu, CV.bool hq, CV.str fr, CV.bool hf])) kU, .box (.agg [.bptr 1 0, .rw 2 6597069766656]) kBu, .row (strBytes ho) 1 6597069766656 false])) none := by kernel_rfl
theorem tg6b (sc us ho po pa qu fr : ByteArray) (hu hp ha hq hf : Bool) (n : Nat) (L : Env → Hp → Res) : aexecB Tryz.prog hd20 (filt an20 0) n (prefC 1 (tailC 6 c20)) E20 (B1 (uV sc us hu ho po hp ha pa qu hq fr hf)) (thenK (headK h20 L) (endOf Tryz.prog 48 [])) =
 bif' (decide ((strBytes ho).length * 1 ≤ 70368744177664)) (bif' (strBytes ho).isEmpty (L (mkEnv 58 [(1, .bptr 0 0), (3, .bptr 1 0), (4, .fn 75 [.bptr 1 0])]) [.box (.c (CV.agg [CV.str sc, CV.str us, CV.bool hu, CV.str ho, CV.str po, CV.bool hp, CV.bool ha, CV.str pa, CV.str qu, CV.bool hq, CV.str fr, CV.bool hf])) kU, .box (.agg [.bptr 1 0, .c CV.nilsl]) kBu]) (L (mkEnv 58 [(1, .bptr 0 0), (3, .bptr 1 0), (4, .fn 75 [.bptr 1 0])]) [.box (.c (CV.agg [CV.str sc, CV.str us, CV.bool hu, CV.str ho, CV.str po, CV.bool hp, CV.bool ha, CV.str pa, CV.str qu, CV.bool hq, CV.str fr, CV.bool hf])) kU, .box (.agg [.bptr 1 0, .rw 2 6597069766656]) kBu, .row (strBytes ho) 1 6597069766656 false])) none := by kernel_rfl
theorem tg6c (sc us ho po pa qu fr : ByteArray) (hu hp ha hq hf : Bool) (xs : List CV) (n : Nat) (L : Env → Hp → Res) : aexecB Tryz.prog hd20 (filt an20 0) n (prefC 1 (tailC 6 c20)) E20 (B2 (uV sc us hu ho po hp ha pa qu hq fr hf) xs) (thenK (headK h20 L) (endOf Tryz.prog 48 [])) =
 bif' (decide ((xs.length + (strBytes ho).length) * 1 ≤ 70368744177664)) (L (mkEnv 58 [(1, .bptr 0 0), (3, .bptr 1 0), (4, .fn 75 [.bptr 1 0])]) [.box (.c (CV.agg [CV.str sc, CV.str us, CV.bool hu, CV.str ho, CV.str po, CV.bool hp, CV.bool ha, CV.str pa, CV.str qu, CV.bool hq, CV.str fr, CV.bool hf])) kU, .box (.agg [.bptr 1 0, .rw 2 6597069766656]) kBu, .row (xs ++ strBytes ho) 1 6597069766656 false]) none := by kernel_rfl
theorem tg7b (sc us ho po pa qu fr : ByteArray) (hu hp ha hq hf : Bool) (n : Nat) (L : Env → Hp → Res) : aexecB Tryz.prog hd20 (filt an20 0) n (prefC 1 (tailC 7 c20)) E20 (B1 (uV sc us hu ho po hp ha pa qu hq fr hf)) (thenK (headK h20 L) (endOf Tryz.prog 48 [])) =
 bif' hp (bif' hp (bif' (decide ((1 + (strBytes po).length) * 1 ≤ 70368744177664)) (L (mkEnv 58 [(1, .bptr 0 0), (3, .bptr 1 0), (4, .fn 75 [.bptr 1 0])]) [.box (.c (CV.agg [CV.str sc, CV.str us, CV.bool hu, CV.str ho, CV.str po, CV.bool hp, CV.bool ha, CV.str pa, CV.str qu, CV.bool hq, CV.str fr, CV.bool hf])) kU, .box (.agg [.bptr 1 0, .rw 2 6597069766656]) kBu, .row (CV.int .u8 (.ofNat 58) :: strBytes po) 1 6597069766656 false]) none) (L (mkEnv 58 [(1, .bptr 0 0), (3, .bptr 1 0), (4, .fn 75 [.bptr 1 0])]) [.box (.c (CV.agg [CV.str sc, CV.str us, CV.bool hu, CV.str ho, CV.str po, CV.bool hp, CV.bool ha, CV.str pa, CV.str qu, CV.bool hq, CV.str fr, CV.bool hf])) kU, .box (.agg [.bptr 1 0, .rw 2 6597069766656]) kBu, .row [CV.int .u8 (.ofNat 58)] 1 6597069766656 false])) (bif' hp (bif' (decide ((strBytes po).length * 1 ≤ 70368744177664)) (bif' (strBytes po).isEmpty (L (mkEnv 58 [(1, .bptr 0 0), (3, .bptr 1 0), (4, .fn 75 [.bptr 1 0])]) [.box (.c (CV.agg [CV.str sc, CV.str us, CV.bool hu, CV.str ho, CV.str po, CV.bool hp, CV.bool ha, CV.str pa, CV.str qu, CV.bool hq, CV.str fr, CV.bool hf])) kU, .box (.agg [.bptr 1 0, .c CV.nilsl]) kBu]) (L (mkEnv 58 [(1, .bptr 0 0), (3, .bptr 1 0), (4, .fn 75 [.bptr 1 0])]) [.box (.c (CV.agg [CV.str sc, CV.str us, CV.bool hu, CV.str ho, CV.str po, CV.bool hp, CV.bool ha, CV.str pa, CV.str qu, CV.bool hq, CV.str fr, CV.bool hf])) kU, .box (.agg [.bptr 1 0, .rw 2 6597069766656]) kBu, .row (strBytes po) 1 6597069766656 false])) none) (L (mkEnv 58 [(1, .bptr 0 0), (3, .bptr 1 0), (4, .fn 75 [.bptr 1 0])]) [.box (.c (CV.agg [CV.str sc, CV.str us, CV.bool hu, CV.str ho, CV.str po, CV.bool hp, CV.bool ha, CV.str pa, CV.str qu, CV.bool hq, CV.str fr, CV.bool hf])) kU, .box (.agg [.bptr 1 0, .c CV.nilsl]) kBu])) := by kernel_rfl
theorem tg7c (sc us ho po pa qu fr : ByteArray) (hu hp ha hq hf : Bool) (xs : List CV) (n : Nat) (L : Env → Hp → Res) : aexecB Tryz.prog hd20 (filt an20 0) n (prefC 1 (tailC 7 c20)) E20 (B2 (uV sc us hu ho po hp ha pa qu hq fr hf) xs) (thenK (headK h20 L) (endOf Tryz.prog 48 [])) =
 bif' hp (bif' (decide ((xs.length + 1) * 1 ≤ 70368744177664)) (bif' hp (bif' (decide (((xs ++ strBytes (ByteArray.mk #[58])).length + (strBytes po).length) * 1 ≤ 70368744177664)) (L (mkEnv 58 [(1, .bptr 0 0), (3, .bptr 1 0), (4, .fn 75 [.bptr 1 0])]) [.box (.c (CV.agg [CV.str sc, CV.str us, CV.bool hu, CV.str ho, CV.str po, CV.bool hp, CV.bool ha, CV.str pa, CV.str qu, CV.bool hq, CV.str fr, CV.bool hf])) kU, .box (.agg [.bptr 1 0, .rw 2 6597069766656]) kBu, .row (xs ++ strBytes (ByteArray.mk #[58]) ++ strBytes po) 1 6597069766656 false]) none) (L (mkEnv 58 [(1, .bptr 0 0), (3, .bptr 1 0), (4, .fn 75 [.bptr 1 0])]) [.box (.c (CV.agg [CV.str sc, CV.str us, CV.bool hu, CV.str ho, CV.str po, CV.bool hp, CV.bool ha, CV.str pa, CV.str qu, CV.bool hq, CV.str fr, CV.bool hf])) kU, .box (.agg [.bptr 1 0, .rw 2 6597069766656]) kBu, .row (xs ++ strBytes (ByteArray.mk #[58])) 1 6597069766656 false])) none) (bif' hp (bif' (decide ((xs.length + (strBytes po).length) * 1 ≤ 70368744177664)) (L (mkEnv 58 [(1, .bptr 0 0), (3, .bptr 1 0), (4, .fn 75 [.bptr 1 0])]) [.box (.c (CV.agg [CV.str sc, CV.str us, CV.bool hu, CV.str ho, CV.str po, CV.bool hp, CV.bool ha, CV.str pa, CV.str qu, CV.bool hq, CV.str fr, CV.bool hf])) kU, .box (.agg [.bptr 1 0, .rw 2 6597069766656]) kBu, .row (xs ++ strBytes po) 1 6597069766656 false]) none) (L (mkEnv 58 [(1, .bptr 0 0), (3, .bptr 1 0), (4, .fn 75 [.bptr 1 0])]) [.box (.c (CV.agg [CV.str sc, CV.str us, CV.bool hu, CV.str ho, CV.str po, CV.bool hp, CV.bool ha, CV.str pa, CV.str qu, CV.bool hq, CV.str fr, CV.bool hf])) kU, .box (.agg [.bptr 1 0, .rw 2 6597069766656]) kBu, .row xs 1 6597069766656 false])) := by kernel_rfl
theorem tg8b (sc us ho po pa qu fr : ByteArray) (hu hp ha hq hf : Bool) (n : Nat) (L : Env → Hp → Res) : aexecB Tryz.prog hd20 (filt an20 0) n (prefC 1 (tailC 8 c20)) E20 (B1 (uV sc us hu ho po hp ha pa qu hq fr hf)) (thenK (headK h20 L) (endOf Tryz.prog 48 [])) =
 bif' (decide ((strBytes pa).length * 1 ≤ 70368744177664)) (bif' (strBytes pa).isEmpty (L (mkEnv 58 [(1, .bptr 0 0), (3, .bptr 1 0), (4, .fn 75 [.bptr 1 0])]) [.box (.c (CV.agg [CV.str sc, CV.str us, CV.bool hu, CV.str ho, CV.str po, CV.bool hp, CV.bool ha, CV.str pa, CV.str qu, CV.bool hq, CV.str fr, CV.bool hf])) kU, .box (.agg [.bptr 1 0, .c CV.nilsl]) kBu]) (L (mkEnv 58 [(1, .bptr 0 0), (3, .bptr 1 0), (4, .fn 75 [.bptr 1 0])]) [.box (.c (CV.agg [CV.str sc, CV.str us, CV.bool hu, CV.str ho, CV.str po, CV.bool hp, CV.bool ha, CV.str pa, CV.str qu, CV.bool hq, CV.str fr, CV.bool hf])) kU, .box (.agg [.bptr 1 0, .rw 2 6597069766656]) kBu, .row (strBytes pa) 1 6597069766656 false])) none := by kernel_rfl
theorem tg8c (sc us ho po pa qu fr : ByteArray) (hu hp ha hq hf : Bool) (xs : List CV) (n : Nat) (L : Env → Hp → Res) : aexecB Tryz.prog hd20 (filt an20 0) n (prefC 1 (tailC 8 c20)) E20 (B2 (uV sc us hu ho po hp ha pa qu hq fr hf) xs) (thenK (headK h20 L) (endOf Tryz.prog 48 [])) =
 bif' (decide ((xs.length + (strBytes pa).length) * 1 ≤ 70368744177664)) (L (mkEnv 58 [(1, .bptr 0 0), (3, .bptr 1 0), (4, .fn 75 [.bptr 1 0])]) [.box (.c (CV.agg [CV.str sc, CV.str us, CV.bool hu, CV.str ho, CV.str po, CV.bool hp, CV.bool ha, CV.str pa, CV.str qu, CV.bool hq, CV.str fr, CV.bool hf])) kU, .box (.agg [.bptr 1 0, .rw 2 6597069766656]) kBu, .row (xs ++ strBytes pa) 1 6597069766656 false]) none := by kernel_rfl
theorem tg9b (sc us ho po pa qu fr : ByteArray) (hu hp ha hq hf : Bool) (n : Nat) (L : Env → Hp → Res) : aexecB Tryz.prog hd20 (filt an20 0) n (prefC 1 (tailC 9 c20)) E20 (B1 (uV sc us hu ho po hp ha pa qu hq fr hf)) (thenK (headK h20 L) (endOf Tryz.prog 48 [])) =
 bif' hq (bif' hq (bif' (decide ((1 + (strBytes qu).length) * 1 ≤ 70368744177664)) (L (mkEnv 58 [(1, .bptr 0 0), (3, .bptr 1 0), (4, .fn 75 [.bptr 1 0])]) [.box (.c (CV.agg [CV.str sc, CV.str us, CV.bool hu, CV.str ho, CV.str po, CV.bool hp, CV.bool ha, CV.str pa, CV.str qu, CV.bool hq, CV.str fr, CV.bool hf])) kU, .box (.agg [.bptr 1 0, .rw 2 6597069766656]) kBu, .row (CV.int .u8 (.ofNat 63) :: strBytes qu) 1 6597069766656 false]) none) (L (mkEnv 58 [(1, .bptr 0 0), (3, .bptr 1 0), (4, .fn 75 [.bptr 1 0])]) [.box (.c (CV.agg [CV.str sc, CV.str us, CV.bool hu, CV.str ho, CV.str po, CV.bool hp, CV.bool ha, CV.str pa, CV.str qu, CV.bool hq, CV.str fr, CV.bool hf])) kU, .box (.agg [.bptr 1 0, .rw 2 6597069766656]) kBu, .row [CV.int .u8 (.ofNat 63)] 1 6597069766656 false])) (bif' hq (bif' (decide ((strBytes qu).length * 1 ≤ 70368744177664)) (bif' (strBytes qu).isEmpty (L (mkEnv 58 [(1, .bptr 0 0), (3, .bptr 1 0), (4, .fn 75 [.bptr 1 0])]) [.box (.c (CV.agg [CV.str sc, CV.str us, CV.bool hu, CV.str ho, CV.str po, CV.bool hp, CV.bool ha, CV.str pa, CV.str qu, CV.bool hq, CV.str fr, CV.bool hf])) kU, .box (.agg [.bptr 1 0, .c CV.nilsl]) kBu]) (L (mkEnv 58 [(1, .bptr 0 0), (3, .bptr 1 0), (4, .fn 75 [.bptr 1 0])]) [.box (.c (CV.agg [CV.str sc, CV.str us, CV.bool hu, CV.str ho, CV.str po, CV.bool hp, CV.bool ha, CV.str pa, CV.str qu, CV.bool hq, CV.str fr, CV.bool hf])) kU, .box (.agg [.bptr 1 0, .rw 2 6597069766656]) kBu, .row (strBytes qu) 1 6597069766656 false])) none) (L (mkEnv 58 [(1, .bptr 0 0), (3, .bptr 1 0), (4, .fn 75 [.bptr 1 0])]) [.box (.c (CV.agg [CV.str sc, CV.str us, CV.bool hu, CV.str ho, CV.str po, CV.bool hp, CV.bool ha, CV.str pa, CV.str qu, CV.bool hq, CV.str fr, CV.bool hf])) kU, .box (.agg [.bptr 1 0, .c CV.nilsl]) kBu])) := by kernel_rfl
theorem tg9c (sc us ho po pa qu fr : ByteArray) (hu hp ha hq hf : Bool) (xs : List CV) (n : Nat) (L : Env → Hp → Res) : aexecB Tryz.prog hd20 (filt an20 0) n (prefC 1 (tailC 9 c20)) E20 (B2 (uV sc us hu ho po hp ha pa qu hq fr hf) xs) (thenK (headK h20 L) (endOf Tryz.prog 48 [])) =
 bif' hq (bif' (decide ((xs.length + 1) * 1 ≤ 70368744177664)) (bif' hq (bif' (decide (((xs ++ strBytes (ByteArray.mk #[63])).length + (strBytes qu).length) * 1 ≤ 70368744177664)) (L (mkEnv 58 [(1, .bptr 0 0), (3, .bptr 1 0), (4, .fn 75 [.bptr 1 0])]) [.box (.c (CV.agg [CV.str sc, CV.str us, CV.bool hu, CV.str ho, CV.str po, CV.bool hp, CV.bool ha, CV.str pa, CV.str qu, CV.bool hq, CV.str fr, CV.bool hf])) kU, .box (.agg [.bptr 1 0, .rw 2 6597069766656]) kBu, .row (xs ++ strBytes (ByteArray.mk #[63]) ++ strBytes qu) 1 6597069766656 false]) none) (L (mkEnv 58 [(1, .bptr 0 0), (3, .bptr 1 0), (4, .fn 75 [.bptr 1 0])]) [.box (.c (CV.agg [CV.str sc, CV.str us, CV.bool hu, CV.str ho, CV.str po, CV.bool hp, CV.bool ha, CV.str pa, CV.str qu, CV.bool hq, CV.str fr, CV.bool hf])) kU, .box (.agg [.bptr 1 0, .rw 2 6597069766656]) kBu, .row (xs ++ strBytes (ByteArray.mk #[63])) 1 6597069766656 false])) none) (bif' hq (bif' (decide ((xs.length + (strBytes qu).length) * 1 ≤ 70368744177664)) (L (mkEnv 58 [(1, .bptr 0 0), (3, .bptr 1 0), (4, .fn 75 [.bptr 1 0])]) [.box (.c (CV.agg [CV.str sc, CV.str us, CV.bool hu, CV.str ho, CV.str po, CV.bool hp, CV.bool ha, CV.str pa, CV.str qu, CV.bool hq, CV.str fr, CV.bool hf])) kU, .box (.agg [.bptr 1 0, .rw 2 6597069766656]) kBu, .row (xs ++ strBytes qu) 1 6597069766656 false]) none) (L (mkEnv 58 [(1, .bptr 0 0), (3, .bptr 1 0), (4, .fn 75 [.bptr 1 0])]) [.box (.c (CV.agg [CV.str sc, CV.str us, CV.bool hu, CV.str ho, CV.str po, CV.bool hp, CV.bool ha, CV.str pa, CV.str qu, CV.bool hq, CV.str fr, CV.bool hf])) kU, .box (.agg [.bptr 1 0, .rw 2 6597069766656]) kBu, .row xs 1 6597069766656 false])) := by kernel_rfl
theorem tg10b (sc us ho po pa qu fr : ByteArray) (hu hp ha hq hf : Bool) (n : Nat) (L : Env → Hp → Res) : aexecB Tryz.prog hd20 (filt an20 0) n (prefC 1 (tailC 10 c20)) E20 (B1 (uV sc us hu ho po hp ha pa qu hq fr hf)) (thenK (headK h20e L) (endOf Tryz.prog 48 [])) =
 bif' hf (bif' hf (bif' (decide ((1 + (strBytes fr).length) * 1 ≤ 70368744177664)) (L (mkEnv 58 [(3, .bptr 1 0)]) [.box (.c (CV.agg [CV.str sc, CV.str us, CV.bool hu, CV.str ho, CV.str po, CV.bool hp, CV.bool ha, CV.str pa, CV.str qu, CV.bool hq, CV.str fr, CV.bool hf])) kU, .box (.agg [.bptr 1 0, .rw 2 6597069766656]) kBu, .row (CV.int .u8 (.ofNat 35) :: strBytes fr) 1 6597069766656 false]) none) (L (mkEnv 58 [(3, .bptr 1 0)]) [.box (.c (CV.agg [CV.str sc, CV.str us, CV.bool hu, CV.str ho, CV.str po, CV.bool hp, CV.bool ha, CV.str pa, CV.str qu, CV.bool hq, CV.str fr, CV.bool hf])) kU, .box (.agg [.bptr 1 0, .rw 2 6597069766656]) kBu, .row [CV.int .u8 (.ofNat 35)] 1 6597069766656 false])) (bif' hf (bif' (decide ((strBytes fr).length * 1 ≤ 70368744177664)) (bif' (strBytes fr).isEmpty (L (mkEnv 58 [(3, .bptr 1 0)]) [.box (.c (CV.agg [CV.str sc, CV.str us, CV.bool hu, CV.str ho, CV.str po, CV.bool hp, CV.bool ha, CV.str pa, CV.str qu, CV.bool hq, CV.str fr, CV.bool hf])) kU, .box (.agg [.bptr 1 0, .c CV.nilsl]) kBu]) (L (mkEnv 58 [(3, .bptr 1 0)]) [.box (.c (CV.agg [CV.str sc, CV.str us, CV.bool hu, CV.str ho, CV.str po, CV.bool hp, CV.bool ha, CV.str pa, CV.str qu, CV.bool hq, CV.str fr, CV.bool hf])) kU, .box (.agg [.bptr 1 0, .rw 2 6597069766656]) kBu, .row (strBytes fr) 1 6597069766656 false])) none) (L (mkEnv 58 [(3, .bptr 1 0)]) [.box (.c (CV.agg [CV.str sc, CV.str us, CV.bool hu, CV.str ho, CV.str po, CV.bool hp, CV.bool ha, CV.str pa, CV.str qu, CV.bool hq, CV.str fr, CV.bool hf])) kU, .box (.agg [.bptr 1 0, .c CV.nilsl]) kBu])) := by kernel_rfl
theorem tg10c (sc us ho po pa qu fr : ByteArray) (hu hp ha hq hf : Bool) (xs : List CV) (n : Nat) (L : Env → Hp → Res) : aexecB Tryz.prog hd20 (filt an20 0) n (prefC 1 (tailC 10 c20)) E20 (B2 (uV sc us hu ho po hp ha pa qu hq fr hf) xs) (thenK (headK h20e L) (endOf Tryz.prog 48 [])) =
 bif' hf (bif' (decide ((xs.length + 1) * 1 ≤ 70368744177664)) (bif' hf (bif' (decide (((xs ++ strBytes (ByteArray.mk #[35])).length + (strBytes fr).length) * 1 ≤ 70368744177664)) (L (mkEnv 58 [(3, .bptr 1 0)]) [.box (.c (CV.agg [CV.str sc, CV.str us, CV.bool hu, CV.str ho, CV.str po, CV.bool hp, CV.bool ha, CV.str pa, CV.str qu, CV.bool hq, CV.str fr, CV.bool hf])) kU, .box (.agg [.bptr 1 0, .rw 2 6597069766656]) kBu, .row (xs ++ strBytes (ByteArray.mk #[35]) ++ strBytes fr) 1 6597069766656 false]) none) (L (mkEnv 58 [(3, .bptr 1 0)]) [.box (.c (CV.agg [CV.str sc, CV.str us, CV.bool hu, CV.str ho, CV.str po, CV.bool hp, CV.bool ha, CV.str pa, CV.str qu, CV.bool hq, CV.str fr, CV.bool hf])) kU, .box (.agg [.bptr 1 0, .rw 2 6597069766656]) kBu, .row (xs ++ strBytes (ByteArray.mk #[35])) 1 6597069766656 false])) none) (bif' hf (bif' (decide ((xs.length + (strBytes fr).length) * 1 ≤ 70368744177664)) (L (mkEnv 58 [(3, .bptr 1 0)]) [.box (.c (CV.agg [CV.str sc, CV.str us, CV.bool hu, CV.str ho, CV.str po, CV.bool hp, CV.bool ha, CV.str pa, CV.str qu, CV.bool hq, CV.str fr, CV.bool hf])) kU, .box (.agg [.bptr 1 0, .rw 2 6597069766656]) kBu, .row (xs ++ strBytes fr) 1 6597069766656 false]) none) (L (mkEnv 58 [(3, .bptr 1 0)]) [.box (.c (CV.agg [CV.str sc, CV.str us, CV.bool hu, CV.str ho, CV.str po, CV.bool hp, CV.bool ha, CV.str pa, CV.str qu, CV.bool hq, CV.str fr, CV.bool hf])) kU, .box (.agg [.bptr 1 0, .rw 2 6597069766656]) kBu, .row xs 1 6597069766656 false])) := by kernel_rfl
theorem tg11b (sc us ho po pa qu fr : ByteArray) (hu hp ha hq hf : Bool) (n : Nat) : aexecB Tryz.prog hd20 (filt an20 0) n (tailC 11 c20) (mkEnv 58 [(3, .bptr 1 0)]) (B1 (uV sc us hu ho po hp ha pa qu hq fr hf)) (endOf Tryz.prog 48 []) =
 some (CV.str ⟨⟨[]⟩⟩, []) := by kernel_rfl
theorem tg11c (sc us ho po pa qu fr : ByteArray) (hu hp ha hq hf : Bool) (xs : List CV) (n : Nat) : aexecB Tryz.prog hd20 (filt an20 0) n (tailC 11 c20) (mkEnv 58 [(3, .bptr 1 0)]) (B2 (uV sc us hu ho po hp ha pa qu hq fr hf) xs) (endOf Tryz.prog 48 []) =
 bif' (!xs.isEmpty) (bif' (decide (0 < (↑xs.length : Int))) (bif' (decide ((↑xs.length : Int) ≤ (↑xs.length : Int))) (bif' (decide ((↑xs.length : Int) ≤ 9223372036854775807)) (bif' ((List.take (↑xs.length : Int).toNat xs).all isU8) (some (CV.str (bytesOf (List.take (↑xs.length : Int).toNat xs)), [])) none) none) none) none) none := by kernel_rfl
end Go.Pv
