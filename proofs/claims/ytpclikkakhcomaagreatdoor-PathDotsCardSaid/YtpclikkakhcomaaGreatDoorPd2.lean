/- Paths without dots, by definition: what the code does. -/
import Derived.Test.YtpclikkakhcomaaGreatDoorPv30
import Derived.Test.YtpclikkakhcomaaGreatDoorPd1
set_option linter.unusedVariables false
set_option maxRecDepth 100000
namespace Go.Pv
open Go Go.Proofs

def P22 : Fn1 := fun x => match x with
  | [.str s, .str p] => some [(true, .bool (pre s p), [])]
  | _ => none
def V0 : Table := fun _ _ => none
def V22 : Table := fun g => if Nat.beq g 22 then P22 else V0 g
def an8 : Ann := fun i => if Nat.beq i 3 then some ⟨[0, 3, 4], [], 0⟩ else if Nat.beq i 23 then some ⟨[0, 3, 4, 5], [], 0⟩ else if Nat.beq i 6 then some ⟨[0, 3, 4, 6], [], 0⟩ else none
def h8 : Head := ⟨[0, 3, 4], [], 0⟩
def h80 : Head := ⟨[0, 3, 4, 5], [], 0⟩
def h81 : Head := ⟨[0, 3, 4, 6], [], 0⟩
def LL (L0 L1 : Env → Hp → Res) (i : Nat) : Env → Hp → Res := if Nat.beq i 0 then headK h80 L0 else headK h81 L1
noncomputable def c8 : Code := codeOf Tryz.prog 8
noncomputable def b8 : Code := bodyN 0 c8
noncomputable def K8 (n : Nat) : KX := restN Tryz.prog (call' V22) (filt an8 0) n 0 c8 (endOf Tryz.prog 8 [])
theorem tree22 (s p : ByteArray) : abody Tryz.prog (call' V0) (fun _ => none) 1 22 [.str s, .str p] =
    bif' (decide ((↑s.size : Int) ≥ (↑p.size : Int)))
      (bif' (decide ((↑p.size : Int) ≤ (↑s.size : Int)))
        (some (CV.bool ((s.extract (Int.toNat 0) (↑p.size : Int).toNat).toList == p.toList), [])) none)
      (some (CV.bool false, [])) := by kernel_rfl
theorem before8 (s : ByteArray) (n : Nat) (R : Env → Hp → Res) : parts Tryz.prog (call' V22) (filt an8 0) n c8 (envOf Tryz.prog 8 [.c (.str s)]) [] (fun _ => headK h8 R) (endOf Tryz.prog 8 []) =
    R
      (mkEnv 92
        [(0, PV.c (CV.str s)), (3, PV.c (CV.str (ByteArray.mk (Array.mk [])))),
          (4, PV.c (CV.int IntKind.i64 (Int.ofNat 0)))])
      [] := by kernel_rfl
theorem round8 (s t : ByteArray) (n : Nat) (m : Int) (L0 L1 : Env → Hp → Res) (R : Env → Hp → Res) : parts Tryz.prog (call' V22) (filt an8 0) n b8 (mkEnv 92 [(0, .c (.str s)), (3, .c (.str t)), (4, .c (.int .i64 m))]) [] (LL L0 L1) (thenK (headK h8 R) (K8 n)) =
    bif' (!s.toList == (ByteArray.mk #[]).toList)
      (bif' (decide (m < 5000))
        (bif' (pre s (ByteArray.mk #[46, 46, 47]))
          (bif' (decide (3 ≤ (↑s.size : Int)))
            (bif' (decide ((↑s.size : Int) ≤ (↑s.size : Int)))
              (R
                (mkEnv 92
                  [(0, PV.c (CV.str (s.extract (Int.toNat 3) (↑s.size : Int).toNat))), (3, PV.c (CV.str t)),
                    (4, PV.c (CV.int IntKind.i64 (IntKind.i64.wrap (m + 1))))])
                [])
              none)
            none)
          (bif' (pre s (ByteArray.mk #[46, 47]))
            (bif' (decide (2 ≤ (↑s.size : Int)))
              (bif' (decide ((↑s.size : Int) ≤ (↑s.size : Int)))
                (R
                  (mkEnv 92
                    [(0, PV.c (CV.str (s.extract (Int.toNat 2) (↑s.size : Int).toNat))), (3, PV.c (CV.str t)),
                      (4, PV.c (CV.int IntKind.i64 (IntKind.i64.wrap (m + 1))))])
                  [])
                none)
              none)
            (bif' (pre s (ByteArray.mk #[47, 46, 47]))
              (bif' (decide (2 ≤ (↑s.size : Int)))
                (bif' (decide ((↑s.size : Int) ≤ (↑s.size : Int)))
                  (R
                    (mkEnv 92
                      [(0, PV.c (CV.str (s.extract (Int.toNat 2) (↑s.size : Int).toNat))), (3, PV.c (CV.str t)),
                        (4, PV.c (CV.int IntKind.i64 (IntKind.i64.wrap (m + 1))))])
                    [])
                  none)
                none)
              (bif' (s.toList == (ByteArray.mk #[47, 46]).toList)
                (R
                  (mkEnv 92
                    [(0, PV.c (CV.str (ByteArray.mk (Array.mk [(47 : UInt8)])))),
                      (3, PV.c (CV.str t)), (4, PV.c (CV.int IntKind.i64 (IntKind.i64.wrap (m + 1))))])
                  [])
                (bif' (pre s (ByteArray.mk #[47, 46, 46, 47]))
                  (bif' (s.toList == (ByteArray.mk #[47, 46, 46]).toList)
                    (L0
                      (mkEnv 92
                        [(0, PV.c (CV.str (ByteArray.mk (Array.mk [(47 : UInt8)])))),
                          (3, PV.c (CV.str t)), (4, PV.c (CV.int IntKind.i64 m)),
                          (5, PV.c (CV.int IntKind.i64 (↑t.size : Int)))])
                      [])
                    (bif' (decide (3 ≤ (↑s.size : Int)))
                      (bif' (decide ((↑s.size : Int) ≤ (↑s.size : Int)))
                        (L0
                          (mkEnv 92
                            [(0, PV.c (CV.str (s.extract (Int.toNat 3) (↑s.size : Int).toNat))), (3, PV.c (CV.str t)),
                              (4, PV.c (CV.int IntKind.i64 m)), (5, PV.c (CV.int IntKind.i64 (↑t.size : Int)))])
                          [])
                        none)
                      none))
                  (bif' (s.toList == (ByteArray.mk #[47, 46, 46]).toList)
                    (bif' (s.toList == (ByteArray.mk #[47, 46, 46]).toList)
                      (L0
                        (mkEnv 92
                          [(0, PV.c (CV.str (ByteArray.mk (Array.mk [(47 : UInt8)])))),
                            (3, PV.c (CV.str t)), (4, PV.c (CV.int IntKind.i64 m)),
                            (5, PV.c (CV.int IntKind.i64 (↑t.size : Int)))])
                        [])
                      (bif' (decide (3 ≤ (↑s.size : Int)))
                        (bif' (decide ((↑s.size : Int) ≤ (↑s.size : Int)))
                          (L0
                            (mkEnv 92
                              [(0, PV.c (CV.str (s.extract (Int.toNat 3) (↑s.size : Int).toNat))), (3, PV.c (CV.str t)),
                                (4, PV.c (CV.int IntKind.i64 m)), (5, PV.c (CV.int IntKind.i64 (↑t.size : Int)))])
                            [])
                          none)
                        none))
                    (bif' (s.toList == (ByteArray.mk #[46]).toList)
                      (R
                        (mkEnv 92
                          [(0, PV.c (CV.str (ByteArray.mk (Array.mk [])))), (3, PV.c (CV.str t)),
                            (4, PV.c (CV.int IntKind.i64 (IntKind.i64.wrap (m + 1))))])
                        [])
                      (bif' (s.toList == (ByteArray.mk #[46, 46]).toList)
                        (R
                          (mkEnv 92
                            [(0, PV.c (CV.str (ByteArray.mk (Array.mk [])))), (3, PV.c (CV.str t)),
                              (4, PV.c (CV.int IntKind.i64 (IntKind.i64.wrap (m + 1))))])
                          [])
                        (L1
                          (mkEnv 92
                            [(0, PV.c (CV.str s)), (3, PV.c (CV.str t)), (4, PV.c (CV.int IntKind.i64 m)),
                              (6, PV.c (CV.int IntKind.i64 (Int.ofNat 1)))])
                          [])))))))))
        (some (CV.str t, [])))
      (some (CV.str t, [])) := by kernel_rfl
theorem inner0 (s t : ByteArray) (n : Nat) (m k : Int) (R R' : Env → Hp → Res) : aexec Tryz.prog (call' V22) (filt an8 0) n (bodyN 0 b8) (mkEnv 92 [(0, .c (.str s)), (3, .c (.str t)), (4, .c (.int .i64 m)), (5, .c (.int .i64 k))]) [] (thenK (headK h80 R') (restN Tryz.prog (call' V22) (filt an8 0) n 0 b8 (thenK (headK h8 R) (K8 n)))) =
    bif' (decide (k > 0))
      (bif' (decide (0 ≤ IntKind.i64.wrap (k - 1)))
        (bif' (decide (IntKind.i64.wrap (k - 1) < (↑t.size : Int)))
          (bif' (byteAt t (IntKind.i64.wrap (k - 1)).toNat != 47)
            (R'
              (mkEnv 92
                [(0, PV.c (CV.str s)), (3, PV.c (CV.str t)), (4, PV.c (CV.int IntKind.i64 m)),
                  (5, PV.c (CV.int IntKind.i64 (IntKind.i64.wrap (k - 1))))])
              [])
            (bif' (decide (k > 0))
              (bif' (decide (0 ≤ IntKind.i64.wrap (k - 1)))
                (bif' (decide (IntKind.i64.wrap (k - 1) ≤ (↑t.size : Int)))
                  (R
                    (mkEnv 92
                      [(0, PV.c (CV.str s)), (3, PV.c (CV.str (t.extract (Int.toNat 0) (IntKind.i64.wrap (k - 1)).toNat))),
                        (4, PV.c (CV.int IntKind.i64 (IntKind.i64.wrap (m + 1))))])
                    [])
                  none)
                none)
              (bif' (decide (0 ≤ k))
                (bif' (decide (k ≤ (↑t.size : Int)))
                  (R
                    (mkEnv 92
                      [(0, PV.c (CV.str s)), (3, PV.c (CV.str (t.extract (Int.toNat 0) k.toNat))),
                        (4, PV.c (CV.int IntKind.i64 (IntKind.i64.wrap (m + 1))))])
                    [])
                  none)
                none)))
          none)
        none)
      (bif' (decide (k > 0))
        (bif' (decide (0 ≤ IntKind.i64.wrap (k - 1)))
          (bif' (decide (IntKind.i64.wrap (k - 1) ≤ (↑t.size : Int)))
            (R
              (mkEnv 92
                [(0, PV.c (CV.str s)), (3, PV.c (CV.str (t.extract (Int.toNat 0) (IntKind.i64.wrap (k - 1)).toNat))),
                  (4, PV.c (CV.int IntKind.i64 (IntKind.i64.wrap (m + 1))))])
              [])
            none)
          none)
        (bif' (decide (0 ≤ k))
          (bif' (decide (k ≤ (↑t.size : Int)))
            (R
              (mkEnv 92
                [(0, PV.c (CV.str s)), (3, PV.c (CV.str (t.extract (Int.toNat 0) k.toNat))),
                  (4, PV.c (CV.int IntKind.i64 (IntKind.i64.wrap (m + 1))))])
              [])
            none)
          none)) := by kernel_rfl
theorem inner1 (s t : ByteArray) (n : Nat) (m k : Int) (R R' : Env → Hp → Res) : aexec Tryz.prog (call' V22) (filt an8 0) n (bodyN 1 b8) (mkEnv 92 [(0, .c (.str s)), (3, .c (.str t)), (4, .c (.int .i64 m)), (6, .c (.int .i64 k))]) [] (thenK (headK h81 R') (restN Tryz.prog (call' V22) (filt an8 0) n 1 b8 (thenK (headK h8 R) (K8 n)))) =
    bif' (decide (k < (↑s.size : Int)))
      (bif' (decide (0 ≤ k))
        (bif' (decide (k < (↑s.size : Int)))
          (bif' (byteAt s k.toNat != 47)
            (R'
              (mkEnv 92
                [(0, PV.c (CV.str s)), (3, PV.c (CV.str t)), (4, PV.c (CV.int IntKind.i64 m)),
                  (6, PV.c (CV.int IntKind.i64 (IntKind.i64.wrap (k + 1))))])
              [])
            (bif' (decide (0 ≤ k))
              (bif' (decide (k ≤ (↑s.size : Int)))
                (bif' (fitsS (t.size + (s.extract (Int.toNat 0) k.toNat).size))
                  (bif' (decide (0 ≤ k))
                    (bif' (decide (k ≤ (↑s.size : Int)))
                      (bif' (decide ((↑s.size : Int) ≤ (↑s.size : Int)))
                        (R
                          (mkEnv 92
                            [(0, PV.c (CV.str (s.extract k.toNat (↑s.size : Int).toNat))),
                              (3, PV.c (CV.str (t ++ s.extract (Int.toNat 0) k.toNat))),
                              (4, PV.c (CV.int IntKind.i64 (IntKind.i64.wrap (m + 1))))])
                          [])
                        none)
                      none)
                    none)
                  none)
                none)
              none))
          none)
        none)
      (bif' (decide (0 ≤ k))
        (bif' (decide (k ≤ (↑s.size : Int)))
          (bif' (fitsS (t.size + (s.extract (Int.toNat 0) k.toNat).size))
            (bif' (decide (0 ≤ k))
              (bif' (decide (k ≤ (↑s.size : Int)))
                (bif' (decide ((↑s.size : Int) ≤ (↑s.size : Int)))
                  (R
                    (mkEnv 92
                      [(0, PV.c (CV.str (s.extract k.toNat (↑s.size : Int).toNat))),
                        (3, PV.c (CV.str (t ++ s.extract (Int.toNat 0) k.toNat))),
                        (4, PV.c (CV.int IntKind.i64 (IntKind.i64.wrap (m + 1))))])
                    [])
                  none)
                none)
              none)
            none)
          none)
        none) := by kernel_rfl

end Go.Pv
