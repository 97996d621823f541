/- Paths without dots: what the code does. -/
import Derived.Test.YtpclikkakhcomaaGreatDoorJn1
set_option linter.unusedVariables false
set_option maxRecDepth 100000
namespace Go.Pv
open Go Go.Proofs

def pre (s p : ByteArray) : Bool := decide (p.size ≤ s.size) && (s.extract 0 p.size).toList == p.toList
def joinLen (xs : List CV) (sep : ByteArray) : Nat := (Lib.join (partsOf xs) sep.data.toList).length
def P36 : Fn1 := fun x => match x with
  | [.str s, .str p] => some [(true, .bool (pre s p), [])]
  | _ => none
def P37 : Fn1 := fun x => match x with
  | [.str s, .str p] => some [(pre s p, .str (s.extract p.size s.size), []), (true, .str s, [])]
  | _ => none
def P38 : Fn1 := fun x => match x with
  | [.str s, .int .u8 c] => some [(true, .int .i64 (Lib.indexByte s.data.toList c.toNat.toUInt8), [])]
  | _ => none
def PJoin : Fn1 := fun cargs => match cargs with
  | [.sl _ _ 1 xs, .str sep] => some [(xs.all isStrC && (decide (xs.length ≤ 140737488355328) && decide (joinLen xs sep ≤ 140737488355328)), .str (joinCV xs sep), [])]
  | [.nilsl, .str sep] => some [(true, .str ⟨#[]⟩, [])]
  | _ => none
def U0 : Table := fun _ _ => none
def U65 : Table := fun g => if Nat.beq g 65 then P38 else U0 g
def U63 : Table := fun g => if Nat.beq g 63 then P36 else U65 g
def U64 : Table := fun g => if Nat.beq g 64 then P37 else U63 g
def U36 : Table := fun g => if Nat.beq g 36 then P36 else U64 g
def U37 : Table := fun g => if Nat.beq g 37 then P37 else U36 g
def U38 : Table := fun g => if Nat.beq g 38 then P38 else U37 g
def U39 : Table := fun g => if Nat.beq g 39 then PJoin else U38 g
def an19 : Ann := fun i => if Nat.beq i 2 then some ⟨[0, 3], [(3, 1)], 0⟩ else none
theorem tree65 (s : ByteArray) (c : Int) : abody Tryz.prog (call' U0) (fun _ => none) 1 65 [.str s, .int .u8 c] =
    some (CV.int IntKind.i64 (Lib.indexByte s.data.toList c.toNat.toUInt8), []) := by kernel_rfl
theorem tree63 (s p : ByteArray) : abody Tryz.prog (call' U65) (fun _ => none) 1 63 [.str s, .str p] =
    bif' (decide ((↑s.size : Int) ≥ (↑p.size : Int)))
      (bif' (decide ((↑p.size : Int) ≤ (↑s.size : Int)))
        (some (CV.bool ((s.extract (Int.toNat 0) (↑p.size : Int).toNat).toList == p.toList), [])) none)
      (some (CV.bool false, [])) := by kernel_rfl
theorem tree64 (s p : ByteArray) : abody Tryz.prog (call' U63) (fun _ => none) 1 64 [.str s, .str p] =
    bif' (pre s p)
      (bif' (decide ((↑p.size : Int) ≤ (↑s.size : Int)))
        (bif' (decide ((↑s.size : Int) ≤ (↑s.size : Int)))
          (some (CV.str (s.extract (↑p.size : Int).toNat (↑s.size : Int).toNat), [])) none)
        none)
      (some (CV.str s, [])) := by kernel_rfl
theorem tree36 (s p : ByteArray) : abody Tryz.prog (call' U64) (fun _ => none) 1 36 [.str s, .str p] =
    some (CV.bool (pre s p), []) := by kernel_rfl
theorem tree37 (s p : ByteArray) : abody Tryz.prog (call' U36) (fun _ => none) 1 37 [.str s, .str p] =
    bif' (pre s p) (some (CV.str (s.extract p.size s.size), [])) (some (CV.str s, [])) := by kernel_rfl
theorem tree38 (s : ByteArray) (c : Int) : abody Tryz.prog (call' U37) (fun _ => none) 1 38 [.str s, .int .u8 c] =
    some (CV.int IntKind.i64 (Lib.indexByte s.data.toList c.toNat.toUInt8), []) := by kernel_rfl
theorem before19 (s : ByteArray) (n : Nat) (L : Env → Hp → Res) : before Tryz.prog (call' U39) (filt an19 0) n (codeOf Tryz.prog 19) (envOf Tryz.prog 19 [.c (.str s)]) [] L (endOf Tryz.prog 19 []) =
    L (mkEnv 66 [(0, PV.c (CV.str s)), (2, PV.c (CV.str (ByteArray.mk (Array.mk [])))), (3, PV.c CV.nilsl)]) [] := by kernel_rfl
theorem round19 (s : ByteArray) (n : Nat) (xs : List CV) (R : Env → Hp → Res) : round Tryz.prog (call' U39) (filt an19 0) n ⟨[0, 3], [(3, 1)], 0⟩ (codeOf Tryz.prog 19) (mkEnv 66 [(0, .c (.str s)), (3, .rw 0 0)]) [.row xs 1 0 false] R (endOf Tryz.prog 19 []) =
    bif' (!s.toList == (ByteArray.mk #[]).toList)
      (bif' (pre s (ByteArray.mk #[46, 46, 47]))
        (bif' (decide (3 ≤ (↑s.size : Int)))
          (bif' (decide ((↑s.size : Int) ≤ (↑s.size : Int)))
            (R (mkEnv 66 [(0, PV.c (CV.str (s.extract (Int.toNat 3) (↑s.size : Int).toNat))), (3, PV.rw 0 0)])
              [AO.row xs 1 0 false])
            none)
          none)
        (bif' (pre s (ByteArray.mk #[46, 47]))
          (bif' (decide (2 ≤ (↑s.size : Int)))
            (bif' (decide ((↑s.size : Int) ≤ (↑s.size : Int)))
              (R (mkEnv 66 [(0, PV.c (CV.str (s.extract (Int.toNat 2) (↑s.size : Int).toNat))), (3, PV.rw 0 0)])
                [AO.row xs 1 0 false])
              none)
            none)
          (bif' (pre s (ByteArray.mk #[47, 46, 47]))
            (bif' (decide (2 ≤ (↑s.size : Int)))
              (bif' (decide ((↑s.size : Int) ≤ (↑s.size : Int)))
                (R (mkEnv 66 [(0, PV.c (CV.str (s.extract (Int.toNat 2) (↑s.size : Int).toNat))), (3, PV.rw 0 0)])
                  [AO.row xs 1 0 false])
                none)
              none)
            (bif' (s.toList == (ByteArray.mk #[47, 46]).toList)
              (R
                (mkEnv 66
                  [(0, PV.c (CV.str (ByteArray.mk (Array.mk [(47 : UInt8)])))),
                    (3, PV.rw 0 0)])
                [AO.row xs 1 0 false])
              (bif' (pre s (ByteArray.mk #[47, 46, 46, 47]))
                (bif' (decide (3 ≤ (↑s.size : Int)))
                  (bif' (decide ((↑s.size : Int) ≤ (↑s.size : Int)))
                    (bif' (pre (s.extract (Int.toNat 3) (↑s.size : Int).toNat) (ByteArray.mk #[47]))
                      (bif'
                        (fitsS
                          ((ByteArray.mk #[47]).size +
                            ((s.extract (Int.toNat 3) (↑s.size : Int).toNat).extract (ByteArray.mk #[47]).size
                                (s.extract (Int.toNat 3) (↑s.size : Int).toNat).size).size))
                        (bif' (decide ((↑xs.length : Int) > 0))
                          (bif' (decide (0 ≤ IntKind.i64.wrap ((↑xs.length : Int) - 1)))
                            (bif' (decide (IntKind.i64.wrap ((↑xs.length : Int) - 1) ≤ (↑xs.length : Int)))
                              (R
                                (mkEnv 66
                                  [(0,
                                      PV.c
                                        (CV.str
                                          (ByteArray.mk #[47] ++
                                            (s.extract (Int.toNat 3) (↑s.size : Int).toNat).extract
                                              (ByteArray.mk #[47]).size
                                              (s.extract (Int.toNat 3) (↑s.size : Int).toNat).size))),
                                    (3, PV.rw 0 0)])
                                [AO.row (List.take ((IntKind.i64.wrap ((↑xs.length : Int) - 1)).toNat - Int.toNat 0) xs) 1 0
                                    false])
                              none)
                            none)
                          (R
                            (mkEnv 66
                              [(0,
                                  PV.c
                                    (CV.str
                                      (ByteArray.mk #[47] ++
                                        (s.extract (Int.toNat 3) (↑s.size : Int).toNat).extract (ByteArray.mk #[47]).size
                                          (s.extract (Int.toNat 3) (↑s.size : Int).toNat).size))),
                                (3, PV.rw 0 0)])
                            [AO.row xs 1 0 false]))
                        none)
                      (bif' (fitsS ((ByteArray.mk #[47]).size + (s.extract (Int.toNat 3) (↑s.size : Int).toNat).size))
                        (bif' (decide ((↑xs.length : Int) > 0))
                          (bif' (decide (0 ≤ IntKind.i64.wrap ((↑xs.length : Int) - 1)))
                            (bif' (decide (IntKind.i64.wrap ((↑xs.length : Int) - 1) ≤ (↑xs.length : Int)))
                              (R
                                (mkEnv 66
                                  [(0, PV.c (CV.str (ByteArray.mk #[47] ++ s.extract (Int.toNat 3) (↑s.size : Int).toNat))),
                                    (3, PV.rw 0 0)])
                                [AO.row (List.take ((IntKind.i64.wrap ((↑xs.length : Int) - 1)).toNat - Int.toNat 0) xs) 1 0
                                    false])
                              none)
                            none)
                          (R
                            (mkEnv 66
                              [(0, PV.c (CV.str (ByteArray.mk #[47] ++ s.extract (Int.toNat 3) (↑s.size : Int).toNat))),
                                (3, PV.rw 0 0)])
                            [AO.row xs 1 0 false]))
                        none))
                    none)
                  none)
                (bif' (s.toList == (ByteArray.mk #[47, 46, 46]).toList)
                  (bif' (decide (3 ≤ (↑s.size : Int)))
                    (bif' (decide ((↑s.size : Int) ≤ (↑s.size : Int)))
                      (bif' (pre (s.extract (Int.toNat 3) (↑s.size : Int).toNat) (ByteArray.mk #[47]))
                        (bif'
                          (fitsS
                            ((ByteArray.mk #[47]).size +
                              ((s.extract (Int.toNat 3) (↑s.size : Int).toNat).extract (ByteArray.mk #[47]).size
                                  (s.extract (Int.toNat 3) (↑s.size : Int).toNat).size).size))
                          (bif' (decide ((↑xs.length : Int) > 0))
                            (bif' (decide (0 ≤ IntKind.i64.wrap ((↑xs.length : Int) - 1)))
                              (bif' (decide (IntKind.i64.wrap ((↑xs.length : Int) - 1) ≤ (↑xs.length : Int)))
                                (R
                                  (mkEnv 66
                                    [(0,
                                        PV.c
                                          (CV.str
                                            (ByteArray.mk #[47] ++
                                              (s.extract (Int.toNat 3) (↑s.size : Int).toNat).extract
                                                (ByteArray.mk #[47]).size
                                                (s.extract (Int.toNat 3) (↑s.size : Int).toNat).size))),
                                      (3, PV.rw 0 0)])
                                  [AO.row (List.take ((IntKind.i64.wrap ((↑xs.length : Int) - 1)).toNat - Int.toNat 0) xs) 1
                                      0 false])
                                none)
                              none)
                            (R
                              (mkEnv 66
                                [(0,
                                    PV.c
                                      (CV.str
                                        (ByteArray.mk #[47] ++
                                          (s.extract (Int.toNat 3) (↑s.size : Int).toNat).extract (ByteArray.mk #[47]).size
                                            (s.extract (Int.toNat 3) (↑s.size : Int).toNat).size))),
                                  (3, PV.rw 0 0)])
                              [AO.row xs 1 0 false]))
                          none)
                        (bif' (fitsS ((ByteArray.mk #[47]).size + (s.extract (Int.toNat 3) (↑s.size : Int).toNat).size))
                          (bif' (decide ((↑xs.length : Int) > 0))
                            (bif' (decide (0 ≤ IntKind.i64.wrap ((↑xs.length : Int) - 1)))
                              (bif' (decide (IntKind.i64.wrap ((↑xs.length : Int) - 1) ≤ (↑xs.length : Int)))
                                (R
                                  (mkEnv 66
                                    [(0,
                                        PV.c
                                          (CV.str (ByteArray.mk #[47] ++ s.extract (Int.toNat 3) (↑s.size : Int).toNat))),
                                      (3, PV.rw 0 0)])
                                  [AO.row (List.take ((IntKind.i64.wrap ((↑xs.length : Int) - 1)).toNat - Int.toNat 0) xs) 1
                                      0 false])
                                none)
                              none)
                            (R
                              (mkEnv 66
                                [(0, PV.c (CV.str (ByteArray.mk #[47] ++ s.extract (Int.toNat 3) (↑s.size : Int).toNat))),
                                  (3, PV.rw 0 0)])
                              [AO.row xs 1 0 false]))
                          none))
                      none)
                    none)
                  (bif' (s.toList == (ByteArray.mk #[46]).toList)
                    (R (mkEnv 66 [(0, PV.c (CV.str (ByteArray.mk (Array.mk [])))), (3, PV.rw 0 0)]) [AO.row xs 1 0 false])
                    (bif' (s.toList == (ByteArray.mk #[46, 46]).toList)
                      (R (mkEnv 66 [(0, PV.c (CV.str (ByteArray.mk (Array.mk [])))), (3, PV.rw 0 0)]) [AO.row xs 1 0 false])
                      (bif' (decide (1 ≤ (↑s.size : Int)))
                        (bif' (decide ((↑s.size : Int) ≤ (↑s.size : Int)))
                          (bif'
                            (IntKind.i64.wrap
                                (Lib.indexByte (s.extract (Int.toNat 1) (↑s.size : Int).toNat).data.toList
                                    (Int.toNat 47).toUInt8 +
                                  1) ==
                              0)
                            (bif' (decide ((↑s.size : Int) ≤ (↑s.size : Int)))
                              (bif'
                                (decide
                                  ((xs.length +
                                        ((List.replicate 1 (CV.str (ByteArray.mk #[]))).set 0
                                            (CV.str (s.extract (Int.toNat 0) (↑s.size : Int).toNat))).length) *
                                      Tryz.prog.types[9].bytes ≤
                                    70368744177664))
                                (bif' (decide ((↑s.size : Int) ≤ (↑s.size : Int)))
                                  (bif' (decide ((↑s.size : Int) ≤ (↑s.size : Int)))
                                    (R
                                      (mkEnv 66
                                        [(0, PV.c (CV.str (s.extract (↑s.size : Int).toNat (↑s.size : Int).toNat))),
                                          (3, PV.rw 0 0)])
                                      [AO.row
                                          (xs ++
                                            (List.replicate 1 (CV.str (ByteArray.mk #[]))).set 0
                                              (CV.str (s.extract (Int.toNat 0) (↑s.size : Int).toNat)))
                                          1 0 false])
                                    none)
                                  none)
                                none)
                              none)
                            (bif'
                              (decide
                                (0 ≤
                                  IntKind.i64.wrap
                                    (Lib.indexByte (s.extract (Int.toNat 1) (↑s.size : Int).toNat).data.toList
                                        (Int.toNat 47).toUInt8 +
                                      1)))
                              (bif'
                                (decide
                                  (IntKind.i64.wrap
                                      (Lib.indexByte (s.extract (Int.toNat 1) (↑s.size : Int).toNat).data.toList
                                          (Int.toNat 47).toUInt8 +
                                        1) ≤
                                    (↑s.size : Int)))
                                (bif'
                                  (decide
                                    ((xs.length +
                                          ((List.replicate 1 (CV.str (ByteArray.mk #[]))).set 0
                                              (CV.str
                                                (s.extract (Int.toNat 0)
                                                  (IntKind.i64.wrap
                                                      (Lib.indexByte
                                                          (s.extract (Int.toNat 1) (↑s.size : Int).toNat).data.toList
                                                          (Int.toNat 47).toUInt8 +
                                                        1)).toNat))).length) *
                                        Tryz.prog.types[9].bytes ≤
                                      70368744177664))
                                  (bif'
                                    (decide
                                      (0 ≤
                                        IntKind.i64.wrap
                                          (Lib.indexByte (s.extract (Int.toNat 1) (↑s.size : Int).toNat).data.toList
                                              (Int.toNat 47).toUInt8 +
                                            1)))
                                    (bif'
                                      (decide
                                        (IntKind.i64.wrap
                                            (Lib.indexByte (s.extract (Int.toNat 1) (↑s.size : Int).toNat).data.toList
                                                (Int.toNat 47).toUInt8 +
                                              1) ≤
                                          (↑s.size : Int)))
                                      (bif' (decide ((↑s.size : Int) ≤ (↑s.size : Int)))
                                        (R
                                          (mkEnv 66
                                            [(0,
                                                PV.c
                                                  (CV.str
                                                    (s.extract
                                                      (IntKind.i64.wrap
                                                          (Lib.indexByte
                                                              (s.extract (Int.toNat 1) (↑s.size : Int).toNat).data.toList
                                                              (Int.toNat 47).toUInt8 +
                                                            1)).toNat
                                                      (↑s.size : Int).toNat))),
                                              (3, PV.rw 0 0)])
                                          [AO.row
                                              (xs ++
                                                (List.replicate 1 (CV.str (ByteArray.mk #[]))).set 0
                                                  (CV.str
                                                    (s.extract (Int.toNat 0)
                                                      (IntKind.i64.wrap
                                                          (Lib.indexByte
                                                              (s.extract (Int.toNat 1) (↑s.size : Int).toNat).data.toList
                                                              (Int.toNat 47).toUInt8 +
                                                            1)).toNat)))
                                              1 0 false])
                                        none)
                                      none)
                                    none)
                                  none)
                                none)
                              none))
                          none)
                        none)))))))))
      (bif'
        (xs.all isStrC &&
          (decide (xs.length ≤ 140737488355328) && decide (joinLen xs (ByteArray.mk #[]) ≤ 140737488355328)))
        (some (CV.str (joinCV xs (ByteArray.mk #[])), [])) none) := by kernel_rfl
theorem tree6 (s : ByteArray) : abody Tryz.prog (call' U39) (fun _ => none) 1 22 [.str s, .str s] =
    bif' (decide ((↑s.size : Int) ≥ (↑s.size : Int)))
      (bif' (decide ((↑s.size : Int) ≤ (↑s.size : Int)))
        (some (CV.bool ((s.extract (Int.toNat 0) (↑s.size : Int).toNat).toList == s.toList), [])) none)
      (some (CV.bool false, [])) := by kernel_rfl

end Go.Pv
