/- Unhex, Unescape: what their code does. -/
import Derived.Test.YtpclikkakhcomaaDoorPv27
import Derived.Test.YtpclikkakhcomaaDoorProg
set_option linter.unusedVariables false
set_option maxRecDepth 100000
namespace Go.Pv
open Go Go.Proofs

def hx (c : Int) : Int := if 48 ≤ c ∧ c ≤ 57 then c - 48 else if 97 ≤ c ∧ c ≤ 102 then c - 87 else if 65 ≤ c ∧ c ≤ 70 then c - 55 else -1
def F29 : Fn1 := fun x => match x with
  | [.str s, .int .u8 c] => some [(true, .int .i64 (Lib.indexByte s.data.toList c.toNat.toUInt8), [])]
  | _ => none
def F34 : Fn1 := fun x => match x with
  | [.int .u8 c] => some [(decide (0 ≤ c) && decide (c < 256), .int .i64 (hx c), [])]
  | _ => none
def F18 : Fn1 := fun x => match x with
  | [.str s] => some [
    (decide (s.size = 2) && (decide (0 ≤ hx (byteAt s 0)) && decide (0 ≤ hx (byteAt s 1))), .tup [.sl true false 1 [.int .u8 (16 * hx (byteAt s 0) + hx (byteAt s 1))], .int .i64 0], []),
    (decide (s.size = 2), .tup [.nilsl, .int .i64 5], [])]
  | _ => none
def F19 : Fn1 := fun x => match x with
  | [.str s] => some [
    (decide (s.size = 2) && (decide (0 ≤ hx (byteAt s 0)) && decide (0 ≤ hx (byteAt s 1))), .tup [.sl true false 1 [.int .u8 (16 * hx (byteAt s 0) + hx (byteAt s 1))], .bool true], []),
    (decide (s.size = 2), .tup [.nilsl, .bool false], [])]
  | _ => none
def T0 : Table := fun _ _ => none
def T49 : Table := fun g => if Nat.beq g 49 then F29 else T0 g
def T29 : Table := fun g => if Nat.beq g 29 then F29 else T49 g
def T34 : Table := fun g => if Nat.beq g 34 then F34 else T29 g
def T35 : Table := fun g => if Nat.beq g 35 then F34 else T34 g
def T18 : Table := fun g => if Nat.beq g 18 then F18 else T35 g
def T19 : Table := fun g => if Nat.beq g 19 then F19 else T18 g
def an18 : Ann := fun i => if Nat.beq i 5 then some ⟨[0, 4, 5], [(4, 1)], 0⟩ else none
def an7 : Ann := fun i => if Nat.beq i 3 then some ⟨[0, 4, 5], [(4, 1)], 0⟩ else none
def an8 : Ann := fun i => if Nat.beq i 3 then some ⟨[0, 4, 5], [], 0⟩ else none
theorem tree49 (s : ByteArray) (c : Int) : abody Tryd.prog T0 (fun _ => none) 1 49 [.str s, .int .u8 c] =
    some (CV.int IntKind.i64 (Lib.indexByte s.data.toList c.toNat.toUInt8), []) := by kernel_rfl
theorem tree29 (s : ByteArray) (c : Int) : abody Tryd.prog T49 (fun _ => none) 1 29 [.str s, .int .u8 c] =
    some (CV.int IntKind.i64 (Lib.indexByte s.data.toList c.toNat.toUInt8), []) := by kernel_rfl
theorem tree34 (c : Int) : abody Tryd.prog T29 (fun _ => none) 1 34 [.int .u8 c] =
    bif' (decide (c ≥ 65))
      (bif' (decide (c ≤ 70))
        (some
          (CV.int IntKind.i64
              (Lib.indexByte (ByteArray.mk #[48, 49, 50, 51, 52, 53, 54, 55, 56, 57, 97, 98, 99, 100, 101, 102]).data.toList
                (IntKind.u8.wrap (c + 32)).toNat.toUInt8),
            []))
        (some
          (CV.int IntKind.i64
              (Lib.indexByte (ByteArray.mk #[48, 49, 50, 51, 52, 53, 54, 55, 56, 57, 97, 98, 99, 100, 101, 102]).data.toList
                c.toNat.toUInt8),
            [])))
      (some
        (CV.int IntKind.i64
            (Lib.indexByte (ByteArray.mk #[48, 49, 50, 51, 52, 53, 54, 55, 56, 57, 97, 98, 99, 100, 101, 102]).data.toList
              c.toNat.toUInt8),
          [])) := by kernel_rfl
theorem tree35 (c : Int) : abody Tryd.prog T34 (fun _ => none) 1 35 [.int .u8 c] =
    bif' (decide (c ≥ 48))
      (bif' (decide (c ≤ 57)) (some (CV.int IntKind.i64 (IntKind.i64.wrap (IntKind.u8.wrap (c - 48))), []))
        (bif' (decide (c ≥ 97))
          (bif' (decide (c ≤ 102))
            (some (CV.int IntKind.i64 (IntKind.i64.wrap (IntKind.i64.wrap (IntKind.u8.wrap (c - 97)) + 10)), []))
            (bif' (decide (c ≥ 65))
              (bif' (decide (c ≤ 70))
                (some (CV.int IntKind.i64 (IntKind.i64.wrap (IntKind.i64.wrap (IntKind.u8.wrap (c - 65)) + 10)), []))
                (some (CV.int IntKind.i64 (Int.negSucc 0), [])))
              (some (CV.int IntKind.i64 (Int.negSucc 0), []))))
          (bif' (decide (c ≥ 65))
            (bif' (decide (c ≤ 70))
              (some (CV.int IntKind.i64 (IntKind.i64.wrap (IntKind.i64.wrap (IntKind.u8.wrap (c - 65)) + 10)), []))
              (some (CV.int IntKind.i64 (Int.negSucc 0), [])))
            (some (CV.int IntKind.i64 (Int.negSucc 0), [])))))
      (bif' (decide (c ≥ 97))
        (bif' (decide (c ≤ 102))
          (some (CV.int IntKind.i64 (IntKind.i64.wrap (IntKind.i64.wrap (IntKind.u8.wrap (c - 97)) + 10)), []))
          (bif' (decide (c ≥ 65))
            (bif' (decide (c ≤ 70))
              (some (CV.int IntKind.i64 (IntKind.i64.wrap (IntKind.i64.wrap (IntKind.u8.wrap (c - 65)) + 10)), []))
              (some (CV.int IntKind.i64 (Int.negSucc 0), [])))
            (some (CV.int IntKind.i64 (Int.negSucc 0), []))))
        (bif' (decide (c ≥ 65))
          (bif' (decide (c ≤ 70))
            (some (CV.int IntKind.i64 (IntKind.i64.wrap (IntKind.i64.wrap (IntKind.u8.wrap (c - 65)) + 10)), []))
            (some (CV.int IntKind.i64 (Int.negSucc 0), [])))
          (some (CV.int IntKind.i64 (Int.negSucc 0), [])))) := by kernel_rfl
theorem tree18 (a b : UInt8) : abody Tryd.prog T35 an18 3 18 [.str ⟨#[a, b]⟩] =
    bif'
      (decide (0 ≤ byteAt (ByteArray.mk #[a, b]) (Int.toNat 0)) &&
        decide (byteAt (ByteArray.mk #[a, b]) (Int.toNat 0) < 256))
      (bif'
        (decide (0 ≤ byteAt (ByteArray.mk #[a, b]) (IntKind.i64.wrap (0 + 1)).toNat) &&
          decide (byteAt (ByteArray.mk #[a, b]) (IntKind.i64.wrap (0 + 1)).toNat < 256))
        (bif' (decide (hx (byteAt (ByteArray.mk #[a, b]) (Int.toNat 0)) < 0))
          (some (CV.tup [CV.nilsl, CV.int IntKind.i64 (Int.ofNat 5)], []))
          (bif' (decide (hx (byteAt (ByteArray.mk #[a, b]) (IntKind.i64.wrap (0 + 1)).toNat) < 0))
            (some (CV.tup [CV.nilsl, CV.int IntKind.i64 (Int.ofNat 5)], []))
            (some
              (CV.tup
                  [CV.sl true false 1
                      [CV.int IntKind.u8
                          (IntKind.u8.wrap
                            (IntKind.i64.wrap
                              (↑(BitVec.ofInt IntKind.i64.bits
                                        (IntKind.i64.wrap
                                          (hx (byteAt (ByteArray.mk #[a, b]) (Int.toNat 0)) *
                                            2 ^ min (Int.toNat 4) IntKind.i64.bits)) |||
                                      BitVec.ofInt IntKind.i64.bits
                                        (hx (byteAt (ByteArray.mk #[a, b]) (IntKind.i64.wrap (0 + 1)).toNat))).toNat :
                                Int)))],
                    CV.int IntKind.i64 (Int.ofNat 0)],
                []))))
        none)
      none := by kernel_rfl
theorem tree19 (a b : UInt8) : abody Tryd.prog T18 an18 3 19 [.str ⟨#[a, b]⟩] =
    bif'
      (decide (0 ≤ byteAt (ByteArray.mk #[a, b]) (Int.toNat 0)) &&
        decide (byteAt (ByteArray.mk #[a, b]) (Int.toNat 0) < 256))
      (bif' (decide (hx (byteAt (ByteArray.mk #[a, b]) (Int.toNat 0)) < 0)) (some (CV.tup [CV.nilsl, CV.bool false], []))
        (bif'
          (decide (0 ≤ byteAt (ByteArray.mk #[a, b]) (IntKind.i64.wrap (0 + 1)).toNat) &&
            decide (byteAt (ByteArray.mk #[a, b]) (IntKind.i64.wrap (0 + 1)).toNat < 256))
          (bif' (decide (hx (byteAt (ByteArray.mk #[a, b]) (IntKind.i64.wrap (0 + 1)).toNat) < 0))
            (some (CV.tup [CV.nilsl, CV.bool false], []))
            (bif'
              (decide (0 ≤ byteAt (ByteArray.mk #[a, b]) (Int.toNat 0)) &&
                decide (byteAt (ByteArray.mk #[a, b]) (Int.toNat 0) < 256))
              (bif'
                (decide (0 ≤ byteAt (ByteArray.mk #[a, b]) (IntKind.i64.wrap (0 + 1)).toNat) &&
                  decide (byteAt (ByteArray.mk #[a, b]) (IntKind.i64.wrap (0 + 1)).toNat < 256))
                (some
                  (CV.tup
                      [CV.sl true false 1
                          [CV.int IntKind.u8
                              (IntKind.u8.wrap
                                (IntKind.i64.wrap
                                  (IntKind.i64.wrap (16 * hx (byteAt (ByteArray.mk #[a, b]) (Int.toNat 0))) +
                                    hx (byteAt (ByteArray.mk #[a, b]) (IntKind.i64.wrap (0 + 1)).toNat))))],
                        CV.bool true],
                    []))
                none)
              none))
          none))
      none := by kernel_rfl
theorem before7 (s : ByteArray) (n : Nat) (L : Env → Hp → Res) : before Tryd.prog T19 (filt an7 0) n (codeOf Tryd.prog 7) (envOf Tryd.prog 7 [.c (.str s)]) [] L (endOf Tryd.prog 7 []) =
    L
      (mkEnv 48
        [(0, PV.c (CV.str s)), (2, PV.c (CV.str (ByteArray.mk (Array.mk [])))),
          (3, PV.c (CV.int IntKind.i64 (Int.ofNat 0))), (4, PV.c CV.nilsl), (5, PV.c (CV.int IntKind.i64 (Int.ofNat 0)))])
      [] := by kernel_rfl
theorem round7 (s : ByteArray) (n : Nat) (i : Int) (xs : List CV) (R : Env → Hp → Res) : round Tryd.prog T19 (filt an7 0) n ⟨[0, 4, 5], [(4, 1)], 0⟩ (codeOf Tryd.prog 7) (mkEnv 48 [(0, .c (.str s)), (4, .rw 0 0), (5, .c (.int .i64 i))]) [.row xs 1 0 false] R (endOf Tryd.prog 7 []) =
    bif' (decide (i < (↑s.size : Int)))
      (bif' (decide (0 ≤ i))
        (bif' (decide (i < (↑s.size : Int)))
          (bif' (byteAt s i.toNat != 37)
            (bif' (decide (0 ≤ i))
              (bif' (decide (i < (↑s.size : Int)))
                (bif'
                  (decide
                    ((xs.length +
                          ((List.replicate 1 (CV.int IntKind.u8 0)).set 0 (CV.int IntKind.u8 (byteAt s i.toNat))).length) *
                        Tryd.prog.types[5].bytes ≤
                      70368744177664))
                  (R
                    (mkEnv 48
                      [(0, PV.c (CV.str s)), (4, PV.rw 0 0), (5, PV.c (CV.int IntKind.i64 (IntKind.i64.wrap (i + 1))))])
                    [AO.row (xs ++ (List.replicate 1 (CV.int IntKind.u8 0)).set 0 (CV.int IntKind.u8 (byteAt s i.toNat))) 1
                        0 false])
                  none)
                none)
              none)
            (bif' (decide (IntKind.i64.wrap (i + 2) ≥ (↑s.size : Int)))
              (some (CV.tup [CV.str (ByteArray.mk (Array.mk [])), CV.int IntKind.i64 (Int.ofNat 5)], []))
              (bif' (decide (0 ≤ IntKind.i64.wrap (i + 1)))
                (bif' (decide (IntKind.i64.wrap (i + 1) ≤ IntKind.i64.wrap (i + 3)))
                  (bif' (decide (IntKind.i64.wrap (i + 3) ≤ (↑s.size : Int)))
                    (bif'
                      (decide ((s.extract (IntKind.i64.wrap (i + 1)).toNat (IntKind.i64.wrap (i + 3)).toNat).size = 2) &&
                        (decide
                            (0 ≤
                              hx
                                (byteAt (s.extract (IntKind.i64.wrap (i + 1)).toNat (IntKind.i64.wrap (i + 3)).toNat) 0)) &&
                          decide
                            (0 ≤
                              hx (byteAt (s.extract (IntKind.i64.wrap (i + 1)).toNat (IntKind.i64.wrap (i + 3)).toNat) 1))))
                      (bif'
                        (decide
                          ((xs.length +
                                [CV.int IntKind.u8
                                      (16 *
                                          hx
                                            (byteAt
                                              (s.extract (IntKind.i64.wrap (i + 1)).toNat (IntKind.i64.wrap (i + 3)).toNat)
                                              0) +
                                        hx
                                          (byteAt
                                            (s.extract (IntKind.i64.wrap (i + 1)).toNat (IntKind.i64.wrap (i + 3)).toNat)
                                            1))].length) *
                              Tryd.prog.types[5].bytes ≤
                            70368744177664))
                        (R
                          (mkEnv 48
                            [(0, PV.c (CV.str s)), (4, PV.rw 0 0),
                              (5, PV.c (CV.int IntKind.i64 (IntKind.i64.wrap (IntKind.i64.wrap (i + 2) + 1))))])
                          [AO.row
                              (xs ++
                                [CV.int IntKind.u8
                                    (16 *
                                        hx
                                          (byteAt
                                            (s.extract (IntKind.i64.wrap (i + 1)).toNat (IntKind.i64.wrap (i + 3)).toNat)
                                            0) +
                                      hx
                                        (byteAt
                                          (s.extract (IntKind.i64.wrap (i + 1)).toNat (IntKind.i64.wrap (i + 3)).toNat)
                                          1))])
                              1 0 false])
                        none)
                      (bif'
                        (decide ((s.extract (IntKind.i64.wrap (i + 1)).toNat (IntKind.i64.wrap (i + 3)).toNat).size = 2))
                        (some (CV.tup [CV.str (ByteArray.mk (Array.mk [])), CV.int IntKind.i64 (Int.ofNat 5)], [])) none))
                    none)
                  none)
                none)))
          none)
        none)
      (bif' (xs.all isU8) (some (CV.tup [CV.str (bytesOf xs), CV.int IntKind.i64 (Int.ofNat 0)], [])) none) := by kernel_rfl
theorem before8 (s : ByteArray) (n : Nat) (L : Env → Hp → Res) : before Tryd.prog T19 (filt an8 0) n (codeOf Tryd.prog 8) (envOf Tryd.prog 8 [.c (.str s)]) [] L (endOf Tryd.prog 8 []) =
    L
      (mkEnv 49
        [(0, PV.c (CV.str s)), (2, PV.c (CV.str (ByteArray.mk (Array.mk [])))), (3, PV.c (CV.bool false)),
          (4, PV.c (CV.str (ByteArray.mk (Array.mk [])))), (5, PV.c (CV.int IntKind.i64 (Int.ofNat 0)))])
      [] := by kernel_rfl
theorem round8 (s t : ByteArray) (n : Nat) (i : Int) (R : Env → Hp → Res) : round Tryd.prog T19 (filt an8 0) n ⟨[0, 4, 5], [], 0⟩ (codeOf Tryd.prog 8) (mkEnv 49 [(0, .c (.str s)), (4, .c (.str t)), (5, .c (.int .i64 i))]) [] R (endOf Tryd.prog 8 []) =
    bif' (decide (i < (↑s.size : Int)))
      (bif' (decide (0 ≤ i))
        (bif' (decide (i < (↑s.size : Int)))
          (bif' (byteAt s i.toNat != 37)
            (bif' (decide (0 ≤ i))
              (bif' (decide (i ≤ IntKind.i64.wrap (i + 1)))
                (bif' (decide (IntKind.i64.wrap (i + 1) ≤ (↑s.size : Int)))
                  (bif' (fitsS (t.size + (s.extract i.toNat (IntKind.i64.wrap (i + 1)).toNat).size))
                    (R
                      (mkEnv 49
                        [(0, PV.c (CV.str s)), (4, PV.c (CV.str (t ++ s.extract i.toNat (IntKind.i64.wrap (i + 1)).toNat))),
                          (5, PV.c (CV.int IntKind.i64 (IntKind.i64.wrap (i + 1))))])
                      [])
                    none)
                  none)
                none)
              none)
            (bif' (decide (IntKind.i64.wrap (i + 3) > (↑s.size : Int)))
              (some (CV.tup [CV.str (ByteArray.mk (Array.mk [])), CV.bool false], []))
              (bif' (decide (0 ≤ IntKind.i64.wrap (i + 1)))
                (bif' (decide (IntKind.i64.wrap (i + 1) ≤ IntKind.i64.wrap (i + 3)))
                  (bif' (decide (IntKind.i64.wrap (i + 3) ≤ (↑s.size : Int)))
                    (bif'
                      (decide ((s.extract (IntKind.i64.wrap (i + 1)).toNat (IntKind.i64.wrap (i + 3)).toNat).size = 2) &&
                        (decide
                            (0 ≤
                              hx
                                (byteAt (s.extract (IntKind.i64.wrap (i + 1)).toNat (IntKind.i64.wrap (i + 3)).toNat) 0)) &&
                          decide
                            (0 ≤
                              hx (byteAt (s.extract (IntKind.i64.wrap (i + 1)).toNat (IntKind.i64.wrap (i + 3)).toNat) 1))))
                      (bif'
                        (fitsS
                          (t.size +
                            (bytesOf
                                [CV.int IntKind.u8
                                    (16 *
                                        hx
                                          (byteAt
                                            (s.extract (IntKind.i64.wrap (i + 1)).toNat (IntKind.i64.wrap (i + 3)).toNat)
                                            0) +
                                      hx
                                        (byteAt
                                          (s.extract (IntKind.i64.wrap (i + 1)).toNat (IntKind.i64.wrap (i + 3)).toNat)
                                          1))]).size))
                        (R
                          (mkEnv 49
                            [(0, PV.c (CV.str s)),
                              (4,
                                PV.c
                                  (CV.str
                                    (t ++
                                      bytesOf
                                        [CV.int IntKind.u8
                                            (16 *
                                                hx
                                                  (byteAt
                                                    (s.extract (IntKind.i64.wrap (i + 1)).toNat
                                                      (IntKind.i64.wrap (i + 3)).toNat)
                                                    0) +
                                              hx
                                                (byteAt
                                                  (s.extract (IntKind.i64.wrap (i + 1)).toNat
                                                    (IntKind.i64.wrap (i + 3)).toNat)
                                                  1))]))),
                              (5, PV.c (CV.int IntKind.i64 (IntKind.i64.wrap (IntKind.i64.wrap (i + 2) + 1))))])
                          [])
                        none)
                      (bif'
                        (decide ((s.extract (IntKind.i64.wrap (i + 1)).toNat (IntKind.i64.wrap (i + 3)).toNat).size = 2))
                        (some (CV.tup [CV.str (ByteArray.mk (Array.mk [])), CV.bool false], [])) none))
                    none)
                  none)
                none)))
          none)
        none)
      (some (CV.tup [CV.str t, CV.bool true], [])) := by kernel_rfl

theorem entry7 (s : ByteArray) (n : Nat) : abody Tryd.prog T19 an7 n 7 [.str s] =
    before Tryd.prog T19 (filt an7 0) n (codeOf Tryd.prog 7) (envOf Tryd.prog 7 [.c (.str s)]) [] (fun env H => loopAt Tryd.prog T19 (filt an7 0) n ⟨[0, 4, 5], [(4, 1)], 0⟩ (codeOf Tryd.prog 7) env H (endOf Tryd.prog 7 [])) (endOf Tryd.prog 7 []) := by kernel_rfl
theorem entry8 (s : ByteArray) (n : Nat) : abody Tryd.prog T19 an8 n 8 [.str s] =
    before Tryd.prog T19 (filt an8 0) n (codeOf Tryd.prog 8) (envOf Tryd.prog 8 [.c (.str s)]) [] (fun env H => loopAt Tryd.prog T19 (filt an8 0) n ⟨[0, 4, 5], [], 0⟩ (codeOf Tryd.prog 8) env H (endOf Tryd.prog 8 [])) (endOf Tryd.prog 8 []) := by kernel_rfl

end Go.Pv
