/- Escape, Stands: what their code does. -/
import Derived.Test.YtpclikkakhcomaaDoorUn4
set_option linter.unusedVariables false
set_option maxRecDepth 100000
namespace Go.Pv
open Go Go.Proofs

def lett (c : Int) : Bool := decide (97 ≤ c ∧ c ≤ 122) || decide (65 ≤ c ∧ c ≤ 90)
def digi (c : Int) : Bool := decide (48 ≤ c ∧ c ≤ 57)
def wit (c : Int) (s : ByteArray) : Bool := s.data.toList.any fun b => decide ((b.toNat : Int) = c)
def F31 : Fn1 := fun x => match x with
  | [.int .u8 c] => some [(true, .bool (lett c), [])]
  | _ => none
def F32 : Fn1 := fun x => match x with
  | [.int .u8 c] => some [(true, .bool (digi c), [])]
  | _ => none
def F33 : Fn1 := fun x => match x with
  | [.int .u8 c, .str s] => some [(decide (s.size ≤ 10000), .bool (wit c s), [])]
  | _ => none
def T31 : Table := fun g => if Nat.beq g 31 then F31 else T8 g
def T32 : Table := fun g => if Nat.beq g 32 then F32 else T31 g
def T33 : Table := fun g => if Nat.beq g 33 then F33 else T32 g
def an33 : Ann := fun i => if Nat.beq i 2 then some ⟨[0, 1, 5], [], 0⟩ else none
def an15 : Ann := fun i => if Nat.beq i 3 then some ⟨[0, 3, 4], [(3, 1)], 0⟩ else none
def an16 : Ann := fun i => if Nat.beq i 3 then some ⟨[0, 3, 4], [], 0⟩ else none
def an17 : Ann := fun i => if Nat.beq i 2 then some ⟨[0, 3], [], 0⟩ else none
theorem tree31 (c : Int) : abody Tryd.prog T8 (fun _ => none) 1 31 [.int .u8 c] =
    bif' (decide (c ≥ 97))
      (bif' (decide (c ≤ 122)) (some (CV.bool true, []))
        (bif' (decide (c ≥ 65)) (some (CV.bool (decide (c ≤ 90)), [])) (some (CV.bool false, []))))
      (bif' (decide (c ≥ 65)) (some (CV.bool (decide (c ≤ 90)), [])) (some (CV.bool false, []))) := by kernel_rfl
theorem tree32 (c : Int) : abody Tryd.prog T31 (fun _ => none) 1 32 [.int .u8 c] =
    bif' (decide (c ≥ 48)) (some (CV.bool (decide (c ≤ 57)), [])) (some (CV.bool false, [])) := by kernel_rfl
theorem before33 (c : Int) (s : ByteArray) (n : Nat) (L : Env → Hp → Res) : before Tryd.prog T32 (filt an33 0) n (codeOf Tryd.prog 33) (envOf Tryd.prog 33 [.c (.int .u8 c), .c (.str s)]) [] L (endOf Tryd.prog 33 []) =
    L
      (mkEnv 17
        [(0, PV.c (CV.int IntKind.u8 c)), (1, PV.c (CV.str s)), (4, PV.c (CV.bool false)),
          (5, PV.c (CV.int IntKind.i64 (Int.ofNat 0)))])
      [] := by kernel_rfl
theorem round33 (c : Int) (s : ByteArray) (n : Nat) (i : Int) (R : Env → Hp → Res) : round Tryd.prog T32 (filt an33 0) n ⟨[0, 1, 5], [], 0⟩ (codeOf Tryd.prog 33) (mkEnv 17 [(0, .c (.int .u8 c)), (1, .c (.str s)), (5, .c (.int .i64 i))]) [] R (endOf Tryd.prog 33 []) =
    bif' (decide (i < (↑s.size : Int)))
      (bif' (decide (0 ≤ i))
        (bif' (decide (i < (↑s.size : Int)))
          (bif' (byteAt s i.toNat == c) (some (CV.bool true, []))
            (R
              (mkEnv 17
                [(0, PV.c (CV.int IntKind.u8 c)), (1, PV.c (CV.str s)),
                  (5, PV.c (CV.int IntKind.i64 (IntKind.i64.wrap (i + 1))))])
              []))
          none)
        none)
      (some (CV.bool false, [])) := by kernel_rfl
theorem before15 (s : ByteArray) (n : Nat) (L : Env → Hp → Res) : before Tryd.prog T33 (filt an15 0) n (codeOf Tryd.prog 15) (envOf Tryd.prog 15 [.c (.str s)]) [] L (endOf Tryd.prog 15 []) =
    L
      (mkEnv 37
        [(0, PV.c (CV.str s)), (2, PV.c (CV.str (ByteArray.mk (Array.mk [])))), (3, PV.c CV.nilsl),
          (4, PV.c (CV.int IntKind.i64 (Int.ofNat 0)))])
      [] := by kernel_rfl
theorem round15 (s : ByteArray) (n : Nat) (i : Int) (xs : List CV) (R : Env → Hp → Res) : round Tryd.prog T33 (filt an15 0) n ⟨[0, 3, 4], [(3, 1)], 0⟩ (codeOf Tryd.prog 15) (mkEnv 37 [(0, .c (.str s)), (3, .rw 0 0), (4, .c (.int .i64 i))]) [.row xs 1 0 false] R (endOf Tryd.prog 15 []) =
    bif' (decide (i < (↑s.size : Int)))
      (bif' (decide (0 ≤ i))
        (bif' (decide (i < (↑s.size : Int)))
          (bif'
            (decide
              (Lib.indexByte
                  (ByteArray.mk
                        ([97, 98, 99, 100, 101, 102, 103, 104, 105, 106, 107, 108, 109, 110, 111, 112, 113, 114, 115, 116,
                                117, 118, 119, 120, 121, 122, 65, 66, 67, 68, 69, 70, 71].append
                            [72, 73, 74, 75, 76, 77, 78, 79, 80, 81, 82, 83, 84, 85, 86, 87, 88, 89, 90, 48, 49, 50, 51, 52,
                              53, 54, 55, 56, 57, 45, 46, 95, 126]).toArray).data.toList
                  (byteAt s i.toNat).toNat.toUInt8 ≥
                0))
            (bif' (decide (0 ≤ i))
              (bif' (decide (i < (↑s.size : Int)))
                (bif'
                  (decide
                    ((xs.length +
                          ((List.replicate 1 (CV.int IntKind.u8 0)).set 0 (CV.int IntKind.u8 (byteAt s i.toNat))).length) *
                        Tryd.prog.types[5].bytes ≤
                      70368744177664))
                  (R
                    (mkEnv 37
                      [(0, PV.c (CV.str s)), (3, PV.rw 0 0), (4, PV.c (CV.int IntKind.i64 (IntKind.i64.wrap (i + 1))))])
                    [AO.row (xs ++ (List.replicate 1 (CV.int IntKind.u8 0)).set 0 (CV.int IntKind.u8 (byteAt s i.toNat))) 1
                        0 false])
                  none)
                none)
              none)
            (bif' (decide (0 ≤ i))
              (bif' (decide (i < (↑s.size : Int)))
                (bif' (decide (0 ≤ (byteAt s i.toNat).fdiv (2 ^ min (Int.toNat 4) IntKind.u8.bits)))
                  (bif'
                    (decide
                      ((byteAt s i.toNat).fdiv (2 ^ min (Int.toNat 4) IntKind.u8.bits) <
                        (↑(ByteArray.mk #[48, 49, 50, 51, 52, 53, 54, 55, 56, 57, 65, 66, 67, 68, 69, 70]).size : Int)))
                    (bif' (decide (0 ≤ i))
                      (bif' (decide (i < (↑s.size : Int)))
                        (bif'
                          (decide
                            (IntKind.u8.wrap
                                (↑(BitVec.ofInt IntKind.u8.bits (byteAt s i.toNat) &&&
                                        BitVec.ofInt IntKind.u8.bits 15).toNat :
                                  Int) <
                              (↑(ByteArray.mk #[48, 49, 50, 51, 52, 53, 54, 55, 56, 57, 65, 66, 67, 68, 69, 70]).size :
                                Int)))
                          (bif'
                            (decide
                              ((xs.length +
                                    ((((List.replicate 3 (CV.int IntKind.u8 0)).set 0 (CV.int IntKind.u8 37)).set 1
                                            (CV.int IntKind.u8
                                              (byteAt
                                                (ByteArray.mk
                                                  #[48, 49, 50, 51, 52, 53, 54, 55, 56, 57, 65, 66, 67, 68, 69, 70])
                                                ((byteAt s i.toNat).fdiv
                                                    (2 ^ min (Int.toNat 4) IntKind.u8.bits)).toNat))).set
                                        2
                                        (CV.int IntKind.u8
                                          (byteAt
                                            (ByteArray.mk #[48, 49, 50, 51, 52, 53, 54, 55, 56, 57, 65, 66, 67, 68, 69, 70])
                                            (IntKind.u8.wrap
                                                (↑(BitVec.ofInt IntKind.u8.bits (byteAt s i.toNat) &&&
                                                        BitVec.ofInt IntKind.u8.bits 15).toNat :
                                                  Int)).toNat))).length) *
                                  Tryd.prog.types[5].bytes ≤
                                70368744177664))
                            (R
                              (mkEnv 37
                                [(0, PV.c (CV.str s)), (3, PV.rw 0 0),
                                  (4, PV.c (CV.int IntKind.i64 (IntKind.i64.wrap (i + 1))))])
                              [AO.row
                                  (xs ++
                                    (((List.replicate 3 (CV.int IntKind.u8 0)).set 0 (CV.int IntKind.u8 37)).set 1
                                          (CV.int IntKind.u8
                                            (byteAt
                                              (ByteArray.mk
                                                #[48, 49, 50, 51, 52, 53, 54, 55, 56, 57, 65, 66, 67, 68, 69, 70])
                                              ((byteAt s i.toNat).fdiv (2 ^ min (Int.toNat 4) IntKind.u8.bits)).toNat))).set
                                      2
                                      (CV.int IntKind.u8
                                        (byteAt
                                          (ByteArray.mk #[48, 49, 50, 51, 52, 53, 54, 55, 56, 57, 65, 66, 67, 68, 69, 70])
                                          (IntKind.u8.wrap
                                              (↑(BitVec.ofInt IntKind.u8.bits (byteAt s i.toNat) &&&
                                                      BitVec.ofInt IntKind.u8.bits 15).toNat :
                                                Int)).toNat)))
                                  1 0 false])
                            none)
                          none)
                        none)
                      none)
                    none)
                  none)
                none)
              none))
          none)
        none)
      (bif' (xs.all isU8) (some (CV.str (bytesOf xs), [])) none) := by kernel_rfl
theorem before16 (s : ByteArray) (n : Nat) (L : Env → Hp → Res) : before Tryd.prog T33 (filt an16 0) n (codeOf Tryd.prog 16) (envOf Tryd.prog 16 [.c (.str s)]) [] L (endOf Tryd.prog 16 []) =
    L
      (mkEnv 49
        [(0, PV.c (CV.str s)), (2, PV.c (CV.str (ByteArray.mk (Array.mk [])))),
          (3, PV.c (CV.str (ByteArray.mk (Array.mk [])))), (4, PV.c (CV.int IntKind.i64 (Int.ofNat 0)))])
      [] := by kernel_rfl
theorem round16 (s t : ByteArray) (n : Nat) (i : Int) (R : Env → Hp → Res) : round Tryd.prog T33 (filt an16 0) n ⟨[0, 3, 4], [], 0⟩ (codeOf Tryd.prog 16) (mkEnv 49 [(0, .c (.str s)), (3, .c (.str t)), (4, .c (.int .i64 i))]) [] R (endOf Tryd.prog 16 []) =
    bif' (decide (i < (↑s.size : Int)))
      (bif' (decide (0 ≤ i))
        (bif' (decide (i < (↑s.size : Int)))
          (bif' (lett (byteAt s i.toNat))
            (bif' (decide (0 ≤ i))
              (bif' (decide (i ≤ IntKind.i64.wrap (i + 1)))
                (bif' (decide (IntKind.i64.wrap (i + 1) ≤ (↑s.size : Int)))
                  (bif' (fitsS (t.size + (s.extract i.toNat (IntKind.i64.wrap (i + 1)).toNat).size))
                    (R
                      (mkEnv 49
                        [(0, PV.c (CV.str s)), (3, PV.c (CV.str (t ++ s.extract i.toNat (IntKind.i64.wrap (i + 1)).toNat))),
                          (4, PV.c (CV.int IntKind.i64 (IntKind.i64.wrap (i + 1))))])
                      [])
                    none)
                  none)
                none)
              none)
            (bif' (digi (byteAt s i.toNat))
              (bif' (decide (0 ≤ i))
                (bif' (decide (i ≤ IntKind.i64.wrap (i + 1)))
                  (bif' (decide (IntKind.i64.wrap (i + 1) ≤ (↑s.size : Int)))
                    (bif' (fitsS (t.size + (s.extract i.toNat (IntKind.i64.wrap (i + 1)).toNat).size))
                      (R
                        (mkEnv 49
                          [(0, PV.c (CV.str s)),
                            (3, PV.c (CV.str (t ++ s.extract i.toNat (IntKind.i64.wrap (i + 1)).toNat))),
                            (4, PV.c (CV.int IntKind.i64 (IntKind.i64.wrap (i + 1))))])
                        [])
                      none)
                    none)
                  none)
                none)
              (bif' (wit (byteAt s i.toNat) (ByteArray.mk #[45, 46, 95, 126]))
                (bif' (decide (0 ≤ i))
                  (bif' (decide (i ≤ IntKind.i64.wrap (i + 1)))
                    (bif' (decide (IntKind.i64.wrap (i + 1) ≤ (↑s.size : Int)))
                      (bif' (fitsS (t.size + (s.extract i.toNat (IntKind.i64.wrap (i + 1)).toNat).size))
                        (R
                          (mkEnv 49
                            [(0, PV.c (CV.str s)),
                              (3, PV.c (CV.str (t ++ s.extract i.toNat (IntKind.i64.wrap (i + 1)).toNat))),
                              (4, PV.c (CV.int IntKind.i64 (IntKind.i64.wrap (i + 1))))])
                          [])
                        none)
                      none)
                    none)
                  none)
                (bif' (fitsS (t.size + (ByteArray.mk #[37]).size))
                  (bif'
                    (decide
                      (IntKind.u8.wrap ((byteAt s i.toNat).tdiv 16) ≤
                        IntKind.u8.wrap (IntKind.u8.wrap ((byteAt s i.toNat).tdiv 16) + 1)))
                    (bif'
                      (decide
                        (IntKind.u8.wrap (IntKind.u8.wrap ((byteAt s i.toNat).tdiv 16) + 1) ≤
                          (↑(ByteArray.mk #[48, 49, 50, 51, 52, 53, 54, 55, 56, 57, 65, 66, 67, 68, 69, 70]).size : Int)))
                      (bif'
                        (fitsS
                          ((t ++ ByteArray.mk #[37]).size +
                            ((ByteArray.mk #[48, 49, 50, 51, 52, 53, 54, 55, 56, 57, 65, 66, 67, 68, 69, 70]).extract
                                (IntKind.u8.wrap ((byteAt s i.toNat).tdiv 16)).toNat
                                (IntKind.u8.wrap (IntKind.u8.wrap ((byteAt s i.toNat).tdiv 16) + 1)).toNat).size))
                        (bif' (decide ((byteAt s i.toNat).tmod 16 ≤ IntKind.u8.wrap ((byteAt s i.toNat).tmod 16 + 1)))
                          (bif'
                            (decide
                              (IntKind.u8.wrap ((byteAt s i.toNat).tmod 16 + 1) ≤
                                (↑(ByteArray.mk #[48, 49, 50, 51, 52, 53, 54, 55, 56, 57, 65, 66, 67, 68, 69, 70]).size :
                                  Int)))
                            (bif'
                              (fitsS
                                ((t ++ ByteArray.mk #[37] ++
                                      (ByteArray.mk
                                            #[48, 49, 50, 51, 52, 53, 54, 55, 56, 57, 65, 66, 67, 68, 69, 70]).extract
                                        (IntKind.u8.wrap ((byteAt s i.toNat).tdiv 16)).toNat
                                        (IntKind.u8.wrap (IntKind.u8.wrap ((byteAt s i.toNat).tdiv 16) + 1)).toNat).size +
                                  ((ByteArray.mk #[48, 49, 50, 51, 52, 53, 54, 55, 56, 57, 65, 66, 67, 68, 69, 70]).extract
                                      ((byteAt s i.toNat).tmod 16).toNat
                                      (IntKind.u8.wrap ((byteAt s i.toNat).tmod 16 + 1)).toNat).size))
                              (R
                                (mkEnv 49
                                  [(0, PV.c (CV.str s)),
                                    (3,
                                      PV.c
                                        (CV.str
                                          (t ++ ByteArray.mk #[37] ++
                                              (ByteArray.mk
                                                    #[48, 49, 50, 51, 52, 53, 54, 55, 56, 57, 65, 66, 67, 68, 69,
                                                      70]).extract
                                                (IntKind.u8.wrap ((byteAt s i.toNat).tdiv 16)).toNat
                                                (IntKind.u8.wrap
                                                    (IntKind.u8.wrap ((byteAt s i.toNat).tdiv 16) + 1)).toNat ++
                                            (ByteArray.mk
                                                  #[48, 49, 50, 51, 52, 53, 54, 55, 56, 57, 65, 66, 67, 68, 69, 70]).extract
                                              ((byteAt s i.toNat).tmod 16).toNat
                                              (IntKind.u8.wrap ((byteAt s i.toNat).tmod 16 + 1)).toNat))),
                                    (4, PV.c (CV.int IntKind.i64 (IntKind.i64.wrap (i + 1))))])
                                [])
                              none)
                            none)
                          none)
                        none)
                      none)
                    none)
                  none))))
          none)
        none)
      (some (CV.str t, [])) := by kernel_rfl
theorem before17 (s : ByteArray) (n : Nat) (L : Env → Hp → Res) : before Tryd.prog T33 (filt an17 0) n (codeOf Tryd.prog 17) (envOf Tryd.prog 17 [.c (.str s)]) [] L (endOf Tryd.prog 17 []) =
    L (mkEnv 49 [(0, PV.c (CV.str s)), (2, PV.c (CV.bool false)), (3, PV.c (CV.int IntKind.i64 (Int.ofNat 0)))]) [] := by kernel_rfl
theorem round17 (s : ByteArray) (n : Nat) (i : Int) (R : Env → Hp → Res) : round Tryd.prog T33 (filt an17 0) n ⟨[0, 3], [], 0⟩ (codeOf Tryd.prog 17) (mkEnv 49 [(0, .c (.str s)), (3, .c (.int .i64 i))]) [] R (endOf Tryd.prog 17 []) =
    bif' (decide (i < (↑s.size : Int)))
      (bif' (decide (0 ≤ i))
        (bif' (decide (i < (↑s.size : Int)))
          (bif' (decide (byteAt s i.toNat < 33)) (some (CV.bool false, []))
            (bif' (decide (byteAt s i.toNat > 126)) (some (CV.bool false, []))
              (bif' (wit (byteAt s i.toNat) (ByteArray.mk #[34, 60, 62, 92, 94, 123, 124, 125])) (some (CV.bool false, []))
                (bif' (byteAt s i.toNat == 96) (some (CV.bool false, []))
                  (bif' (byteAt s i.toNat == 37)
                    (bif' (decide (IntKind.i64.wrap (i + 3) > (↑s.size : Int))) (some (CV.bool false, []))
                      (bif' (decide (0 ≤ IntKind.i64.wrap (i + 1)))
                        (bif' (decide (IntKind.i64.wrap (i + 1) ≤ IntKind.i64.wrap (i + 3)))
                          (bif' (decide (IntKind.i64.wrap (i + 3) ≤ (↑s.size : Int)))
                            (bif'
                              (decide
                                  ((s.extract (IntKind.i64.wrap (i + 1)).toNat (IntKind.i64.wrap (i + 3)).toNat).size =
                                    2) &&
                                (decide
                                    (0 ≤
                                      hx
                                        (byteAt
                                          (s.extract (IntKind.i64.wrap (i + 1)).toNat (IntKind.i64.wrap (i + 3)).toNat)
                                          0)) &&
                                  decide
                                    (0 ≤
                                      hx
                                        (byteAt
                                          (s.extract (IntKind.i64.wrap (i + 1)).toNat (IntKind.i64.wrap (i + 3)).toNat)
                                          1))))
                              (R
                                (mkEnv 49 [(0, PV.c (CV.str s)), (3, PV.c (CV.int IntKind.i64 (IntKind.i64.wrap (i + 1))))])
                                [])
                              (bif'
                                (decide
                                  ((s.extract (IntKind.i64.wrap (i + 1)).toNat (IntKind.i64.wrap (i + 3)).toNat).size = 2))
                                (some (CV.bool false, [])) none))
                            none)
                          none)
                        none))
                    (R (mkEnv 49 [(0, PV.c (CV.str s)), (3, PV.c (CV.int IntKind.i64 (IntKind.i64.wrap (i + 1))))]) []))))))
          none)
        none)
      (some (CV.bool true, [])) := by kernel_rfl

theorem entry33 (c : Int) (s : ByteArray) (n : Nat) : abody Tryd.prog T32 an33 n 33 [.int .u8 c, .str s] =
    before Tryd.prog T32 (filt an33 0) n (codeOf Tryd.prog 33) (envOf Tryd.prog 33 [.c (.int .u8 c), .c (.str s)]) [] (fun env H => loopAt Tryd.prog T32 (filt an33 0) n ⟨[0, 1, 5], [], 0⟩ (codeOf Tryd.prog 33) env H (endOf Tryd.prog 33 [])) (endOf Tryd.prog 33 []) := by kernel_rfl
theorem entry15 (s : ByteArray) (n : Nat) : abody Tryd.prog T33 an15 n 15 [.str s] =
    before Tryd.prog T33 (filt an15 0) n (codeOf Tryd.prog 15) (envOf Tryd.prog 15 [.c (.str s)]) [] (fun env H => loopAt Tryd.prog T33 (filt an15 0) n ⟨[0, 3, 4], [(3, 1)], 0⟩ (codeOf Tryd.prog 15) env H (endOf Tryd.prog 15 [])) (endOf Tryd.prog 15 []) := by kernel_rfl
theorem entry16 (s : ByteArray) (n : Nat) : abody Tryd.prog T33 an16 n 16 [.str s] =
    before Tryd.prog T33 (filt an16 0) n (codeOf Tryd.prog 16) (envOf Tryd.prog 16 [.c (.str s)]) [] (fun env H => loopAt Tryd.prog T33 (filt an16 0) n ⟨[0, 3, 4], [], 0⟩ (codeOf Tryd.prog 16) env H (endOf Tryd.prog 16 [])) (endOf Tryd.prog 16 []) := by kernel_rfl
theorem entry17 (s : ByteArray) (n : Nat) : abody Tryd.prog T33 an17 n 17 [.str s] =
    before Tryd.prog T33 (filt an17 0) n (codeOf Tryd.prog 17) (envOf Tryd.prog 17 [.c (.str s)]) [] (fun env H => loopAt Tryd.prog T33 (filt an17 0) n ⟨[0, 3], [], 0⟩ (codeOf Tryd.prog 17) env H (endOf Tryd.prog 17 [])) (endOf Tryd.prog 17 []) := by kernel_rfl

end Go.Pv
