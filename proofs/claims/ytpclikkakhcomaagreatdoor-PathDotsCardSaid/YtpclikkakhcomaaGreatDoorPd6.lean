/- PathDots: the law's code. -/
import Derived.Test.YtpclikkakhcomaaGreatDoorPd5
import Derived.Test.YtpclikkakhcomaaGreatDoorAw8
set_option linter.unusedVariables false
set_option maxRecDepth 100000
namespace Go.Pv
open Go Go.Proofs

def dotS (s : ByteArray) : ByteArray := mkS (dotsL s.data.toList)
def Q19 : Fn1 := fun x => match x with
  | [.str s] => some [(decide (s.size ≤ 4000), .str (dotS s), [])]
  | _ => none
def Q6 : Fn1 := fun x => match x with
  | [.str s] => some [(decide (s.size ≤ 2048), .str (dotS s), []), (true, .str s, [])]
  | _ => none
def Q7 : Fn1 := fun x => match x with
  | [] => some [(true, .bool true, [])]
  | _ => none
def W0 : Table := fun _ _ => none
def W19 : Table := fun g => if Nat.beq g 19 then Q19 else W0 g
def W6 : Table := fun g => if Nat.beq g 6 then Q6 else W19 g
def W8 : Table := fun g => if Nat.beq g 8 then Q19 else W6 g
def W7 : Table := fun g => if Nat.beq g 7 then Q7 else W8 g
theorem tree6d (s : ByteArray) : abody Tryz.prog (call' W19) (fun _ => none) 1 6 [.str s] =
    bif' (decide ((↑s.size : Int) > 2048)) (some (CV.str s, []))
      (bif' (decide (s.size ≤ 4000)) (some (CV.str (dotS s), [])) none) := by kernel_rfl
theorem tree3d (s : ByteArray) : abody Tryz.prog (call' W7) (fun _ => none) 1 3 [.str s] =
    bif' (decide (s.size ≤ 2048))
      (bif' (decide ((↑s.size : Int) > 2048))
        (bif' ((dotS s).toList == s.toList) (some (CV.bool true, [])) (some (CV.bool false, [])))
        (bif' (decide (s.size ≤ 4000))
          (bif' ((dotS s).toList == (dotS s).toList)
            (bif' (decide ((dotS s).size ≤ 2048))
              (bif' ((dotS (dotS s)).toList == (dotS s).toList) (some (CV.bool true, [])) (some (CV.bool false, [])))
              (bif' ((dotS s).toList == (dotS s).toList) (some (CV.bool true, [])) (some (CV.bool false, []))))
            (some (CV.bool false, [])))
          none))
      (bif' (decide ((↑s.size : Int) > 2048))
        (bif' (s.toList == s.toList) (some (CV.bool true, [])) (some (CV.bool false, [])))
        (bif' (decide (s.size ≤ 4000))
          (bif' (s.toList == (dotS s).toList)
            (bif' (decide (s.size ≤ 2048))
              (bif' ((dotS s).toList == s.toList) (some (CV.bool true, [])) (some (CV.bool false, [])))
              (bif' (s.toList == s.toList) (some (CV.bool true, [])) (some (CV.bool false, []))))
            (some (CV.bool false, [])))
          none)) := by kernel_rfl

end Go.Pv
