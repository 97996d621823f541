/- awake: one question with its answer, worked out. -/
import Derived.Test.YtpclikkakhcomaaDoorPv27
import Derived.Test.YtpclikkakhcomaaDoorProg
set_option linter.unusedVariables false
set_option maxRecDepth 100000
namespace Go.Pv
open Go Go.Proofs

def awakeList : List (FuncId × List (Nat × Head)) := [
  (13, []), (27, []), (30, []), (24, []),
  (25, [(2, ⟨[0, 3], [], 0⟩)]),
  (23, [(2, ⟨[0, 1, 6], [], 0⟩)]),
  (42, [(1, ⟨[0, 1], [], 0⟩), (5, ⟨[0, 1, 5, 6, 7, 19], [], 1⟩)]),
  (43, [(2, ⟨[0, 1, 11], [], 1⟩), (6, ⟨[0, 1, 5, 6, 7, 11, 17], [], 2⟩)]),
  (52, []), (67, []),
  (26, []), (28, []), (29, []), (45, []), (46, []), (44, []), (48, []), (60, []), (55, []), (53, []), (69, []),
  (54, [(2, ⟨[0, 1, 5], [], 0⟩)]), (49, [])]
noncomputable def awakeT : Table := bodies Tryd.prog 100 awakeList noTable
theorem awake_val : abody Tryd.prog awakeT (fun _ => none) 1 6 [] = some (.bool true, []) := by kernel_rfl
def F6 : Fn1 := fun x => match x with
  | [] => some [(true, .bool true, [])]
  | _ => none
theorem c6 {I : World → Prop} {ng : Nat} (hg : OnGlobals I ng) : Contract Tryd.prog I ng 6 F6 := contract_of (fun _ => none) hg (known_bodies hg known_no _) fun cargs rv outs h => by
  unfold F6 at h
  split at h
  · cases h; exact ⟨1, awake_val⟩
  · cases h

end Go.Pv
