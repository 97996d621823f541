/- UrlUnescapes: what its code does. -/
import Derived.Test.YtpclikkakhcomaaDoorUn3
import Derived.Test.YtpclikkakhcomaaDoorAw1
set_option linter.unusedVariables false
set_option maxRecDepth 100000
namespace Go.Pv
open Go Go.Proofs

def unOk (s : ByteArray) : Bool := (unS s 12000 0 []).isSome
def unT (s : ByteArray) : ByteArray := text8 ((unS s 12000 0 []).getD [])
def F7 : Fn1 := fun x => match x with
  | [.str s] => some [
    (decide (s.size ≤ 10000) && unOk s, .tup [.str (unT s), .int .i64 0], []),
    (decide (s.size ≤ 10000) && !unOk s, .tup [.str ⟨#[]⟩, .int .i64 5], [])]
  | _ => none
def F8 : Fn1 := fun x => match x with
  | [.str s] => some [
    (decide (s.size ≤ 10000) && unOk s, .tup [.str (unT s), .bool true], []),
    (decide (s.size ≤ 10000) && !unOk s, .tup [.str ⟨#[]⟩, .bool false], [])]
  | _ => none
def T6 : Table := fun g => if Nat.beq g 6 then F6 else T19 g
def T7 : Table := fun g => if Nat.beq g 7 then F7 else T6 g
def T8 : Table := fun g => if Nat.beq g 8 then F8 else T7 g
theorem tree3 (s : ByteArray) : abody Tryd.prog T8 (fun _ => none) 1 3 [.str s] =
    bif' (decide ((↑s.size : Int) > 3000)) (some (CV.bool true, []))
      (bif' (decide (s.size ≤ 10000) && unOk s)
        (bif' (decide (s.size ≤ 10000) && unOk s)
          (bif' ((unT s).toList == (unT s).toList) (some (CV.bool true, [])) (some (CV.bool false, [])))
          (bif' (decide (s.size ≤ 10000) && !unOk s) (some (CV.bool false, [])) none))
        (bif' (decide (s.size ≤ 10000) && !unOk s)
          (bif' (decide (s.size ≤ 10000) && unOk s) (some (CV.bool false, []))
            (bif' (decide (s.size ≤ 10000) && !unOk s) (some (CV.bool true, [])) none))
          none)) := by kernel_rfl

theorem k6 : Kn T6 := known_add k19 (c6 on0)
theorem c7 : Ct 7 F7 := contract_of an7 on0 k19 fun cargs rv outs h => by
  unfold F7 at h
  split at h <;> first | (cases h; done) | skip
  rename_i s
  simp only [picked, pickAlt] at h
  have hs : s.size ≤ 10000 := by
    split at h
    · rename_i hb; simp only [Bool.and_eq_true, decide_eq_true_eq] at hb; exact hb.1
    · split at h
      · rename_i hb; simp only [Bool.and_eq_true, decide_eq_true_eq] at hb; exact hb.1
      · cases h
  refine ⟨12000, ?_⟩
  rw [val7 s hs]
  simp only [decide_eq_true hs, Bool.true_and] at h
  unfold unOk unT at h
  cases hu : unS s 12000 0 [] with
  | none => rw [hu] at h; exact h
  | some l => rw [hu] at h; exact h
theorem k7 : Kn T7 := known_add k6 c7
theorem c8 : Ct 8 F8 := contract_of an8 on0 k19 fun cargs rv outs h => by
  unfold F8 at h
  split at h <;> first | (cases h; done) | skip
  rename_i s
  simp only [picked, pickAlt] at h
  have hs : s.size ≤ 10000 := by
    split at h
    · rename_i hb; simp only [Bool.and_eq_true, decide_eq_true_eq] at hb; exact hb.1
    · split at h
      · rename_i hb; simp only [Bool.and_eq_true, decide_eq_true_eq] at hb; exact hb.1
      · cases h
  refine ⟨12000, ?_⟩
  rw [val8 s hs]
  simp only [decide_eq_true hs, Bool.true_and] at h
  unfold unOk unT at h
  cases hu : unS s 12000 0 [] with
  | none => rw [hu] at h; exact h
  | some l => rw [hu] at h; exact h
theorem k8 : Kn T8 := known_add k7 c8

def F3 : Fn1 := fun x => match x with
  | [.str s] => some [(true, .bool true, [])]
  | _ => none
theorem c3 : Ct 3 F3 := contract_of (fun _ => none) on0 k8 fun cargs rv outs h => by
  unfold F3 at h
  split at h <;> first | (cases h; done) | skip
  rename_i s
  cases h
  refine ⟨1, ?_⟩
  rw [tree3, bif_dec]
  split
  · rfl
  · have hs : s.size ≤ 10000 := by omega
    simp only [decide_eq_true hs, Bool.true_and]
    cases unOk s
    · rfl
    · simp [bif']

end Go.Pv
