/- letter, digit, Within: contracts. -/
import Derived.Test.YtpclikkakhcomaaDoorEs1
set_option linter.unusedVariables false
set_option maxRecDepth 100000
namespace Go.Pv
open Go Go.Proofs

theorem bl {a b : Bool} (h : a = true ↔ b = true) : (some (CV.bool a, []) : Res) = some (CV.bool b, []) := by rw [Bool.eq_iff_iff.2 h]
theorem val31 (c : Int) : abody Tryd.prog T8 (fun _ => none) 1 31 [.int .u8 c] = some (.bool (lett c), []) := by
  rw [tree31]
  simp only [bif_dec]
  unfold lett
  repeat' split
  all_goals
    refine bl ?_
    simp
    try omega
theorem val32 (c : Int) : abody Tryd.prog T31 (fun _ => none) 1 32 [.int .u8 c] = some (.bool (digi c), []) := by
  rw [tree32]
  simp only [bif_dec]
  unfold digi
  repeat' split
  all_goals
    refine bl ?_
    simp
    try omega
theorem c31 : Ct 31 F31 := contract_of (fun _ => none) on0 k8 fun cargs rv outs h => by
  unfold F31 at h
  split at h <;> first | (cases h; done) | skip
  cases h
  exact ⟨1, val31 _⟩
theorem k31 : Kn T31 := known_add k8 c31
theorem c32 : Ct 32 F32 := contract_of (fun _ => none) on0 k31 fun cargs rv outs h => by
  unfold F32 at h
  split at h <;> first | (cases h; done) | skip
  cases h
  exact ⟨1, val32 _⟩
theorem k32 : Kn T32 := known_add k31 c32

theorem wit_drop {c : Int} {s : ByteArray} {i : Nat} (h : i < s.size) : (s.data.toList.drop i).any (fun b => decide ((b.toNat : Int) = c)) = ((byteAt s i == c) || (s.data.toList.drop (i + 1)).any fun b => decide ((b.toNat : Int) = c)) := by
  have hl : i < s.data.toList.length := by rw [Array.length_toList]; exact h
  rw [List.drop_eq_getElem_cons hl, List.any_cons]
  congr 1
  unfold byteAt
  rw [List.getD_eq_getElem?_getD, List.getElem?_eq_getElem hl]
  rfl
theorem loop33 (c : Int) (s : ByteArray) (n : Nat) (hs : s.size ≤ 10000) : ∀ (k i : Nat), s.size < i + k → i ≤ s.size →
    roundsOf Tryd.prog T32 (filt an33 0) n ⟨[0, 1, 5], [], 0⟩ (codeOf Tryd.prog 33) k (mkEnv 17 [(0, .c (.int .u8 c)), (1, .c (.str s)), (5, .c (.int .i64 i))]) [] (endOf Tryd.prog 33 []) = some (.bool ((s.data.toList.drop i).any fun b => decide ((b.toNat : Int) = c)), [])
  | 0, i, hk, hi => by omega
  | k + 1, i, hk, hi => by
    rw [roundsOf_succ, round33]
    simp only [bif_dec, wr1 (show i ≤ 20000 by omega), Int.toNat_natCast]
    by_cases h1 : i < s.size
    · rw [if_pos (by omega), if_pos (by omega), if_pos (by omega), wit_drop h1]
      cases hb : byteAt s i == c
      · rw [bif_f _ _ rfl, loop33 c s n hs k (i + 1) (by omega) (by omega)]; rfl
      · rw [bif_t _ _ rfl]; rfl
    · rw [if_neg (by omega), List.drop_of_length_le (by rw [Array.length_toList]; exact Nat.le_of_not_lt h1)]
      rfl
theorem val33 (c : Int) (s : ByteArray) (hs : s.size ≤ 10000) : abody Tryd.prog T32 an33 12000 33 [.int .u8 c, .str s] = some (.bool (wit c s), []) := by
  rw [entry33, before33, loopAt_eq]
  have := loop33 c s 12000 hs 12000 0 (by omega) (by omega)
  rw [List.drop_zero] at this
  unfold wit
  refine Eq.trans ?_ this
  kernel_rfl
theorem c33 : Ct 33 F33 := contract_of an33 on0 k32 fun cargs rv outs h => by
  unfold F33 at h
  split at h <;> first | (cases h; done) | skip
  rename_i c s
  simp only [picked, pickAlt] at h
  split at h
  · rename_i hb
    cases h
    exact ⟨12000, val33 c s (of_decide_eq_true hb)⟩
  · cases h
theorem k33 : Kn T33 := known_add k32 c33

end Go.Pv
