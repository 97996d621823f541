/- PathDots: what its code does. -/
import Derived.Test.YtpclikkakhcomaaGreatDoorPd6
set_option linter.unusedVariables false
set_option maxRecDepth 100000
namespace Go.Pv
open Go Go.Proofs

theorem k22 : Kn V22 := known_add known_no (contract_of (fun _ => none) on0 (hok_of known_no) fun cargs rv outs h => by
  unfold P22 at h
  split at h
  · rename_i s p
    cases h
    refine ⟨1, ?_⟩
    have ht := tree22 s p
    show abody Tryz.prog (call' V0) (fun _ => none) 1 22 [.str s, .str p] = _
    rw [ht, ← mkS_bl s, ← mkS_bl p, pre_list]
    generalize s.data.toList = l
    generalize p.data.toList = q
    rw [bif_dec]
    by_cases hq : q.length ≤ l.length
    · rw [if_pos (by rw [mkS_size, mkS_size]; omega), bif_dec, if_pos (by rw [mkS_size, mkS_size]; omega)]
      rw [mkS_ext, mkS_toList, mkS_toList]
      congr 3
      rw [Bool.eq_iff_iff, beq_iff_eq, List.isPrefixOf_iff_prefix, List.prefix_iff_eq_take]
      simp [mkS_size]
      exact eq_comm
    · rw [if_neg (by rw [mkS_size, mkS_size]; omega)]
      congr 3
      refine (Bool.eq_false_iff.2 fun h => hq (pre_len h)).symm
  · cases h)
theorem m19 : Ct 19 Q19 := contract_of an19 on0 (hok_of e39) fun cargs rv outs h => by
  unfold Q19 at h
  split at h <;> first | (cases h; done) | skip
  rename_i s
  by_cases hs : s.size ≤ 4000
  · simp only [picked, pickAlt, decide_eq_true hs] at h
    cases h
    refine ⟨12000, ?_⟩
    have := val19 s.data.toList (by have : s.data.toList.length = s.size := Array.length_toList; omega)
    rw [mkS_bl] at this
    exact this
  · simp only [picked, pickAlt, decide_eq_false hs] at h; cases h
theorem m8 : Ct 8 Q19 := contract_of an8 on0 (hok_of k22) fun cargs rv outs h => by
  unfold Q19 at h
  split at h <;> first | (cases h; done) | skip
  rename_i s
  by_cases hs : s.size ≤ 4000
  · simp only [picked, pickAlt, decide_eq_true hs] at h
    cases h
    refine ⟨12000, ?_⟩
    have := val8 s.data.toList (by have : s.data.toList.length = s.size := Array.length_toList; omega)
    rw [mkS_bl, dotsL_ref] at this
    exact this
  · simp only [picked, pickAlt, decide_eq_false hs] at h; cases h
theorem w19 : Kn W19 := known_add known_no m19
theorem m6 : Ct 6 Q6 := contract_of (fun _ => none) on0 (hok_of w19) fun cargs rv outs h => by
  unfold Q6 at h
  split at h <;> first | (cases h; done) | skip
  rename_i s
  refine ⟨1, ?_⟩
  rw [tree6d, bif_dec, bif_dec]
  by_cases hs : s.size ≤ 2048
  · simp only [picked, pickAlt, decide_eq_true hs] at h
    cases h
    rw [if_neg (by omega), if_pos (by omega)]
  · simp only [picked, pickAlt, decide_eq_false hs] at h
    cases h
    rw [if_pos (by omega)]
theorem w6 : Kn W6 := known_add w19 m6
theorem w8 : Kn W8 := known_add w6 m8
theorem m7 : Ct 7 Q7 := fun cargs rv outs h => cAwake on0 cargs rv outs h
theorem w7 : Kn W7 := known_add w8 m7

theorem dotS_size (s : ByteArray) : (dotS s).size ≤ s.size := by
  have := dotsL_len s.data.toList
  have h : s.data.toList.length = s.size := Array.length_toList
  unfold dotS
  rw [mkS_size]; omega
theorem dotS_id (s : ByteArray) (hs : s.size ≤ 10000) : dotS (dotS s) = dotS s := by
  have h : s.data.toList.length = s.size := Array.length_toList
  unfold dotS
  rw [mkS_data, dotsL_id _ (by omega)]

def Q3 : Fn1 := fun x => match x with
  | [.str s] => some [(true, .bool true, [])]
  | _ => none
theorem m3 : Ct 3 Q3 := contract_of (fun _ => none) on0 (hok_of w7) fun cargs rv outs h => by
  unfold Q3 at h
  split at h <;> first | (cases h; done) | skip
  rename_i s
  cases h
  refine ⟨1, ?_⟩
  rw [tree3d]
  simp only [bif_dec]
  by_cases hs : s.size ≤ 2048
  · have hd := dotS_size s
    rw [if_pos hs, if_neg (by omega), if_pos (by omega), bif_t _ _ (by simp), if_pos (by omega), dotS_id s (by omega), bif_t _ _ (by simp)]
  · rw [if_neg hs, if_pos (by omega), bif_t _ _ (by simp)]

end Go.Pv
