/- Paths without dots: contracts of what is called; the loop of 'undotted'. -/
import Derived.Test.YtpclikkakhcomaaGreatDoorPv31
import Derived.Test.YtpclikkakhcomaaGreatDoorPd1
import Derived.Lib.IndexLaws
set_option linter.unusedVariables false
set_option maxRecDepth 100000
namespace Go.Pv
open Go Go.Proofs

def I0 : World → Prop := fun _ => True
theorem on0 : OnGlobals I0 0 := fun _ _ _ _ => trivial
abbrev Kn (tb : Table) : Prop := Known Tryz.prog I0 0 tb
abbrev Ct (f : FuncId) (F : Fn1) : Prop := Contract Tryz.prog I0 0 f F

theorem pre_list (l p : List UInt8) : pre (mkS l) (mkS p) = p.isPrefixOf l := by
  unfold pre
  rw [mkS_ext, mkS_toList, mkS_toList, mkS_size, mkS_size, List.drop_zero, Nat.sub_zero, Bool.eq_iff_iff, Bool.and_eq_true, decide_eq_true_eq, beq_iff_eq, List.isPrefixOf_iff_prefix, List.prefix_iff_eq_take]
  constructor
  · rintro ⟨_, h⟩; exact h.symm
  · intro h
    refine ⟨?_, h.symm⟩
    have := congrArg List.length h
    rw [List.length_take] at this
    omega
theorem pre_len {l p : List UInt8} (h : p.isPrefixOf l = true) : p.length ≤ l.length := (List.isPrefixOf_iff_prefix.1 h).length_le

/-! ### Contracts -/
theorem d65 : Ct 65 P38 := contract_of (fun _ => none) on0 (hok_of known_no) fun cargs rv outs h => by
  unfold P38 at h
  split at h
  · cases h; exact ⟨1, tree65 _ _⟩
  · cases h
theorem e65 : Kn U65 := known_add known_no d65
theorem d63 : Ct 63 P36 := contract_of (fun _ => none) on0 (hok_of e65) fun cargs rv outs h => by
  unfold P36 at h
  split at h
  · rename_i s p
    cases h
    refine ⟨1, ?_⟩
    rw [tree63]
    rw [← mkS_bl s, ← mkS_bl p, pre_list]
    generalize s.data.toList = l
    generalize p.data.toList = q
    rw [bif_dec]
    by_cases hq : q.length ≤ l.length
    · rw [if_pos (by rw [mkS_size, mkS_size]; omega), bif_dec, if_pos (by rw [mkS_size, mkS_size]; omega)]
      rw [mkS_ext, mkS_toList, mkS_toList]
      congr 3
      rw [Bool.eq_iff_iff, beq_iff_eq, List.isPrefixOf_iff_prefix, List.prefix_iff_eq_take]
      simp [mkS_size]
      exact eq_comm
    · rw [if_neg (by rw [mkS_size, mkS_size]; omega)]
      congr 3
      refine (Bool.eq_false_iff.2 fun h => hq (pre_len h)).symm
  · cases h
theorem e63 : Kn U63 := known_add e65 d63
theorem d64 : Ct 64 P37 := contract_of (fun _ => none) on0 (hok_of e63) fun cargs rv outs h => by
  unfold P37 at h
  split at h
  · rename_i s p
    refine ⟨1, ?_⟩
    rw [tree64]
    cases hp : pre s p with
    | true =>
      rw [hp] at h
      cases h
      have hl : p.size ≤ s.size := by
        rw [← mkS_bl s, ← mkS_bl p, pre_list] at hp
        exact pre_len hp
      rw [bif_t _ _ rfl, bif_dec, if_pos (by omega), bif_dec, if_pos (by omega)]
      simp
    | false =>
      rw [hp] at h
      cases h
      rw [bif_f _ _ rfl]
  · cases h
theorem e64 : Kn U64 := known_add e63 d64
theorem d36 : Ct 36 P36 := contract_of (fun _ => none) on0 (hok_of e64) fun cargs rv outs h => by
  unfold P36 at h
  split at h
  · cases h; exact ⟨1, tree36 _ _⟩
  · cases h
theorem e36 : Kn U36 := known_add e64 d36
theorem d37 : Ct 37 P37 := contract_of (fun _ => none) on0 (hok_of e36) fun cargs rv outs h => by
  unfold P37 at h
  split at h
  · rename_i s p
    refine ⟨1, ?_⟩
    rw [tree37]
    cases hp : pre s p with
    | true => rw [hp] at h; cases h; rfl
    | false => rw [hp] at h; cases h; rfl
  · cases h
theorem e37 : Kn U37 := known_add e36 d37
theorem d38 : Ct 38 P38 := contract_of (fun _ => none) on0 (hok_of e37) fun cargs rv outs h => by
  unfold P38 at h
  split at h
  · cases h; exact ⟨1, tree38 _ _⟩
  · cases h
theorem e38 : Kn U38 := known_add e37 d38
theorem d39 : Ct 39 PJoin := fun cargs rv outs h => c39 on0 cargs rv outs (by
  unfold PJoin at h
  unfold FJoin
  exact h)
theorem e39 : Kn U39 := known_add e38 d39

/-! ### The loop -/
/-- How long the first part of a path is. -/
def seg (s : List UInt8) : Nat := 1 + ((s.drop 1).takeWhile (· != 47)).length
theorem seg_index (t : List UInt8) : (Lib.indexByte t 47 = -1 ∧ (t.takeWhile (· != 47)).length = t.length) ∨ (Lib.indexByte t 47 = ((t.takeWhile (· != 47)).length : Int) ∧ (t.takeWhile (· != 47)).length < t.length) := by
  induction t with
  | nil => exact .inl ⟨rfl, rfl⟩
  | cons b t ih =>
    unfold Lib.indexByte
    by_cases hb : b = 47
    · subst hb
      exact .inr ⟨by simp, by simp⟩
    · have h1 : (b == 47) = false := by simpa using hb
      have h2 : (b :: t).takeWhile (· != 47) = b :: t.takeWhile (· != 47) := by
        rw [List.takeWhile_cons_of_pos (by simpa using hb)]
      rw [h1, h2]
      simp only [Bool.false_eq_true, if_false, List.length_cons]
      rcases ih with ⟨i1, i2⟩ | ⟨i1, i2⟩
      · exact .inl ⟨by rw [i1]; rfl, by omega⟩
      · refine .inr ⟨?_, by omega⟩
        rw [i1, if_neg (by simp)]
        rfl

def und : Nat → List UInt8 → List (List UInt8) → List (List UInt8)
  | 0, _, l => l
  | k + 1, s, l =>
    if s = [] then l
    else if [46, 46, 47].isPrefixOf s = true then und k (s.drop 3) l
    else if [46, 47].isPrefixOf s = true then und k (s.drop 2) l
    else if [47, 46, 47].isPrefixOf s = true then und k (s.drop 2) l
    else if s = [47, 46] then und k [47] l
    else if [47, 46, 46, 47].isPrefixOf s = true then und k (s.drop 3) l.dropLast
    else if s = [47, 46, 46] then und k [47] l.dropLast
    else if s = [46] ∨ s = [46, 46] then und k [] l
    else und k (s.drop (seg s)) (l ++ [s.take (seg s)])

def cvs (l : List (List UInt8)) : List CV := l.map fun b => .str (mkS b)
theorem cvs_len (l : List (List UInt8)) : (cvs l).length = l.length := by simp [cvs]
theorem cvs_all (l : List (List UInt8)) : (cvs l).all isStrC = true := by
  simp [cvs, isStrC]
theorem cvs_parts (l : List (List UInt8)) : partsOf (cvs l) = l := by
  simp [partsOf, cvs, CV.toStr, mkS_data, Function.comp_def]
theorem join_flat : ∀ l : List (List UInt8), Lib.join l [] = l.flatten
  | [] => rfl
  | x :: l => by
    rw [Lib.join_cons]
    simp [Lib.joinTail]
theorem bytes9 : Tryz.prog.types[9].bytes = 16 := by kernel_rfl

theorem pre3 {l : List UInt8} {a b c d : UInt8} (h : [a, b, c, d].isPrefixOf l = true) : ∃ t, l = a :: b :: c :: d :: t := by
  obtain ⟨t, ht⟩ := List.isPrefixOf_iff_prefix.1 h
  exact ⟨t, by rw [← ht]; rfl⟩

theorem t0 : Int.toNat 0 = 0 := rfl
theorem t1 : Int.toNat 1 = 1 := rfl
theorem t2 : Int.toNat 2 = 2 := rfl
theorem t3 : Int.toNat 3 = 3 := rfl
theorem t47 : (Int.toNat 47).toUInt8 = 47 := rfl
theorem take_end (l : List UInt8) (j : Nat) : (l.drop j).take (l.length - j) = l.drop j := by
  rw [List.take_of_length_le (by simp)]
def e19 (s : List UInt8) : Env := mkEnv 66 [(0, .c (.str (mkS s))), (3, .rw 0 0)]
def H19 (l : List (List UInt8)) : Hp := [.row (cvs l) 1 0 false]
theorem cvs_cut (l : List (List UInt8)) (j : Nat) : (cvs l).take j = cvs (l.take j) := by simp [cvs, List.map_take]
theorem cvs_add (l : List (List UInt8)) (b : List UInt8) : cvs l ++ [.str (mkS b)] = cvs (l ++ [b]) := by simp [cvs]
/-- One round. -/
theorem step19 (n : Nat) (s : List UInt8) (l : List (List UInt8)) (R : Env → Hp → Res) (h1 : s.length ≤ 10000) (h2 : l.length ≤ 10000) (h3 : l.flatten.length ≤ 10000) :
    round Tryz.prog (call' U39) (filt an19 0) n ⟨[0, 3], [(3, 1)], 0⟩ (codeOf Tryz.prog 19) (e19 s) (H19 l) R (endOf Tryz.prog 19 []) =
    if s = [] then some (.str (mkS l.flatten), [])
    else if [46, 46, 47].isPrefixOf s = true then R (e19 (s.drop 3)) (H19 l)
    else if [46, 47].isPrefixOf s = true then R (e19 (s.drop 2)) (H19 l)
    else if [47, 46, 47].isPrefixOf s = true then R (e19 (s.drop 2)) (H19 l)
    else if s = [47, 46] then R (e19 [47]) (H19 l)
    else if [47, 46, 46, 47].isPrefixOf s = true then R (e19 (s.drop 3)) (H19 l.dropLast)
    else if s = [47, 46, 46] then R (e19 [47]) (H19 l.dropLast)
    else if s = [46] ∨ s = [46, 46] then R (e19 []) (H19 l)
    else R (e19 (s.drop (seg s))) (H19 (l ++ [s.take (seg s)])) := by
  unfold e19 H19
  rw [round19]
  simp only [bif_dec]
  simp only [mk_lit, pre_list, mkS_toList, bif_b, Bool.not_eq_true', beq_list, decide_eq_true_eq, decide_eq_false_iff_not, mkS_size, mkS_ext, mkS_data, mkS_app, t0, t1, t2, t3, t47, Int.toNat_natCast, List.drop_zero, Nat.sub_zero, cvs_len, bytes9, Int.le_refl, if_true, decide_true, take_end, List.take_length]
  by_cases c0 : s = []
  · rw [if_neg (by simpa using c0), if_pos c0]
    have hj : joinLen (cvs l) (mkS []) = l.flatten.length := by
      unfold joinLen; rw [cvs_parts, mkS_data, join_flat]
    have hc : ((cvs l).all isStrC && (decide (l.length ≤ 140737488355328) && decide (joinLen (cvs l) (mkS []) ≤ 140737488355328))) = true := by
      rw [cvs_all, hj, decide_eq_true (show l.length ≤ 140737488355328 by omega), decide_eq_true (show l.flatten.length ≤ 140737488355328 by omega)]; rfl
    have hcv : joinCV (cvs l) (mkS []) = mkS l.flatten := by
      unfold joinCV; rw [cvs_parts, mkS_data, join_flat]; rfl
    rw [if_pos hc, hcv]
  rw [if_pos (by simpa using c0), if_neg c0]
  have hpos : 1 ≤ s.length := by cases s with | nil => exact absurd rfl c0 | cons _ _ => simp
  by_cases c1 : [46, 46, 47].isPrefixOf s = true
  · have := pre_len c1
    rw [if_pos c1, if_pos c1, if_pos (by simp at this; omega)]
  rw [if_neg c1, if_neg c1]
  by_cases c2 : [46, 47].isPrefixOf s = true
  · have := pre_len c2
    rw [if_pos c2, if_pos c2, if_pos (by simp at this; omega)]
  rw [if_neg c2, if_neg c2]
  by_cases c3 : [47, 46, 47].isPrefixOf s = true
  · have := pre_len c3
    rw [if_pos c3, if_pos c3, if_pos (by simp at this; omega)]
  rw [if_neg c3, if_neg c3]
  by_cases c4 : s = [47, 46]
  · rw [if_pos c4, if_pos c4]
  rw [if_neg c4, if_neg c4]
  have pop : ∀ t : List UInt8, (if (l.length : Int) > 0 then
      (if 0 ≤ IntKind.i64.wrap ((l.length : Int) - 1) then (if IntKind.i64.wrap ((l.length : Int) - 1) ≤ (l.length : Int) then R (mkEnv 66 [(0, .c (.str (mkS t))), (3, .rw 0 0)]) [.row ((cvs l).take (IntKind.i64.wrap ((l.length : Int) - 1)).toNat) 1 0 false] else none) else none)
      else R (mkEnv 66 [(0, .c (.str (mkS t))), (3, .rw 0 0)]) [.row (cvs l) 1 0 false]) = R (mkEnv 66 [(0, .c (.str (mkS t))), (3, .rw 0 0)]) [.row (cvs l.dropLast) 1 0 false] := by
    intro t
    rcases Nat.eq_zero_or_pos l.length with hl | hl
    · have : l = [] := List.length_eq_zero_iff.1 hl
      subst this
      rfl
    · obtain ⟨m, hm⟩ : ∃ m, l.length = m + 1 := ⟨l.length - 1, by omega⟩
      have hw : IntKind.i64.wrap ((l.length : Int) - 1) = (m : Int) := by rw [hm]; exact wrm (by omega)
      rw [if_pos (by omega), hw, if_pos (by omega), if_pos (by omega), Int.toNat_natCast, cvs_cut, List.dropLast_eq_take, hm, Nat.add_sub_cancel]
  by_cases c5 : [47, 46, 46, 47].isPrefixOf s = true
  · obtain ⟨t, rfl⟩ := pre3 c5
    simp at h1
    rw [if_pos c5, if_pos c5, if_pos (by simp; omega)]
    have e1 : [47].isPrefixOf (List.drop 3 (47 :: 46 :: 46 :: 47 :: t)) = true := by simp
    rw [if_pos e1, if_pos (fits_small (by simp; omega))]
    exact pop _
  rw [if_neg c5, if_neg c5]
  by_cases c6 : s = [47, 46, 46]
  · subst c6
    rw [if_pos rfl, if_pos rfl, if_pos (by decide)]
    rw [if_neg (by decide), if_pos (by decide)]
    exact pop _
  rw [if_neg c6, if_neg c6]
  by_cases c7 : s = [46]
  · rw [if_pos c7, if_pos (.inl c7)]
  rw [if_neg c7]
  by_cases c8 : s = [46, 46]
  · rw [if_pos c8, if_pos (.inr c8)]
  rw [if_neg c8, if_neg (show ¬ (s = [46] ∨ s = [46, 46]) from fun h => h.elim c7 c8), if_pos (show (1 : Int) ≤ (s.length : Int) by omega)]
  obtain ⟨b, t, rfl⟩ : ∃ b t, s = b :: t := by cases s with | nil => exact absurd rfl c0 | cons b t => exact ⟨b, t, rfl⟩
  have hseg : seg (b :: t) = 1 + (t.takeWhile (· != 47)).length := rfl
  simp only [List.drop_succ_cons, List.drop_zero]
  simp at h1
  rcases seg_index t with ⟨i1, i2⟩ | ⟨i1, i2⟩
  · have hw : IntKind.i64.wrap (Lib.indexByte t 47 + 1) = 0 := by rw [i1]; rfl
    rw [hw, if_pos (by rfl)]
    have hs : seg (b :: t) = (b :: t).length := by rw [hseg, i2, List.length_cons]; omega
    have hset : (List.replicate 1 (CV.str (mkS []))).set 0 (CV.str (mkS (b :: t))) = [.str (mkS (b :: t))] := rfl
    rw [hs, hset, if_pos (by simp only [List.length_cons, List.length_nil]; omega), List.take_length, cvs_add]
  · have hw : IntKind.i64.wrap (Lib.indexByte t 47 + 1) = ((seg (b :: t) : Nat) : Int) := by
      rw [i1, hseg]
      have := wrp (i := (t.takeWhile (· != 47)).length) (k := 1) (by omega) (by omega)
      rw [Nat.add_comm 1]
      exact this
    have hle : ((seg (b :: t) : Nat) : Int) ≤ (((b :: t).length : Nat) : Int) := by rw [hseg, List.length_cons]; omega
    have hset : (List.replicate 1 (CV.str (mkS []))).set 0 (CV.str (mkS ((b :: t).take (seg (b :: t))))) = [.str (mkS ((b :: t).take (seg (b :: t))))] := rfl
    rw [hw, if_neg (by rw [hseg]; simp; omega), if_pos (by omega), if_pos hle]
    simp only [Int.toNat_natCast]
    rw [hset, if_pos (by simp only [List.length_cons, List.length_nil]; omega), if_pos (by omega), if_pos hle, cvs_add]

theorem loop19 (n : Nat) : ∀ (k : Nat) (s : List UInt8) (l : List (List UInt8)), s.length < k → s.length + l.length ≤ 10000 → s.length + l.flatten.length ≤ 10000 →
    roundsOf Tryz.prog (call' U39) (filt an19 0) n ⟨[0, 3], [(3, 1)], 0⟩ (codeOf Tryz.prog 19) k (e19 s) (H19 l) (endOf Tryz.prog 19 []) = some (.str (mkS (und k s l).flatten), [])
  | 0, s, l, hk, h1, h2 => by omega
  | k + 1, s, l, hk, h1, h2 => by
    have ih := loop19 n k
    have hd : l.dropLast.length ≤ l.length := by simp
    have hf : l.dropLast.flatten.length ≤ l.flatten.length := by
      rcases List.eq_nil_or_concat l with rfl | ⟨l', x, rfl⟩
      · simp
      · simp
    rw [roundsOf_succ, step19 n s l _ (by omega) (by omega) (by omega)]
    unfold und
    by_cases c0 : s = []
    · rw [if_pos c0, if_pos c0]
    rw [if_neg c0, if_neg c0]
    by_cases c1 : [46, 46, 47].isPrefixOf s = true
    · have := pre_len c1
      rw [if_pos c1, if_pos c1]
      exact ih _ _ (by simp at this ⊢; omega) (by simp at this ⊢; omega) (by simp only [List.length_drop]; omega)
    rw [if_neg c1, if_neg c1]
    by_cases c2 : [46, 47].isPrefixOf s = true
    · have := pre_len c2
      rw [if_pos c2, if_pos c2]
      exact ih _ _ (by simp at this ⊢; omega) (by simp at this ⊢; omega) (by simp only [List.length_drop]; omega)
    rw [if_neg c2, if_neg c2]
    by_cases c3 : [47, 46, 47].isPrefixOf s = true
    · have := pre_len c3
      rw [if_pos c3, if_pos c3]
      exact ih _ _ (by simp at this ⊢; omega) (by simp at this ⊢; omega) (by simp only [List.length_drop]; omega)
    rw [if_neg c3, if_neg c3]
    by_cases c4 : s = [47, 46]
    · rw [if_pos c4, if_pos c4]
      subst c4
      exact ih _ _ (by simp at hk ⊢; omega) (by simp at h1 ⊢; omega) (by simp only [List.length_cons, List.length_nil] at h2 ⊢; omega)
    rw [if_neg c4, if_neg c4]
    by_cases c5 : [47, 46, 46, 47].isPrefixOf s = true
    · have := pre_len c5
      rw [if_pos c5, if_pos c5]
      exact ih _ _ (by simp at this ⊢; omega) (by simp only [List.length_drop]; omega) (by simp only [List.length_drop]; omega)
    rw [if_neg c5, if_neg c5]
    by_cases c6 : s = [47, 46, 46]
    · rw [if_pos c6, if_pos c6]
      subst c6
      simp only [List.length_cons, List.length_nil] at hk h1 h2
      exact ih _ _ (by simp only [List.length_cons, List.length_nil]; omega) (by simp only [List.length_cons, List.length_nil]; omega) (by simp only [List.length_cons, List.length_nil]; omega)
    rw [if_neg c6, if_neg c6]
    by_cases c7 : s = [46] ∨ s = [46, 46]
    · rw [if_pos c7, if_pos c7]
      have : 1 ≤ s.length := by rcases c7 with rfl | rfl <;> simp
      exact ih _ _ (by simp only [List.length_nil]; omega) (by simp only [List.length_nil]; omega) (by simp only [List.length_nil]; omega)
    rw [if_neg c7, if_neg c7]
    have hpos : 1 ≤ s.length := by cases s with | nil => exact absurd rfl c0 | cons _ _ => simp
    have hs : 1 ≤ seg s := by unfold seg; omega
    refine ih _ _ (by simp only [List.length_drop]; omega) (by simp only [List.length_drop, List.length_append, List.length_cons, List.length_nil]; omega) ?_
    simp only [List.length_drop, List.flatten_append, List.length_append, List.flatten_cons, List.flatten_nil, List.append_nil, List.length_take]
    omega

theorem entry19 (s : ByteArray) (n : Nat) : abody Tryz.prog (call' U39) an19 n 19 [.str s] =
    before Tryz.prog (call' U39) (filt an19 0) n (codeOf Tryz.prog 19) (envOf Tryz.prog 19 [.c (.str s)]) [] (fun env H => loopAt Tryz.prog (call' U39) (filt an19 0) n ⟨[0, 3], [(3, 1)], 0⟩ (codeOf Tryz.prog 19) env H (endOf Tryz.prog 19 [])) (endOf Tryz.prog 19 []) := by kernel_rfl
/-- 'undotted'. -/
theorem val19 (s : List UInt8) (hs : s.length ≤ 5000) : abody Tryz.prog (call' U39) an19 12000 19 [.str (mkS s)] = some (.str (mkS (und 12000 s []).flatten), []) := by
  rw [entry19, before19, loopAt_eq, ← loop19 12000 12000 s [] (by omega) (by simp; omega) (by simp; omega)]
  kernel_rfl

end Go.Pv
