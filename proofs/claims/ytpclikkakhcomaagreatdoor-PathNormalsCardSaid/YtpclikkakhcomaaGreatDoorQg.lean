/- Paths without dots: contracts of what is called; the loop of 'undotted'. -/
import Derived.Test.YtpclikkakhcomaaGreatDoorQf
import Derived.Lib.IndexLaws
import Derived.Lib.AtoiAll
import Derived.Lib.TrimByte
import Derived.Lib.ItoaNum
import Derived.Shelf.Strings.Trim
import Derived.Shelf.LaysM
import Derived.Shelf.Strconv.Itoa3
import Derived.Shelf.LaysC
import Derived.Shelf.Strconv.AtoiAll
import Derived.Test.YtpclikkakhcomaaGreatDoorProg
import Derived.Lib.AppendIntMem
set_option linter.unusedSimpArgs false
set_option linter.unusedVariables false
namespace Go.Pv
set_option maxRecDepth 100000
open Go Go.Proofs
abbrev I0 : World → Prop := gI
theorem on0 : OnGlobals I0 8 := og
abbrev Kn (tb : Table) : Prop := Known Tryz.prog I0 8 tb
abbrev Ct (f : FuncId) (F : Fn1) : Prop := Contract Tryz.prog I0 8 f F
theorem pre_list (l p : List UInt8) : pre (mkS l) (mkS p) = p.isPrefixOf l := by
 unfold pre
 rw [mkS_ext, mkS_toList, mkS_toList, mkS_size, mkS_size, List.drop_zero, Nat.sub_zero, Bool.eq_iff_iff, Bool.and_eq_true, decide_eq_true_eq, beq_iff_eq, List.isPrefixOf_iff_prefix, List.prefix_iff_eq_take]
 constructor
 · rintro ⟨_, h⟩; exact h.symm
 · intro h
   refine ⟨?_, h.symm⟩
   have := congrArg List.length h
   rw [List.length_take] at this
   omega
theorem pre_len {l p : List UInt8} (h : p.isPrefixOf l = true) : p.length ≤ l.length := (List.isPrefixOf_iff_prefix.1 h).length_le
theorem d65 : Ct 65 P38 := contract_of (fun _ => none) on0 (hok_of known_no) fun cargs rv outs h => by
 unfold P38 at h
 split at h
 · cases h; exact ⟨1, tree65 _ _⟩
 · cases h
theorem e65 : Kn U65 := known_add known_no d65
theorem d63 : Ct 63 P36 := contract_of (fun _ => none) on0 (hok_of e65) fun cargs rv outs h => by
 unfold P36 at h
 split at h
 · rename_i s p
   cases h
   refine ⟨1, ?_⟩
   rw [tree63]
   rw [← mkS_bl s, ← mkS_bl p, pre_list]
   generalize s.data.toList = l
   generalize p.data.toList = q
   rw [bif_dec]
   by_cases hq : q.length ≤ l.length
   · rw [if_pos (by rw [mkS_size, mkS_size]; omega), bif_dec, if_pos (by rw [mkS_size, mkS_size]; omega)]
     rw [mkS_ext, mkS_toList, mkS_toList]
     congr 3
     rw [Bool.eq_iff_iff, beq_iff_eq, List.isPrefixOf_iff_prefix, List.prefix_iff_eq_take]
     simp [mkS_size]
     exact eq_comm
   · rw [if_neg (by rw [mkS_size, mkS_size]; omega)]
     congr 3
     refine (Bool.eq_false_iff.2 fun h => hq (pre_len h)).symm
 · cases h
theorem e63 : Kn U63 := known_add e65 d63
theorem d64 : Ct 64 P37 := contract_of (fun _ => none) on0 (hok_of e63) fun cargs rv outs h => by
 unfold P37 at h
 split at h
 · rename_i s p
   refine ⟨1, ?_⟩
   rw [tree64]
   cases hp : pre s p with
   | true =>
     rw [hp] at h
     cases h
     have hl : p.size ≤ s.size := by
       rw [← mkS_bl s, ← mkS_bl p, pre_list] at hp
       exact pre_len hp
     rw [bif_t _ _ rfl, bif_dec, if_pos (by omega), bif_dec, if_pos (by omega)]
     simp
   | false =>
     rw [hp] at h
     cases h
     rw [bif_f _ _ rfl]
 · cases h
theorem e64 : Kn U64 := known_add e63 d64
theorem d36 : Ct 36 P36 := contract_of (fun _ => none) on0 (hok_of e64) fun cargs rv outs h => by
 unfold P36 at h
 split at h
 · cases h; exact ⟨1, tree36 _ _⟩
 · cases h
theorem e36 : Kn U36 := known_add e64 d36
theorem d37 : Ct 37 P37 := contract_of (fun _ => none) on0 (hok_of e36) fun cargs rv outs h => by
 unfold P37 at h
 split at h
 · rename_i s p
   refine ⟨1, ?_⟩
   rw [tree37]
   cases hp : pre s p with
   | true => rw [hp] at h; cases h; rfl
   | false => rw [hp] at h; cases h; rfl
 · cases h
theorem e37 : Kn U37 := known_add e36 d37
theorem d38 : Ct 38 P38 := contract_of (fun _ => none) on0 (hok_of e37) fun cargs rv outs h => by
 unfold P38 at h
 split at h
 · cases h; exact ⟨1, tree38 _ _⟩
 · cases h
theorem e38 : Kn U38 := known_add e37 d38
theorem d39 : Ct 39 PJoin := fun cargs rv outs h => c39 on0 cargs rv outs (by
 unfold PJoin at h
 unfold FJoin
 exact h)
theorem e39 : Kn U39 := known_add e38 d39
def seg (s : List UInt8) : Nat := 1 + ((s.drop 1).takeWhile (· != 47)).length
theorem seg_index (t : List UInt8) : (Lib.indexByte t 47 = -1 ∧ (t.takeWhile (· != 47)).length = t.length) ∨ (Lib.indexByte t 47 = ((t.takeWhile (· != 47)).length : Int) ∧ (t.takeWhile (· != 47)).length < t.length) := by
 induction t with
 | nil => exact .inl ⟨rfl, rfl⟩
 | cons b t ih =>
   unfold Lib.indexByte
   by_cases hb : b = 47
   · subst hb
     exact .inr ⟨by simp, by simp⟩
   · have h1 : (b == 47) = false := by simpa using hb
     have h2 : (b :: t).takeWhile (· != 47) = b :: t.takeWhile (· != 47) := by
       rw [List.takeWhile_cons_of_pos (by simpa using hb)]
     rw [h1, h2]
     simp only [Bool.false_eq_true, if_false, List.length_cons]
     rcases ih with ⟨i1, i2⟩ | ⟨i1, i2⟩
     · exact .inl ⟨by rw [i1]; rfl, by omega⟩
     · refine .inr ⟨?_, by omega⟩
       rw [i1, if_neg (by simp)]
       rfl
def und : Nat → List UInt8 → List (List UInt8) → List (List UInt8)
 | 0, _, l => l
 | k + 1, s, l =>
   if s = [] then l
   else if [46, 46, 47].isPrefixOf s = true then und k (s.drop 3) l
   else if [46, 47].isPrefixOf s = true then und k (s.drop 2) l
   else if [47, 46, 47].isPrefixOf s = true then und k (s.drop 2) l
   else if s = [47, 46] then und k [47] l
   else if [47, 46, 46, 47].isPrefixOf s = true then und k (s.drop 3) l.dropLast
   else if s = [47, 46, 46] then und k [47] l.dropLast
   else if s = [46] ∨ s = [46, 46] then und k [] l
   else und k (s.drop (seg s)) (l ++ [s.take (seg s)])
def cvs (l : List (List UInt8)) : List CV := l.map fun b => .str (mkS b)
theorem cvs_len (l : List (List UInt8)) : (cvs l).length = l.length := by simp [cvs]
theorem cvs_all (l : List (List UInt8)) : (cvs l).all isStrC = true := by
 simp [cvs, isStrC]
theorem cvs_parts (l : List (List UInt8)) : partsOf (cvs l) = l := by
 simp [partsOf, cvs, CV.toStr, mkS_data, Function.comp_def]
theorem join_flat : ∀ l : List (List UInt8), Lib.join l [] = l.flatten
 | [] => rfl
 | x :: l => by
   rw [Lib.join_cons]
   simp [Lib.joinTail]
theorem bytes9 : Tryz.prog.types[9].bytes = 16 := by kernel_rfl
theorem pre3 {l : List UInt8} {a b c d : UInt8} (h : [a, b, c, d].isPrefixOf l = true) : ∃ t, l = a :: b :: c :: d :: t := by
 obtain ⟨t, ht⟩ := List.isPrefixOf_iff_prefix.1 h
 exact ⟨t, by rw [← ht]; rfl⟩
theorem t0 : Int.toNat 0 = 0 := rfl
theorem t1 : Int.toNat 1 = 1 := rfl
theorem t2 : Int.toNat 2 = 2 := rfl
theorem t3 : Int.toNat 3 = 3 := rfl
theorem t47 : (Int.toNat 47).toUInt8 = 47 := rfl
theorem take_end (l : List UInt8) (j : Nat) : (l.drop j).take (l.length - j) = l.drop j := by
 rw [List.take_of_length_le (by simp)]
def e19 (s : List UInt8) : Env := mkEnv 66 [(0, .c (.str (mkS s))), (3, .rw 0 0)]
def H19 (l : List (List UInt8)) : Hp := [.row (cvs l) 1 0 false]
theorem cvs_cut (l : List (List UInt8)) (j : Nat) : (cvs l).take j = cvs (l.take j) := by simp [cvs, List.map_take]
theorem cvs_add (l : List (List UInt8)) (b : List UInt8) : cvs l ++ [.str (mkS b)] = cvs (l ++ [b]) := by simp [cvs]
theorem step19 (n : Nat) (s : List UInt8) (l : List (List UInt8)) (R : Env → Hp → Res) (h1 : s.length ≤ 10000) (h2 : l.length ≤ 10000) (h3 : l.flatten.length ≤ 10000) :
   round Tryz.prog (call' U39) (filt an19 0) n ⟨[0, 3], [(3, 1)], 0⟩ (codeOf Tryz.prog 19) (e19 s) (H19 l) R (endOf Tryz.prog 19 []) =
   if s = [] then some (.str (mkS l.flatten), [])
   else if [46, 46, 47].isPrefixOf s = true then R (e19 (s.drop 3)) (H19 l)
   else if [46, 47].isPrefixOf s = true then R (e19 (s.drop 2)) (H19 l)
   else if [47, 46, 47].isPrefixOf s = true then R (e19 (s.drop 2)) (H19 l)
   else if s = [47, 46] then R (e19 [47]) (H19 l)
   else if [47, 46, 46, 47].isPrefixOf s = true then R (e19 (s.drop 3)) (H19 l.dropLast)
   else if s = [47, 46, 46] then R (e19 [47]) (H19 l.dropLast)
   else if s = [46] ∨ s = [46, 46] then R (e19 []) (H19 l)
   else R (e19 (s.drop (seg s))) (H19 (l ++ [s.take (seg s)])) := by
 unfold e19 H19
 rw [round19]
 simp only [bif_dec]
 simp only [mk_lit, pre_list, mkS_toList, bif_b, Bool.not_eq_true', beq_list, decide_eq_true_eq, decide_eq_false_iff_not, mkS_size, mkS_ext, mkS_data, mkS_app, t0, t1, t2, t3, t47, Int.toNat_natCast, List.drop_zero, Nat.sub_zero, cvs_len, bytes9, Int.le_refl, if_true, decide_true, take_end, List.take_length]
 by_cases c0 : s = []
 · rw [if_neg (by simpa using c0), if_pos c0]
   have hj : joinLen (cvs l) (mkS []) = l.flatten.length := by
     unfold joinLen; rw [cvs_parts, mkS_data, join_flat]
   have hc : ((cvs l).all isStrC && (decide (l.length ≤ 140737488355328) && decide (joinLen (cvs l) (mkS []) ≤ 140737488355328))) = true := by
     rw [cvs_all, hj, decide_eq_true (show l.length ≤ 140737488355328 by omega), decide_eq_true (show l.flatten.length ≤ 140737488355328 by omega)]; rfl
   have hcv : joinCV (cvs l) (mkS []) = mkS l.flatten := by
     unfold joinCV; rw [cvs_parts, mkS_data, join_flat]; rfl
   rw [if_pos hc, hcv]
 rw [if_pos (by simpa using c0), if_neg c0]
 have hpos : 1 ≤ s.length := by cases s with | nil => exact absurd rfl c0 | cons _ _ => simp
 by_cases c1 : [46, 46, 47].isPrefixOf s = true
 · have := pre_len c1
   rw [if_pos c1, if_pos c1, if_pos (by simp at this; omega)]
 rw [if_neg c1, if_neg c1]
 by_cases c2 : [46, 47].isPrefixOf s = true
 · have := pre_len c2
   rw [if_pos c2, if_pos c2, if_pos (by simp at this; omega)]
 rw [if_neg c2, if_neg c2]
 by_cases c3 : [47, 46, 47].isPrefixOf s = true
 · have := pre_len c3
   rw [if_pos c3, if_pos c3, if_pos (by simp at this; omega)]
 rw [if_neg c3, if_neg c3]
 by_cases c4 : s = [47, 46]
 · rw [if_pos c4, if_pos c4]
 rw [if_neg c4, if_neg c4]
 have pop : ∀ t : List UInt8, (if (l.length : Int) > 0 then
     (if 0 ≤ IntKind.i64.wrap ((l.length : Int) - 1) then (if IntKind.i64.wrap ((l.length : Int) - 1) ≤ (l.length : Int) then R (mkEnv 66 [(0, .c (.str (mkS t))), (3, .rw 0 0)]) [.row ((cvs l).take (IntKind.i64.wrap ((l.length : Int) - 1)).toNat) 1 0 false] else none) else none)
     else R (mkEnv 66 [(0, .c (.str (mkS t))), (3, .rw 0 0)]) [.row (cvs l) 1 0 false]) = R (mkEnv 66 [(0, .c (.str (mkS t))), (3, .rw 0 0)]) [.row (cvs l.dropLast) 1 0 false] := by
   intro t
   rcases Nat.eq_zero_or_pos l.length with hl | hl
   · have : l = [] := List.length_eq_zero_iff.1 hl
     subst this
     rfl
   · obtain ⟨m, hm⟩ : ∃ m, l.length = m + 1 := ⟨l.length - 1, by omega⟩
     have hw : IntKind.i64.wrap ((l.length : Int) - 1) = (m : Int) := by rw [hm]; exact wrm (by omega)
     rw [if_pos (by omega), hw, if_pos (by omega), if_pos (by omega), Int.toNat_natCast, cvs_cut, List.dropLast_eq_take, hm, Nat.add_sub_cancel]
 by_cases c5 : [47, 46, 46, 47].isPrefixOf s = true
 · obtain ⟨t, rfl⟩ := pre3 c5
   simp at h1
   rw [if_pos c5, if_pos c5, if_pos (by simp; omega)]
   have e1 : [47].isPrefixOf (List.drop 3 (47 :: 46 :: 46 :: 47 :: t)) = true := by simp
   rw [if_pos e1, if_pos (fits_small (by simp; omega))]
   exact pop _
 rw [if_neg c5, if_neg c5]
 by_cases c6 : s = [47, 46, 46]
 · subst c6
   rw [if_pos rfl, if_pos rfl, if_pos (by decide)]
   rw [if_neg (by decide), if_pos (by decide)]
   exact pop _
 rw [if_neg c6, if_neg c6]
 by_cases c7 : s = [46]
 · rw [if_pos c7, if_pos (.inl c7)]
 rw [if_neg c7]
 by_cases c8 : s = [46, 46]
 · rw [if_pos c8, if_pos (.inr c8)]
 rw [if_neg c8, if_neg (show ¬ (s = [46] ∨ s = [46, 46]) from fun h => h.elim c7 c8), if_pos (show (1 : Int) ≤ (s.length : Int) by omega)]
 obtain ⟨b, t, rfl⟩ : ∃ b t, s = b :: t := by cases s with | nil => exact absurd rfl c0 | cons b t => exact ⟨b, t, rfl⟩
 have hseg : seg (b :: t) = 1 + (t.takeWhile (· != 47)).length := rfl
 simp only [List.drop_succ_cons, List.drop_zero]
 simp at h1
 rcases seg_index t with ⟨i1, i2⟩ | ⟨i1, i2⟩
 · have hw : IntKind.i64.wrap (Lib.indexByte t 47 + 1) = 0 := by rw [i1]; rfl
   rw [hw, if_pos (by rfl)]
   have hs : seg (b :: t) = (b :: t).length := by rw [hseg, i2, List.length_cons]; omega
   have hset : (List.replicate 1 (CV.str (mkS []))).set 0 (CV.str (mkS (b :: t))) = [.str (mkS (b :: t))] := rfl
   rw [hs, hset, if_pos (by simp only [List.length_cons, List.length_nil]; omega), List.take_length, cvs_add]
 · have hw : IntKind.i64.wrap (Lib.indexByte t 47 + 1) = ((seg (b :: t) : Nat) : Int) := by
     rw [i1, hseg]
     have := wrp (i := (t.takeWhile (· != 47)).length) (k := 1) (by omega) (by omega)
     rw [Nat.add_comm 1]
     exact this
   have hle : ((seg (b :: t) : Nat) : Int) ≤ (((b :: t).length : Nat) : Int) := by rw [hseg, List.length_cons]; omega
   have hset : (List.replicate 1 (CV.str (mkS []))).set 0 (CV.str (mkS ((b :: t).take (seg (b :: t))))) = [.str (mkS ((b :: t).take (seg (b :: t))))] := rfl
   rw [hw, if_neg (by rw [hseg]; simp; omega), if_pos (by omega), if_pos hle]
   simp only [Int.toNat_natCast]
   rw [hset, if_pos (by simp only [List.length_cons, List.length_nil]; omega), if_pos (by omega), if_pos hle, cvs_add]
theorem loop19 (n : Nat) : ∀ (k : Nat) (s : List UInt8) (l : List (List UInt8)), s.length < k → s.length + l.length ≤ 10000 → s.length + l.flatten.length ≤ 10000 →
   roundsOf Tryz.prog (call' U39) (filt an19 0) n ⟨[0, 3], [(3, 1)], 0⟩ (codeOf Tryz.prog 19) k (e19 s) (H19 l) (endOf Tryz.prog 19 []) = some (.str (mkS (und k s l).flatten), [])
 | 0, s, l, hk, h1, h2 => by omega
 | k + 1, s, l, hk, h1, h2 => by
   have ih := loop19 n k
   have hd : l.dropLast.length ≤ l.length := by simp
   have hf : l.dropLast.flatten.length ≤ l.flatten.length := by
     rcases List.eq_nil_or_concat l with rfl | ⟨l', x, rfl⟩
     · simp
     · simp
   rw [roundsOf_succ, step19 n s l _ (by omega) (by omega) (by omega)]
   unfold und
   by_cases c0 : s = []
   · rw [if_pos c0, if_pos c0]
   rw [if_neg c0, if_neg c0]
   by_cases c1 : [46, 46, 47].isPrefixOf s = true
   · have := pre_len c1
     rw [if_pos c1, if_pos c1]
     exact ih _ _ (by simp at this ⊢; omega) (by simp at this ⊢; omega) (by simp only [List.length_drop]; omega)
   rw [if_neg c1, if_neg c1]
   by_cases c2 : [46, 47].isPrefixOf s = true
   · have := pre_len c2
     rw [if_pos c2, if_pos c2]
     exact ih _ _ (by simp at this ⊢; omega) (by simp at this ⊢; omega) (by simp only [List.length_drop]; omega)
   rw [if_neg c2, if_neg c2]
   by_cases c3 : [47, 46, 47].isPrefixOf s = true
   · have := pre_len c3
     rw [if_pos c3, if_pos c3]
     exact ih _ _ (by simp at this ⊢; omega) (by simp at this ⊢; omega) (by simp only [List.length_drop]; omega)
   rw [if_neg c3, if_neg c3]
   by_cases c4 : s = [47, 46]
   · rw [if_pos c4, if_pos c4]
     subst c4
     exact ih _ _ (by simp at hk ⊢; omega) (by simp at h1 ⊢; omega) (by simp only [List.length_cons, List.length_nil] at h2 ⊢; omega)
   rw [if_neg c4, if_neg c4]
   by_cases c5 : [47, 46, 46, 47].isPrefixOf s = true
   · have := pre_len c5
     rw [if_pos c5, if_pos c5]
     exact ih _ _ (by simp at this ⊢; omega) (by simp only [List.length_drop]; omega) (by simp only [List.length_drop]; omega)
   rw [if_neg c5, if_neg c5]
   by_cases c6 : s = [47, 46, 46]
   · rw [if_pos c6, if_pos c6]
     subst c6
     simp only [List.length_cons, List.length_nil] at hk h1 h2
     exact ih _ _ (by simp only [List.length_cons, List.length_nil]; omega) (by simp only [List.length_cons, List.length_nil]; omega) (by simp only [List.length_cons, List.length_nil]; omega)
   rw [if_neg c6, if_neg c6]
   by_cases c7 : s = [46] ∨ s = [46, 46]
   · rw [if_pos c7, if_pos c7]
     have : 1 ≤ s.length := by rcases c7 with rfl | rfl <;> simp
     exact ih _ _ (by simp only [List.length_nil]; omega) (by simp only [List.length_nil]; omega) (by simp only [List.length_nil]; omega)
   rw [if_neg c7, if_neg c7]
   have hpos : 1 ≤ s.length := by cases s with | nil => exact absurd rfl c0 | cons _ _ => simp
   have hs : 1 ≤ seg s := by unfold seg; omega
   refine ih _ _ (by simp only [List.length_drop]; omega) (by simp only [List.length_drop, List.length_append, List.length_cons, List.length_nil]; omega) ?_
   simp only [List.length_drop, List.flatten_append, List.length_append, List.flatten_cons, List.flatten_nil, List.append_nil, List.length_take]
   omega
theorem entry19 (s : ByteArray) (n : Nat) : abody Tryz.prog (call' U39) an19 n 19 [.str s] =
 before Tryz.prog (call' U39) (filt an19 0) n (codeOf Tryz.prog 19) (envOf Tryz.prog 19 [.c (.str s)]) [] (fun env H => loopAt Tryz.prog (call' U39) (filt an19 0) n ⟨[0, 3], [(3, 1)], 0⟩ (codeOf Tryz.prog 19) env H (endOf Tryz.prog 19 [])) (endOf Tryz.prog 19 []) := by kernel_rfl
theorem val19 (s : List UInt8) (hs : s.length ≤ 5000) : abody Tryz.prog (call' U39) an19 12000 19 [.str (mkS s)] = some (.str (mkS (und 12000 s []).flatten), []) := by
 rw [entry19, before19, loopAt_eq, ← loop19 12000 12000 s [] (by omega) (by simp; omega) (by simp; omega)]
 kernel_rfl
end Go.Pv
namespace Go.Pv
set_option maxRecDepth 100000
open Go Go.Proofs
def E8 (s t : List UInt8) (m : Nat) : Env := mkEnv 92 [(0, .c (.str (mkS s))), (3, .c (.str (mkS t))), (4, .c (.int .i64 (m : Int)))]
def E80 (s t : List UInt8) (m k : Nat) : Env := mkEnv 92 [(0, .c (.str (mkS s))), (3, .c (.str (mkS t))), (4, .c (.int .i64 (m : Int))), (5, .c (.int .i64 (k : Int)))]
def E81 (s t : List UInt8) (m k : Nat) : Env := mkEnv 92 [(0, .c (.str (mkS s))), (3, .c (.str (mkS t))), (4, .c (.int .i64 (m : Int))), (6, .c (.int .i64 (k : Int)))]
def cutAt : Nat → List UInt8 → Nat
 | 0, _ => 0
 | k + 1, t => if t.getD k 0 = 47 then k else cutAt k t
theorem byte47 (c : UInt8) : (((c.toNat : Nat) : Int) != 47) = !decide (c = 47) := by
 rw [Bool.eq_iff_iff]
 simp
 constructor
 · intro h e; subst e; exact h rfl
 · intro h e
   apply h
   have : c.toNat = 47 := by omega
   exact UInt8.toNat.inj this
noncomputable abbrev K80 (n : Nat) (R : Env → Hp → Res) : KX := restN Tryz.prog (call' V22) (filt an8 0) n 0 b8 (thenK (headK h8 R) (K8 n))
noncomputable abbrev K81 (n : Nat) (R : Env → Hp → Res) : KX := restN Tryz.prog (call' V22) (filt an8 0) n 1 b8 (thenK (headK h8 R) (K8 n))
theorem lo0 (n : Nat) (s t : List UInt8) (m : Nat) (R : Env → Hp → Res) (ht : t.length ≤ 10000) (hm : m ≤ 10000) : ∀ (j k : Nat), k < j → k ≤ t.length →
   rounds Tryz.prog (call' V22) (filt an8 0) n h80 (bodyN 0 b8) j (E80 s t m k) [] (K80 n R) = R (E8 s (t.take (cutAt k t)) (m + 1)) []
 | 0, k, hj, hk => by omega
 | j + 1, k, hj, hk => by
   have ih := lo0 n s t m R ht hm j
   rw [rounds_succ]
   unfold E80 at ih ⊢
   unfold E8 at ih ⊢
   rw [inner0]
   simp only [bif_dec]
   simp only [mkS_at, byte47, bif_b, mkS_size, mkS_ext, t0, List.drop_zero, Nat.sub_zero, Bool.not_eq_true', decide_eq_false_iff_not, wrp (i := m) (k := 1) (by omega) (by omega)]
   have hm1 : IntKind.i64.wrap ((m : Int) + 1) = ((m + 1 : Nat) : Int) := wrp (i := m) (k := 1) (by omega) (by omega)
   cases k with
   | zero =>
     rw [if_neg (by omega), if_neg (by omega), if_pos (by omega), if_pos (by omega), hm1]
     rfl
   | succ k =>
     rw [wrm (by omega)]
     simp only [Int.toNat_natCast]
     have p0 : ((k + 1 : Nat) : Int) > 0 := by omega
     rw [if_pos p0, if_pos (by omega), if_pos (by omega)]
     by_cases hc : t.getD k 0 = 47
     · rw [if_neg (by simpa using hc), if_pos p0, if_pos (by omega), if_pos (by omega), hm1]
       have : cutAt (k + 1) t = k := by unfold cutAt; rw [if_pos hc]
       rw [this]
     · rw [if_pos hc]
       have : cutAt (k + 1) t = cutAt k t := by rw [cutAt, if_neg hc]
       rw [this]
       exact ih k (by omega) (by omega)
def nextS (s : List UInt8) (k : Nat) : Nat := k + ((s.drop k).takeWhile (· != 47)).length
theorem lo1 (n : Nat) (s t : List UInt8) (m : Nat) (R : Env → Hp → Res) (hs : s.length ≤ 10000) (ht : t.length ≤ 10000) (hm : m ≤ 10000) : ∀ (j k : Nat), s.length < j + k → k ≤ s.length →
   rounds Tryz.prog (call' V22) (filt an8 0) n h81 (bodyN 1 b8) j (E81 s t m k) [] (K81 n R) = R (E8 (s.drop (nextS s k)) (t ++ s.take (nextS s k)) (m + 1)) []
 | 0, k, hj, hk => by omega
 | j + 1, k, hj, hk => by
   have ih := lo1 n s t m R hs ht hm j
   rw [rounds_succ]
   unfold E81 at ih ⊢
   unfold E8 at ih ⊢
   rw [inner1]
   have hm1 : IntKind.i64.wrap ((m : Int) + 1) = ((m + 1 : Nat) : Int) := wrp (i := m) (k := 1) (by omega) (by omega)
   have hk1 : IntKind.i64.wrap ((k : Int) + 1) = ((k + 1 : Nat) : Int) := wrp (i := k) (k := 1) (by omega) (by omega)
   simp only [bif_dec]
   simp only [mkS_at, byte47, bif_b, mkS_size, mkS_ext, mkS_app, t0, List.drop_zero, Nat.sub_zero, Bool.not_eq_true', decide_eq_false_iff_not, Int.toNat_natCast, take_end, Int.le_refl, if_true, hm1, hk1]
   have hfit : fitsS (t.length + (s.take k).length) = true := fits_small (by simp; omega)
   by_cases h1 : k < s.length
   · rw [if_pos (by omega), if_pos (by omega), if_pos (by omega)]
     have hdrop : s.drop k = s.getD k 0 :: s.drop (k + 1) := by
       rw [List.drop_eq_getElem_cons h1]
       simp [List.getD_eq_getElem?_getD, h1]
     by_cases hc : s.getD k 0 = 47
     · have : nextS s k = k := by
         unfold nextS
         rw [hdrop, List.takeWhile_cons_of_neg (by rw [hc]; simp)]; simp
       rw [if_neg (by simpa using hc), if_pos (by omega), if_pos (by omega), if_pos hfit, if_pos (by omega), if_pos (by omega), this]
     · have : nextS s k = nextS s (k + 1) := by
         unfold nextS
         rw [hdrop, List.takeWhile_cons_of_pos (by simpa using hc), List.length_cons]; omega
       rw [if_pos hc, this]
       exact ih (k + 1) (by omega) (by omega)
   · have hk' : k = s.length := by omega
     have : nextS s k = k := by
       unfold nextS
       rw [List.drop_of_length_le (by omega)]; simp
     rw [if_neg (by omega), if_pos (by omega), if_pos (by omega), if_pos hfit, if_pos (by omega), if_pos (by omega), this]
def refD : Nat → List UInt8 → List UInt8 → List UInt8
 | 0, _, t => t
 | k + 1, s, t =>
   if s = [] then t
   else if [46, 46, 47].isPrefixOf s = true then refD k (s.drop 3) t
   else if [46, 47].isPrefixOf s = true then refD k (s.drop 2) t
   else if [47, 46, 47].isPrefixOf s = true then refD k (s.drop 2) t
   else if s = [47, 46] then refD k [47] t
   else if [47, 46, 46, 47].isPrefixOf s = true then refD k (s.drop 3) (t.take (cutAt t.length t))
   else if s = [47, 46, 46] then refD k [47] (t.take (cutAt t.length t))
   else if s = [46] ∨ s = [46, 46] then refD k [] t
   else refD k (s.drop (seg s)) (t ++ s.take (seg s))
theorem ids8 : idsOk b8 = true := by kernel_rfl
theorem n8 : nLoops b8 = 2 := by kernel_rfl
theorem fr80 : (firstRegion (bodyN 0 b8)).bind (filt an8 0) = some h80 := by kernel_rfl
theorem fr81 : (firstRegion (bodyN 1 b8)).bind (filt an8 0) = some h81 := by kernel_rfl
theorem ids8' : idsOk c8 = true := by kernel_rfl
theorem n8' : nLoops c8 = 1 := by kernel_rfl
theorem fr8 : (firstRegion (bodyN 0 c8)).bind (filt an8 0) = some h8 := by kernel_rfl
theorem step8 (n : Nat) (hn : 10001 ≤ n) (s t : List UInt8) (m : Nat) (R : Env → Hp → Res) (hs : s.length ≤ 10000) (ht : t.length ≤ 10000) (hm : m < 5000) :
   aexec Tryz.prog (call' V22) (filt an8 0) n b8 (E8 s t m) [] (thenK (headK h8 R) (K8 n)) =
   if s = [] then some (.str (mkS t), [])
   else if [46, 46, 47].isPrefixOf s = true then R (E8 (s.drop 3) t (m + 1)) []
   else if [46, 47].isPrefixOf s = true then R (E8 (s.drop 2) t (m + 1)) []
   else if [47, 46, 47].isPrefixOf s = true then R (E8 (s.drop 2) t (m + 1)) []
   else if s = [47, 46] then R (E8 [47] t (m + 1)) []
   else if [47, 46, 46, 47].isPrefixOf s = true then R (E8 (s.drop 3) (t.take (cutAt t.length t)) (m + 1)) []
   else if s = [47, 46, 46] then R (E8 [47] (t.take (cutAt t.length t)) (m + 1)) []
   else if s = [46] ∨ s = [46, 46] then R (E8 [] t (m + 1)) []
   else R (E8 (s.drop (seg s)) (t ++ s.take (seg s)) (m + 1)) [] := by
 have hcut := cut_eq (P := Tryz.prog) (tb := call' V22) (an := filt an8 0) (fuel := n) (L := LL (fun env H => rounds Tryz.prog (call' V22) (filt an8 0) n h80 (bodyN 0 b8) n env H (K80 n R)) (fun env H => rounds Tryz.prog (call' V22) (filt an8 0) n h81 (bodyN 1 b8) n env H (K81 n R))) b8 0 (thenK (headK h8 R) (K8 n)) (E8 s t m) [] ids8 (fun i env H hi => by
   rw [n8] at hi
   rcases (show i = 0 ∨ i = 1 by omega) with rfl | rfl
   · rw [loop_eq fr80]; rfl
   · rw [loop_eq fr81]; rfl)
 rw [hcut]
 have hr := round8 (mkS s) (mkS t) n m (fun env H => rounds Tryz.prog (call' V22) (filt an8 0) n h80 (bodyN 0 b8) n env H (K80 n R)) (fun env H => rounds Tryz.prog (call' V22) (filt an8 0) n h81 (bodyN 1 b8) n env H (K81 n R)) R
 unfold parts at hr
 unfold E8 at *
 rw [hr]
 clear hr hcut
 have hm1 : IntKind.i64.wrap ((m : Int) + 1) = ((m + 1 : Nat) : Int) := wrp (i := m) (k := 1) (by omega) (by omega)
 have L0 := fun s' => lo0 n s' t m R ht (by omega) n t.length (by omega) (Nat.le_refl _)
 unfold E80 E8 at L0
 simp only [bif_dec]
 simp only [mk_lit, pre_list, mkS_toList, bif_b, Bool.not_eq_true', beq_list, decide_eq_true_eq, decide_eq_false_iff_not, mkS_size, mkS_ext, mkS_data, mkS_app, t0, t1, t2, t3, Int.toNat_natCast, List.drop_zero, Nat.sub_zero, Int.le_refl, if_true, take_end, List.take_length, hm1]
 by_cases c0 : s = []
 · rw [if_neg (by simpa using c0), if_pos c0]
 rw [if_pos (by simpa using c0), if_neg c0, if_pos (show (m : Int) < 5000 by omega)]
 have hpos : 1 ≤ s.length := by cases s with | nil => exact absurd rfl c0 | cons _ _ => simp
 by_cases c1 : [46, 46, 47].isPrefixOf s = true
 · have := pre_len c1
   rw [if_pos c1, if_pos c1, if_pos (by simp at this; omega)]
 rw [if_neg c1, if_neg c1]
 by_cases c2 : [46, 47].isPrefixOf s = true
 · have := pre_len c2
   rw [if_pos c2, if_pos c2, if_pos (by simp at this; omega)]
 rw [if_neg c2, if_neg c2]
 by_cases c3 : [47, 46, 47].isPrefixOf s = true
 · have := pre_len c3
   rw [if_pos c3, if_pos c3, if_pos (by simp at this; omega)]
 rw [if_neg c3, if_neg c3]
 by_cases c4 : s = [47, 46]
 · rw [if_pos c4, if_pos c4]
 rw [if_neg c4, if_neg c4]
 by_cases c5 : [47, 46, 46, 47].isPrefixOf s = true
 · have := pre_len c5
   rw [if_pos c5, if_pos c5]
   have c6 : ¬ s = [47, 46, 46] := by intro e; subst e; simp at this
   rw [if_neg c6, if_pos (by simp at this; omega)]
   exact L0 _
 rw [if_neg c5, if_neg c5]
 by_cases c6 : s = [47, 46, 46]
 · rw [if_pos c6, if_pos c6, if_pos c6]
   exact L0 _
 rw [if_neg c6, if_neg c6]
 by_cases c7 : s = [46]
 · rw [if_pos c7, if_pos (.inl c7)]
 rw [if_neg c7]
 by_cases c8' : s = [46, 46]
 · rw [if_pos c8', if_pos (.inr c8')]
 rw [if_neg c8', if_neg (show ¬ (s = [46] ∨ s = [46, 46]) from fun h => h.elim c7 c8')]
 have L1 := lo1 n s t m R hs ht (by omega) n 1 (by omega) hpos
 exact L1
theorem loop8 (n : Nat) (hn : 10001 ≤ n) : ∀ (k : Nat) (s t : List UInt8) (m : Nat), s.length < k → m + s.length < 5000 → s.length + t.length ≤ 10000 →
   rounds Tryz.prog (call' V22) (filt an8 0) n h8 b8 k (E8 s t m) [] (K8 n) = some (.str (mkS (refD k s t)), [])
 | 0, s, t, m, hk, h1, h2 => by omega
 | k + 1, s, t, m, hk, h1, h2 => by
   have ih := loop8 n hn k
   have hcut : (t.take (cutAt t.length t)).length ≤ t.length := by rw [List.length_take]; omega
   rw [rounds_succ, step8 n hn s t m _ (by omega) (by omega) (by omega)]
   unfold refD
   by_cases c0 : s = []
   · rw [if_pos c0, if_pos c0]
   rw [if_neg c0, if_neg c0]
   by_cases c1 : [46, 46, 47].isPrefixOf s = true
   · have := pre_len c1
     simp only [List.length_cons, List.length_nil] at this
     rw [if_pos c1, if_pos c1]
     exact ih _ _ _ (by simp only [List.length_drop]; omega) (by simp only [List.length_drop]; omega) (by simp only [List.length_drop]; omega)
   rw [if_neg c1, if_neg c1]
   by_cases c2 : [46, 47].isPrefixOf s = true
   · have := pre_len c2
     simp only [List.length_cons, List.length_nil] at this
     rw [if_pos c2, if_pos c2]
     exact ih _ _ _ (by simp only [List.length_drop]; omega) (by simp only [List.length_drop]; omega) (by simp only [List.length_drop]; omega)
   rw [if_neg c2, if_neg c2]
   by_cases c3 : [47, 46, 47].isPrefixOf s = true
   · have := pre_len c3
     simp only [List.length_cons, List.length_nil] at this
     rw [if_pos c3, if_pos c3]
     exact ih _ _ _ (by simp only [List.length_drop]; omega) (by simp only [List.length_drop]; omega) (by simp only [List.length_drop]; omega)
   rw [if_neg c3, if_neg c3]
   by_cases c4 : s = [47, 46]
   · rw [if_pos c4, if_pos c4]
     subst c4
     simp only [List.length_cons, List.length_nil] at hk h1 h2
     exact ih _ _ _ (by simp only [List.length_cons, List.length_nil]; omega) (by simp only [List.length_cons, List.length_nil]; omega) (by simp only [List.length_cons, List.length_nil]; omega)
   rw [if_neg c4, if_neg c4]
   by_cases c5 : [47, 46, 46, 47].isPrefixOf s = true
   · have := pre_len c5
     simp only [List.length_cons, List.length_nil] at this
     rw [if_pos c5, if_pos c5]
     exact ih _ _ _ (by simp only [List.length_drop]; omega) (by simp only [List.length_drop]; omega) (by simp only [List.length_drop]; omega)
   rw [if_neg c5, if_neg c5]
   by_cases c6 : s = [47, 46, 46]
   · rw [if_pos c6, if_pos c6]
     subst c6
     simp only [List.length_cons, List.length_nil] at hk h1 h2
     exact ih _ _ _ (by simp only [List.length_cons, List.length_nil]; omega) (by simp only [List.length_cons, List.length_nil]; omega) (by simp only [List.length_cons, List.length_nil]; omega)
   rw [if_neg c6, if_neg c6]
   have hpos : 1 ≤ s.length := by cases s with | nil => exact absurd rfl c0 | cons _ _ => simp
   by_cases c7 : s = [46] ∨ s = [46, 46]
   · rw [if_pos c7, if_pos c7]
     exact ih _ _ _ (by simp only [List.length_nil]; omega) (by simp only [List.length_nil]; omega) (by simp only [List.length_nil]; omega)
   rw [if_neg c7, if_neg c7]
   have hsg : 1 ≤ seg s := by unfold seg; omega
   refine ih _ _ _ (by simp only [List.length_drop]; omega) (by simp only [List.length_drop]; omega) ?_
   simp only [List.length_drop, List.length_append, List.length_take]
   omega
theorem val8 (s : List UInt8) (hs : s.length ≤ 4000) : abody Tryz.prog (call' V22) an8 12000 8 [.str (mkS s)] = some (.str (mkS (refD 12000 s [])), []) := by
 have e1 : abody Tryz.prog (call' V22) an8 12000 8 [.str (mkS s)] = aexec Tryz.prog (call' V22) (filt an8 0) 12000 c8 (envOf Tryz.prog 8 [.c (.str (mkS s))]) [] (endOf Tryz.prog 8 []) := by kernel_rfl
 have hcut := cut_eq (P := Tryz.prog) (tb := call' V22) (an := filt an8 0) (fuel := 12000) (L := fun _ => headK h8 fun env H => rounds Tryz.prog (call' V22) (filt an8 0) 12000 h8 b8 12000 env H (K8 12000)) c8 0 (endOf Tryz.prog 8 []) (envOf Tryz.prog 8 [.c (.str (mkS s))]) [] ids8' (fun i env H hi => by
   rw [n8'] at hi
   obtain rfl : i = 0 := by omega
   rw [loop_eq fr8]; rfl)
 have hb := before8 (mkS s) 12000 (fun env H => rounds Tryz.prog (call' V22) (filt an8 0) 12000 h8 b8 12000 env H (K8 12000))
 unfold parts at hb
 rw [e1, hcut, hb, ← loop8 12000 (by omega) 12000 s [] 0 (by omega) (by omega) (by simp; omega)]
 rfl
end Go.Pv
namespace Go.Pv
open Go Go.Proofs
def special (e : List UInt8) : Prop := e = [46] ∨ e = [46, 46] ∨ e = [47, 46] ∨ e = [47, 46, 46]
def part1 (e : List UInt8) : Prop := ∃ c r, e = c :: r ∧ 47 ∉ r ∧ ¬ special e
def slash (s : List UInt8) : Prop := s = [] ∨ ∃ t, s = 47 :: t
structure Parts (l : List (List UInt8)) : Prop where
 each : ∀ e ∈ l, part1 e
 rest : ∀ e ∈ l.drop 1, ∃ t, e = 47 :: t
def plain7 (s : List UInt8) : Prop := ¬ [46, 46, 47].isPrefixOf s = true ∧ ¬ [46, 47].isPrefixOf s = true ∧ ¬ [47, 46, 47].isPrefixOf s = true ∧ ¬ s = [47, 46] ∧ ¬ [47, 46, 46, 47].isPrefixOf s = true ∧ ¬ s = [47, 46, 46] ∧ ¬ (s = [46] ∨ s = [46, 46])
theorem plain7_iff {c : UInt8} {r R : List UInt8} (hr : 47 ∉ r) (hR : slash R) : plain7 (c :: (r ++ R)) ↔ ¬ special (c :: r) := by
 unfold plain7 special
 have h47 : ∀ x : UInt8, x ∈ r → ¬ (47 : UInt8) = x := fun x hx e => hr (e ▸ hx)
 rcases r with _ | ⟨x, _ | ⟨y, _ | ⟨z, r1⟩⟩⟩
 · rcases hR with rfl | ⟨t, rfl⟩ <;> simp [List.isPrefixOf] <;> grind
 · have hx := h47 x (by simp)
   rcases hR with rfl | ⟨t, rfl⟩ <;> simp [List.isPrefixOf, hx] <;> grind
 · have hx := h47 x (by simp)
   have hy := h47 y (by simp)
   rcases hR with rfl | ⟨t, rfl⟩ <;> simp [List.isPrefixOf, hx, hy] <;> grind
 · have hx := h47 x (by simp)
   have hy := h47 y (by simp)
   have hz := h47 z (by simp)
   simp [List.isPrefixOf, hx, hy, hz]
theorem tw_split : ∀ t : List UInt8, t.takeWhile (· != 47) ++ t.dropWhile (· != 47) = t := fun t => List.takeWhile_append_dropWhile
theorem tw_no : ∀ t : List UInt8, 47 ∉ t.takeWhile (· != 47)
 | [] => by simp
 | b :: t => by
   by_cases hb : b = 47
   · subst hb; simp
   · rw [List.takeWhile_cons_of_pos (by simpa using hb)]
     intro h
     rcases List.mem_cons.1 h with h | h
     · exact hb h.symm
     · exact tw_no t h
theorem dw_slash : ∀ t : List UInt8, slash (t.dropWhile (· != 47))
 | [] => .inl rfl
 | b :: t => by
   by_cases hb : b = 47
   · subst hb; exact .inr ⟨t, by simp⟩
   · rw [List.dropWhile_cons_of_pos (by simpa using hb)]
     exact dw_slash t
theorem seg_cut (b : UInt8) (t : List UInt8) : (b :: t).take (seg (b :: t)) = b :: t.takeWhile (· != 47) ∧ (b :: t).drop (seg (b :: t)) = t.dropWhile (· != 47) := by
 have h : seg (b :: t) = (t.takeWhile (· != 47)).length + 1 := by unfold seg; simp; omega
 rw [h, List.take_succ_cons, List.drop_succ_cons]
 have hs := tw_split t
 have h1 := @List.take_left _ (t.takeWhile (· != 47)) (t.dropWhile (· != 47))
 have h2 := @List.drop_left _ (t.takeWhile (· != 47)) (t.dropWhile (· != 47))
 rw [hs] at h1 h2
 exact ⟨by rw [h1], h2⟩
theorem seg_of {c : UInt8} {r R : List UInt8} (hr : 47 ∉ r) (hR : slash R) : seg (c :: (r ++ R)) = (c :: r).length := by
 unfold seg
 have : (r ++ R).takeWhile (· != 47) = r := by
   rw [List.takeWhile_append_of_pos (by intro x hx; simp; intro e; subst e; exact hr hx)]
   rcases hR with rfl | ⟨t, rfl⟩ <;> simp
 simp [this]; omega
theorem cutAt_skip {t : List UInt8} {p : Nat} : ∀ d, (∀ j, p ≤ j → j < p + d → t.getD j 0 ≠ 47) → cutAt (p + d) t = cutAt p t
 | 0, _ => rfl
 | d + 1, h => by
   show cutAt ((p + d) + 1) t = _
   rw [cutAt, if_neg (h (p + d) (by omega) (by omega))]
   exact cutAt_skip d fun j h1 h2 => h j h1 (by omega)
theorem cut_parts {l : List (List UInt8)} (h : Parts l) : l.flatten.take (cutAt l.flatten.length l.flatten) = l.dropLast.flatten := by
 rcases List.eq_nil_or_concat l with rfl | ⟨l', e, rfl⟩
 · rfl
 rw [List.concat_eq_append] at h ⊢
 obtain ⟨c, r, rfl, hr, _⟩ := h.each e (by simp)
 have hfl : (l' ++ [c :: r]).flatten = l'.flatten ++ c :: r := by simp
 rw [hfl, List.dropLast_concat]
 have hlen : (l'.flatten ++ c :: r).length = l'.flatten.length + 1 + r.length := by simp; omega
 rw [hlen, cutAt_skip (p := l'.flatten.length + 1) r.length (by
   intro j h1 h2
   rw [List.getD_eq_getElem?_getD, List.getElem?_append_right (by omega)]
   obtain ⟨i, hi⟩ : ∃ i, j - l'.flatten.length = i + 1 := ⟨j - l'.flatten.length - 1, by omega⟩
   rw [hi, List.getElem?_cons_succ]
   have hil : i < r.length := by omega
   rw [List.getElem?_eq_getElem hil]
   intro e
   exact hr (by rw [← e]; simp))]
 unfold cutAt
 have hat : (l'.flatten ++ c :: r).getD l'.flatten.length 0 = c := by
   rw [List.getD_eq_getElem?_getD, List.getElem?_append_right (Nat.le_refl _)]; simp
 rw [hat]
 by_cases hc : c = 47
 · rw [if_pos hc, List.take_left]
 · rw [if_neg hc]
   have : l' = [] := by
     cases l' with
     | nil => rfl
     | cons x l'' =>
       obtain ⟨t, ht⟩ := h.rest (c :: r) (by simp)
       cases ht
       exact absurd rfl hc
   subst this
   rfl
theorem Parts.dropLast {l : List (List UInt8)} (h : Parts l) : Parts l.dropLast := by
 refine ⟨fun e he => h.each e (List.dropLast_subset l he), fun e he => h.rest e ?_⟩
 rw [List.dropLast_eq_take, List.drop_take] at he
 exact List.mem_of_mem_take he
theorem Parts.add {l : List (List UInt8)} (h : Parts l) {b : UInt8} {t : List UInt8} (hl : l ≠ [] → slash (b :: t)) (hp : plain7 (b :: t)) : Parts (l ++ [(b :: t).take (seg (b :: t))]) := by
 rw [(seg_cut b t).1]
 refine ⟨fun e he => ?_, fun e he => ?_⟩
 · rcases List.mem_append.1 he with he | he
   · exact h.each e he
   · simp only [List.mem_singleton] at he
     subst he
     refine ⟨b, _, rfl, tw_no t, ?_⟩
     rw [← plain7_iff (tw_no t) (dw_slash t), tw_split]
     exact hp
 · by_cases hn : l = []
   · subst hn; simp at he
   · have hd : (l ++ [b :: t.takeWhile (· != 47)]).drop 1 = l.drop 1 ++ [b :: t.takeWhile (· != 47)] := by
       cases l with
       | nil => exact absurd rfl hn
       | cons _ _ => rfl
     rw [hd] at he
     rcases List.mem_append.1 he with he | he
     · exact h.rest e he
     · simp only [List.mem_singleton] at he
       subst he
       rcases hl hn with h1 | ⟨t', h1⟩
       · cases h1
       · cases h1; exact ⟨_, rfl⟩
theorem slash_no {s : List UInt8} {p : List UInt8} (h : slash s) (hp : (46 :: p).isPrefixOf s = true) : False := by
 rcases h with rfl | ⟨t, rfl⟩
 · simp [List.isPrefixOf] at hp
 · simp [List.isPrefixOf] at hp
theorem dots_eq : ∀ (k : Nat) (s : List UInt8) (l : List (List UInt8)), Parts l → (l ≠ [] → slash s) → refD k s l.flatten = (und k s l).flatten ∧ Parts (und k s l) ∧ (und k s l).flatten.length ≤ s.length + l.flatten.length
 | 0, s, l, hp, hl => ⟨rfl, hp, by simp only [und]; omega⟩
 | k + 1, s, l, hp, hl => by
   have ih := dots_eq k
   have hcut := cut_parts hp
   have hf : l.dropLast.flatten.length ≤ l.flatten.length := by rw [← hcut, List.length_take]; omega
   unfold refD und
   by_cases c0 : s = []
   · rw [if_pos c0, if_pos c0]; exact ⟨rfl, hp, by omega⟩
   rw [if_neg c0, if_neg c0]
   by_cases c1 : [46, 46, 47].isPrefixOf s = true
   · have hn : l = [] := Classical.byContradiction fun hn => slash_no (hl hn) c1
     rw [if_pos c1, if_pos c1]
     obtain ⟨a1, a2, a3⟩ := ih (s.drop 3) l hp (fun h => absurd hn h)
     exact ⟨a1, a2, by rw [List.length_drop] at a3; omega⟩
   rw [if_neg c1, if_neg c1]
   by_cases c2 : [46, 47].isPrefixOf s = true
   · have hn : l = [] := Classical.byContradiction fun hn => slash_no (hl hn) c2
     rw [if_pos c2, if_pos c2]
     obtain ⟨a1, a2, a3⟩ := ih (s.drop 2) l hp (fun h => absurd hn h)
     exact ⟨a1, a2, by rw [List.length_drop] at a3; omega⟩
   rw [if_neg c2, if_neg c2]
   by_cases c3 : [47, 46, 47].isPrefixOf s = true
   · rw [if_pos c3, if_pos c3]
     obtain ⟨t, ht⟩ := List.isPrefixOf_iff_prefix.1 c3
     obtain ⟨a1, a2, a3⟩ := ih (s.drop 2) l hp (fun _ => .inr ⟨t, by rw [← ht]; rfl⟩)
     exact ⟨a1, a2, by rw [List.length_drop] at a3; omega⟩
   rw [if_neg c3, if_neg c3]
   by_cases c4 : s = [47, 46]
   · rw [if_pos c4, if_pos c4]
     obtain ⟨a1, a2, a3⟩ := ih [47] l hp (fun _ => .inr ⟨[], rfl⟩)
     refine ⟨a1, a2, ?_⟩
     subst c4
     simp only [List.length_cons, List.length_nil] at a3 ⊢; omega
   rw [if_neg c4, if_neg c4]
   by_cases c5 : [47, 46, 46, 47].isPrefixOf s = true
   · rw [if_pos c5, if_pos c5, hcut]
     obtain ⟨t, ht⟩ := List.isPrefixOf_iff_prefix.1 c5
     obtain ⟨a1, a2, a3⟩ := ih (s.drop 3) l.dropLast hp.dropLast (fun _ => .inr ⟨t, by rw [← ht]; rfl⟩)
     exact ⟨a1, a2, by rw [List.length_drop] at a3; omega⟩
   rw [if_neg c5, if_neg c5]
   by_cases c6 : s = [47, 46, 46]
   · rw [if_pos c6, if_pos c6, hcut]
     obtain ⟨a1, a2, a3⟩ := ih [47] l.dropLast hp.dropLast (fun _ => .inr ⟨[], rfl⟩)
     refine ⟨a1, a2, ?_⟩
     subst c6
     simp only [List.length_cons, List.length_nil] at a3 ⊢; omega
   rw [if_neg c6, if_neg c6]
   by_cases c7 : s = [46] ∨ s = [46, 46]
   · rw [if_pos c7, if_pos c7]
     obtain ⟨a1, a2, a3⟩ := ih [] l hp (fun _ => .inl rfl)
     exact ⟨a1, a2, by simp only [List.length_nil] at a3; omega⟩
   rw [if_neg c7, if_neg c7]
   obtain ⟨b, t, rfl⟩ : ∃ b t, s = b :: t := by cases s with | nil => exact absurd rfl c0 | cons b t => exact ⟨b, t, rfl⟩
   have hadd := hp.add hl ⟨c1, c2, c3, c4, c5, c6, c7⟩
   obtain ⟨a1, a2, a3⟩ := ih ((b :: t).drop (seg (b :: t))) (l ++ [(b :: t).take (seg (b :: t))]) hadd (fun _ => by rw [(seg_cut b t).2]; exact dw_slash t)
   refine ⟨?_, a2, ?_⟩
   · rw [← a1]
     congr 1
     simp
   · refine Nat.le_trans a3 ?_
     simp only [List.length_drop, List.flatten_append, List.length_append, List.flatten_cons, List.flatten_nil, List.append_nil, List.length_take]
     omega
theorem dots_id : ∀ (r l : List (List UInt8)) (k : Nat), Parts (l ++ r) → r.flatten.length < k → und k r.flatten l = l ++ r
 | [], l, k + 1, hp, hk => by simp [und]
 | e :: r, l, k + 1, hp, hk => by
   obtain ⟨c, r0, rfl, hr0, hsp⟩ := hp.each e (by simp)
   have hR : slash r.flatten := by
     cases r with
     | nil => exact .inl rfl
     | cons e' r' =>
       have hmem : e' ∈ (l ++ (c :: r0) :: e' :: r').drop 1 := by
         cases l with
         | nil => simp
         | cons x l => simp
       obtain ⟨t, rfl⟩ := hp.rest e' hmem
       exact .inr ⟨t ++ r'.flatten, by simp⟩
   have hs : ((c :: r0) :: r).flatten = c :: (r0 ++ r.flatten) := by simp
   obtain ⟨c1, c2, c3, c4, c5, c6, c7⟩ := (plain7_iff hr0 hR).2 hsp
   rw [hs] at hk ⊢
   unfold und
   rw [if_neg (by simp), if_neg c1, if_neg c2, if_neg c3, if_neg c4, if_neg c5, if_neg c6, if_neg c7, seg_of hr0 hR]
   have h1 : (c :: (r0 ++ r.flatten)).drop (c :: r0).length = r.flatten := by
     show ((c :: r0) ++ r.flatten).drop _ = _
     rw [List.drop_left]
   have h2 : (c :: (r0 ++ r.flatten)).take (c :: r0).length = c :: r0 := by
     show ((c :: r0) ++ r.flatten).take _ = _
     rw [List.take_left]
   rw [h1, h2, dots_id r (l ++ [c :: r0]) k (by simpa using hp) (by simp only [List.length_cons, List.length_append] at hk; omega)]
   simp
def dotsL (s : List UInt8) : List UInt8 := (und 12000 s []).flatten
theorem parts_nil : Parts [] := ⟨by simp, by simp⟩
theorem dotsL_ref (s : List UInt8) : refD 12000 s [] = dotsL s := (dots_eq 12000 s [] parts_nil (by simp)).1
theorem dotsL_len (s : List UInt8) : (dotsL s).length ≤ s.length := by
 have := (dots_eq 12000 s [] parts_nil (by simp)).2.2
 simp only [List.flatten_nil, List.length_nil, Nat.add_zero] at this
 exact this
theorem dotsL_id (s : List UInt8) (hs : s.length ≤ 10000) : dotsL (dotsL s) = dotsL s := by
 have h := (dots_eq 12000 s [] parts_nil (by simp)).2.1
 have := dots_id (und 12000 s []) [] 12000 (by simpa using h) (by have := dotsL_len s; unfold dotsL at this; omega)
 show (und 12000 (und 12000 s []).flatten []).flatten = _
 rw [this]; rfl
end Go.Pv
namespace Go.Pv
set_option maxRecDepth 100000
open Go Go.Proofs
def by1 (l : List Nat) : ByteArray := ⟨(l.map UInt8.ofNat).toArray⟩
def beq1 : CV → CV → Bool
 | .str a, .str b => a.data.toList == b.data.toList
 | .bool a, .bool b => a == b
 | .int k a, .int k' b => k == k' && a == b
 | _, _ => false
def beqL : List CV → List CV → Bool
 | [], [] => true
 | a :: la, b :: lb => beq1 a b && beqL la lb
 | _, _ => false
def beqA : CV → CV → Bool
 | .agg a, .agg b => beqL a b
 | a, b => beq1 a b
def beqAs : List CV → List CV → Bool
 | [], [] => true
 | a :: la, b :: lb => beqA a b && beqAs la lb
 | _, _ => false
theorem beq1_ok {a b : CV} (h : beq1 a b = true) : a = b := by
 cases a <;> cases b <;> simp [beq1] at h
 · rw [h]
 · rw [h.1, h.2]
 · rename_i x y
   congr 1
   exact ByteArray.ext h
theorem beqL_ok : ∀ {a b : List CV}, beqL a b = true → a = b
 | [], [], _ => rfl
 | [], _ :: _, h => by simp [beqL] at h
 | _ :: _, [], h => by simp [beqL] at h
 | a :: la, b :: lb, h => by
   simp only [beqL, Bool.and_eq_true] at h
   rw [beq1_ok h.1, beqL_ok h.2]
theorem beqA_ok {a b : CV} (h : beqA a b = true) : a = b := by
 unfold beqA at h
 split at h
 · rw [beqL_ok h]
 · exact beq1_ok h
theorem beqAs_ok : ∀ {a b : List CV}, beqAs a b = true → a = b
 | [], [], _ => rfl
 | [], _ :: _, h => by simp [beqAs] at h
 | _ :: _, [], h => by simp [beqAs] at h
 | a :: la, b :: lb, h => by
   simp only [beqAs, Bool.and_eq_true] at h
   rw [beqA_ok h.1, beqAs_ok h.2]
def ptF : List (List CV × CV) → Fn1
 | [], _ => none
 | (a, r) :: l, x => if beqAs x a then some [(true, r, [])] else ptF l x
theorem ptF_ok : ∀ {l : List (List CV × CV)} {x : List CV} {rv : CV} {outs : List CV}, picked (ptF l x) = some (rv, outs) → (x, rv) ∈ l ∧ outs = []
 | [], x, rv, outs, h => by cases h
 | (a, r) :: l, x, rv, outs, h => by
   simp only [ptF] at h
   split at h
   · rename_i hb
     cases h
     rw [beqAs_ok hb]
     exact ⟨by simp, rfl⟩
   · obtain ⟨h1, h2⟩ := ptF_ok h
     exact ⟨by simp [h1], h2⟩
theorem contract_pt {P : Program} {I : World → Prop} {ng : Nat} {tb : Handler} {f : FuncId} {l : List (List CV × CV)} (hg : OnGlobals I ng) (h : HOk P I ng tb) (hl : ∀ x rv, (x, rv) ∈ l → abody P tb (fun _ => none) 200 f x = some (rv, [])) : Contract P I ng f (ptF l) :=
 contract_of _ hg h fun cargs rv outs hF => by
   obtain ⟨h1, rfl⟩ := ptF_ok hF
   exact ⟨200, hl _ _ h1⟩
def ilA : List FuncId := [75, 50, 51, 76]
noncomputable def hd (T : Table) : Handler := inls Tryz.prog (fun _ => none) 200 ilA (call' T)
theorem hd_ok {I : World → Prop} {ng : Nat} {T : Table} (hg : OnGlobals I ng) (h : Known Tryz.prog I ng T) : HOk Tryz.prog I ng (hd T) := inls_ok hg (hok_of h) _
noncomputable def tJ : Table := addF noTable 39 FJoin
theorem kJ {I : World → Prop} {ng : Nat} (hg : OnGlobals I ng) : Known Tryz.prog I ng tJ := known_add known_no (c39 hg)
noncomputable def tA : Table := bodiesI Tryz.prog 200 ilA [72, 98, 117, 116, 134, 73, 99, 115, 114, 133, 132, 139, 142, 141, 143, 135, 118, 136, 140, 125, 97, 113, 131, 74, 25, 49, 71, 96, 63, 70, 69, 95, 94, 112, 130, 80, 105, 68, 38, 65] tJ
theorem kA {I : World → Prop} {ng : Nat} (hg : OnGlobals I ng) : Known Tryz.prog I ng tA := known_bodiesI hg (kJ hg) _
theorem ptUp_0 : abody Tryz.prog (hd tA) (fun _ => none) 200 47 [.str (by1 [104, 116, 116, 112, 58, 47, 47, 97, 47, 98, 47, 99, 47, 100, 59, 112, 63, 113])] = some (.tup [.agg [.str (by1 [104, 116, 116, 112]), .str (by1 []), .bool false, .str (by1 [97]), .str (by1 []), .bool false, .bool true, .str (by1 [47, 98, 47, 99, 47, 100, 59, 112]), .str (by1 [113]), .bool true, .str (by1 []), .bool false], .int .i64 0], []) := by kernel_rfl
theorem ptUp_1 : abody Tryz.prog (hd tA) (fun _ => none) 200 47 [.str (by1 [46, 46, 47, 103])] = some (.tup [.agg [.str (by1 []), .str (by1 []), .bool false, .str (by1 []), .str (by1 []), .bool false, .bool false, .str (by1 [46, 46, 47, 103]), .str (by1 []), .bool false, .str (by1 []), .bool false], .int .i64 0], []) := by kernel_rfl
theorem ptUp_2 : abody Tryz.prog (hd tA) (fun _ => none) 200 47 [.str (by1 [104, 116, 116, 112, 58, 47, 47, 97, 47, 98, 47, 103])] = some (.tup [.agg [.str (by1 [104, 116, 116, 112]), .str (by1 []), .bool false, .str (by1 [97]), .str (by1 []), .bool false, .bool true, .str (by1 [47, 98, 47, 103]), .str (by1 []), .bool false, .str (by1 []), .bool false], .int .i64 0], []) := by kernel_rfl
theorem ptUp_3 : abody Tryz.prog (hd tA) (fun _ => none) 200 47 [.str (by1 [72, 84, 84, 80, 58, 47, 47, 69, 88, 46, 99, 111, 109, 58, 48, 56, 48, 47, 37, 55, 101, 97, 47, 46, 47, 98, 37, 50, 102])] = some (.tup [.agg [.str (by1 [72, 84, 84, 80]), .str (by1 []), .bool false, .str (by1 [69, 88, 46, 99, 111, 109]), .str (by1 [48, 56, 48]), .bool true, .bool true, .str (by1 [47, 37, 55, 101, 97, 47, 46, 47, 98, 37, 50, 102]), .str (by1 []), .bool false, .str (by1 []), .bool false], .int .i64 0], []) := by kernel_rfl
def lUp : List (List CV × CV) := [([.str (by1 [104, 116, 116, 112, 58, 47, 47, 97, 47, 98, 47, 99, 47, 100, 59, 112, 63, 113])], .tup [.agg [.str (by1 [104, 116, 116, 112]), .str (by1 []), .bool false, .str (by1 [97]), .str (by1 []), .bool false, .bool true, .str (by1 [47, 98, 47, 99, 47, 100, 59, 112]), .str (by1 [113]), .bool true, .str (by1 []), .bool false], .int .i64 0]), ([.str (by1 [46, 46, 47, 103])], .tup [.agg [.str (by1 []), .str (by1 []), .bool false, .str (by1 []), .str (by1 []), .bool false, .bool false, .str (by1 [46, 46, 47, 103]), .str (by1 []), .bool false, .str (by1 []), .bool false], .int .i64 0]), ([.str (by1 [104, 116, 116, 112, 58, 47, 47, 97, 47, 98, 47, 103])], .tup [.agg [.str (by1 [104, 116, 116, 112]), .str (by1 []), .bool false, .str (by1 [97]), .str (by1 []), .bool false, .bool true, .str (by1 [47, 98, 47, 103]), .str (by1 []), .bool false, .str (by1 []), .bool false], .int .i64 0]), ([.str (by1 [72, 84, 84, 80, 58, 47, 47, 69, 88, 46, 99, 111, 109, 58, 48, 56, 48, 47, 37, 55, 101, 97, 47, 46, 47, 98, 37, 50, 102])], .tup [.agg [.str (by1 [72, 84, 84, 80]), .str (by1 []), .bool false, .str (by1 [69, 88, 46, 99, 111, 109]), .str (by1 [48, 56, 48]), .bool true, .bool true, .str (by1 [47, 37, 55, 101, 97, 47, 46, 47, 98, 37, 50, 102]), .str (by1 []), .bool false, .str (by1 []), .bool false], .int .i64 0])]
theorem cUp {I : World → Prop} {ng : Nat} (hg : OnGlobals I ng) : Contract Tryz.prog I ng 47 (ptF lUp) := contract_pt hg (hd_ok hg (kA hg)) fun x rv h => by
 simp only [lUp, List.mem_cons, Prod.mk.injEq, List.not_mem_nil, or_false] at h
 rcases h with ⟨rfl, rfl⟩ | ⟨rfl, rfl⟩ | ⟨rfl, rfl⟩ | ⟨rfl, rfl⟩
 · exact ptUp_0
 · exact ptUp_1
 · exact ptUp_2
 · exact ptUp_3
theorem ptUt_0 : abody Tryz.prog (hd tA) (fun _ => none) 200 48 [.agg [.str (by1 [104, 116, 116, 112]), .str (by1 []), .bool false, .str (by1 [97]), .str (by1 []), .bool false, .bool true, .str (by1 [47, 98, 47, 99, 47, 100, 59, 112]), .str (by1 [113]), .bool true, .str (by1 []), .bool false]] = some (.str (by1 [104, 116, 116, 112, 58, 47, 47, 97, 47, 98, 47, 99, 47, 100, 59, 112, 63, 113]), []) := by kernel_rfl
theorem ptUt_1 : abody Tryz.prog (hd tA) (fun _ => none) 200 48 [.agg [.str (by1 []), .str (by1 []), .bool false, .str (by1 []), .str (by1 []), .bool false, .bool false, .str (by1 [46, 46, 47, 103]), .str (by1 []), .bool false, .str (by1 []), .bool false]] = some (.str (by1 [46, 46, 47, 103]), []) := by kernel_rfl
theorem ptUt_2 : abody Tryz.prog (hd tA) (fun _ => none) 200 48 [.agg [.str (by1 [104, 116, 116, 112]), .str (by1 []), .bool false, .str (by1 [97]), .str (by1 []), .bool false, .bool true, .str (by1 [47, 98, 47, 103]), .str (by1 []), .bool false, .str (by1 []), .bool false]] = some (.str (by1 [104, 116, 116, 112, 58, 47, 47, 97, 47, 98, 47, 103]), []) := by kernel_rfl
theorem ptUt_3 : abody Tryz.prog (hd tA) (fun _ => none) 200 48 [.agg [.str (by1 [72, 84, 84, 80]), .str (by1 []), .bool false, .str (by1 [69, 88, 46, 99, 111, 109]), .str (by1 [48, 56, 48]), .bool true, .bool true, .str (by1 [47, 37, 55, 101, 97, 47, 46, 47, 98, 37, 50, 102]), .str (by1 []), .bool false, .str (by1 []), .bool false]] = some (.str (by1 [72, 84, 84, 80, 58, 47, 47, 69, 88, 46, 99, 111, 109, 58, 48, 56, 48, 47, 37, 55, 101, 97, 47, 46, 47, 98, 37, 50, 102]), []) := by kernel_rfl
def lUt : List (List CV × CV) := [([.agg [.str (by1 [104, 116, 116, 112]), .str (by1 []), .bool false, .str (by1 [97]), .str (by1 []), .bool false, .bool true, .str (by1 [47, 98, 47, 99, 47, 100, 59, 112]), .str (by1 [113]), .bool true, .str (by1 []), .bool false]], .str (by1 [104, 116, 116, 112, 58, 47, 47, 97, 47, 98, 47, 99, 47, 100, 59, 112, 63, 113])), ([.agg [.str (by1 []), .str (by1 []), .bool false, .str (by1 []), .str (by1 []), .bool false, .bool false, .str (by1 [46, 46, 47, 103]), .str (by1 []), .bool false, .str (by1 []), .bool false]], .str (by1 [46, 46, 47, 103])), ([.agg [.str (by1 [104, 116, 116, 112]), .str (by1 []), .bool false, .str (by1 [97]), .str (by1 []), .bool false, .bool true, .str (by1 [47, 98, 47, 103]), .str (by1 []), .bool false, .str (by1 []), .bool false]], .str (by1 [104, 116, 116, 112, 58, 47, 47, 97, 47, 98, 47, 103])), ([.agg [.str (by1 [72, 84, 84, 80]), .str (by1 []), .bool false, .str (by1 [69, 88, 46, 99, 111, 109]), .str (by1 [48, 56, 48]), .bool true, .bool true, .str (by1 [47, 37, 55, 101, 97, 47, 46, 47, 98, 37, 50, 102]), .str (by1 []), .bool false, .str (by1 []), .bool false]], .str (by1 [72, 84, 84, 80, 58, 47, 47, 69, 88, 46, 99, 111, 109, 58, 48, 56, 48, 47, 37, 55, 101, 97, 47, 46, 47, 98, 37, 50, 102]))]
theorem cUt {I : World → Prop} {ng : Nat} (hg : OnGlobals I ng) : Contract Tryz.prog I ng 48 (ptF lUt) := contract_pt hg (hd_ok hg (kA hg)) fun x rv h => by
 simp only [lUt, List.mem_cons, Prod.mk.injEq, List.not_mem_nil, or_false] at h
 rcases h with ⟨rfl, rfl⟩ | ⟨rfl, rfl⟩ | ⟨rfl, rfl⟩ | ⟨rfl, rfl⟩
 · exact ptUt_0
 · exact ptUt_1
 · exact ptUt_2
 · exact ptUt_3
noncomputable def tB : Table := addF tJ 47 (ptF lUp)
theorem kB {I : World → Prop} {ng : Nat} (hg : OnGlobals I ng) : Known Tryz.prog I ng tB := known_add (kJ hg) (cUp hg)
noncomputable def tC : Table := addF tB 48 (ptF lUt)
theorem kC {I : World → Prop} {ng : Nat} (hg : OnGlobals I ng) : Known Tryz.prog I ng tC := known_add (kB hg) (cUt hg)
theorem ptUc_0 : abody Tryz.prog (hd tC) (fun _ => none) 200 24 [.agg [.str (by1 [104, 116, 116, 112]), .str (by1 []), .bool false, .str (by1 [97]), .str (by1 []), .bool false, .bool true, .str (by1 [47, 98, 47, 99, 47, 100, 59, 112]), .str (by1 [113]), .bool true, .str (by1 []), .bool false]] = some (.int .i64 0, []) := by kernel_rfl
theorem ptUc_1 : abody Tryz.prog (hd tC) (fun _ => none) 200 24 [.agg [.str (by1 []), .str (by1 []), .bool false, .str (by1 []), .str (by1 []), .bool false, .bool false, .str (by1 [46, 46, 47, 103]), .str (by1 []), .bool false, .str (by1 []), .bool false]] = some (.int .i64 0, []) := by kernel_rfl
theorem ptUc_2 : abody Tryz.prog (hd tC) (fun _ => none) 200 24 [.agg [.str (by1 [104, 116, 116, 112]), .str (by1 []), .bool false, .str (by1 [97]), .str (by1 []), .bool false, .bool true, .str (by1 [47, 98, 47, 103]), .str (by1 []), .bool false, .str (by1 []), .bool false]] = some (.int .i64 0, []) := by kernel_rfl
theorem ptUc_3 : abody Tryz.prog (hd tC) (fun _ => none) 200 24 [.agg [.str (by1 [72, 84, 84, 80]), .str (by1 []), .bool false, .str (by1 [69, 88, 46, 99, 111, 109]), .str (by1 [48, 56, 48]), .bool true, .bool true, .str (by1 [47, 37, 55, 101, 97, 47, 46, 47, 98, 37, 50, 102]), .str (by1 []), .bool false, .str (by1 []), .bool false]] = some (.int .i64 0, []) := by kernel_rfl
def lUc : List (List CV × CV) := [([.agg [.str (by1 [104, 116, 116, 112]), .str (by1 []), .bool false, .str (by1 [97]), .str (by1 []), .bool false, .bool true, .str (by1 [47, 98, 47, 99, 47, 100, 59, 112]), .str (by1 [113]), .bool true, .str (by1 []), .bool false]], .int .i64 0), ([.agg [.str (by1 []), .str (by1 []), .bool false, .str (by1 []), .str (by1 []), .bool false, .bool false, .str (by1 [46, 46, 47, 103]), .str (by1 []), .bool false, .str (by1 []), .bool false]], .int .i64 0), ([.agg [.str (by1 [104, 116, 116, 112]), .str (by1 []), .bool false, .str (by1 [97]), .str (by1 []), .bool false, .bool true, .str (by1 [47, 98, 47, 103]), .str (by1 []), .bool false, .str (by1 []), .bool false]], .int .i64 0), ([.agg [.str (by1 [72, 84, 84, 80]), .str (by1 []), .bool false, .str (by1 [69, 88, 46, 99, 111, 109]), .str (by1 [48, 56, 48]), .bool true, .bool true, .str (by1 [47, 37, 55, 101, 97, 47, 46, 47, 98, 37, 50, 102]), .str (by1 []), .bool false, .str (by1 []), .bool false]], .int .i64 0)]
theorem cUc {I : World → Prop} {ng : Nat} (hg : OnGlobals I ng) : Contract Tryz.prog I ng 24 (ptF lUc) := contract_pt hg (hd_ok hg (kC hg)) fun x rv h => by
 simp only [lUc, List.mem_cons, Prod.mk.injEq, List.not_mem_nil, or_false] at h
 rcases h with ⟨rfl, rfl⟩ | ⟨rfl, rfl⟩ | ⟨rfl, rfl⟩ | ⟨rfl, rfl⟩
 · exact ptUc_0
 · exact ptUc_1
 · exact ptUc_2
 · exact ptUc_3
noncomputable def tD : Table := addF tJ 24 (ptF lUc)
theorem kD {I : World → Prop} {ng : Nat} (hg : OnGlobals I ng) : Known Tryz.prog I ng tD := known_add (kJ hg) (cUc hg)
noncomputable def tE : Table := bodiesI Tryz.prog 200 ilA [28, 53, 52, 77, 27, 14, 32, 60, 86, 85, 109, 30, 54, 78, 104, 123, 138, 137, 122, 103, 102, 121, 120, 119, 101, 84, 83, 108, 59, 82, 107, 128, 127, 31, 58, 81, 106, 124, 80, 105, 57, 79, 56, 55, 29, 26, 25, 49, 19, 38, 65, 37, 64, 36, 63] tD
theorem kE {I : World → Prop} {ng : Nat} (hg : OnGlobals I ng) : Known Tryz.prog I ng tE := known_bodiesI hg (kD hg) _
theorem ptRe_0 : abody Tryz.prog (hd tE) (fun _ => none) 200 11 [.agg [.str (by1 [104, 116, 116, 112]), .str (by1 []), .bool false, .str (by1 [97]), .str (by1 []), .bool false, .bool true, .str (by1 [47, 98, 47, 99, 47, 100, 59, 112]), .str (by1 [113]), .bool true, .str (by1 []), .bool false], .agg [.str (by1 []), .str (by1 []), .bool false, .str (by1 []), .str (by1 []), .bool false, .bool false, .str (by1 [46, 46, 47, 103]), .str (by1 []), .bool false, .str (by1 []), .bool false]] = some (.tup [.agg [.str (by1 [104, 116, 116, 112]), .str (by1 []), .bool false, .str (by1 [97]), .str (by1 []), .bool false, .bool true, .str (by1 [47, 98, 47, 103]), .str (by1 []), .bool false, .str (by1 []), .bool false], .int .i64 0], []) := by kernel_rfl
def lRe : List (List CV × CV) := [([.agg [.str (by1 [104, 116, 116, 112]), .str (by1 []), .bool false, .str (by1 [97]), .str (by1 []), .bool false, .bool true, .str (by1 [47, 98, 47, 99, 47, 100, 59, 112]), .str (by1 [113]), .bool true, .str (by1 []), .bool false], .agg [.str (by1 []), .str (by1 []), .bool false, .str (by1 []), .str (by1 []), .bool false, .bool false, .str (by1 [46, 46, 47, 103]), .str (by1 []), .bool false, .str (by1 []), .bool false]], .tup [.agg [.str (by1 [104, 116, 116, 112]), .str (by1 []), .bool false, .str (by1 [97]), .str (by1 []), .bool false, .bool true, .str (by1 [47, 98, 47, 103]), .str (by1 []), .bool false, .str (by1 []), .bool false], .int .i64 0])]
theorem cRe {I : World → Prop} {ng : Nat} (hg : OnGlobals I ng) : Contract Tryz.prog I ng 11 (ptF lRe) := contract_pt hg (hd_ok hg (kE hg)) fun x rv h => by
 simp only [lRe, List.mem_cons, Prod.mk.injEq, List.not_mem_nil, or_false] at h
 obtain ⟨rfl, rfl⟩ := h
 exact ptRe_0
theorem ptNo_0 : abody Tryz.prog (hd tE) (fun _ => none) 200 12 [.agg [.str (by1 [72, 84, 84, 80]), .str (by1 []), .bool false, .str (by1 [69, 88, 46, 99, 111, 109]), .str (by1 [48, 56, 48]), .bool true, .bool true, .str (by1 [47, 37, 55, 101, 97, 47, 46, 47, 98, 37, 50, 102]), .str (by1 []), .bool false, .str (by1 []), .bool false]] = some (.tup [.agg [.str (by1 [104, 116, 116, 112]), .str (by1 []), .bool false, .str (by1 [101, 120, 46, 99, 111, 109]), .str (by1 []), .bool false, .bool true, .str (by1 [47, 126, 97, 47, 98, 37, 50, 70]), .str (by1 []), .bool false, .str (by1 []), .bool false], .int .i64 0], []) := by kernel_rfl
def lNo : List (List CV × CV) := [([.agg [.str (by1 [72, 84, 84, 80]), .str (by1 []), .bool false, .str (by1 [69, 88, 46, 99, 111, 109]), .str (by1 [48, 56, 48]), .bool true, .bool true, .str (by1 [47, 37, 55, 101, 97, 47, 46, 47, 98, 37, 50, 102]), .str (by1 []), .bool false, .str (by1 []), .bool false]], .tup [.agg [.str (by1 [104, 116, 116, 112]), .str (by1 []), .bool false, .str (by1 [101, 120, 46, 99, 111, 109]), .str (by1 []), .bool false, .bool true, .str (by1 [47, 126, 97, 47, 98, 37, 50, 70]), .str (by1 []), .bool false, .str (by1 []), .bool false], .int .i64 0])]
theorem cNo {I : World → Prop} {ng : Nat} (hg : OnGlobals I ng) : Contract Tryz.prog I ng 12 (ptF lNo) := contract_pt hg (hd_ok hg (kE hg)) fun x rv h => by
 simp only [lNo, List.mem_cons, Prod.mk.injEq, List.not_mem_nil, or_false] at h
 obtain ⟨rfl, rfl⟩ := h
 exact ptNo_0
noncomputable def tF : Table := bodiesI Tryz.prog 200 ilA [46, 67, 92, 91, 90, 111, 129, 93, 45, 43, 42, 41, 40, 61, 87, 44] tJ
theorem kF {I : World → Prop} {ng : Nat} (hg : OnGlobals I ng) : Known Tryz.prog I ng tF := known_bodiesI hg (kJ hg) _
theorem ptRp_0 : abody Tryz.prog (hd tF) (fun _ => none) 200 23 [.str (by1 [104, 116, 116, 112, 58, 47, 47, 97, 47, 98, 47, 99, 47, 100, 59, 112, 63, 113])] = some (.tup [.agg [.str (by1 [104, 116, 116, 112]), .str (by1 []), .bool false, .str (by1 [97]), .str (by1 []), .bool false, .bool true, .str (by1 [47, 98, 47, 99, 47, 100, 59, 112]), .str (by1 [113]), .bool true, .str (by1 []), .bool false], .bool true], []) := by kernel_rfl
theorem ptRp_1 : abody Tryz.prog (hd tF) (fun _ => none) 200 23 [.str (by1 [46, 46, 47, 103])] = some (.tup [.agg [.str (by1 []), .str (by1 []), .bool false, .str (by1 []), .str (by1 []), .bool false, .bool false, .str (by1 [46, 46, 47, 103]), .str (by1 []), .bool false, .str (by1 []), .bool false], .bool true], []) := by kernel_rfl
theorem ptRp_2 : abody Tryz.prog (hd tF) (fun _ => none) 200 23 [.str (by1 [72, 84, 84, 80, 58, 47, 47, 69, 88, 46, 99, 111, 109, 58, 48, 56, 48, 47, 37, 55, 101, 97, 47, 46, 47, 98, 37, 50, 102])] = some (.tup [.agg [.str (by1 [72, 84, 84, 80]), .str (by1 []), .bool false, .str (by1 [69, 88, 46, 99, 111, 109]), .str (by1 [48, 56, 48]), .bool true, .bool true, .str (by1 [47, 37, 55, 101, 97, 47, 46, 47, 98, 37, 50, 102]), .str (by1 []), .bool false, .str (by1 []), .bool false], .bool true], []) := by kernel_rfl
def lRp : List (List CV × CV) := [([.str (by1 [104, 116, 116, 112, 58, 47, 47, 97, 47, 98, 47, 99, 47, 100, 59, 112, 63, 113])], .tup [.agg [.str (by1 [104, 116, 116, 112]), .str (by1 []), .bool false, .str (by1 [97]), .str (by1 []), .bool false, .bool true, .str (by1 [47, 98, 47, 99, 47, 100, 59, 112]), .str (by1 [113]), .bool true, .str (by1 []), .bool false], .bool true]), ([.str (by1 [46, 46, 47, 103])], .tup [.agg [.str (by1 []), .str (by1 []), .bool false, .str (by1 []), .str (by1 []), .bool false, .bool false, .str (by1 [46, 46, 47, 103]), .str (by1 []), .bool false, .str (by1 []), .bool false], .bool true]), ([.str (by1 [72, 84, 84, 80, 58, 47, 47, 69, 88, 46, 99, 111, 109, 58, 48, 56, 48, 47, 37, 55, 101, 97, 47, 46, 47, 98, 37, 50, 102])], .tup [.agg [.str (by1 [72, 84, 84, 80]), .str (by1 []), .bool false, .str (by1 [69, 88, 46, 99, 111, 109]), .str (by1 [48, 56, 48]), .bool true, .bool true, .str (by1 [47, 37, 55, 101, 97, 47, 46, 47, 98, 37, 50, 102]), .str (by1 []), .bool false, .str (by1 []), .bool false], .bool true])]
theorem cRp {I : World → Prop} {ng : Nat} (hg : OnGlobals I ng) : Contract Tryz.prog I ng 23 (ptF lRp) := contract_pt hg (hd_ok hg (kF hg)) fun x rv h => by
 simp only [lRp, List.mem_cons, Prod.mk.injEq, List.not_mem_nil, or_false] at h
 rcases h with ⟨rfl, rfl⟩ | ⟨rfl, rfl⟩ | ⟨rfl, rfl⟩
 · exact ptRp_0
 · exact ptRp_1
 · exact ptRp_2
noncomputable def tG : Table := addF tJ 11 (ptF lRe)
theorem kG {I : World → Prop} {ng : Nat} (hg : OnGlobals I ng) : Known Tryz.prog I ng tG := known_add (kJ hg) (cRe hg)
noncomputable def tH : Table := addF tG 12 (ptF lNo)
theorem kH {I : World → Prop} {ng : Nat} (hg : OnGlobals I ng) : Known Tryz.prog I ng tH := known_add (kG hg) (cNo hg)
noncomputable def tK : Table := addF tH 23 (ptF lRp)
theorem kK {I : World → Prop} {ng : Nat} (hg : OnGlobals I ng) : Known Tryz.prog I ng tK := known_add (kH hg) (cRp hg)
noncomputable def tL : Table := bodiesI Tryz.prog 200 ilA [21, 20, 6, 19, 38, 65, 37, 64, 36, 63] tK
theorem kL {I : World → Prop} {ng : Nat} (hg : OnGlobals I ng) : Known Tryz.prog I ng tL := known_bodiesI hg (kK hg) _
theorem awake_val : abody Tryz.prog (hd tL) (fun _ => none) 200 7 [] = some (.bool true, []) := by kernel_rfl
def FAwake : Fn1 := fun x => match x with
 | [] => some [(true, .bool true, [])]
 | _ => none
theorem cAwake {I : World → Prop} {ng : Nat} (hg : OnGlobals I ng) : Contract Tryz.prog I ng 7 FAwake := contract_of _ hg (hd_ok hg (kL hg)) fun cargs rv outs h => by
 unfold FAwake at h
 split at h
 · cases h; exact ⟨200, awake_val⟩
 · cases h
end Go.Pv
namespace Go.Pv
set_option maxRecDepth 100000
open Go Go.Proofs
def dotS (s : ByteArray) : ByteArray := mkS (dotsL s.data.toList)
def Q19 : Fn1 := fun x => match x with
 | [.str s] => some [(decide (s.size ≤ 4000), .str (dotS s), [])]
 | _ => none
def Q7 : Fn1 := fun x => match x with
 | [] => some [(true, .bool true, [])]
 | _ => none
end Go.Pv
namespace Go.Pv
set_option maxRecDepth 100000
open Go Go.Proofs
theorem k22 : Kn V22 := known_add known_no (contract_of (fun _ => none) on0 (hok_of known_no) fun cargs rv outs h => by
 unfold P22 at h
 split at h
 · rename_i s p
   cases h
   refine ⟨1, ?_⟩
   have ht := tree22 s p
   show abody Tryz.prog (call' V0) (fun _ => none) 1 22 [.str s, .str p] = _
   rw [ht, ← mkS_bl s, ← mkS_bl p, pre_list]
   generalize s.data.toList = l
   generalize p.data.toList = q
   rw [bif_dec]
   by_cases hq : q.length ≤ l.length
   · rw [if_pos (by rw [mkS_size, mkS_size]; omega), bif_dec, if_pos (by rw [mkS_size, mkS_size]; omega)]
     rw [mkS_ext, mkS_toList, mkS_toList]
     congr 3
     rw [Bool.eq_iff_iff, beq_iff_eq, List.isPrefixOf_iff_prefix, List.prefix_iff_eq_take]
     simp [mkS_size]
     exact eq_comm
   · rw [if_neg (by rw [mkS_size, mkS_size]; omega)]
     congr 3
     refine (Bool.eq_false_iff.2 fun h => hq (pre_len h)).symm
 · cases h)
theorem m19 : Ct 19 Q19 := contract_of an19 on0 (hok_of e39) fun cargs rv outs h => by
 unfold Q19 at h
 split at h <;> first | (cases h; done) | skip
 rename_i s
 by_cases hs : s.size ≤ 4000
 · simp only [picked, pickAlt, decide_eq_true hs] at h
   cases h
   refine ⟨12000, ?_⟩
   have := val19 s.data.toList (by have : s.data.toList.length = s.size := Array.length_toList; omega)
   rw [mkS_bl] at this
   exact this
 · simp only [picked, pickAlt, decide_eq_false hs] at h; cases h
theorem m8 : Ct 8 Q19 := contract_of an8 on0 (hok_of k22) fun cargs rv outs h => by
 unfold Q19 at h
 split at h <;> first | (cases h; done) | skip
 rename_i s
 by_cases hs : s.size ≤ 4000
 · simp only [picked, pickAlt, decide_eq_true hs] at h
   cases h
   refine ⟨12000, ?_⟩
   have := val8 s.data.toList (by have : s.data.toList.length = s.size := Array.length_toList; omega)
   rw [mkS_bl, dotsL_ref] at this
   exact this
 · simp only [picked, pickAlt, decide_eq_false hs] at h; cases h
theorem m7 : Ct 7 Q7 := fun cargs rv outs h => cAwake on0 cargs rv outs h
end Go.Pv
namespace Go.Pv
set_option maxRecDepth 100000
open Go Go.Proofs
def no35 (l : List UInt8) : Prop := ∀ b ∈ l, b ≠ 35
theorem tw_35 {T : List UInt8} (h : no35 T) (F : List UInt8) : (T ++ 35 :: F).takeWhile (fun b => !decide (b = 35)) = T ∧ (T ++ 35 :: F).dropWhile (fun b => !decide (b = 35)) = 35 :: F := by
 induction T with
 | nil => simp
 | cons t T ih =>
   have ht : t ≠ 35 := h t (by simp)
   have := ih fun b hb => h b (by simp [hb])
   simp [List.takeWhile_cons, List.dropWhile_cons, ht, this]
theorem tw_n35 {T : List UInt8} (h : no35 T) : T.takeWhile (fun b => !decide (b = 35)) = T ∧ T.dropWhile (fun b => !decide (b = 35)) = [] := by
 induction T with
 | nil => simp
 | cons t T ih =>
   have ht : t ≠ 35 := h t (by simp)
   have := ih fun b hb => h b (by simp [hb])
   simp [List.takeWhile_cons, List.dropWhile_cons, ht, this]
theorem cutB35 {T : List UInt8} (h : no35 T) (F : List UInt8) : cutB (mkS (T ++ 35 :: F)) 35 = mkS T ∧ cutB (mkS T) 35 = mkS T := by
 unfold cutB
 rw [mkS_data, mkS_data, (tw_35 h F).1, (tw_n35 h).1]
 exact ⟨rfl, rfl⟩
theorem tFr35 {T : List UInt8} (h : no35 T) (F : List UInt8) : tFr (mkS (T ++ 35 :: F)) = mkS F ∧ tFr (mkS T) = nB := by
 unfold tFr cutA
 rw [mkS_data, mkS_data, (tw_35 h F).2, (tw_n35 h).2]
 exact ⟨rfl, rfl⟩
theorem tHF35 {T : List UInt8} (h : no35 T) (F : List UInt8) : tHF (mkS T) = false := by
 unfold tHF cutF
 rw [mkS_data, List.any_eq_false]
 intro b hb
 simpa using h b hb
theorem beqB (a b : ByteArray) : (a == b) = true ↔ a = b := by
 cases a with | mk a => cases b with | mk b =>
 show (a == b) = true ↔ _
 rw [beq_iff_eq]
 constructor
 · intro h; rw [h]
 · intro h; cases h; rfl
theorem eqU_iff {J sc us ho po pa qu fr : ByteArray} {hu hp ha hq hf : Bool} : eqU J sc us ho po pa qu fr hu hp ha hq hf = true ↔
   (w0 J = sc ∧ w1 J = us ∧ x2 J = hu ∧ w3 J = ho ∧ w4 J = po ∧ x5 J = hp ∧ x6 J = ha) ∧ w7 J = pa ∧ w8 J = qu ∧ x9 J = hq ∧ wT J = fr ∧ xE J = hf := by
 unfold eqU
 simp only [Bool.and_eq_true, beqB, beq_iff_eq, Bool.and_true]
 constructor
 · rintro ⟨a, b, c, d, e, f, g, h, i, j, k, l⟩; exact ⟨⟨a, b, c, d, e, f, g⟩, h, i, j, k, l⟩
 · rintro ⟨⟨a, b, c, d, e, f, g⟩, h, i, j, k, l⟩; exact ⟨a, b, c, d, e, f, g, h, i, j, k, l⟩
end Go.Pv
namespace Go.Pv
set_option maxRecDepth 100000
open Go Go.Proofs
def zV : CV := uV nB nB false nB nB false false nB nB false nB false
noncomputable def c11 : Code := codeOf Tryz.prog 11
end Go.Pv
namespace Go.Pv
set_option maxRecDepth 100000
open Go Go.Proofs
def noPart (us po qu fr : ByteArray) (hu hp hq hf : Bool) : Prop := (hu = false → us.size = 0) ∧ (hp = false → po.size = 0) ∧ (hq = false → qu.size = 0) ∧ (hf = false → fr.size = 0)
theorem dw_all {p : UInt8 → Bool} : ∀ {l : List UInt8}, (∀ b ∈ l, p b = true) → l.dropWhile p = []
 | [], _ => rfl
 | b :: l, h => by
   rw [List.dropWhile_cons, h b (by simp), if_pos rfl]
   exact dw_all fun x hx => h x (by simp [hx])
theorem cutA_no {t : ByteArray} {c : UInt8} (h : cutF t c = false) : (cutA t c).size = 0 := by
 unfold cutF at h
 rw [List.any_eq_false] at h
 unfold cutA
 have e : t.data.toList.dropWhile (fun b => !decide (b = c)) = [] := by
   refine dw_all fun b hb => ?_
   simpa using h b hb
 rw [e]
 rfl
theorem rd_no (J : ByteArray) : noPart (w1 J) (w4 J) (w8 J) (wT J) (x2 J) (x5 J) (x9 J) (xE J) := by
 refine ⟨fun h => ?_, fun h => ?_, fun h => cutA_no h, fun h => cutA_no h⟩
 · unfold x2 rHU at h
   unfold w1 rUsr
   split
   · rename_i hA
     rw [hA, Bool.true_and] at h
     unfold auUsr
     rw [h]
     rfl
   · rfl
 · unfold x5 rHP at h
   unfold w4 rPort
   split
   · rename_i hA
     rw [hA, Bool.true_and] at h
     unfold auPort
     rw [h]
     rfl
   · rfl
theorem may_no {sc us ho po pa qu fr : ByteArray} {hu hp ha hq hf : Bool} (h : mayU sc us ho po pa qu fr hu hp ha hq hf = true) : noPart us po qu fr hu hp hq hf := by
 unfold mayU at h
 revert h
 generalize joinU sc us ho po pa qu fr hu hp ha hq hf = J
 intro h
 simp only [Bool.and_eq_true, eqU_iff] at h
 obtain ⟨_, _, ⟨_, e1, e2, _, e4, e5, _⟩, _, e8, e9, eT, eE⟩ := h
 subst e1 e2 e4 e5 e8 e9 eT eE
 exact rd_no J
end Go.Pv
namespace Go.Pv
set_option maxRecDepth 100000
open Go Go.Proofs
theorem findL_app (p X Y : List UInt8) (hX : ∀ b ∈ X, p.contains b = false) (hY : Y = [] ∨ ∃ c t, Y = c :: t ∧ p.contains c = true) : findL p (X ++ Y) = X.length := by
 induction X with
 | nil =>
   rcases hY with rfl | ⟨c, t, rfl, hc⟩
   · rfl
   · show findL p (c :: t) = 0
     unfold findL
     rw [in_lit, hc, if_pos rfl]
 | cons b X ih =>
   show findL p (b :: (X ++ Y)) = X.length + 1
   unfold findL
   rw [in_lit, hX b (by simp), if_neg Bool.false_ne_true, ih fun x hx => hX x (by simp [hx])]
theorem findL_take (p : List UInt8) : ∀ l : List UInt8, ∀ b ∈ l.take (findL p l), p.contains b = false
 | [], b, hb => by simp at hb
 | c :: t, b, hb => by
   unfold findL at hb
   rw [in_lit] at hb
   cases h : p.contains c with
   | true => rw [h] at hb; simp at hb
   | false =>
     rw [h, if_neg Bool.false_ne_true, List.take_succ_cons] at hb
     rcases List.mem_cons.1 hb with rfl | hb
     · exact h
     · exact findL_take p t b hb
theorem findL_drop (p : List UInt8) : ∀ l : List UInt8, l.drop (findL p l) = [] ∨ ∃ c t, l.drop (findL p l) = c :: t ∧ p.contains c = true
 | [] => .inl rfl
 | c :: t => by
   unfold findL
   rw [in_lit]
   cases h : p.contains c with
   | true => exact .inr ⟨c, t, rfl, h⟩
   | false =>
     rw [if_neg Bool.false_ne_true, List.drop_succ_cons]
     exact findL_drop p t
theorem getD_mem {l : List UInt8} {i : Nat} (h : i < l.length) : l.getD i 0 ∈ l := by
 rw [List.getD_eq_getElem?_getD, List.getElem?_eq_getElem h]
 exact List.getElem_mem h
theorem lastL_no {c : UInt8} {l : List UInt8} (h : ∀ b ∈ l, b ≠ c) : ∀ k, k ≤ l.length → lastL k l c.toNat = -1
 | 0, _ => rfl
 | k + 1, hk => by
   unfold lastL
   rw [if_neg (fun e => h _ (getD_mem (show k < l.length by omega)) (u8_int.1 e))]
   exact lastL_no h k (by omega)
theorem lastL_neg {c : UInt8} {l : List UInt8} : ∀ k, k ≤ l.length → lastL k l c.toNat < 0 → ∀ i, i < k → l.getD i 0 ≠ c
 | 0, _, _, i, hi => by omega
 | k + 1, hk, h, i, hi => by
   unfold lastL at h
   split at h
   · omega
   · rename_i hne
     by_cases e : i = k
     · subst e
       intro e; exact hne (u8_int.2 e)
     · exact lastL_neg k (by omega) h i (by omega)
theorem lastL_lt' {c : UInt8} {l : List UInt8} (m : Nat) (h : ∀ i, m ≤ i → i < l.length → l.getD i 0 ≠ c) : ∀ k, k ≤ l.length → lastL k l c.toNat < (m : Int)
 | 0, _ => by show (-1 : Int) < _; omega
 | k + 1, hk => by
   unfold lastL
   split
   · rename_i he
     by_cases hm : k < m
     · omega
     · exact absurd (u8_int.1 he) (h k (by omega) (by omega))
   · exact lastL_lt' m h k (by omega)
theorem lastL_at {c : UInt8} {l : List UInt8} {m : Nat} (hm : m < l.length) (he : l.getD m 0 = c) (h : ∀ i, m < i → i < l.length → l.getD i 0 ≠ c) : ∀ k, m < k → k ≤ l.length → lastL k l c.toNat = (m : Int)
 | 0, hk, _ => by omega
 | k + 1, hk, hk2 => by
   unfold lastL
   by_cases e : m = k
   · subst e
     rw [if_pos (u8_int.2 he)]
   · rw [if_neg (fun e2 => h k (by omega) (by omega) (u8_int.1 e2))]
     exact lastL_at hm he h k (by omega) (by omega)
theorem lastL_is {c : UInt8} {l : List UInt8} : ∀ k, k ≤ l.length → 0 ≤ lastL k l c.toNat → ∃ i, i < k ∧ lastL k l c.toNat = (i : Int) ∧ l.getD i 0 = c
 | 0, _, h => absurd h (by show ¬ (0 : Int) ≤ -1; omega)
 | k + 1, hk, h => by
   unfold lastL at h ⊢
   by_cases e : ((l.getD k 0).toNat : Int) = (c.toNat : Int)
   · rw [if_pos e]
     exact ⟨k, by omega, rfl, u8_int.1 e⟩
   · rw [if_neg e] at h ⊢
     obtain ⟨i, h1, h2, h3⟩ := lastL_is k (by omega) h
     exact ⟨i, by omega, h2, h3⟩
theorem getD_mid (X : List UInt8) (c : UInt8) (Y : List UInt8) : (X ++ c :: Y).getD X.length 0 = c := by
 induction X with
 | nil => rfl
 | cons a X ih => simp
theorem getD_left {X Y : List UInt8} {i : Nat} (h : i < X.length) : (X ++ Y).getD i 0 = X.getD i 0 := by
 rw [List.getD_eq_getElem?_getD, List.getD_eq_getElem?_getD, List.getElem?_append_left h]
theorem getD_right {X Y : List UInt8} {i : Nat} (h : X.length ≤ i) : (X ++ Y).getD i 0 = Y.getD (i - X.length) 0 := by
 rw [List.getD_eq_getElem?_getD, List.getD_eq_getElem?_getD, List.getElem?_append_right h]
def poL (hp : Bool) (P : List UInt8) : List UInt8 := if hp = true then 58 :: P else []
def quX (hq : Bool) (Q : List UInt8) : List UInt8 := if hq = true then 63 :: Q else []
theorem lastI_mk (a : List UInt8) (c : UInt8) : lastI (mkS a) c.toNat = lastL a.length a c.toNat := by unfold lastI; rw [sizeM, dataM]
theorem lastI_64 (a : List UInt8) : lastI (mkS a) 64 = lastL a.length a (64 : UInt8).toNat := lastI_mk a 64
theorem lastI_58 (a : List UInt8) : lastI (mkS a) 58 = lastL a.length a (58 : UInt8).toNat := lastI_mk a 58
theorem lastI_93 (a : List UInt8) : lastI (mkS a) 93 = lastL a.length a (93 : UInt8).toNat := lastI_mk a 93
theorem host_two {H : List UInt8} (h : hostS (mkS H) = true) : (∃ X, H = 91 :: (X ++ [93]) ∧ ip6 (mkS X) = true) ∨ ((∀ b ∈ H, b ≠ 58 ∧ b ≠ 91 ∧ b ≠ 93 ∧ b ≠ 64)) := by
 unfold hostS at h
 split at h
 · rename_i hc
   left
   simp only [Bool.and_eq_true, decide_eq_true_eq, sizeM] at hc
   obtain ⟨h2, hp, hs⟩ := hc
   unfold preS at hp
   unfold sufS at hs
   rw [dataM] at hp hs
   obtain ⟨t, ht⟩ := List.isPrefixOf_iff_prefix.1 hp
   obtain ⟨u, hu⟩ := List.isSuffixOf_iff_suffix.1 hs
   have ht : 91 :: t = H := ht
   have hu : u ++ [93] = H := hu
   subst ht
   cases u with
   | nil =>
     simp only [List.length_cons] at h2
     have : t = [] := by
       have := congrArg List.length hu
       simp only [List.nil_append, List.length_cons, List.length_nil] at this
       exact List.eq_nil_of_length_eq_zero (by omega)
     subst this
     simp at h2
   | cons c u =>
     rw [List.cons_append] at hu
     injection hu with e1 e2
     subst e2
     refine ⟨u, rfl, ?_⟩
     rw [sizeM, mkS_ext] at h
     have : ((91 :: (u ++ [93])).drop 1).take ((91 :: (u ++ [93]) : List UInt8).length - 1 - 1) = u := by
       simp
     rw [this] at h
     exact h
 · right
   rw [Bool.not_eq_true', dataM, List.any_eq_false] at h
   intro b hb
   have := h b hb
   have e : (ByteArray.mk #[58, 91, 93, 64]) = mkS [58, 91, 93, 64] := rfl
   rw [e, in_lit] at this
   simp at this
   exact ⟨this.1, this.2.1, this.2.2.1, this.2.2.2⟩
theorem host_br {X : List UInt8} (h : ip6 (mkS X) = true) : hostS (mkS (91 :: (X ++ [93]))) = true := by
 unfold hostS
 have h1 : decide (2 ≤ (mkS (91 :: (X ++ [93]))).size) = true := by rw [sizeM]; simp
 have h2 : preS (mkS (91 :: (X ++ [93]))) (ByteArray.mk #[91]) = true := by unfold preS; rw [dataM]; exact List.isPrefixOf_iff_prefix.2 ⟨X ++ [93], rfl⟩
 have h3 : sufS (mkS (91 :: (X ++ [93]))) (ByteArray.mk #[93]) = true := by unfold sufS; rw [dataM]; exact List.isSuffixOf_iff_suffix.2 ⟨91 :: X, by simp⟩
 rw [h1, h2, h3, sizeM, mkS_ext]
 have : ((91 :: (X ++ [93])).drop 1).take ((91 :: (X ++ [93]) : List UInt8).length - 1 - 1) = X := by simp
 rw [this]
 exact h
theorem host_no {H : List UInt8} (h : ∀ b ∈ H, b ≠ 58 ∧ b ≠ 91 ∧ b ≠ 93 ∧ b ≠ 64) : hostS (mkS H) = true := by
 unfold hostS
 have e2 : (decide (2 ≤ (mkS H).size) && (preS (mkS H) (ByteArray.mk #[91]) && sufS (mkS H) (ByteArray.mk #[93]))) = false := by
   rw [Bool.eq_false_iff]
   intro hc
   simp only [Bool.and_eq_true] at hc
   have hp := hc.2.1
   unfold preS at hp
   rw [dataM] at hp
   obtain ⟨t, ht⟩ := List.isPrefixOf_iff_prefix.1 hp
   have ht : 91 :: t = H := ht
   exact (h 91 (by rw [← ht]; simp)).2.1 rfl
 rw [e2, if_neg Bool.false_ne_true, Bool.not_eq_true', dataM, List.any_eq_false]
 intro b hb
 have e : (ByteArray.mk #[58, 91, 93, 64]) = mkS [58, 91, 93, 64] := rfl
 rw [e, in_lit]
 have := h b hb
 simp [this.1, this.2.1, this.2.2.1, this.2.2.2]
theorem dig_all {P : List UInt8} (h : digS (mkS P) = true) : ∀ b ∈ P, 48 ≤ b.toNat ∧ b.toNat ≤ 57 := by
 unfold digS at h
 rw [dataM, List.all_eq_true] at h
 intro b hb
 have := h b hb
 simpa using this
theorem au_read {H P : List UInt8} {hp : Bool} (h1 : ∀ b ∈ H, b ≠ 64) (h2 : hostS (mkS H) = true) (h3 : digS (mkS P) = true) (h4 : hp = false → P = []) :
   auHU (mkS (H ++ poL hp P)) = false ∧ auUsr (mkS (H ++ poL hp P)) = nB ∧ auHP (mkS (H ++ poL hp P)) = hp ∧ auHost (mkS (H ++ poL hp P)) = mkS H ∧ auPort (mkS (H ++ poL hp P)) = mkS P := by
 have hd := dig_all h3
 have hne : ∀ (c : UInt8), (c.toNat < 48 ∨ 57 < c.toNat) → ∀ b ∈ P, b ≠ c := fun c hc b hb e => by
   have := hd b hb
   rw [e] at this
   omega
 have n64 : ∀ b ∈ H ++ poL hp P, b ≠ 64 := by
   intro b hb
   rcases List.mem_append.1 hb with hb | hb
   · exact h1 b hb
   · unfold poL at hb
     split at hb
     · rcases List.mem_cons.1 hb with rfl | hb
       · decide
       · exact hne 64 (.inr (by decide)) b hb
     · cases hb
 have eU : auHU (mkS (H ++ poL hp P)) = false := by
   unfold auHU
   rw [lastI_64, lastL_no n64 _ (Nat.le_refl _)]
   rfl
 have eR : auRest (mkS (H ++ poL hp P)) = mkS (H ++ poL hp P) := by unfold auRest; rw [eU]; rfl
 have eUs : auUsr (mkS (H ++ poL hp P)) = nB := by unfold auUsr; rw [eU]; rfl
 refine ⟨eU, eUs, ?_⟩
 cases hp with
 | true =>
   have e : H ++ poL true P = H ++ 58 :: P := rfl
   rw [e] at eR ⊢
   have l58 : lastI (mkS (H ++ 58 :: P)) 58 = (H.length : Int) := by
     rw [lastI_58]
     refine lastL_at (m := H.length) (by simp) (getD_mid _ _ _) (fun i hi hi2 => ?_) _ (by simp) (Nat.le_refl _)
     rw [getD_right (by omega)]
     obtain ⟨j, hj⟩ : ∃ j, i - H.length = j + 1 := ⟨i - H.length - 1, by omega⟩
     rw [hj]
     simp only [List.length_append, List.length_cons] at hi2
     exact hne 58 (.inr (by decide)) _ (getD_mem (l := P) (by omega))
   have l93 : lastI (mkS (H ++ 58 :: P)) 93 < (H.length : Int) := by
     rw [lastI_93]
     refine lastL_lt' H.length (fun i hi hi2 => ?_) _ (Nat.le_refl _)
     rw [getD_right hi]
     cases hj : i - H.length with
     | zero => show (58 : UInt8) ≠ 93; decide
     | succ j =>
       simp only [List.length_append, List.length_cons] at hi2
       exact hne 93 (.inr (by decide)) _ (getD_mem (l := P) (by omega))
   have eP : auHP (mkS (H ++ 58 :: P)) = true := by
     unfold auHP
     rw [eR, l58, decide_eq_true (show (0 : Int) ≤ (H.length : Int) by omega), decide_eq_true l93]
     rfl
   refine ⟨eP, ?_, ?_⟩
   · unfold auHost
     rw [eP, if_pos rfl, eR, l58, natM, mkS_ext, List.drop_zero, Nat.sub_zero, List.take_left]
   · unfold auPort
     rw [eP, if_pos rfl, eR, l58, natM, mkS_ext, sizeM]
     have : (H ++ 58 :: P).drop (H.length + 1) = P := by
       rw [List.drop_append, List.drop_of_length_le (by omega)]
       simp
     rw [this, List.take_of_length_le (by simp; omega)]
 | false =>
   have e : H ++ poL false P = H := List.append_nil _
   rw [e] at eR ⊢
   have eP : auHP (mkS H) = false := by
     unfold auHP
     rw [eR, lastI_58, lastI_93]
     rcases host_two h2 with ⟨X, rfl, _⟩ | hno
     · have l93 : lastL (91 :: (X ++ [93])).length (91 :: (X ++ [93])) (93 : UInt8).toNat = ((X.length + 1 : Nat) : Int) := by
         have := lastL_at (c := 93) (l := (91 :: X) ++ 93 :: []) (m := (91 :: X).length) (by simp) (getD_mid _ _ _) (fun i hi hi2 => by simp at hi hi2; omega) ((91 :: X) ++ [93] : List UInt8).length (by simp) (Nat.le_refl _)
         exact this
       have l58 := lastL_lt (91 :: (X ++ [93])) (58 : UInt8).toNat (91 :: (X ++ [93])).length
       have hl : (91 :: (X ++ [93])).length = X.length + 2 := by simp
       have : lastL (91 :: (X ++ [93])).length (91 :: (X ++ [93])) (58 : UInt8).toNat < ((X.length + 1 : Nat) : Int) := by
         refine lastL_lt' (X.length + 1) (fun i hi hi2 => ?_) _ (Nat.le_refl _)
         rw [hl] at hi2
         have : i = X.length + 1 := by omega
         subst this
         have := getD_mid (91 :: X) 93 []
         have : (91 :: (X ++ [93])).getD (X.length + 1) 0 = 93 := this
         rw [this]
         decide
       rw [l93, decide_eq_false (show ¬ ((X.length + 1 : Nat) : Int) < lastL (91 :: (X ++ [93])).length (91 :: (X ++ [93])) (58 : UInt8).toNat by omega), Bool.and_false]
     · rw [lastL_no (c := 58) (fun b hb => (hno b hb).1) _ (Nat.le_refl _)]
       rfl
   refine ⟨eP, ?_, ?_⟩
   · unfold auHost
     rw [eP, eR]; rfl
   · unfold auPort
     rw [eP, h4 rfl]; rfl
theorem au_back {a : List UInt8} (h : auHU (mkS a) = false) : a = (auHost (mkS a)).data.toList ++ poL (auHP (mkS a)) (auPort (mkS a)).data.toList ∧ (∀ b ∈ a, b ≠ 64) := by
 have eR : auRest (mkS a) = mkS a := by unfold auRest; rw [h]; rfl
 constructor
 · cases hp : auHP (mkS a) with
   | false =>
     unfold auHost
     rw [hp, if_neg Bool.false_ne_true, eR, dataM]
     exact (List.append_nil _).symm
   | true =>
     unfold auHost auPort
     rw [hp, if_pos rfl, if_pos rfl, eR]
     unfold auHP at hp
     rw [eR, lastI_58, Bool.and_eq_true, decide_eq_true_iff] at hp
     obtain ⟨i, h1, h2, h3⟩ := lastL_is (c := 58) a.length (Nat.le_refl _) hp.1
     rw [lastI_58, h2, natM, mkS_ext, mkS_ext, dataM, dataM, List.drop_zero, Nat.sub_zero, sizeM, List.take_of_length_le (show (a.drop (i + 1)).length ≤ _ by simp)]
     show a = a.take i ++ 58 :: a.drop (i + 1)
     have := drop_getD h1
     rw [h3] at this
     rw [← this, List.take_append_drop]
 · intro b hb e
   subst e
   unfold auHU at h
   rw [lastI_64, decide_eq_false_iff_not] at h
   obtain ⟨i, hi, he⟩ := List.getElem_of_mem hb
   refine lastL_neg (c := 64) a.length (Nat.le_refl _) (by omega) i hi ?_
   rw [List.getD_eq_getElem?_getD, List.getElem?_eq_getElem hi]
   exact he
end Go.Pv
namespace Go.Pv
set_option maxRecDepth 100000
open Go Go.Proofs
structure GoodU (S H P A Q : List UInt8) (hp hq : Bool) : Prop where
 s0 : S ≠ []
 s1 : ∀ b ∈ S, ([58, 47, 63, 35] : List UInt8).contains b = false
 s2 : inS letC (S.getD 0 0).toNat = true
 s3 : S.all (fun c => inS schC c.toNat) = true
 h1 : ∀ b ∈ H, ([47, 63, 35] : List UInt8).contains b = false
 h2 : ∀ b ∈ H, b ≠ 64
 h3 : hostS (mkS H) = true
 h4 : Sg qS pS H
 p1 : digS (mkS P) = true
 p2 : hp = false → P = []
 a1 : A = [] ∨ ∃ t, A = 47 :: t
 a2 : ∀ b ∈ A, b ≠ 63 ∧ b ≠ 35 ∧ b ≠ 91 ∧ b ≠ 93
 a3 : Sg qS pS A
 q1 : ∀ b ∈ Q, b ≠ 35 ∧ b ≠ 91 ∧ b ≠ 93
 q2 : hq = false → Q = []
 q3 : Sg qS pS Q
def txt (S H P A Q : List UInt8) (hp hq : Bool) : List UInt8 := S ++ 58 :: 47 :: 47 :: ((H ++ poL hp P) ++ (A ++ quX hq Q))
theorem join_txt {S H P A Q : List UInt8} {hp hq : Bool} (hS : S ≠ []) : joinU (mkS S) nB (mkS H) (mkS P) (mkS A) (mkS Q) nB false hp true hq false = mkS (txt S H P A Q hp hq) := by
 have e1 : jSc (mkS S) = mkS (S ++ [58]) := by
   unfold jSc
   rw [if_neg (by rw [sizeM]; intro h; exact hS (List.eq_nil_of_length_eq_zero h))]
   exact mkS_app S [58]
 have e2 : jPo hp (mkS P) = mkS (poL hp P) := by
   unfold jPo poL
   cases hp
   · rfl
   · exact mkS_app [58] P
 have e3 : jQu hq (mkS Q) = mkS (quX hq Q) := by
   unfold jQu quX
   cases hq
   · rfl
   · exact mkS_app [63] Q
 unfold joinU
 rw [e1, e2, e3, show jAu true = mkS [47, 47] from rfl, show jUs false nB = mkS [] from rfl, show jFr false nB = mkS [] from rfl]
 simp only [mkS_app]
 unfold txt
 congr 1
 simp
theorem sch_ok : ∀ n : Nat, n < 256 → inS schC (n : Int) = true → okU (UInt8.ofNat n) = true ∧ UInt8.ofNat n ≠ 37 := by decide +kernel
theorem dig_ok : ∀ n : Nat, n < 256 → 48 ≤ n ∧ n ≤ 57 → okU (UInt8.ofNat n) = true ∧ UInt8.ofNat n ≠ 37 := by decide +kernel
theorem sg_plain : ∀ {X : List UInt8}, (∀ b ∈ X, okU b = true ∧ b ≠ 37) → Sg qS pS X
 | [], _ => .nil
 | b :: X, h => .ch b X (h b (by simp)).1 (h b (by simp)).2 (sg_plain fun x hx => h x (by simp [hx]))
theorem sg_sch {S : List UInt8} (h : S.all (fun c => inS schC c.toNat) = true) : Sg qS pS S := sg_plain fun b hb => by
 have := sch_ok b.toNat b.toNat_lt (List.all_eq_true.1 h b hb)
 rw [u8n] at this
 exact this
theorem sg_dig {P : List UInt8} (h : digS (mkS P) = true) : Sg qS pS P := sg_plain fun b hb => by
 have := dig_ok b.toNat b.toNat_lt (dig_all h b hb)
 rw [u8n] at this
 exact this
theorem nohex (k : UInt8) (hk : hexd k = false) : ∀ a b, pS a b → a ≠ k ∧ b ≠ k := fun a b h => ⟨fun e => (by have := h.2.2.1; rw [e, hk] at this; cases this), fun e => (by have := h.2.2.2; rw [e, hk] at this; cases this)⟩
theorem hx58 : hexd 58 = false := by decide +kernel
theorem hx47 : hexd 47 = false := by decide +kernel
theorem hx63 : hexd 63 = false := by decide +kernel
variable {S H P A Q : List UInt8} {hp hq : Bool}
namespace GoodU
set_option maxRecDepth 100000
theorem po1 (g : GoodU S H P A Q hp hq) : ∀ b ∈ H ++ poL hp P, ([47, 63, 35] : List UInt8).contains b = false := by
 intro b hb
 rcases List.mem_append.1 hb with hb | hb
 · exact g.h1 b hb
 · unfold poL at hb
   split at hb
   · rcases List.mem_cons.1 hb with rfl | hb
     · decide
     · have := dig_all g.p1 b hb
       have n1 : ∀ c : UInt8, c.toNat < 48 ∨ 57 < c.toNat → b ≠ c := fun c hc e => by rw [e] at this; omega
       have a1 := n1 47 (.inl (by decide))
       have a2 := n1 63 (.inr (by decide))
       have a3 := n1 35 (.inl (by decide))
       simp [a1, a2, a3]
   · cases hb
theorem aq (g : GoodU S H P A Q hp hq) : A ++ quX hq Q = [] ∨ ∃ c t, A ++ quX hq Q = c :: t ∧ ([47, 63, 35] : List UInt8).contains c = true := by
 rcases g.a1 with rfl | ⟨t, rfl⟩
 · cases hq
   · exact .inl rfl
   · exact .inr ⟨63, Q, rfl, rfl⟩
 · exact .inr ⟨47, t ++ quX hq Q, rfl, rfl⟩
theorem f4 (g : GoodU S H P A Q hp hq) : findL [58, 47, 63, 35] (txt S H P A Q hp hq) = S.length := findL_app _ _ _ g.s1 (.inr ⟨58, _, rfl, rfl⟩)
theorem hc (g : GoodU S H P A Q hp hq) : hcL (txt S H P A Q hp hq) = true := by
 unfold hcL
 rw [g.f4]
 unfold txt
 rw [List.drop_left]
 rfl
theorem at' (g : GoodU S H P A Q hp hq) : (txt S H P A Q hp hq).drop (atL (txt S H P A Q hp hq)) = 47 :: 47 :: ((H ++ poL hp P) ++ (A ++ quX hq Q)) := by
 unfold atL
 rw [g.hc, if_pos rfl, g.f4, ← List.drop_drop]
 unfold txt
 rw [List.drop_left]
 rfl
theorem sh (g : GoodU S H P A Q hp hq) : shL (txt S H P A Q hp hq) = mkS S := by
 unfold shL
 rw [g.hc, if_pos rfl, g.f4]
 unfold txt
 rw [List.take_left]
theorem sc (g : GoodU S H P A Q hp hq) : scL (txt S H P A Q hp hq) = true := by
 unfold scL
 rw [g.hc, g.f4]
 have e : (txt S H P A Q hp hq).take S.length = S := by unfold txt; rw [List.take_left]
 have hl : 0 < S.length := List.length_pos_iff.2 g.s0
 have e2 : (txt S H P A Q hp hq).getD 0 0 = S.getD 0 0 := getD_left hl
 rw [e, e2, g.s2, g.s3, decide_eq_false (by omega)]
 rfl
theorem f3 (g : GoodU S H P A Q hp hq) : findL [47, 63, 35] ((H ++ poL hp P) ++ (A ++ quX hq Q)) = (H ++ poL hp P).length := findL_app _ _ _ g.po1 g.aq
theorem au (g : GoodU S H P A Q hp hq) : auL (47 :: 47 :: ((H ++ poL hp P) ++ (A ++ quX hq Q))) = H ++ poL hp P := by
 unfold auL
 rw [show (47 :: 47 :: ((H ++ poL hp P) ++ (A ++ quX hq Q))).drop 2 = (H ++ poL hp P) ++ (A ++ quX hq Q) from rfl, g.f3, List.take_left]
theorem rs (g : GoodU S H P A Q hp hq) : rsL (47 :: 47 :: ((H ++ poL hp P) ++ (A ++ quX hq Q))) = A ++ quX hq Q := by
 unfold rsL
 have : haL (47 :: 47 :: ((H ++ poL hp P) ++ (A ++ quX hq Q))) = true := rfl
 rw [this, if_pos rfl, show (47 :: 47 :: ((H ++ poL hp P) ++ (A ++ quX hq Q))).drop 2 = (H ++ poL hp P) ++ (A ++ quX hq Q) from rfl, g.f3, List.drop_left]
theorem n35 (g : GoodU S H P A Q hp hq) : no35 (A ++ quX hq Q) := by
 intro b hb
 rcases List.mem_append.1 hb with hb | hb
 · exact (g.a2 b hb).2.1
 · unfold quX at hb
   split at hb
   · rcases List.mem_cons.1 hb with rfl | hb
     · decide
     · exact (g.q1 b hb).1
   · cases hb
theorem cut63 (g : GoodU S H P A Q hp hq) : (A ++ quX hq Q).takeWhile (fun b => !decide (b = 63)) = A ∧ (A ++ quX hq Q).dropWhile (fun b => !decide (b = 63)) = quX hq Q := by
 have hA := fun b hb => (g.a2 b hb).1
 clear g
 induction A with
 | nil => cases hq <;> exact ⟨rfl, rfl⟩
 | cons a A ih =>
   have := ih fun b hb => hA b (by simp [hb])
   have ha : (!decide (a = 63)) = true := by rw [decide_eq_false (hA a (by simp))]; rfl
   rw [List.cons_append, List.takeWhile_cons, List.dropWhile_cons, ha, if_pos rfl, if_pos rfl, this.1, this.2]
   exact ⟨rfl, rfl⟩
theorem any63 (g : GoodU S H P A Q hp hq) : (A ++ quX hq Q).any (fun b => decide (b = 63)) = hq := by
 rw [any_drop, g.cut63.2]
 cases hq <;> rfl
theorem st (g : GoodU S H P A Q hp hq) : stL (txt S H P A Q hp hq) = true := by
 rw [st_iff]
 unfold txt
 have e1 : Sg qS pS (poL hp P) := by
   unfold poL
   split
   · exact .ch 58 _ (by decide) (by decide) (sg_dig g.p1)
   · exact .nil
 have e2 : Sg qS pS (quX hq Q) := by
   unfold quX
   split
   · exact .ch 63 _ (by decide) (by decide) g.q3
   · exact .nil
 exact (sg_sch g.s3).app (.ch 58 _ (by decide) (by decide) (.ch 47 _ (by decide) (by decide) (.ch 47 _ (by decide) (by decide) ((g.h4.app e1).app (g.a3.app e2)))))
theorem may (g : GoodU S H P A Q hp hq) (hz : (txt S H P A Q hp hq).length ≤ 2048) : mayU (mkS S) nB (mkS H) (mkS P) (mkS A) (mkS Q) nB false hp true hq false = true := by
 unfold mayU
 rw [join_txt g.s0, sizeM, decide_eq_false (by omega), Bool.not_false, Bool.true_and, Bool.and_eq_true, eqU_iff]
 obtain ⟨u1, u2, u3, u4, u5⟩ := au_read g.h2 g.h3 g.p1 g.p2
 have ha : haL (47 :: 47 :: ((H ++ poL hp P) ++ (A ++ quX hq Q))) = true := rfl
 have c35 := cutB35 g.n35 []
 have c63 := g.cut63
 have eB : cutB (mkS (A ++ quX hq Q)) 63 = mkS A := by unfold cutB; rw [dataM, c63.1]
 have eA : cutA (mkS (A ++ quX hq Q)) 63 = mkS Q := by
   unfold cutA
   rw [dataM, c63.2]
   cases hq
   · rw [g.q2 rfl]; rfl
   · rfl
 have eF : cutF (mkS (A ++ quX hq Q)) 63 = hq := by unfold cutF; rw [dataM, g.any63]
 have tF : tFr (mkS (A ++ quX hq Q)) = nB := (tFr35 g.n35 []).2
 have tP : tPa (mkS (A ++ quX hq Q)) = mkS A := by unfold tPa; rw [c35.2, eB]
 have tQ : tQu (mkS (A ++ quX hq Q)) = mkS Q := by unfold tQu; rw [c35.2, eA]
 have tH : tHQ (mkS (A ++ quX hq Q)) = hq := by unfold tHQ; rw [c35.2, eF]
 have tG := tHF35 g.n35 []
 constructor
 · unfold uOk
   rw [uSOk_mk, g.sc, show stS (mkS (txt S H P A Q hp hq)) = stL (txt S H P A Q hp hq) from by unfold stS; rw [dataM], g.st, uRst_mk, g.at']
   unfold rOkU
   rw [rHA_mk, ha, rAu_mk, g.au, rAf_mk, g.rs]
   unfold auOk
   rw [u2, u4, u5, g.h3, g.p1]
   unfold tOk
   rw [tF, tP, tQ, brS_app, brS_app]
   have b1 : brS (mkS A) = false := by
     unfold brS
     rw [dataM, List.any_eq_false]
     intro b hb
     have := g.a2 b hb
     simp [this.2.2.1, this.2.2.2]
   have b2 : brS (mkS Q) = false := by
     unfold brS
     rw [dataM, List.any_eq_false]
     intro b hb
     have := g.q1 b hb
     simp [this.2.1, this.2.2]
   rw [b1, b2]
   rfl
 · unfold w0 w1 x2 w3 w4 x5 x6 w7 w8 x9 wT xE
   rw [uSch_mk, g.sh, uRst_mk, g.at', rAf_mk, g.rs, tP, tQ, tH, tF, tG]
   unfold rUsr rHU rHost rPort rHP
   rw [rHA_mk, ha, rAu_mk, g.au, u1, u2, u3, u4, u5]
   exact ⟨⟨rfl, rfl, rfl, rfl, rfl, rfl, rfl⟩, rfl, rfl, rfl, rfl, rfl⟩
end GoodU
theorem good_of {S H P A Q us fr : List UInt8} {hp ha hq : Bool} (h : mayU (mkS S) (mkS us) (mkS H) (mkS P) (mkS A) (mkS Q) (mkS fr) false hp ha hq false = true) (hS : S ≠ []) (hH : H ≠ []) :
   ha = true ∧ us = [] ∧ fr = [] ∧ GoodU S H P A Q hp hq := by
 have hno := may_no h
 have hus : us = [] := List.eq_nil_of_length_eq_zero (by have := hno.1 rfl; rw [sizeM] at this; exact this)
 have hfr : fr = [] := List.eq_nil_of_length_eq_zero (by have := hno.2.2.2 rfl; rw [sizeM] at this; exact this)
 subst hus hfr
 have hP0 : hp = false → P = [] := fun e => List.eq_nil_of_length_eq_zero (by have := hno.2.1 e; rw [sizeM] at this; exact this)
 have hQ0 : hq = false → Q = [] := fun e => List.eq_nil_of_length_eq_zero (by have := hno.2.2.1 e; rw [sizeM] at this; exact this)
 have h0 := h
 unfold mayU at h
 rw [Bool.and_eq_true, Bool.and_eq_true, eqU_iff] at h
 obtain ⟨_, hok, ⟨e0, e1, e2, e3, e4, e5, e6⟩, e7, e8, e9, eT, eE⟩ := h
 have hJ0 : ∃ J, joinU (mkS S) (mkS []) (mkS H) (mkS P) (mkS A) (mkS Q) (mkS []) false hp ha hq false = mkS J := ⟨_, (mkS_bl _).symm⟩
 obtain ⟨J, hJ⟩ := hJ0
 rw [hJ] at hok e0 e1 e2 e3 e4 e5 e6 e7 e8 e9 eT eE
 unfold w0 at e0
 unfold w3 rHost at e3
 unfold x6 at e6
 rw [uRst_mk, rHA_mk] at e3 e6
 rw [uSch_mk] at e0
 have hha : haL (J.drop (atL J)) = true := by
   cases hc : haL (J.drop (atL J)) with
   | true => rfl
   | false =>
     rw [hc, if_neg Bool.false_ne_true] at e3
     exact absurd (mkS_inj (e3 : mkS [] = mkS H)).symm hH
 have : ha = true := e6.symm.trans hha
 subst this
 refine ⟨rfl, rfl, rfl, ?_⟩
 have hJt : J = txt S H P A Q hp hq := mkS_inj (hJ.symm.trans (join_txt hS))
 have hhc : hcL J = true := by
   cases hc : hcL J with
   | true => rfl
   | false =>
     unfold shL at e0
     rw [hc, if_neg Bool.false_ne_true] at e0
     exact absurd (mkS_inj (e0 : mkS [] = mkS S)).symm hS
 have eS : J.take (findL [58, 47, 63, 35] J) = S := by
   unfold shL at e0
   rw [hhc, if_pos rfl] at e0
   exact mkS_inj e0
 have s1 : ∀ b ∈ S, ([58, 47, 63, 35] : List UInt8).contains b = false := by rw [← eS]; exact findL_take _ J
 have hf : findL [58, 47, 63, 35] J = S.length := by
   rw [hJt]
   exact findL_app _ _ _ s1 (.inr ⟨58, _, rfl, rfl⟩)
 have hat : J.drop (atL J) = 47 :: 47 :: ((H ++ poL hp P) ++ (A ++ quX hq Q)) := by
   unfold atL
   rw [hhc, if_pos rfl, hf, ← List.drop_drop, hJt]
   unfold txt
   rw [List.drop_left]
   rfl
 unfold uOk at hok
 rw [uSOk_mk, uRst_mk, hat, rAf_mk] at hok
 simp only [Bool.and_eq_true] at hok
 obtain ⟨o1, o2, o3, o4⟩ := hok
 unfold rOkU at o3
 have haT : haL (47 :: 47 :: ((H ++ poL hp P) ++ (A ++ quX hq Q))) = true := rfl
 rw [rHA_mk, rAu_mk, haT, Bool.not_true, Bool.false_or] at o3
 unfold w1 rUsr at e1
 unfold x2 rHU at e2
 unfold w4 rPort at e4
 unfold x5 rHP at e5
 unfold w7 at e7
 unfold w8 at e8
 unfold x9 at e9
 unfold xE at eE
 rw [uRst_mk, hat] at e1 e2 e4 e5 e7 e8 e9 eE
 rw [hat] at e3
 rw [rHA_mk, rAu_mk, haT, Bool.true_and] at e2 e5
 rw [rHA_mk, rAu_mk, haT, if_pos rfl] at e4
 rw [rAu_mk, haT, if_pos rfl] at e3
 rw [rAf_mk] at e7 e8 e9 eE
 obtain ⟨b1, b2⟩ := au_back e2
 rw [e3, e4, e5, dataM, dataM] at b1
 have hsplit : auL (47 :: 47 :: ((H ++ poL hp P) ++ (A ++ quX hq Q))) ++ rsL (47 :: 47 :: ((H ++ poL hp P) ++ (A ++ quX hq Q))) = (H ++ poL hp P) ++ (A ++ quX hq Q) := by
   unfold auL rsL
   rw [haT, if_pos rfl]
   exact List.take_append_drop _ _
 have hrs : rsL (47 :: 47 :: ((H ++ poL hp P) ++ (A ++ quX hq Q))) = A ++ quX hq Q := by
   rw [b1] at hsplit
   exact List.append_cancel_left hsplit
 have hau : ∀ b ∈ H ++ poL hp P, ([47, 63, 35] : List UInt8).contains b = false := by
   rw [← b1]
   exact findL_take _ _
 have hrd : A ++ quX hq Q = [] ∨ ∃ c t, A ++ quX hq Q = c :: t ∧ ([47, 63, 35] : List UInt8).contains c = true := by
   rw [← hrs]
   unfold rsL
   rw [haT, if_pos rfl]
   exact findL_drop _ _
 rw [hrs] at e7 e8 e9 eE o4
 rw [b1] at b2
 have n35 : no35 (A ++ quX hq Q) := by
   intro b hb e
   unfold tHF cutF at eE
   rw [dataM, List.any_eq_false] at eE
   exact eE b hb (by rw [decide_eq_true e])
 have c35 := cutB35 n35 []
 unfold tPa at e7
 unfold tQu at e8
 rw [c35.2] at e7 e8
 have n63 : ∀ b ∈ A, b ≠ 63 := by
   unfold cutB at e7
   rw [dataM] at e7
   have e7 := mkS_inj e7
   intro b hb e
   rw [← e7] at hb
   have := List.all_eq_true.1 (List.all_takeWhile (l := A ++ quX hq Q) (p := fun b => !decide (b = 63))) b hb
   rw [decide_eq_true e] at this
   cases this
 unfold auOk at o3
 rw [e3, e4, Bool.and_eq_true, Bool.and_eq_true] at o3
 unfold tOk at o4
 have eP : tPa (mkS (A ++ quX hq Q)) = mkS A := by unfold tPa; rw [c35.2]; exact e7
 have eQ : tQu (mkS (A ++ quX hq Q)) = mkS Q := by unfold tQu; rw [c35.2]; exact e8
 rw [eP, eQ, brS_app, brS_app, Bool.and_eq_true, Bool.not_eq_true', Bool.not_eq_true', Bool.or_eq_false_iff, Bool.or_eq_false_iff] at o4
 have bA : ∀ b ∈ A, b ≠ 91 ∧ b ≠ 93 := by
   have := o4.2.1.1
   unfold brS at this
   rw [dataM, List.any_eq_false] at this
   intro b hb
   have := this b hb
   simpa using this
 have bQ : ∀ b ∈ Q, b ≠ 91 ∧ b ≠ 93 := by
   have := o4.2.1.2
   unfold brS at this
   rw [dataM, List.any_eq_false] at this
   intro b hb
   have := this b hb
   simpa using this
 have o2 : stL J = true := by unfold stS at o2; rw [dataM] at o2; exact o2
 rw [st_iff, hJt] at o2
 unfold txt at o2
 obtain ⟨_, g1⟩ := o2.cut 58 (nohex 58 hx58) (by decide) S rfl (.inr ⟨_, rfl⟩)
 have g2 := ((g1.tl (by decide)).tl (by decide)).tl (by decide)
 have hY : (A ++ quX hq Q = [] ∨ ∃ t, A ++ quX hq Q = 47 :: t) ∨ (A ++ quX hq Q = [] ∨ ∃ t, A ++ quX hq Q = 63 :: t) := by
   rcases hrd with h | ⟨c, t, h, hc⟩
   · exact .inl (.inl h)
   · have hc35 := n35 c (by rw [h]; simp)
     simp at hc
     rcases hc with rfl | rfl | rfl
     · exact .inl (.inr ⟨t, h⟩)
     · exact .inr (.inr ⟨t, h⟩)
     · exact absurd rfl hc35
 have g3 : Sg qS pS (H ++ poL hp P) ∧ Sg qS pS (A ++ quX hq Q) := by
   rcases hY with hY | hY
   · exact g2.cut 47 (nohex 47 hx47) (by decide) _ rfl hY
   · exact g2.cut 63 (nohex 63 hx63) (by decide) _ rfl hY
 have g4 : Sg qS pS H := (g3.1.cut 58 (nohex 58 hx58) (by decide) H rfl (by unfold poL; cases hp; exact .inl rfl; exact .inr ⟨P, rfl⟩)).1
 have g5 := g3.2.cut 63 (nohex 63 hx63) (by decide) A rfl (by unfold quX; cases hq; exact .inl rfl; exact .inr ⟨Q, rfl⟩)
 unfold scL at o1
 rw [hhc, hf, Bool.not_true, Bool.false_or, Bool.and_eq_true, Bool.and_eq_true] at o1
 have hl : 0 < S.length := List.length_pos_iff.2 hS
 exact {
   s0 := hS
   s1 := s1
   s2 := by
     have := o1.2.1
     rw [hJt] at this
     have e : (txt S H P A Q hp hq).getD 0 0 = S.getD 0 0 := getD_left hl
     rw [e] at this
     exact this
   s3 := by
     have := o1.2.2
     rw [← hf, eS] at this
     exact this
   h1 := fun b hb => hau b (List.mem_append_left _ hb)
   h2 := fun b hb => b2 b (List.mem_append_left _ hb)
   h3 := o3.1
   h4 := g4
   p1 := o3.2.1
   p2 := hP0
   a1 := by
     rcases A with _ | ⟨a, A⟩
     · exact .inl rfl
     · rcases hrd with h | ⟨c, t, h, hc⟩
       · cases h
       · rw [List.cons_append] at h
         injection h with x1 x2
         subst x1
         have h35 := n35 a (by simp)
         have h63 := n63 a (by simp)
         simp at hc
         rcases hc with rfl | rfl | rfl
         · exact .inr ⟨A, rfl⟩
         · exact absurd rfl h63
         · exact absurd rfl h35
   a2 := fun b hb => ⟨n63 b hb, n35 b (List.mem_append_left _ hb), (bA b hb).1, (bA b hb).2⟩
   a3 := g5.1
   q1 := fun b hb => ⟨n35 b (List.mem_append_right _ (by
     unfold quX
     cases hq
     · rw [hQ0 rfl] at hb; cases hb
     · exact List.mem_cons_of_mem _ hb)), (bQ b hb).1, (bQ b hb).2⟩
   q2 := hQ0
   q3 := by
     cases hq
     · rw [hQ0 rfl]; exact .nil
     · exact (g5.2 : Sg qS pS (63 :: Q)).tl (by decide) }
end Go.Pv
namespace Go.Pv
set_option maxRecDepth 100000
open Go Go.Proofs
theorem all_u8 {p : UInt8 → Prop} (h : ∀ n : Nat, n < 256 → p (UInt8.ofNat n)) (b : UInt8) : p b := by
 have := h b.toNat b.toNat_lt
 rw [u8n] at this
 exact this
theorem low_low : ∀ b : UInt8, lowB (lowB b) = lowB b := all_u8 (by decide +kernel)
theorem low_hexv : ∀ b : UInt8, hexv (lowB b) = hexv b := all_u8 (by decide +kernel)
theorem low_46 : ∀ b : UInt8, lowB b = 46 ↔ b = 46 := all_u8 (by decide +kernel)
theorem low_58 : ∀ b : UInt8, lowB b = 58 ↔ b = 58 := all_u8 (by decide +kernel)
theorem low_48 : ∀ b : UInt8, (lowB b == 48) = (b == 48) := all_u8 (by decide +kernel)
theorem hexv37 : hexv 37 = 99 := by decide +kernel
theorem split_low {c : UInt8} (hc : ∀ b : UInt8, lowB b = c ↔ b = c) : ∀ l : List UInt8, splitL c (lowL l) = (splitL c l).map lowL
 | [] => rfl
 | b :: t => by
   have ih := split_low hc t
   show splitL c (lowB b :: lowL t) = _
   unfold splitL
   by_cases h : b = c
   · rw [if_pos ((hc b).2 h), if_pos h, ih]; rfl
   · rw [if_neg (fun e => h ((hc b).1 e)), if_neg h, ih]
     cases splitL c t with
     | nil => rfl
     | cons p ps => rfl
theorem numOk_low (b : Nat) (l : List UInt8) : numOk b (lowL l) = numOk b l := by
 unfold numOk
 have e1 : (lowL l).isEmpty = l.isEmpty := by cases l <;> rfl
 have e2 : (lowL l).all (fun c => decide (hexv c < b)) = l.all (fun c => decide (hexv c < b)) := by
   unfold lowL
   rw [List.all_map]
   congr 1
   funext c
   show decide (hexv (lowB c) < b) = _
   rw [low_hexv]
 rw [e1, e2]
theorem numL_low (b : Nat) (l : List UInt8) : numL b (lowL l) = numL b l := by
 unfold numL lowL
 rw [List.foldl_map]
 congr 1
 funext n c
 rw [low_hexv]
theorem low_len' (l : List UInt8) : (lowL l).length = l.length := List.length_map ..
theorem octOk_low (p : List UInt8) : octOk (lowL p) = octOk p := by
 unfold octOk
 have e : ((lowL p).getD 0 0 == 48) = (p.getD 0 0 == 48) := by
   cases p with
   | nil => rfl
   | cons a p => exact low_48 a
 rw [numOk_low, numL_low, low_len', e]
theorem goF_low : ∀ ps : List (List UInt8), goF (ps.map lowL) = goF ps
 | [] => rfl
 | p :: ps => by
   rw [List.map_cons]
   unfold goF
   rw [octOk_low, numL_low, goF_low ps]
theorem fourP_low (ps : List (List UInt8)) : fourP (ps.map lowL) = fourP ps := by
 unfold fourP
 rw [List.length_map, goF_low]
theorem four_low (p : List UInt8) : fourP (splitL 46 (lowL p)) = fourP (splitL 46 p) := by rw [split_low low_46, fourP_low]
theorem f4_low (l : List UInt8) : f4 (mkS (lowL l)) = f4 (mkS l) := by
 unfold f4
 rw [dataM, dataM, four_low]
theorem grL_low (t : Bool) : ∀ ps : List (List UInt8), grL t (ps.map lowL) = grL t ps
 | [] => rfl
 | p :: ps => by
   rw [List.map_cons]
   unfold grL
   have e : (ps.map lowL).isEmpty = ps.isEmpty := by cases ps <;> rfl
   have e2 : grpOk (lowL p) = grpOk p := by unfold grpOk; rw [numOk_low, numL_low, low_len']
   rw [e, e2, four_low, numL_low, grL_low t ps]
theorem grpL_low (t : Bool) (l : List UInt8) : grpL t (lowL l) = grpL t l := by
 unfold grpL
 have e : (lowL l).isEmpty = l.isEmpty := by cases l <;> rfl
 rw [e, split_low low_58, grL_low]
theorem cutDD_low : ∀ l : List UInt8, cutDD (lowL l) = (cutDD l).map fun x => (lowL x.1, lowL x.2)
 | [] => rfl
 | a :: t => by
   have ih := cutDD_low t
   show cutDD (lowB a :: lowL t) = _
   unfold cutDD
   have e : (lowB a = 58 ∧ (lowL t).head? = some 58) ↔ (a = 58 ∧ t.head? = some 58) := by
     rw [low_58]
     cases t with
     | nil => simp [lowL]
     | cons b t =>
       have := low_58 b
       simp [lowL, this]
   by_cases h : a = 58 ∧ t.head? = some 58
   · rw [if_pos (e.2 h), if_pos h]
     show some ([], (lowL t).drop 1) = some (lowL [], lowL (t.drop 1))
     unfold lowL
     rw [List.map_drop]
     rfl
   · rw [if_neg (fun h2 => h (e.1 h2)), if_neg h, ih]
     cases cutDD t with
     | none => rfl
     | some x => rfl
theorem sixL_low (l : List UInt8) : sixL (lowL l) = sixL l := by
 unfold sixL
 rw [cutDD_low]
 cases cutDD l with
 | none =>
   show (match grpL true (lowL l) with | some a => if a.length = 16 then some a else none | none => none) = _
   rw [grpL_low]
   all_goals rfl
 | some x =>
   obtain ⟨h, t⟩ := x
   show (match grpL false (lowL h), grpL true (lowL t) with | some a, some b => if a.length + b.length ≤ 16 then some (a ++ List.replicate (16 - a.length - b.length) 0 ++ b) else none | _, _ => none) = _
   rw [grpL_low, grpL_low]
   all_goals rfl
theorem ip6_low (l : List UInt8) : ip6 (mkS (lowL l)) = ip6 (mkS l) := by
 unfold ip6
 rw [sizeM, sizeM, low_len', f4_low]
 have e1 : s6 (mkS (lowL l)) = s6 (mkS l) := by unfold s6; rw [dataM, dataM, sixL_low]
 have e2 : hasB (mkS (lowL l)) 58 = hasB (mkS l) 58 := by
   unfold hasB
   rw [dataM, dataM]
   unfold lowL
   rw [List.any_map]
   congr 1
   funext b
   show decide (lowB b = 58) = _
   rw [Bool.eq_iff_iff, decide_eq_true_iff, decide_eq_true_iff]
   exact low_58 b
 rw [e1, e2]
theorem mem_split {c z : UInt8} (hz : z ≠ c) : ∀ {l : List UInt8}, z ∈ l → ∃ p ∈ splitL c l, z ∈ p
 | b :: t, h => by
   unfold splitL
   by_cases hb : b = c
   · rw [if_pos hb]
     rcases List.mem_cons.1 h with e | h
     · exact absurd (e.trans hb) hz
     · obtain ⟨p, hp, h2⟩ := mem_split hz h
       exact ⟨p, List.mem_cons_of_mem _ hp, h2⟩
   · rw [if_neg hb]
     rcases List.mem_cons.1 h with e | h
     · subst e
       cases splitL c t with
       | nil => exact ⟨[z], by simp, by simp⟩
       | cons p ps => exact ⟨z :: p, by simp, by simp⟩
     · obtain ⟨p, hp, h2⟩ := mem_split hz h
       generalize splitL c t = L at hp
       cases L with
       | nil => cases hp
       | cons q qs =>
         rcases List.mem_cons.1 hp with rfl | hp
         · exact ⟨b :: p, by simp, List.mem_cons_of_mem _ h2⟩
         · exact ⟨p, List.mem_cons_of_mem _ hp, h2⟩
theorem num_no {b : Nat} (hb : b ≤ 99) {p : List UInt8} (h : numOk b p = true) : (37 : UInt8) ∉ p := by
 intro hm
 unfold numOk at h
 rw [Bool.and_eq_true, List.all_eq_true] at h
 have := h.2 37 hm
 rw [decide_eq_true_iff, hexv37] at this
 omega
theorem goF_no : ∀ {ps : List (List UInt8)}, (goF ps).2 = true → ∀ p ∈ ps, (37 : UInt8) ∉ p
 | [], _, p, hp => by cases hp
 | q :: ps, h, p, hp => by
   unfold goF at h
   cases ho : octOk q with
   | false => rw [ho, if_neg Bool.false_ne_true] at h; cases h
   | true =>
     rw [ho, if_pos rfl] at h
     rcases List.mem_cons.1 hp with rfl | hp
     · unfold octOk at ho
       rw [Bool.and_eq_true] at ho
       exact num_no (by omega) ho.1
     · exact goF_no h p hp
theorem grL_no (t : Bool) : ∀ {ps : List (List UInt8)} {r : List Nat}, grL t ps = some r → ∀ p ∈ ps, (37 : UInt8) ∉ p
 | [], _, _, p, hp => by cases hp
 | q :: ps, r, h, p, hp => by
   unfold grL at h
   split at h
   · rename_i hc
     rw [Bool.and_eq_true, Bool.and_eq_true] at hc
     obtain ⟨_, he, hf⟩ := hc
     have hps : ps = [] := List.isEmpty_iff.1 he
     subst hps
     rcases List.mem_cons.1 hp with rfl | hp
     · intro hm
       obtain ⟨x, hx, hx2⟩ := mem_split (c := 46) (by decide) hm
       unfold fourP at hf
       split at hf
       · exact goF_no hf x hx hx2
       · cases hf
     · cases hp
   · split at h
     · rename_i hg
       rcases List.mem_cons.1 hp with rfl | hp
       · unfold grpOk at hg
         rw [Bool.and_eq_true] at hg
         exact num_no (by omega) hg.1
       · cases hr : grL t ps with
         | none => rw [hr] at h; cases h
         | some r' => exact grL_no t hr p hp
     · cases h
theorem grpL_no {t : Bool} {l : List UInt8} {r : List Nat} (h : grpL t l = some r) : (37 : UInt8) ∉ l := by
 intro hm
 unfold grpL at h
 split at h
 · rename_i he
   rw [List.isEmpty_iff.1 he] at hm
   cases hm
 · obtain ⟨x, hx, hx2⟩ := mem_split (c := 58) (by decide) hm
   exact grL_no t h x hx hx2
theorem cutDD_is : ∀ {l h t : List UInt8}, cutDD l = some (h, t) → l = h ++ 58 :: 58 :: t
 | [], h, t, e => by cases e
 | a :: l, h, t, e => by
   unfold cutDD at e
   split at e
   · rename_i hc
     cases e
     obtain ⟨rfl, h2⟩ := hc
     cases l with
     | nil => cases h2
     | cons b l =>
       simp at h2
       subst h2
       rfl
   · cases hr : cutDD l with
     | none => rw [hr] at e; cases e
     | some x =>
       rw [hr] at e
       obtain ⟨h', t'⟩ := x
       cases e
       rw [cutDD_is hr]
       rfl
theorem ip6_no {l : List UInt8} (h : ip6 (mkS l) = true) : (37 : UInt8) ∉ l := by
 unfold ip6 at h
 simp only [Bool.and_eq_true] at h
 have h6 := h.2.2.1
 unfold s6 at h6
 rw [dataM] at h6
 unfold sixL at h6
 cases hc : cutDD l with
 | none =>
   rw [hc] at h6
   cases hg : grpL true l with
   | none => simp only [hg] at h6; cases h6
   | some a => exact grpL_no hg
 | some x =>
   obtain ⟨a, b⟩ := x
   rw [hc] at h6
   cases ha : grpL false a with
   | none => simp only [ha] at h6; cases h6
   | some u =>
     cases hb : grpL true b with
     | none => simp only [ha, hb] at h6; cases h6
     | some v =>
       rw [cutDD_is hc]
       intro hm
       rcases List.mem_append.1 hm with hm | hm
       · exact grpL_no ha hm
       · rcases List.mem_cons.1 hm with hm | hm
         · exact absurd hm (by decide)
         · rcases List.mem_cons.1 hm with hm | hm
           · exact absurd hm (by decide)
           · exact grpL_no hb hm
theorem tid_no {f : UInt8 → List UInt8} {g : UInt8 → UInt8 → List UInt8} : ∀ {l : List UInt8}, (37 : UInt8) ∉ l → tidG f g l = l.flatMap f
 | [], _ => rfl
 | c :: t, h => by
   rw [tidG_ch _ _ (fun e => h (by rw [e]; simp)), tid_no fun hm => h (List.mem_cons_of_mem _ hm), List.flatMap_cons]
theorem flat_lo (l : List UInt8) : l.flatMap loB = lowL l := by
 induction l with
 | nil => rfl
 | cons c l ih => rw [List.flatMap_cons, ih]; rfl
theorem esc_mem : ∀ n : Nat, n < 256 → ∀ z ∈ ([35, 47, 58, 63, 64, 91, 93] : List UInt8), z ∉ escB (UInt8.ofNat n) ∧ z ∉ lowL (escB (UInt8.ofNat n)) := by decide +kernel
theorem esc3_mem (a b : UInt8) : ∀ z ∈ ([35, 47, 58, 63, 64, 91, 93] : List UInt8), z ∉ esc2 a b ∧ z ∉ esc3 a b := by
 intro z hz
 have := esc_mem (unB a b).toNat (unB a b).toNat_lt z hz
 rw [u8n] at this
 refine ⟨this.1, ?_⟩
 unfold esc3
 split
 · exact this.1
 · exact this.2
theorem lo_mem : ∀ n : Nat, n < 256 → ∀ z ∈ ([35, 47, 58, 63, 64, 91, 93] : List UInt8), z = lowB (UInt8.ofNat n) → z = UInt8.ofNat n := by decide +kernel
theorem lo_mem' {c z : UInt8} (hz : z ∈ ([35, 47, 58, 63, 64, 91, 93] : List UInt8)) (h : z = lowB c) : z = c := by
 have := lo_mem c.toNat c.toNat_lt z hz
 rw [u8n] at this
 exact this h
theorem tidH_mem {l : List UInt8} (h : Sg qS pS l) {z : UInt8} (hz : z ∈ ([35, 47, 58, 63, 64, 91, 93] : List UInt8)) (hm : z ∈ tidH l) : z ∈ l :=
 h.mem (fun c _ _ hc => lo_mem' hz (by simpa [loB] using hc)) (fun a b _ => (esc3_mem a b z hz).2) hm
theorem tidL_mem {l : List UInt8} (h : Sg qS pS l) {z : UInt8} (hz : z ∈ ([35, 47, 58, 63, 64, 91, 93] : List UInt8)) (hm : z ∈ tidL l) : z ∈ l :=
 h.mem (fun c _ _ hc => by simpa [idB] using hc) (fun a b _ => (esc3_mem a b z hz).1) hm
theorem esc_t : ∀ n : Nat, n < 256 → (keepB (UInt8.ofNat n) = true → okU (UInt8.ofNat n) = true ∧ UInt8.ofNat n ≠ 37 ∧ okU (lowB (UInt8.ofNat n)) = true ∧ lowB (UInt8.ofNat n) ≠ 37) ∧
   (keepB (UInt8.ofNat n) = false → okU (hexU (n / 16)) = true ∧ okU (hexU (n % 16)) = true ∧ hexd (hexU (n / 16)) = true ∧ hexd (hexU (n % 16)) = true ∧ unB (hexU (n / 16)) (hexU (n % 16)) = UInt8.ofNat n) := by decide +kernel
theorem esc_sg (x : UInt8) : Sg qS pT (escB x) := by
 have := esc_t x.toNat x.toNat_lt
 rw [u8n] at this
 unfold escB
 cases hk : keepB x with
 | true =>
   have t := this.1 hk
   exact .ch x [] t.1 t.2.1 .nil
 | false =>
   have t := this.2 hk
   refine .esc _ _ [] ⟨⟨t.1, t.2.1, t.2.2.1, t.2.2.2.1⟩, ?_⟩ .nil
   unfold esc2
   rw [t.2.2.2.2]
   unfold escB
   rw [hk]
   rfl
theorem tidL_sg {l : List UInt8} (h : Sg qS pS l) : Sg qS pT (tidL l) := h.tid (fun c hc hq => .ch c [] hq hc .nil) (fun a b _ => esc_sg _)
theorem tidL_id {l : List UInt8} (h : Sg qS pT l) : tidL l = l := h.tid_id (fun c _ _ => rfl) (fun a b hp => hp.2)
theorem lowB_ok : ∀ n : Nat, n < 256 → (okU (UInt8.ofNat n) = true → UInt8.ofNat n ≠ 37 → okU (lowB (UInt8.ofNat n)) = true ∧ lowB (UInt8.ofNat n) ≠ 37) := by decide +kernel
theorem lowB_ok' {c : UInt8} (h : okU c = true) (h2 : c ≠ 37) : okU (lowB c) = true ∧ lowB c ≠ 37 := by
 have := lowB_ok c.toNat c.toNat_lt
 rw [u8n] at this
 exact this h h2
theorem esc3_sg (a b : UInt8) : Sg qL pT (esc3 a b) := by
 have t := esc_t (unB a b).toNat (unB a b).toNat_lt
 rw [u8n] at t
 have e2 : esc2 a b = escB (unB a b) := rfl
 unfold esc3
 rw [e2]
 have hs := esc_sg (unB a b)
 unfold escB at hs ⊢
 cases hk : keepB (unB a b) with
 | true =>
   have t := t.1 hk
   show Sg qL pT [lowB (unB a b)]
   exact .ch _ [] ⟨t.2.2.1, low_low _⟩ t.2.2.2 .nil
 | false =>
   rw [hk] at hs
   show Sg qL pT [37, hexU ((unB a b).toNat / 16), hexU ((unB a b).toNat % 16)]
   cases hs with
   | ch _ _ _ hc _ => exact absurd rfl hc
   | esc _ _ _ hp _ => exact .esc _ _ [] hp .nil
theorem tidH_sg {l : List UInt8} (h : Sg qS pS l) : Sg qL pT (tidH l) := h.tid (fun c hc hq => .ch _ [] ⟨(lowB_ok' hq hc).1, low_low c⟩ (lowB_ok' hq hc).2 .nil) (fun a b _ => esc3_sg a b)
theorem esc3_id {a b : UInt8} (h : esc2 a b = [37, a, b]) : esc3 a b = [37, a, b] := by
 unfold esc3
 rw [h]
 rfl
theorem tidH_id {l : List UInt8} (h : Sg qL pT l) : tidH l = l := h.tid_id (fun c _ hq => by show [lowB c] = [c]; rw [hq.2]) (fun a b hp => esc3_id hp.2)
theorem sgL_S {l : List UInt8} (h : Sg qL pT l) : Sg qS pS l := h.mono (fun c h => h.1) (fun a b h => h.1)
theorem sgT_S {l : List UInt8} (h : Sg qS pT l) : Sg qS pS l := h.mono (fun c h => h) (fun a b h => h.1)
theorem lowH_tid {l : List UInt8} (h : Sg qS pS l) : lowH (tidL l) = tidH l := by
 refine h.tid_tid (q' := qS) (p' := pT) (fun c hc hq => .ch c [] hq hc .nil) (fun a b _ => esc_sg _) (fun c hc _ => ?_) (fun a b _ => ?_)
 · show tidG loB sgn [c] = loB c
   rw [tidG_ch _ _ hc, tidG_nil, List.append_nil]
 · have t := esc_t (unB a b).toNat (unB a b).toNat_lt
   rw [u8n] at t
   have e2 : esc2 a b = escB (unB a b) := rfl
   unfold esc3
   rw [e2]
   unfold escB
   cases hk : keepB (unB a b) with
   | true =>
     have t := t.1 hk
     show tidG loB sgn [unB a b] = [lowB (unB a b)]
     rw [tidG_ch _ _ t.2.1, tidG_nil]
     rfl
   | false =>
     show tidG loB sgn [37, hexU ((unB a b).toNat / 16), hexU ((unB a b).toNat % 16)] = [37, hexU ((unB a b).toNat / 16), hexU ((unB a b).toNat % 16)]
     rw [tidG_esc, tidG_nil]
     rfl
theorem host_tid {H : List UInt8} (h : hostS (mkS H) = true) (hs : Sg qS pS H) : hostS (mkS (tidH H)) = true := by
 rcases host_two h with ⟨X, rfl, hX⟩ | hno
 · have h37 : (37 : UInt8) ∉ (91 :: (X ++ [93]) : List UInt8) := by
     have := ip6_no hX
     simp [this]
   have e : tidH (91 :: (X ++ [93])) = 91 :: (lowL X ++ [93]) := by
     unfold tidH
     rw [tid_no h37, flat_lo]
     unfold lowL
     simp
     exact ⟨rfl, rfl⟩
   rw [e]
   exact host_br (by rw [ip6_low]; exact hX)
 · refine host_no fun b hb => ?_
   have key : ∀ z ∈ ([35, 47, 58, 63, 64, 91, 93] : List UInt8), z ∈ tidH H → z ∈ H := fun z hz hm => tidH_mem hs hz hm
   refine ⟨fun e => ?_, fun e => ?_, fun e => ?_, fun e => ?_⟩ <;> subst e
   · exact (hno _ (key 58 (by decide) hb)).1 rfl
   · exact (hno _ (key 91 (by decide) hb)).2.1 rfl
   · exact (hno _ (key 93 (by decide) hb)).2.2.1 rfl
   · exact (hno _ (key 64 (by decide) hb)).2.2.2 rfl
theorem tidH_ne {H : List UInt8} (h : H ≠ []) (hs : Sg qS pS H) : tidH H ≠ [] := by
 cases hs with
 | nil => exact absurd rfl h
 | ch c t hq hc _ => unfold tidH; rw [tidG_ch _ _ hc]; exact fun e => by cases e
 | esc a b t hp _ =>
   unfold tidH
   rw [tidG_esc]
   have : esc3 a b ≠ [] := by
     unfold esc3 esc2 escB
     split <;> split <;> simp [lowL]
   intro e
   exact this (List.append_eq_nil_iff.1 e).1
theorem take_sg {q : UInt8 → Prop} {p : UInt8 → UInt8 → Prop} (hk : ∀ a b, p a b → a ≠ 47 ∧ b ≠ 47) {b : UInt8} {t : List UInt8} (h : Sg q p (b :: t)) : Sg q p ((b :: t).take (seg (b :: t))) ∧ Sg q p ((b :: t).drop (seg (b :: t))) := by
 rw [(seg_cut b t).1, (seg_cut b t).2]
 have e : b :: t = (b :: t.takeWhile (· != 47)) ++ t.dropWhile (· != 47) := by rw [List.cons_append, tw_split]
 exact h.cut 47 hk (by decide) _ e (dw_slash t)
theorem pre_drop {p s : List UInt8} (h : p.isPrefixOf s = true) : ∃ t, s = p ++ t := by
 obtain ⟨t, ht⟩ := List.isPrefixOf_iff_prefix.1 h
 exact ⟨t, ht.symm⟩
theorem und_all {R : List UInt8 → Prop} (hd : ∀ b t, b ≠ 37 → R (b :: t) → R t) (h47 : R [47]) (h0 : R []) (hseg : ∀ b t, R (b :: t) → R ((b :: t).take (seg (b :: t))) ∧ R ((b :: t).drop (seg (b :: t)))) :
   ∀ (k : Nat) (s : List UInt8) (l : List (List UInt8)), R s → (∀ e ∈ l, R e) → ∀ e ∈ und k s l, R e
 | 0, s, l, hs, hl => hl
 | k + 1, s, l, hs, hl => by
   have ih := und_all hd h47 h0 hseg k
   have hdl : ∀ e ∈ l.dropLast, R e := fun e he => hl e (List.dropLast_subset _ he)
   unfold und
   split
   · exact hl
   split
   · rename_i h
     obtain ⟨t, rfl⟩ := pre_drop h
     exact ih _ _ (hd 47 _ (by decide) (hd 46 _ (by decide) (hd 46 _ (by decide) hs))) hl
   split
   · rename_i h
     obtain ⟨t, rfl⟩ := pre_drop h
     exact ih _ _ (hd 47 _ (by decide) (hd 46 _ (by decide) hs)) hl
   split
   · rename_i h
     obtain ⟨t, rfl⟩ := pre_drop h
     exact ih _ _ (hd 46 _ (by decide) (hd 47 _ (by decide) hs)) hl
   split
   · exact ih _ _ h47 hl
   split
   · rename_i h
     obtain ⟨t, rfl⟩ := pre_drop h
     exact ih _ _ (hd 46 _ (by decide) (hd 46 _ (by decide) (hd 47 _ (by decide) hs))) hdl
   split
   · exact ih _ _ h47 hdl
   split
   · exact ih _ _ h0 hl
   · cases s with
     | nil => rename_i h _ _ _ _ _ _ _; exact absurd rfl h
     | cons b t =>
       have := hseg b t hs
       refine ih _ _ this.2 fun e he => ?_
       rcases List.mem_append.1 he with he | he
       · exact hl e he
       · simp only [List.mem_singleton] at he
         rw [he]; exact this.1
theorem flat_sg {q : UInt8 → Prop} {p : UInt8 → UInt8 → Prop} : ∀ {l : List (List UInt8)}, (∀ e ∈ l, Sg q p e) → Sg q p l.flatten
 | [], _ => .nil
 | e :: l, h => by
   rw [List.flatten_cons]
   exact (h e (by simp)).app (flat_sg fun x hx => h x (by simp [hx]))
theorem dots_sg {s : List UInt8} (h : Sg qS pT s) : Sg qS pT (dotsL s) := by
 have nh : ∀ a b, pT a b → a ≠ 47 ∧ b ≠ 47 := fun a b h => nohex 47 hx47 a b h.1
 refine flat_sg (und_all (R := Sg qS pT) (fun b t hb h => h.tl hb) (.ch 47 [] (by decide) (by decide) .nil) .nil (fun b t h => take_sg nh h) 12000 s [] h fun e he => by cases he)
theorem dots_mem {s : List UInt8} {P : UInt8 → Prop} (h47 : P 47) (h : ∀ b ∈ s, P b) : ∀ b ∈ dotsL s, P b := by
 have := und_all (R := fun l => ∀ b ∈ l, P b) (fun b t _ h x hx => h x (by simp [hx])) (fun x hx => by simp at hx; rw [hx]; exact h47) (fun x hx => by cases hx)
   (fun b t h => ⟨fun x hx => h x (List.mem_of_mem_take hx), fun x hx => h x (List.mem_of_mem_drop hx)⟩) 12000 s [] h fun e he => by cases he
 intro b hb
 unfold dotsL at hb
 obtain ⟨e, he, hbe⟩ := List.mem_flatten.1 hb
 exact this e he b hbe
theorem und_slash : ∀ (k : Nat) (s : List UInt8) (l : List (List UInt8)), slash s → (∀ e ∈ l, ∃ t, e = 47 :: t) → ∀ e ∈ und k s l, ∃ t, e = 47 :: t
 | 0, s, l, hs, hl => hl
 | k + 1, s, l, hs, hl => by
   have ih := und_slash k
   have hdl : ∀ e ∈ l.dropLast, ∃ t, e = 47 :: t := fun e he => hl e (List.dropLast_subset _ he)
   have nb : ∀ t : List UInt8, ∀ c : UInt8, c ≠ 47 → slash (c :: t) → False := fun t c hc h => by
     rcases h with h | ⟨t', h⟩
     · cases h
     · injection h with h1 _; exact hc h1
   unfold und
   split
   · exact hl
   split
   · rename_i h
     obtain ⟨t, rfl⟩ := pre_drop h
     exact absurd hs (fun h => nb _ 46 (by decide) h)
   split
   · rename_i h
     obtain ⟨t, rfl⟩ := pre_drop h
     exact absurd hs (fun h => nb _ 46 (by decide) h)
   split
   · rename_i h
     obtain ⟨t, rfl⟩ := pre_drop h
     exact ih _ _ (.inr ⟨t, rfl⟩) hl
   split
   · exact ih _ _ (.inr ⟨[], rfl⟩) hl
   split
   · rename_i h
     obtain ⟨t, rfl⟩ := pre_drop h
     exact ih _ _ (.inr ⟨t, rfl⟩) hdl
   split
   · exact ih _ _ (.inr ⟨[], rfl⟩) hdl
   split
   · exact ih _ _ (.inl rfl) hl
   · cases s with
     | nil => rename_i h _ _ _ _ _ _ _; exact absurd rfl h
     | cons b t =>
       have hb : b = 47 := by
         rcases hs with h | ⟨t', h⟩
         · cases h
         · injection h
       subst hb
       rw [(seg_cut 47 t).1, (seg_cut 47 t).2]
       refine ih _ _ (dw_slash t) fun e he => ?_
       rcases List.mem_append.1 he with he | he
       · exact hl e he
       · simp only [List.mem_singleton] at he
         exact ⟨_, he⟩
theorem dots_slash {s : List UInt8} (h : slash s) : slash (dotsL s) := by
 have := und_slash 12000 s [] h fun e he => by cases he
 unfold dotsL
 cases hu : und 12000 s [] with
 | nil => exact .inl rfl
 | cons e r =>
   obtain ⟨t, rfl⟩ := this e (by rw [hu]; simp)
   exact .inr ⟨t ++ r.flatten, rfl⟩
end Go.Pv
namespace Go.Pv
set_option maxRecDepth 100000
open Go Go.Proofs
def decS (n : Int) : ByteArray := mkS (Lib.decDigits n.toNat)
def trS (s : ByteArray) : ByteArray := mkS (Lib.trimLeftB s.data.toList 48)
def aOk (s : ByteArray) : Bool := match Lib.atoiAll s.data.toList with
 | .ok _ => true
 | _ => false
def aV (s : ByteArray) : Int := match Lib.atoiAll s.data.toList with
 | .ok v => v
 | .range => Lib.atoiSat s.data.toList
 | _ => 0
def valN (n : Nat) (l : List UInt8) : Nat := l.foldl (fun n c => n * 10 + (c.toNat - 48)) n
def prtN : Nat → List UInt8 → Nat
 | n, [] => n
 | n, c :: t => if 65535 < n * 10 + (c.toNat - 48) then 0 else prtN (n * 10 + (c.toNat - 48)) t
def digL (l : List UInt8) : Prop := ∀ b ∈ l, 48 ≤ b.toNat ∧ b.toNat ≤ 57
theorem digL_tl {c : UInt8} {t : List UInt8} (h : digL (c :: t)) : digL t := fun b hb => h b (by simp [hb])
theorem valN_ge (l : List UInt8) : ∀ n, n ≤ valN n l := by
 induction l with
 | nil => intro n; exact Nat.le_refl _
 | cons c t ih => intro n; exact Nat.le_trans (by omega) (ih (n * 10 + (c.toNat - 48)))
theorem prtN_eq (l : List UInt8) : ∀ n, n ≤ 65535 → prtN n l = if valN n l ≤ 65535 then valN n l else 0 := by
 induction l with
 | nil => intro n hn; show n = if n ≤ 65535 then n else 0; rw [if_pos hn]
 | cons c t ih =>
   intro n hn
   unfold prtN
   have hv : valN n (c :: t) = valN (n * 10 + (c.toNat - 48)) t := rfl
   by_cases h : 65535 < n * 10 + (c.toNat - 48)
   · rw [if_pos h, hv, if_neg]
     have := valN_ge t (n * 10 + (c.toNat - 48))
     omega
   · rw [if_neg h, hv]
     exact ih _ (by omega)
theorem valN_big (l : List UInt8) : ∀ n, n * 10 ^ l.length ≤ valN n l := by
 induction l with
 | nil => intro n; show n * 1 ≤ n; omega
 | cons c t ih =>
   intro n
   have := ih (n * 10 + (c.toNat - 48))
   show n * 10 ^ (t.length + 1) ≤ valN (n * 10 + (c.toNat - 48)) t
   refine Nat.le_trans ?_ this
   rw [Nat.pow_succ, Nat.add_mul]
   have : n * (10 ^ t.length * 10) = n * 10 * 10 ^ t.length := by rw [Nat.mul_comm (10 ^ t.length) 10, Nat.mul_assoc]
   omega
theorem valN_lt (l : List UInt8) (h : digL l) : ∀ n, valN n l < (n + 1) * 10 ^ l.length := by
 induction l with
 | nil => intro n; show n < (n + 1) * 1; omega
 | cons c t ih =>
   intro n
   have := ih (digL_tl h) (n * 10 + (c.toNat - 48))
   have hc := h c (by simp)
   show valN (n * 10 + (c.toNat - 48)) t < (n + 1) * 10 ^ (t.length + 1)
   refine Nat.lt_of_lt_of_le this ?_
   have e : (n + 1) * 10 ^ (t.length + 1) = ((n + 1) * 10) * 10 ^ t.length := by rw [Nat.pow_succ, Nat.mul_comm (10 ^ t.length) 10, Nat.mul_assoc]
   rw [e]
   exact Nat.mul_le_mul_right _ (by omega)
theorem trim_val (l : List UInt8) : valN 0 (Lib.trimLeftB l 48) = valN 0 l := by
 unfold Lib.trimLeftB
 induction l with
 | nil => rfl
 | cons c t ih =>
   rw [List.dropWhile_cons]
   by_cases hc : c = 48
   · subst hc
     exact ih
   · have : (c == 48) = false := by simpa using hc
     rw [this]
     rfl
theorem trim_hd {l : List UInt8} {c : UInt8} {t : List UInt8} (h : Lib.trimLeftB l 48 = c :: t) : c ≠ 48 := by
 unfold Lib.trimLeftB at h
 induction l with
 | nil => cases h
 | cons b l ih =>
   rw [List.dropWhile_cons] at h
   by_cases hb : b = 48
   · subst hb
     exact ih h
   · have : (b == 48) = false := by simpa using hb
     rw [this] at h
     cases h
     exact hb
theorem trim_dig {l : List UInt8} (h : digL l) : digL (Lib.trimLeftB l 48) := fun b hb => h b (List.dropWhile_sublist _ |>.mem hb)
theorem parse_dig : ∀ (l : List UInt8) (n : Nat), digL l → valN n l < 1000000000 → Lib.parseUint10 n l = .ok (valN n l)
 | [], n, _, _ => rfl
 | c :: t, n, h, h3 => by
   have hc := h c (by simp)
   have hv : valN n (c :: t) = valN (n * 10 + (c.toNat - 48)) t := rfl
   have hge := valN_ge t (n * 10 + (c.toNat - 48))
   rw [hv] at h3 ⊢
   unfold Lib.parseUint10
   rw [if_pos hc, if_neg (by omega), if_neg (by omega)]
   exact parse_dig t _ (digL_tl h) h3
theorem atoi_dig {z : List UInt8} (hz : z ≠ []) (h : digL z) (hv : valN 0 z < 1000000000) : Lib.atoiAll z = .ok ((valN 0 z : Nat) : Int) := by
 cases z with
 | nil => exact absurd rfl hz
 | cons c t =>
   have hc := h c (by simp)
   unfold Lib.atoiAll
   have e : Lib.parseMag (c :: t) = .ok (valN 0 (c :: t)) := by
     unfold Lib.parseMag
     rw [if_neg (by simp)]
     exact parse_dig _ 0 h hv
   have n1 : ¬ (c.toNat = 43 ∨ c.toNat = 45) := by omega
   have n2 : ¬ c.toNat = 45 := by omega
   simp only [if_neg n1, e]
   rw [if_neg (by omega), if_neg (by omega), if_neg n2]
def okC (z : List UInt8) : Bool := decide (z.length ≤ 5) && (aOk (mkS z) && decide (aV (mkS z) ≤ 65535))
theorem port_ref {P : List UInt8} (h : digL P) : okC (Lib.trimLeftB P 48) = !decide (prtN 0 P = 0) ∧ (prtN 0 P ≠ 0 → aV (mkS (Lib.trimLeftB P 48)) = ((prtN 0 P : Nat) : Int)) := by
 have hr := prtN_eq P 0 (by omega)
 rw [← trim_val P] at hr
 have hd := trim_dig h
 cases hz : Lib.trimLeftB P 48 with
 | nil =>
   rw [hz] at hr
   have hr0 : prtN 0 P = 0 := hr
   rw [hr0]
   exact ⟨rfl, fun h => absurd rfl h⟩
 | cons c t =>
   have hc := trim_hd hz
   rw [hz] at hr hd
   have hcd := hd c (by simp)
   have hc1 : 1 ≤ c.toNat - 48 := by
     have : c.toNat ≠ 48 := fun e => hc (UInt8.toNat.inj (show c.toNat = (48 : UInt8).toNat from e))
     omega
   have hge := valN_ge t (0 * 10 + (c.toNat - 48))
   have hv : valN 0 (c :: t) = valN (0 * 10 + (c.toNat - 48)) t := rfl
   by_cases hl : (c :: t).length ≤ 5
   · have hlt := valN_lt (c :: t) hd 0
     have hp : 10 ^ (c :: t).length ≤ 10 ^ 5 := Nat.pow_le_pow_right (by omega) hl
     have ha := atoi_dig (z := c :: t) (by simp) hd (by omega)
     have e1 : aOk (mkS (c :: t)) = true := by unfold aOk; rw [dataM, ha]
     have e2 : aV (mkS (c :: t)) = ((valN 0 (c :: t) : Nat) : Int) := by unfold aV; rw [dataM, ha]
     unfold okC
     rw [decide_eq_true hl, e1, e2, Bool.true_and, Bool.true_and]
     by_cases hv2 : valN 0 (c :: t) ≤ 65535
     · rw [if_pos hv2] at hr
       rw [decide_eq_true (by omega), hr, decide_eq_false (by omega)]
       exact ⟨rfl, fun _ => rfl⟩
     · rw [if_neg hv2] at hr
       rw [decide_eq_false (by omega), hr]
       exact ⟨rfl, fun h => absurd rfl h⟩
   · have hbig := valN_big t (0 * 10 + (c.toNat - 48))
     have hp : 10 ^ 5 ≤ 10 ^ t.length := Nat.pow_le_pow_right (by omega) (by simp only [List.length_cons] at hl; omega)
     have : 1 * 10 ^ t.length ≤ (0 * 10 + (c.toNat - 48)) * 10 ^ t.length := Nat.mul_le_mul_right _ (by omega)
     rw [if_neg (by omega)] at hr
     unfold okC
     rw [decide_eq_false hl, hr]
     exact ⟨rfl, fun h => absurd rfl h⟩
theorem dec_z : ∀ n : Nat, n < 10 → (UInt8.ofNat (48 + n)).toNat = 48 + n := by decide
theorem valN_app (a b : List UInt8) (n : Nat) : valN n (a ++ b) = valN (valN n a) b := by unfold valN; rw [List.foldl_append]
theorem dec_all (u : Nat) : digL (Lib.decDigits u) ∧ valN 0 (Lib.decDigits u) = u ∧ Lib.decDigits u ≠ [] := by
 induction u using Nat.strongRecOn with
 | _ u ih =>
   rw [Lib.decDigits]
   by_cases h : u < 10
   · rw [dif_pos h]
     have := dec_z u h
     refine ⟨fun b hb => ?_, ?_, by simp⟩
     · simp only [List.mem_singleton] at hb
       rw [hb, this]; omega
     · show 0 * 10 + ((UInt8.ofNat (48 + u)).toNat - 48) = u
       rw [this]; omega
   · rw [dif_neg h]
     obtain ⟨h1, h2, h3⟩ := ih (u / 10) (by omega)
     have := dec_z (u % 10) (by omega)
     refine ⟨fun b hb => ?_, ?_, by simp⟩
     · rcases List.mem_append.1 hb with hb | hb
       · exact h1 b hb
       · simp only [List.mem_singleton] at hb
         rw [hb, this]; omega
     · rw [valN_app, h2]
       show u / 10 * 10 + ((UInt8.ofNat (48 + u % 10)).toNat - 48) = u
       rw [this]; omega
theorem dec_len' : ∀ (n u : Nat), u < 10 ^ (n + 1) → (Lib.decDigits u).length ≤ n + 1
 | 0, u, h => by rw [Lib.decDigits, dif_pos (by omega)]; simp
 | n + 1, u, h => by
   rw [Lib.decDigits]
   split
   · simp
   · have := dec_len' n (u / 10) (by rw [Nat.pow_succ] at h; omega)
     rw [List.length_append]
     simp only [List.length_cons, List.length_nil]
     omega
theorem dec_len {u : Nat} (h : u ≤ 65535) : (Lib.decDigits u).length ≤ 5 := dec_len' 4 u (by omega)
theorem ref_dec {k : Nat} (h : k ≤ 65535) : prtN 0 (Lib.decDigits k) = k := by
 rw [prtN_eq _ 0 (by omega), (dec_all k).2.1, if_pos h]
end Go.Pv
namespace Go.Pv
set_option maxRecDepth 100000
open Go Go.Proofs
def stdI (s : ByteArray) : Int := if ((lowS s).toList == (ByteArray.mk #[104, 116, 116, 112, 115]).toList) = true then 443 else 80
def L29z : Fn1 := fun x => match x with
 | [.str s] => some [(decide (s.size ≤ 10000), .int .i64 (stdI s), [])]
 | _ => none
def L35z (m : Nat) : Fn1 := fun x => match x with
 | [.int .i64 n] => some [(decide (0 ≤ n) && decide (n < (m : Int)), .str (decS n), [])]
 | _ => none
def L31z : Fn1 := fun x => match x with
 | [.str s, .str ⟨⟨[48]⟩⟩] => some [(true, .str (trS s), [])]
 | _ => none
def L32z : Fn1 := fun x => match x with
 | [.str s] => some [(decide (s.size ≤ 10000) && aOk s, .tup [.int .i64 (aV s), .nilif], []), (decide (s.size ≤ 10000), .tup [.int .i64 (aV s), .err], [])]
 | _ => none
def N35 (m : Nat) : Table := fun g => if Nat.beq g 35 then L35z m else fun _ => none
def N29 : Table := fun g => if Nat.beq g 29 then L29z else N27 g
def P24 : Table := fun g => if Nat.beq g 24 then M12 else N29 g
def P31 : Table := fun g => if Nat.beq g 31 then L31z else P24 g
def P32 : Table := fun g => if Nat.beq g 32 then L32z else P31 g
def P10 : Table := fun g => if Nat.beq g 10 then M11 else N29 g
def hL27z : Head := ⟨[0, 3, 4], [(1000001, 1)], 1⟩
def aL27z : Ann := fun i => if Nat.beq i 3 then some hL27z else none
noncomputable def hd27 : Handler := inls Tryz.prog (fun _ => none) 4 [50, 51, 76] (call' N34)
def E27 (s : ByteArray) (i : Int) : Env := mkEnv 31 [(0, .c (.str s)), (3, .bptr 0 0), (4, .c (.int .i64 i))]
def B0z : Hp := [.box (.c (.agg [.nilptr, .nilsl])) kBu]
def B2z (xs : List CV) : Hp := [.box (.agg [.bptr 0 0, .rw 1 gBu]) kBu, .row xs 1 gBu false]
def hL15z : Head := ⟨[1, 4, 5], [], 1⟩
def aL15z : Ann := fun i => if Nat.beq i 10 then some hL15z else none
theorem nb27 (s : ByteArray) (n : Nat) (R : Env → Hp → Res) : parts Tryz.prog hd27 (filt aL27z 0) n (codeOf Tryz.prog 27) (envOf Tryz.prog 27 [.c (.str s)]) [] (fun _ => headK hL27z R) (endOf Tryz.prog 27 []) =
 R (mkEnv 31 [(0, .c (CV.str s)), (3, .bptr 0 0), (4, .c (CV.int .i64 (.ofNat 0)))]) [.box (.c (CV.agg [CV.nilptr, CV.nilsl])) kBu] := by kernel_rfl
theorem nc27a (s : ByteArray) (i : Int) (n : Nat) (R : Env → Hp → Res) : aexec Tryz.prog hd27 (filt aL27z 0) n (bodyN 0 (codeOf Tryz.prog 27)) (E27 s i) B0z (thenK (headK hL27z R) (restN Tryz.prog hd27 (filt aL27z 0) n 0 (codeOf Tryz.prog 27) (endOf Tryz.prog 27 []))) =
 bif' (decide (i < (↑s.size : Int))) (bif' (decide (0 ≤ i)) (bif' (decide (i < (↑s.size : Int))) (bif' (byteAt s i.toNat == 37) (bif' (decide (0 ≤ i)) (bif' (decide (i ≤ IntKind.i64.wrap (i + 3))) (bif' (decide (IntKind.i64.wrap (i + 3) ≤ (↑s.size : Int))) (bif' (decide ((strBytes (s.extract i.toNat (IntKind.i64.wrap (i + 3)).toNat)).length * 1 ≤ 70368744177664)) (bif' (strBytes (s.extract i.toNat (IntKind.i64.wrap (i + 3)).toNat)).isEmpty (R (mkEnv 31 [(0, .c (CV.str s)), (3, .bptr 0 0), (4, .c (CV.int .i64 (IntKind.i64.wrap (IntKind.i64.wrap (i + 2) + 1))))]) [.box (.agg [.bptr 0 0, .c CV.nilsl]) kBu]) (R (mkEnv 31 [(0, .c (CV.str s)), (3, .bptr 0 0), (4, .c (CV.int .i64 (IntKind.i64.wrap (IntKind.i64.wrap (i + 2) + 1))))]) [.box (.agg [.bptr 0 0, .rw 1 6597069766656]) kBu, .row (strBytes (s.extract i.toNat (IntKind.i64.wrap (i + 3)).toNat)) 1 6597069766656 false])) none) none) none) none) (bif' (decide (0 ≤ i)) (bif' (decide (i ≤ IntKind.i64.wrap (i + 1))) (bif' (decide (IntKind.i64.wrap (i + 1) ≤ (↑s.size : Int))) (bif' (decide ((s.extract i.toNat (IntKind.i64.wrap (i + 1)).toNat).size ≤ 10000)) (bif' (decide ((strBytes (lowS (s.extract i.toNat (IntKind.i64.wrap (i + 1)).toNat))).length * 1 ≤ 70368744177664)) (bif' (strBytes (lowS (s.extract i.toNat (IntKind.i64.wrap (i + 1)).toNat))).isEmpty (R (mkEnv 31 [(0, .c (CV.str s)), (3, .bptr 0 0), (4, .c (CV.int .i64 (IntKind.i64.wrap (i + 1))))]) [.box (.agg [.bptr 0 0, .c CV.nilsl]) kBu]) (R (mkEnv 31 [(0, .c (CV.str s)), (3, .bptr 0 0), (4, .c (CV.int .i64 (IntKind.i64.wrap (i + 1))))]) [.box (.agg [.bptr 0 0, .rw 1 6597069766656]) kBu, .row (strBytes (lowS (s.extract i.toNat (IntKind.i64.wrap (i + 1)).toNat))) 1 6597069766656 false])) none) none) none) none) none)) none) none) (some (CV.str ⟨⟨[]⟩⟩, [])) := by kernel_rfl
theorem nc27b (s : ByteArray) (i : Int) (xs : List CV) (n : Nat) (R : Env → Hp → Res) : aexec Tryz.prog hd27 (filt aL27z 0) n (bodyN 0 (codeOf Tryz.prog 27)) (E27 s i) (B2z xs) (thenK (headK hL27z R) (restN Tryz.prog hd27 (filt aL27z 0) n 0 (codeOf Tryz.prog 27) (endOf Tryz.prog 27 []))) =
 bif' (decide (i < (↑s.size : Int))) (bif' (decide (0 ≤ i)) (bif' (decide (i < (↑s.size : Int))) (bif' (byteAt s i.toNat == 37) (bif' (decide (0 ≤ i)) (bif' (decide (i ≤ IntKind.i64.wrap (i + 3))) (bif' (decide (IntKind.i64.wrap (i + 3) ≤ (↑s.size : Int))) (bif' (decide ((xs.length + (strBytes (s.extract i.toNat (IntKind.i64.wrap (i + 3)).toNat)).length) * 1 ≤ 70368744177664)) (R (mkEnv 31 [(0, .c (CV.str s)), (3, .bptr 0 0), (4, .c (CV.int .i64 (IntKind.i64.wrap (IntKind.i64.wrap (i + 2) + 1))))]) [.box (.agg [.bptr 0 0, .rw 1 6597069766656]) kBu, .row (xs ++ strBytes (s.extract i.toNat (IntKind.i64.wrap (i + 3)).toNat)) 1 6597069766656 false]) none) none) none) none) (bif' (decide (0 ≤ i)) (bif' (decide (i ≤ IntKind.i64.wrap (i + 1))) (bif' (decide (IntKind.i64.wrap (i + 1) ≤ (↑s.size : Int))) (bif' (decide ((s.extract i.toNat (IntKind.i64.wrap (i + 1)).toNat).size ≤ 10000)) (bif' (decide ((xs.length + (strBytes (lowS (s.extract i.toNat (IntKind.i64.wrap (i + 1)).toNat))).length) * 1 ≤ 70368744177664)) (R (mkEnv 31 [(0, .c (CV.str s)), (3, .bptr 0 0), (4, .c (CV.int .i64 (IntKind.i64.wrap (i + 1))))]) [.box (.agg [.bptr 0 0, .rw 1 6597069766656]) kBu, .row (xs ++ strBytes (lowS (s.extract i.toNat (IntKind.i64.wrap (i + 1)).toNat))) 1 6597069766656 false]) none) none) none) none) none)) none) none) (bif' (!xs.isEmpty) (bif' (decide (0 < (↑xs.length : Int))) (bif' (decide ((↑xs.length : Int) ≤ (↑xs.length : Int))) (bif' (decide ((↑xs.length : Int) ≤ 9223372036854775807)) (bif' ((List.take (↑xs.length : Int).toNat xs).all isU8) (some (CV.str (bytesOf (List.take (↑xs.length : Int).toNat xs)), [])) none) none) none) none) none) := by kernel_rfl
theorem nr29 (s : ByteArray) : abody Tryz.prog (call' N27) (fun _ => none) 1 29 [.str s] =
 bif' (decide (s.size ≤ 10000)) (bif' ((lowS s).toList == (ByteArray.mk #[104, 116, 116, 112, 115]).toList) (some (CV.int .i64 (.ofNat 443), [])) (some (CV.int .i64 (.ofNat 80), []))) none := by kernel_rfl
theorem nr35 (i : Int) (m : Nat) : abody Tryz.prog (call' (N35 m)) (fun _ => none) 1 35 [.int .i64 i] =
 bif' (decide (i < 10)) (bif' (decide (0 ≤ i)) (bif' (decide (i ≤ IntKind.i64.wrap (i + 1))) (bif' (decide (IntKind.i64.wrap (i + 1) ≤ (↑10 : Int))) (some (CV.str ((ByteArray.mk #[48, 49, 50, 51, 52, 53, 54, 55, 56, 57]).extract i.toNat (IntKind.i64.wrap (i + 1)).toNat), [])) none) none) none) (bif' (decide (0 ≤ IntKind.i64.wrap (i.tdiv 10)) && decide (IntKind.i64.wrap (i.tdiv 10) < (↑m : Int))) (bif' (decide (0 ≤ i.tmod 10) && decide (i.tmod 10 < (↑m : Int))) (bif' (fitsS ((decS (IntKind.i64.wrap (i.tdiv 10))).size + (decS (i.tmod 10)).size)) (some (CV.str (decS (IntKind.i64.wrap (i.tdiv 10)) ++ decS (i.tmod 10)), [])) none) none) none) := by kernel_rfl
theorem nr14 (sc us ho po pa qu fr : ByteArray) (hu hp ha hq hf : Bool) : abody Tryz.prog (call' P32) (fun _ => none) 1 14 [uV sc us hu ho po hp ha pa qu hq fr hf] =
 bif' (decide (sc.size ≤ 10000)) (bif' (n7 sc us ho po pa qu fr && mayU sc us ho po pa qu fr hu hp ha hq hf) (bif' (!(lowS sc).toList == (ByteArray.mk #[104, 116, 116, 112]).toList) (bif' (!(lowS sc).toList == (ByteArray.mk #[104, 116, 116, 112, 115]).toList) (some (CV.tup [CV.int .i64 (.ofNat 0), CV.int .i64 (.ofNat 1)], [])) (bif' hu (some (CV.tup [CV.int .i64 (.ofNat 0), CV.int .i64 (.ofNat 1)], [])) (bif' (ho.toList == (ByteArray.mk #[]).toList) (some (CV.tup [CV.int .i64 (.ofNat 0), CV.int .i64 (.ofNat 1)], [])) (bif' hf (some (CV.tup [CV.int .i64 (.ofNat 0), CV.int .i64 (.ofNat 1)], [])) (bif' (po.toList == (ByteArray.mk #[]).toList) (bif' (decide ((lowS sc).size ≤ 10000)) (some (CV.tup [CV.int .i64 (stdI (lowS sc)), CV.int .i64 (.ofNat 0)], [])) none) (bif' (decide ((trS po).size ≤ 10000) && aOk (trS po)) (bif' (decide ((↑(trS po).size : Int) > 5)) (some (CV.tup [CV.int .i64 (.ofNat 0), CV.int .i64 (.ofNat 1)], [])) (bif' (decide (aV (trS po) > 65535)) (some (CV.tup [CV.int .i64 (.ofNat 0), CV.int .i64 (.ofNat 1)], [])) (some (CV.tup [CV.int .i64 (aV (trS po)), CV.int .i64 (.ofNat 0)], [])))) (bif' (decide ((trS po).size ≤ 10000)) (bif' (decide ((↑(trS po).size : Int) > 5)) (some (CV.tup [CV.int .i64 (.ofNat 0), CV.int .i64 (.ofNat 1)], [])) (some (CV.tup [CV.int .i64 (.ofNat 0), CV.int .i64 (.ofNat 1)], []))) none))))))) (bif' hu (some (CV.tup [CV.int .i64 (.ofNat 0), CV.int .i64 (.ofNat 1)], [])) (bif' (ho.toList == (ByteArray.mk #[]).toList) (some (CV.tup [CV.int .i64 (.ofNat 0), CV.int .i64 (.ofNat 1)], [])) (bif' hf (some (CV.tup [CV.int .i64 (.ofNat 0), CV.int .i64 (.ofNat 1)], [])) (bif' (po.toList == (ByteArray.mk #[]).toList) (bif' (decide ((lowS sc).size ≤ 10000)) (some (CV.tup [CV.int .i64 (stdI (lowS sc)), CV.int .i64 (.ofNat 0)], [])) none) (bif' (decide ((trS po).size ≤ 10000) && aOk (trS po)) (bif' (decide ((↑(trS po).size : Int) > 5)) (some (CV.tup [CV.int .i64 (.ofNat 0), CV.int .i64 (.ofNat 1)], [])) (bif' (decide (aV (trS po) > 65535)) (some (CV.tup [CV.int .i64 (.ofNat 0), CV.int .i64 (.ofNat 1)], [])) (some (CV.tup [CV.int .i64 (aV (trS po)), CV.int .i64 (.ofNat 0)], [])))) (bif' (decide ((trS po).size ≤ 10000)) (bif' (decide ((↑(trS po).size : Int) > 5)) (some (CV.tup [CV.int .i64 (.ofNat 0), CV.int .i64 (.ofNat 1)], [])) (some (CV.tup [CV.int .i64 (.ofNat 0), CV.int .i64 (.ofNat 1)], []))) none))))))) (bif' (n7 sc us ho po pa qu fr) (some (CV.tup [CV.int .i64 (.ofNat 0), CV.int .i64 (.ofNat 1)], [])) none)) none := by kernel_rfl
theorem nb15 (sc us ho po pa qu fr : ByteArray) (hu hp ha hq hf : Bool) (n : Nat) (R : Env → Hp → Res) : parts Tryz.prog (call' P10) (filt aL15z 0) n (codeOf Tryz.prog 15) (envOf Tryz.prog 15 [.c (uV sc us hu ho po hp ha pa qu hq fr hf)]) [] (fun _ => headK hL15z R) (endOf Tryz.prog 15 []) =
 bif' (decide (sc.size ≤ 10000)) (bif' (n7 sc us ho po pa qu fr && mayU sc us ho po pa qu fr hu hp ha hq hf) (bif' (!(lowS sc).toList == (ByteArray.mk #[104, 116, 116, 112]).toList) (bif' (!(lowS sc).toList == (ByteArray.mk #[104, 116, 116, 112, 115]).toList) (some (CV.int .i64 (.ofNat 0), [])) (bif' hu (some (CV.int .i64 (.ofNat 0), [])) (bif' (ho.toList == (ByteArray.mk #[]).toList) (some (CV.int .i64 (.ofNat 0), [])) (bif' hf (some (CV.int .i64 (.ofNat 0), [])) (bif' (po.toList == (ByteArray.mk #[]).toList) (bif' ((lowS sc).toList == (ByteArray.mk #[104, 116, 116, 112, 115]).toList) (some (CV.int .i64 (.ofNat 443), [])) (some (CV.int .i64 (.ofNat 80), []))) (R (mkEnv 57 [(1, .bptr 0 0), (4, .c (CV.int .i64 (.ofNat 0))), (5, .c (CV.int .i64 (.ofNat 0)))]) [.box (.c (CV.agg [CV.str sc, CV.str us, CV.bool hu, CV.str ho, CV.str po, CV.bool hp, CV.bool ha, CV.str pa, CV.str qu, CV.bool hq, CV.str fr, CV.bool hf])) (kOf (uV sc us hu ho po hp ha pa qu hq fr hf).cl.length 26)])))))) (bif' hu (some (CV.int .i64 (.ofNat 0), [])) (bif' (ho.toList == (ByteArray.mk #[]).toList) (some (CV.int .i64 (.ofNat 0), [])) (bif' hf (some (CV.int .i64 (.ofNat 0), [])) (bif' (po.toList == (ByteArray.mk #[]).toList) (bif' ((lowS sc).toList == (ByteArray.mk #[104, 116, 116, 112, 115]).toList) (some (CV.int .i64 (.ofNat 443), [])) (some (CV.int .i64 (.ofNat 80), []))) (R (mkEnv 57 [(1, .bptr 0 0), (4, .c (CV.int .i64 (.ofNat 0))), (5, .c (CV.int .i64 (.ofNat 0)))]) [.box (.c (CV.agg [CV.str sc, CV.str us, CV.bool hu, CV.str ho, CV.str po, CV.bool hp, CV.bool ha, CV.str pa, CV.str qu, CV.bool hq, CV.str fr, CV.bool hf])) (kOf (uV sc us hu ho po hp ha pa qu hq fr hf).cl.length 26)])))))) (bif' (n7 sc us ho po pa qu fr) (some (CV.int .i64 (.ofNat 0), [])) none)) none := by kernel_rfl
theorem nc15 (sc us ho po pa qu fr : ByteArray) (hu hp ha hq hf : Bool) (k i : Int) (n : Nat) (R : Env → Hp → Res) : aexec Tryz.prog (call' P10) (filt aL15z 0) n (bodyN 0 (codeOf Tryz.prog 15)) (mkEnv 57 [(1, .bptr 0 0), (4, .c (.int .i64 k)), (5, .c (.int .i64 i))]) [.box (.c (uV sc us hu ho po hp ha pa qu hq fr hf)) kU] (thenK (headK hL15z R) (restN Tryz.prog (call' P10) (filt aL15z 0) n 0 (codeOf Tryz.prog 15) (endOf Tryz.prog 15 []))) =
 bif' (decide (i < (↑po.size : Int))) (bif' (decide (0 ≤ i)) (bif' (decide (i < (↑po.size : Int))) (bif' (decide (IntKind.i64.wrap (IntKind.i64.wrap (k * 10) + IntKind.i64.wrap (IntKind.u8.wrap (byteAt po i.toNat - 48))) > 65535)) (some (CV.int .i64 (.ofNat 0), [])) (R (mkEnv 57 [(1, .bptr 0 0), (4, .c (CV.int .i64 (IntKind.i64.wrap (IntKind.i64.wrap (k * 10) + IntKind.i64.wrap (IntKind.u8.wrap (byteAt po i.toNat - 48)))))), (5, .c (CV.int .i64 (IntKind.i64.wrap (i + 1))))]) [.box (.c (CV.agg [CV.str sc, CV.str us, CV.bool hu, CV.str ho, CV.str po, CV.bool hp, CV.bool ha, CV.str pa, CV.str qu, CV.bool hq, CV.str fr, CV.bool hf])) kU])) none) none) (some (CV.int .i64 k, [])) := by kernel_rfl
end Go.Pv
namespace Go.Proofs
open Go.Shelf
open Go.RowKit in
def Tryz.lays161_ren : Go.Shelf.Ren := ⟨fun | 161 => 31 | 231 => 55 | 227 => 56 | 233 => 57 | 235 => 58 | 228 => 79 | 197 => 80 | 151 => 81 | 260 => 105 | 152 => 106 | 137 => 38 | 119 => 124 | 224 => 125 | 225 => 126 | 217 => 65 | 266 => 88 | n => n, fun | 9 => 9 | 4 => 4 | 3 => 3 | 5 => 5 | 117 => 70 | 116 => 69 | 0 => 0 | 124 => 73 | 105 => 96 | 21 => 21 | 119 => 142 | 46 => 94 | 139 => 145 | 138 => 144 | n => n, fun | 3 => 4 | 4 => 5 | n => n⟩
theorem Tryz.lays161 : Go.Proofs.Lays.n161 Tryz.prog Tryz.lays161_ren := {
 mixed := by kernel_rfl
 f119 := Tryz.func124.trans (congrArg some (by kernel_rfl))
 f137 := Tryz.func38.trans (congrArg some (by kernel_rfl))
 f151 := Tryz.func81.trans (congrArg some (by kernel_rfl))
 f152 := Tryz.func106.trans (congrArg some (by kernel_rfl))
 f161 := Tryz.func31.trans (congrArg some (by kernel_rfl))
 f197 := Tryz.func80.trans (congrArg some (by kernel_rfl))
 f217 := Tryz.func65.trans (congrArg some (by kernel_rfl))
 f224 := Tryz.func125.trans (congrArg some (by kernel_rfl))
 f225 := Tryz.func126.trans (congrArg some (by kernel_rfl))
 f227 := Tryz.func56.trans (congrArg some (by kernel_rfl))
 f228 := Tryz.func79.trans (congrArg some (by kernel_rfl))
 f231 := Tryz.func55.trans (congrArg some (by kernel_rfl))
 f233 := Tryz.func57.trans (congrArg some (by kernel_rfl))
 f235 := Tryz.func58.trans (congrArg some (by kernel_rfl))
 f260 := Tryz.func105.trans (congrArg some (by kernel_rfl))
 f266 := Tryz.func88.trans (congrArg some (by kernel_rfl))
 t0 := Tryz.underlying0
 a0 := Tryz.isAgg0
 z0 := Tryz.sizeOf0
 v0 := Tryz.zeroValue0
 t3 := Tryz.underlying3
 a3 := Tryz.isAgg3
 z3 := Tryz.sizeOf3
 v3 := Tryz.zeroValue3
 t4 := Tryz.underlying4
 a4 := Tryz.isAgg4
 z4 := Tryz.sizeOf4
 v4 := Tryz.zeroValue4
 t5 := Tryz.underlying5
 a5 := Tryz.isAgg5
 z5 := Tryz.sizeOf5
 v5 := Tryz.zeroValue5
 t9 := Tryz.underlying9
 a9 := Tryz.isAgg9
 z9 := Tryz.sizeOf9
 v9 := Tryz.zeroValue9
 t21 := Tryz.underlying21
 a21 := Tryz.isAgg21
 z21 := Tryz.sizeOf21
 v21 := Tryz.zeroValue21
 t46 := Tryz.underlying94
 a46 := Tryz.isAgg94
 z46 := Tryz.sizeOf94
 v46 := Tryz.zeroValue94
 t105 := Tryz.underlying96
 a105 := Tryz.isAgg96
 z105 := Tryz.sizeOf96
 v105 := Tryz.zeroValue96
 t116 := Tryz.underlying69
 a116 := Tryz.isAgg69
 z116 := Tryz.sizeOf69
 t117 := Tryz.underlying70
 a117 := Tryz.isAgg70
 z117 := Tryz.sizeOf70
 v117 := Tryz.zeroValue70
 t119 := Tryz.underlying142
 a119 := Tryz.isAgg142
 z119 := Tryz.sizeOf142
 t124 := Tryz.underlying73
 a124 := Tryz.isAgg73
 z124 := Tryz.sizeOf73
 v124 := Tryz.zeroValue73
 t138 := Tryz.underlying144
 a138 := Tryz.isAgg144
 z138 := Tryz.sizeOf144
 v138 := Tryz.zeroValue144
 t139 := Tryz.underlying145
 a139 := Tryz.isAgg145
 z139 := Tryz.sizeOf145
 v139 := Tryz.zeroValue145
 g3 := by kernel_rfl
 g4 := by kernel_rfl }
open Go.RowKit in
theorem Tryz.strings_TrimLeft_one (s : ByteArray) (c : UInt8) (hc : c.toNat < 128) (w : World) :
   Calls Tryz.prog 31 #[.string s, .string ⟨#[c]⟩] w fun e w' => e = .returned (.string ⟨(Lib.trimLeftB s.data.toList c).toArray⟩) ∧ w' = w := Any.strings_TrimLeft_one Tryz.lays161 s c hc w
open Go.RowKit Go.Sort Go.Lib in
open Go.RowKit Go.Sort Go.Lib in
open Go.RowKit Go.Sort Go.Lib in
open Go.RowKit Go.Sort Go.Lib in
def Tryz.laysM171_ren : Go.Shelf.Ren := ⟨fun | 171 => 30 | 243 => 54 | 246 => 78 | 283 => 101 | 284 => 102 | 285 => 103 | 286 => 104 | 129 => 120 | 317 => 119 | 318 => 121 | 319 => 122 | 320 => 123 | 337 => 137 | 338 => 138 | n => n, fun | 3 => 3 | 9 => 9 | 2 => 2 | 4 => 4 | 171 => 115 | 0 => 0 | 53 => 106 | 37 => 60 | 5 => 5 | 173 => 118 | 212 => 137 | 51 => 138 | 20 => 20 | 213 => 139 | 46 => 94 | 232 => 160 | 233 => 161 | n => n, fun | 17 => 3 | 18 => 6 | 19 => 7 | n => n⟩
theorem Tryz.laysM171 : Go.Proofs.LaysM.n171 Tryz.prog Tryz.laysM171_ren := {
 mixed := by kernel_rfl
 f129 := Tryz.func120.trans (congrArg some (by kernel_rfl))
 f171 := Tryz.func30.trans (congrArg some (by kernel_rfl))
 f243 := Tryz.func54.trans (congrArg some (by kernel_rfl))
 f246 := Tryz.func78.trans (congrArg some (by kernel_rfl))
 f283 := Tryz.func101.trans (congrArg some (by kernel_rfl))
 f284 := Tryz.func102.trans (congrArg some (by kernel_rfl))
 f285 := Tryz.func103.trans (congrArg some (by kernel_rfl))
 f286 := Tryz.func104.trans (congrArg some (by kernel_rfl))
 f317 := Tryz.func119.trans (congrArg some (by kernel_rfl))
 f318 := Tryz.func121.trans (congrArg some (by kernel_rfl))
 f319 := Tryz.func122.trans (congrArg some (by kernel_rfl))
 f320 := Tryz.func123.trans (congrArg some (by kernel_rfl))
 f337 := Tryz.func137.trans (congrArg some (by kernel_rfl))
 f338 := Tryz.func138.trans (congrArg some (by kernel_rfl))
 t0 := Tryz.underlying0
 a0 := Tryz.isAgg0
 z0 := Tryz.sizeOf0
 v0 := Tryz.zeroValue0
 t2 := Tryz.underlying2
 a2 := Tryz.isAgg2
 z2 := Tryz.sizeOf2
 v2 := Tryz.zeroValue2
 t3 := Tryz.underlying3
 a3 := Tryz.isAgg3
 z3 := Tryz.sizeOf3
 v3 := Tryz.zeroValue3
 t4 := Tryz.underlying4
 a4 := Tryz.isAgg4
 z4 := Tryz.sizeOf4
 v4 := Tryz.zeroValue4
 t5 := Tryz.underlying5
 a5 := Tryz.isAgg5
 z5 := Tryz.sizeOf5
 v5 := Tryz.zeroValue5
 t9 := Tryz.underlying9
 a9 := Tryz.isAgg9
 z9 := Tryz.sizeOf9
 v9 := Tryz.zeroValue9
 t20 := Tryz.underlying20
 a20 := Tryz.isAgg20
 z20 := Tryz.sizeOf20
 v20 := Tryz.zeroValue20
 t37 := Tryz.underlying60
 a37 := Tryz.isAgg60
 z37 := Tryz.sizeOf60
 v37 := Tryz.zeroValue60
 t46 := Tryz.underlying94
 a46 := Tryz.isAgg94
 z46 := Tryz.sizeOf94
 v46 := Tryz.zeroValue94
 t51 := Tryz.underlying138
 a51 := Tryz.isAgg138
 z51 := Tryz.sizeOf138
 v51 := Tryz.zeroValue138
 t53 := Tryz.underlying106
 a53 := Tryz.isAgg106
 z53 := Tryz.sizeOf106
 v53 := Tryz.zeroValue106
 t171 := Tryz.underlying115
 a171 := Tryz.isAgg115
 z171 := Tryz.sizeOf115
 v171 := Tryz.zeroValue115
 t173 := Tryz.underlying118
 a173 := Tryz.isAgg118
 z173 := Tryz.sizeOf118
 v173 := Tryz.zeroValue118
 t212 := Tryz.underlying137
 a212 := Tryz.isAgg137
 z212 := Tryz.sizeOf137
 v212 := Tryz.zeroValue137
 t213 := Tryz.underlying139
 a213 := Tryz.isAgg139
 z213 := Tryz.sizeOf139
 t232 := Tryz.underlying160
 a232 := Tryz.isAgg160
 z232 := Tryz.sizeOf160
 v232 := Tryz.zeroValue160
 t233 := Tryz.underlying161
 a233 := Tryz.isAgg161
 z233 := Tryz.sizeOf161
 v233 := Tryz.zeroValue161
 g17 := by kernel_rfl
 g18 := by kernel_rfl
 g19 := by kernel_rfl
 i0 := by kernel_rfl
 i2 := by kernel_rfl
 i3 := by kernel_rfl
 i4 := by kernel_rfl
 i5 := by kernel_rfl
 i9 := by kernel_rfl
 i20 := by kernel_rfl
 i37 := by kernel_rfl
 i46 := by kernel_rfl
 i51 := by kernel_rfl
 i53 := by kernel_rfl
 i171 := by kernel_rfl
 i173 := by kernel_rfl
 i212 := by kernel_rfl
 i232 := by kernel_rfl
 i233 := by kernel_rfl
 m17 := by kernel_rfl
 m18 := by kernel_rfl
 m19 := by kernel_rfl }
open Go.RowKit Go.Sort Go.Lib in
theorem Tryz.strconv_Itoa (n : Int) (h0 : -9223372036854775808 ≤ n) (h1 : n ≤ 9223372036854775807) (w : World) (htab : Lib.TabIs Tryz.prog w "internal/strconv.uint64pow10" .u64 Lib.pow10Tab) :
   Calls Tryz.prog 30 #[.int .i64 n] w fun e w' => e = .returned (.string ⟨(Lib.itoa n).toArray⟩) ∧ ∃ k os, w' = grow (w.drewN k) os := Any.strconv_Itoa Tryz.laysM171 n h0 h1 w htab
open Go.RowKit Go.Sort Go.Lib in
def Tryz.laysC172_ren : Go.Shelf.Ren := ⟨fun | 172 => 32 | 244 => 59 | 245 => 60 | 247 => 82 | 279 => 83 | 280 => 84 | 281 => 85 | 282 => 86 | 287 => 107 | 316 => 108 | 171 => 30 | 205 => 109 | 321 => 127 | 322 => 128 | 243 => 54 | 246 => 78 | 283 => 101 | 284 => 102 | 285 => 103 | 286 => 104 | 129 => 120 | 317 => 119 | 318 => 121 | 319 => 122 | 320 => 123 | 337 => 137 | 338 => 138 | n => n, fun | 9 => 9 | 3 => 3 | 75 => 50 | 76 => 51 | 4 => 4 | 5 => 5 | 167 => 99 | 37 => 60 | 0 => 0 | 85 => 100 | 2 => 2 | 168 => 102 | 53 => 106 | 175 => 121 | 46 => 94 | 210 => 124 | 127 => 92 | 145 => 150 | 143 => 148 | 21 => 21 | 171 => 115 | 173 => 118 | 212 => 137 | 51 => 138 | 20 => 20 | 213 => 139 | 232 => 160 | 233 => 161 | 80 => 64 | n => n, fun | 15 => 1 | 16 => 2 | 17 => 3 | 18 => 6 | 19 => 7 | n => n⟩
theorem Tryz.laysC172 : Go.Proofs.LaysC.n172 Tryz.prog Tryz.laysC172_ren := {
 mixed := by kernel_rfl
 f129 := Tryz.func120.trans (congrArg some (by kernel_rfl))
 f171 := Tryz.func30.trans (congrArg some (by kernel_rfl))
 f172 := Tryz.func32.trans (congrArg some (by kernel_rfl))
 f205 := Tryz.func109.trans (congrArg some (by kernel_rfl))
 f243 := Tryz.func54.trans (congrArg some (by kernel_rfl))
 f244 := Tryz.func59.trans (congrArg some (by kernel_rfl))
 f245 := Tryz.func60.trans (congrArg some (by kernel_rfl))
 f246 := Tryz.func78.trans (congrArg some (by kernel_rfl))
 f247 := Tryz.func82.trans (congrArg some (by kernel_rfl))
 f279 := Tryz.func83.trans (congrArg some (by kernel_rfl))
 f280 := Tryz.func84.trans (congrArg some (by kernel_rfl))
 f281 := Tryz.func85.trans (congrArg some (by kernel_rfl))
 f282 := Tryz.func86.trans (congrArg some (by kernel_rfl))
 f283 := Tryz.func101.trans (congrArg some (by kernel_rfl))
 f284 := Tryz.func102.trans (congrArg some (by kernel_rfl))
 f285 := Tryz.func103.trans (congrArg some (by kernel_rfl))
 f286 := Tryz.func104.trans (congrArg some (by kernel_rfl))
 f287 := Tryz.func107.trans (congrArg some (by kernel_rfl))
 f316 := Tryz.func108.trans (congrArg some (by kernel_rfl))
 f317 := Tryz.func119.trans (congrArg some (by kernel_rfl))
 f318 := Tryz.func121.trans (congrArg some (by kernel_rfl))
 f319 := Tryz.func122.trans (congrArg some (by kernel_rfl))
 f320 := Tryz.func123.trans (congrArg some (by kernel_rfl))
 f321 := Tryz.func127.trans (congrArg some (by kernel_rfl))
 f322 := Tryz.func128.trans (congrArg some (by kernel_rfl))
 f337 := Tryz.func137.trans (congrArg some (by kernel_rfl))
 f338 := Tryz.func138.trans (congrArg some (by kernel_rfl))
 t0 := Tryz.underlying0
 a0 := Tryz.isAgg0
 z0 := Tryz.sizeOf0
 v0 := Tryz.zeroValue0
 t2 := Tryz.underlying2
 a2 := Tryz.isAgg2
 z2 := Tryz.sizeOf2
 v2 := Tryz.zeroValue2
 t3 := Tryz.underlying3
 a3 := Tryz.isAgg3
 z3 := Tryz.sizeOf3
 v3 := Tryz.zeroValue3
 t4 := Tryz.underlying4
 a4 := Tryz.isAgg4
 z4 := Tryz.sizeOf4
 v4 := Tryz.zeroValue4
 t5 := Tryz.underlying5
 a5 := Tryz.isAgg5
 z5 := Tryz.sizeOf5
 v5 := Tryz.zeroValue5
 t9 := Tryz.underlying9
 a9 := Tryz.isAgg9
 z9 := Tryz.sizeOf9
 v9 := Tryz.zeroValue9
 t20 := Tryz.underlying20
 a20 := Tryz.isAgg20
 z20 := Tryz.sizeOf20
 v20 := Tryz.zeroValue20
 t21 := Tryz.underlying21
 a21 := Tryz.isAgg21
 z21 := Tryz.sizeOf21
 v21 := Tryz.zeroValue21
 t37 := Tryz.underlying60
 a37 := Tryz.isAgg60
 z37 := Tryz.sizeOf60
 v37 := Tryz.zeroValue60
 t46 := Tryz.underlying94
 a46 := Tryz.isAgg94
 z46 := Tryz.sizeOf94
 v46 := Tryz.zeroValue94
 t51 := Tryz.underlying138
 a51 := Tryz.isAgg138
 z51 := Tryz.sizeOf138
 v51 := Tryz.zeroValue138
 t53 := Tryz.underlying106
 a53 := Tryz.isAgg106
 z53 := Tryz.sizeOf106
 v53 := Tryz.zeroValue106
 t75 := Tryz.underlying50
 a75 := Tryz.isAgg50
 z75 := Tryz.sizeOf50
 v75 := Tryz.zeroValue50
 t76 := Tryz.underlying51
 a76 := Tryz.isAgg51
 z76 := Tryz.sizeOf51
 v76 := Tryz.zeroValue51
 t85 := Tryz.underlying100
 a85 := Tryz.isAgg100
 z85 := Tryz.sizeOf100
 v85 := Tryz.zeroValue100
 t127 := Tryz.underlying92
 a127 := Tryz.isAgg92
 z127 := Tryz.sizeOf92
 v127 := Tryz.zeroValue92
 t143 := Tryz.underlying148
 a143 := Tryz.isAgg148
 z143 := Tryz.sizeOf148
 v143 := Tryz.zeroValue148
 t145 := Tryz.underlying150
 a145 := Tryz.isAgg150
 z145 := Tryz.sizeOf150
 v145 := Tryz.zeroValue150
 t167 := Tryz.underlying99
 a167 := Tryz.isAgg99
 z167 := Tryz.sizeOf99
 v167 := Tryz.zeroValue99
 t168 := Tryz.underlying102
 a168 := Tryz.isAgg102
 z168 := Tryz.sizeOf102
 v168 := Tryz.zeroValue102
 t171 := Tryz.underlying115
 a171 := Tryz.isAgg115
 z171 := Tryz.sizeOf115
 v171 := Tryz.zeroValue115
 t173 := Tryz.underlying118
 a173 := Tryz.isAgg118
 z173 := Tryz.sizeOf118
 v173 := Tryz.zeroValue118
 t175 := Tryz.underlying121
 a175 := Tryz.isAgg121
 z175 := Tryz.sizeOf121
 v175 := Tryz.zeroValue121
 t210 := Tryz.underlying124
 a210 := Tryz.isAgg124
 z210 := Tryz.sizeOf124
 v210 := Tryz.zeroValue124
 t212 := Tryz.underlying137
 a212 := Tryz.isAgg137
 z212 := Tryz.sizeOf137
 v212 := Tryz.zeroValue137
 t213 := Tryz.underlying139
 a213 := Tryz.isAgg139
 z213 := Tryz.sizeOf139
 t232 := Tryz.underlying160
 a232 := Tryz.isAgg160
 z232 := Tryz.sizeOf160
 v232 := Tryz.zeroValue160
 t233 := Tryz.underlying161
 a233 := Tryz.isAgg161
 z233 := Tryz.sizeOf161
 v233 := Tryz.zeroValue161
 g15 := by kernel_rfl
 g16 := by kernel_rfl
 g17 := by kernel_rfl
 g18 := by kernel_rfl
 g19 := by kernel_rfl
 t80 := Tryz.underlying64
 a80 := Tryz.isAgg64
 z80 := Tryz.sizeOf64
 v80 := Tryz.zeroValue64
 i0 := by kernel_rfl
 i2 := by kernel_rfl
 i3 := by kernel_rfl
 i4 := by kernel_rfl
 i5 := by kernel_rfl
 i9 := by kernel_rfl
 i20 := by kernel_rfl
 i21 := by kernel_rfl
 i37 := by kernel_rfl
 i46 := by kernel_rfl
 i51 := by kernel_rfl
 i53 := by kernel_rfl
 i75 := by kernel_rfl
 i76 := by kernel_rfl
 i80 := by kernel_rfl
 i85 := by kernel_rfl
 i127 := by kernel_rfl
 i143 := by kernel_rfl
 i145 := by kernel_rfl
 i167 := by kernel_rfl
 i168 := by kernel_rfl
 i171 := by kernel_rfl
 i173 := by kernel_rfl
 i175 := by kernel_rfl
 i210 := by kernel_rfl
 i212 := by kernel_rfl
 i232 := by kernel_rfl
 i233 := by kernel_rfl
 m15 := by kernel_rfl
 m16 := by kernel_rfl
 m17 := by kernel_rfl
 m18 := by kernel_rfl
 m19 := by kernel_rfl
 c0 := by kernel_rfl
 c2 := by kernel_rfl
 c3 := by kernel_rfl
 c4 := by kernel_rfl
 c5 := by kernel_rfl
 c9 := by kernel_rfl
 c20 := by kernel_rfl
 c21 := by kernel_rfl
 c37 := by kernel_rfl
 c46 := by kernel_rfl
 c51 := by kernel_rfl
 c53 := by kernel_rfl
 c75 := by kernel_rfl
 c76 := by kernel_rfl
 c80 := by kernel_rfl
 c85 := by kernel_rfl
 c127 := by kernel_rfl
 c143 := by kernel_rfl
 c145 := by kernel_rfl
 c167 := by kernel_rfl
 c168 := by kernel_rfl
 c171 := by kernel_rfl
 c173 := by kernel_rfl
 c175 := by kernel_rfl
 c210 := by kernel_rfl
 c212 := by kernel_rfl
 c213 := by kernel_rfl
 c232 := by kernel_rfl
 c233 := by kernel_rfl }
open Go.RowKit in
theorem Tryz.strconv_Atoi_ok (s : ByteArray) (hmax : s.size ≤ 9223372036854775806) (v : Int) (h : Lib.atoiAll s.data.toList = .ok v) (w : World) :
   Calls Tryz.prog 32 #[.string s] w fun e w' => e = .returned (.tuple #[.int .i64 v, .nilIface]) ∧ (w' = w ∨ ∃ t, w' = Lib.bytesWorld w 5 t) := Any.strconv_Atoi_ok Tryz.laysC172 s hmax v h w
open Go.RowKit in
theorem Tryz.strconv_Atoi_range (s : ByteArray) (hlim : s.size ≤ 281474976710656) (h : Lib.atoiAll s.data.toList = .range) (ev : Value) (w : World) (hv : w.cell? ⟨2, 0, none⟩ = some ev) (hev : ev = .nilIface ∨ ∃ te pe, ev = .iface te pe) :
   Calls Tryz.prog 32 #[.string s] w fun e w' => ∃ N, e = .returned (.tuple #[.int .i64 (Lib.atoiSat s.data.toList), .iface 102 (.pointer (some ⟨N, 0, none⟩))]) ∧ w.heap.size ≤ N ∧ w'.heap[N]? = some (.cells #[.string ⟨#[65, 116, 111, 105]⟩, .string s, ev] 124 (0, 0)) ∧ Below w.heap.size w w' := Any.strconv_Atoi_range Tryz.laysC172 s hlim h ev w hv hev
end Go.Proofs
namespace Go.Pv
set_option maxRecDepth 100000
open Go Go.Proofs
noncomputable def gJ (w : World) : Prop := Lib.TabIs Tryz.prog w "internal/strconv.uint64pow10" .u64 Lib.pow10Tab ∧
 (∃ ev, w.cell? ⟨1, 0, none⟩ = some ev ∧ (ev = .nilIface ∨ ∃ te pe, ev = .iface te pe)) ∧ ∃ ev, w.cell? ⟨2, 0, none⟩ = some ev ∧ (ev = .nilIface ∨ ∃ te pe, ev = .iface te pe)
theorem glob3 : Tryz.prog.globalNamed "internal/strconv.uint64pow10" = some 3 := by kernel_rfl
theorem oj : OnGlobals gJ 8 := fun w w' h hJ => by
 obtain ⟨h1, ⟨e1, a1, b1⟩, e2, a2, b2⟩ := hJ
 refine ⟨?_, ⟨e1, ?_, b1⟩, e2, ?_, b2⟩
 · unfold Lib.TabIs World.var? at h1 ⊢
   rw [glob3] at h1 ⊢
   simp only [Option.bind_some] at h1 ⊢
   rw [h 3 (by decide)]
   exact h1
 · rw [cell_heap (h 1 (by decide))]; exact a1
 · rw [cell_heap (h 2 (by decide))]; exact a2
abbrev gN (w : World) : Prop := gI w ∧ gJ w
theorem onN : OnGlobals gN 8 := fun w w' h hI => ⟨og w w' h hI.1, oj w w' h hI.2⟩
theorem con_and {P : Program} {I J : World → Prop} {ng : Nat} {f : FuncId} {F : Fn1} (h : Contract P I ng f F) (hg : OnGlobals J ng) : Contract P (fun w => I w ∧ J w) ng f F := by
 intro cargs rv outs hF S vals hH ok hng hI hv
 refine (h cargs rv outs hF S vals hH ok hng hI.1 hv).mono ?_
 rintro e w' ⟨v, S', u, rfl, rfl, ok', K, hI', rest⟩
 exact ⟨v, S', u, rfl, rfl, ok', K, ⟨hI', K.inv ok (by rw [hng]; exact hg) hI.2⟩, rest⟩
theorem kn_and {P : Program} {I J : World → Prop} {ng : Nat} {tb : Table} (h : Known P I ng tb) (hg : OnGlobals J ng) : Known P (fun w => I w ∧ J w) ng tb := fun f => con_and (h f) hg
abbrev Cn (f : FuncId) (F : Fn1) : Prop := Contract Tryz.prog gN 8 f F
abbrev Knn (tb : Table) : Prop := Known Tryz.prog gN 8 tb
theorem int1 {S : St} {k : IntKind} {n : Int} {vals : Array Value} (h : All2 (Vc S) [.int k n] vals.toList) : vals = #[.int k n] := by
 obtain ⟨l⟩ := vals
 cases h with
 | cons h1 h2 => cases h1; cases h2; rfl
theorem n31 : Cn 31 L31z := contract_new onN fun cargs rv outs h => by
 unfold L31z at h
 split at h <;> first | (cases h; done) | skip
 rename_i s
 cases h
 refine ⟨rfl, rfl, fun S vals ok hI hv => ?_⟩
 have hv' := str2 hv
 subst hv'
 refine (Tryz.strings_TrimLeft_one s 48 (by decide) S.w).mono ?_
 rintro e w' ⟨rfl, rfl⟩
 exact ⟨_, rfl, RowKit.Below.refl _ _, fun S' hw hι hF => .res (.val (.cell (.data (.str _))))⟩
theorem n32 : Cn 32 L32z := contract_new onN fun cargs rv outs h => by
 unfold L32z at h
 split at h <;> first | (cases h; done) | skip
 rename_i s
 by_cases hs : s.size ≤ 10000
 · simp only [picked, pickAlt, decide_eq_true hs, Bool.true_and] at h
   cases ha : Lib.atoiAll s.data.toList
   · rename_i v
     have e1 : aOk s = true := by unfold aOk; rw [ha]
     have e2 : aV s = v := by unfold aV; rw [ha]
     rw [e1, e2] at h
     cases h
     refine ⟨rfl, rfl, fun S vals ok hI hv => ?_⟩
     have hv' := str1 hv
     subst hv'
     refine (Tryz.strconv_Atoi_ok s (by omega) v ha S.w).mono ?_
     rintro e w' ⟨rfl, hw⟩
     refine ⟨_, rfl, ?_, fun S' hw hι hF => .tup (tup_data (.cons (.int _ _) (.cons .nilif .nil)))⟩
     rcases hw with rfl | ⟨t, rfl⟩
     · exact RowKit.Below.refl _ _
     · exact Lib.bytesWorld_below _ _ _
   · have e1 : aOk s = false := by unfold aOk; rw [ha]
     have e2 : aV s = 0 := by unfold aV; rw [ha]
     rw [e1, e2] at h
     cases h
     refine ⟨rfl, rfl, fun S vals ok hI hv => ?_⟩
     have hv' := str1 hv
     subst hv'
     obtain ⟨_, _, ⟨ev, h1, h2⟩, _⟩ := hI
     refine (Any.strconv_Atoi_syntax Tryz.laysC172 s (by omega) ha ev S.w h1 h2).mono ?_
     rintro e w' ⟨N, rfl, _, _, hB⟩
     exact ⟨_, rfl, hB, fun S' hw hι hF => .tup (tup_data (.cons (.int _ _) (.cons (.err _ _) .nil)))⟩
   · have e1 : aOk s = false := by unfold aOk; rw [ha]
     have e2 : aV s = Lib.atoiSat s.data.toList := by unfold aV; rw [ha]
     rw [e1, e2] at h
     cases h
     refine ⟨rfl, rfl, fun S vals ok hI hv => ?_⟩
     have hv' := str1 hv
     subst hv'
     obtain ⟨_, _, _, ev, h1, h2⟩ := hI
     refine (Tryz.strconv_Atoi_range s (by omega) ha ev S.w h1 h2).mono ?_
     rintro e w' ⟨N, rfl, _, _, hB⟩
     exact ⟨_, rfl, hB, fun S' hw hι hF => .tup (tup_data (.cons (.int _ _) (.cons (.err _ _) .nil)))⟩
 · simp only [picked, pickAlt, decide_eq_false hs, Bool.false_and] at h; cases h
def L30z : Fn1 := fun x => match x with
 | [.int .i64 n] => some [(decide (0 ≤ n) && decide (n < 100000), .str (decS n), [])]
 | _ => none
theorem n30 : Cn 30 L30z := contract_new onN fun cargs rv outs h => by
 unfold L30z at h
 split at h <;> first | (cases h; done) | skip
 rename_i n
 by_cases hn : 0 ≤ n ∧ n < 100000
 · simp only [picked, pickAlt, decide_eq_true hn.1, decide_eq_true hn.2, Bool.true_and] at h
   cases h
   refine ⟨rfl, rfl, fun S vals ok hI hv => ?_⟩
   have hv' := int1 hv
   subst hv'
   refine (Tryz.strconv_Itoa n (by omega) (by omega) S.w hI.2.1).mono ?_
   rintro e w' ⟨rfl, k, os, rfl⟩
   refine ⟨_, rfl, Lib.below_grow _ _ (Nat.le_refl _) k os, fun S' hw hι hF => ?_⟩
   have e : Lib.itoa n = Lib.decDigits n.toNat := by unfold Lib.itoa; rw [if_neg (by omega)]
   rw [e]
   exact .res (.val (.cell (.data (.str _))))
 · have e : (decide (0 ≤ n) && decide (n < 100000)) = false := by simp; omega
   simp only [picked, pickAlt, e] at h
   cases h
end Go.Pv
