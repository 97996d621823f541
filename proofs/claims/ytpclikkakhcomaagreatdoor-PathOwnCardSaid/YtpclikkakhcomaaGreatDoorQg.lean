/- strings.Split at one byte, strings.Cut at '::', the last rune: what the shelf says, as the specs say it. -/
import Derived.Test.YtpclikkakhcomaaGreatDoorQf
import Derived.Lib.SplitLaws
import Derived.Test.YtpclikkakhcomaaGreatDoorQc
import Derived.Lib.IndexLaws

namespace Go.Pv
set_option linter.unusedVariables false
set_option maxRecDepth 100000
open Go Go.Proofs

theorem split_eq (c : UInt8) : ∀ s : List UInt8, Lib.splitK [c] 0 (Lib.count s [c]) s = splitL c s
  | [] => by
    rw [Lib.count_miss (by simp [Lib.index])]
    rfl
  | b :: l => by
    have ih := split_eq c l
    by_cases h : b = c
    · subst h
      rw [Lib.count_cons_eq, Nat.add_comm]
      have hix : Lib.index (b :: l) [b] = 0 := by rw [Lib.index]; simp [List.isPrefixOf]
      have e1 : Lib.splitK [b] 0 (Lib.count l [b] + 1) (b :: l) = [] :: Lib.splitK [b] 0 (Lib.count l [b]) l := by
        rw [Lib.splitK, hix]
        rfl
      have e2 : splitL b (b :: l) = [] :: splitL b l := by rw [splitL, if_pos rfl]
      rw [e1, e2, ih]
    · rw [Lib.count_cons_ne b c l h]
      have hp : ([c] : List UInt8).isPrefixOf (b :: l) = false := by simp [List.isPrefixOf, Ne.symm h]
      have hix : Lib.index (b :: l) [c] = if Lib.index l [c] == -1 then -1 else Lib.index l [c] + 1 := by rw [Lib.index, hp]; simp
      by_cases hm : Lib.index l [c] = -1
      · rw [Lib.count_miss hm] at ih ⊢
        rw [splitL, if_neg h, ← ih]
        rfl
      · have hge := Lib.index_ge l [c]
        obtain ⟨j, hj⟩ : ∃ j : Nat, Lib.index l [c] = j := ⟨(Lib.index l [c]).toNat, by omega⟩
        have hix' : Lib.index (b :: l) [c] = ((j + 1 : Nat) : Int) := by rw [hix, if_neg (fun e => hm (beq_iff_eq.1 e)), hj]; omega
        have hk : Lib.count l [c] = Lib.count (l.drop (j + 1)) [c] + 1 := by
          rw [Lib.count_hit (by simp) hj]
          simp [Nat.add_comm]
        rw [hk] at ih ⊢
        have n1 : ¬ (Lib.index l [c] == -1) = true := fun e => hm (beq_iff_eq.1 e)
        have n2 : ¬ (Lib.index (b :: l) [c] == -1) = true := fun e => by
          have := beq_iff_eq.1 e
          rw [hix'] at this; omega
        rw [Lib.splitK, if_neg n1, hj] at ih
        rw [Lib.splitK, if_neg n2, hix', splitL, if_neg h, ← ih]
        simp only [Int.toNat_natCast, Nat.add_zero, List.take_succ_cons, List.length_singleton, List.drop_succ_cons]

theorem cut_eq2 : ∀ s : List UInt8, Lib.cut s [58, 58] = match cutDD s with
    | some (h, t) => (h, t, true)
    | none => (s, [], false)
  | [] => rfl
  | a :: t => by
    have ih := cut_eq2 t
    unfold cutDD
    by_cases h : a = 58 ∧ t.head? = some 58
    · rw [if_pos h]
      obtain ⟨rfl, h2⟩ := h
      cases t with
      | nil => cases h2
      | cons b t =>
        cases h2
        have hix : Lib.index (58 :: 58 :: t) [58, 58] = 0 := by rw [Lib.index]; simp [List.isPrefixOf]
        unfold Lib.cut
        rw [hix]
        rfl
    · rw [if_neg h]
      have hp : ([58, 58] : List UInt8).isPrefixOf (a :: t) = false := by
        cases t with
        | nil => simp [List.isPrefixOf]
        | cons b t =>
          simp only [List.isPrefixOf, Bool.and_true]
          refine Bool.eq_false_iff.2 fun hh => h ?_
          simp only [Bool.and_eq_true, beq_iff_eq] at hh
          exact ⟨hh.1.symm, by rw [List.head?_cons, hh.2]⟩
      have hix : Lib.index (a :: t) [58, 58] = if Lib.index t [58, 58] == -1 then -1 else Lib.index t [58, 58] + 1 := by rw [Lib.index, hp]; simp
      have hge := Lib.index_ge t [58, 58]
      unfold Lib.cut at ih ⊢
      by_cases hm : Lib.index t [58, 58] = -1
      · rw [hix, if_pos (beq_iff_eq.2 hm)]
        rw [hm] at ih
        cases hc : cutDD t with
        | none => rfl
        | some x =>
          rw [hc] at ih
          have := congrArg (fun x => x.2.2) ih
          cases this
      · rw [hix, if_neg (fun e => hm (beq_iff_eq.1 e))]
        rw [if_pos (by omega)] at ih
        rw [if_pos (by omega)]
        cases hc : cutDD t with
        | none =>
          rw [hc] at ih
          have := congrArg (fun x => x.2.2) ih
          cases this
        | some x =>
          rw [hc] at ih
          have e : (Lib.index t [58, 58] + 1).toNat = (Lib.index t [58, 58]).toNat + 1 := by omega
          rw [e]
          have e1 := congrArg (fun x => x.1) ih
          have e2 := congrArg (fun x => x.2.1) ih
          show _ = (a :: x.1, x.2, true)
          simp only at e1 e2
          rw [← e1, ← e2]
          rw [List.take_succ_cons]
          congr 2

end Go.Pv

/- The shelf's three contracts. -/
namespace Go.Pv
set_option linter.unusedVariables false
set_option maxRecDepth 100000
open Go Go.Proofs

/-- What the package variables hold. -/
def gI (w : World) : Prop := (∃ m, w.cell? ⟨0, 0, none⟩ = some (.int .i64 m)) ∧ Lib.Utf8Tabs 4 5 w
theorem cell_heap {w w' : World} {b : Nat} (h : w'.heap[b]? = w.heap[b]?) (off : Nat) : w'.cell? ⟨b, off, none⟩ = w.cell? ⟨b, off, none⟩ := by
  unfold World.cell?
  rw [h]
theorem og : OnGlobals gI 8 := fun w w' h hI => by
  obtain ⟨⟨m, hm⟩, h1, h2⟩ := hI
  refine ⟨⟨m, ?_⟩, fun c hc => ?_, fun i hi => ?_⟩
  · rw [cell_heap (h 0 (by decide))]; exact hm
  · rw [cell_heap (h 4 (by decide))]; exact h1 c hc
  · rw [cell_heap (h 5 (by decide)), cell_heap (h 5 (by decide))]; exact h2 i hi
theorem str2 {S : St} {a b : ByteArray} {vals : Array Value} (h : All2 (Vc S) [.str a, .str b] vals.toList) : vals = #[.string a, .string b] := by
  obtain ⟨l⟩ := vals
  cases h with
  | cons h1 h2 =>
    cases h1
    cases h2 with
    | cons h3 h4 => cases h3; cases h4; rfl
theorem str1 {S : St} {a : ByteArray} {vals : Array Value} (h : All2 (Vc S) [.str a] vals.toList) : vals = #[.string a] := by
  obtain ⟨l⟩ := vals
  cases h with
  | cons h1 h2 => cases h1; cases h2; rfl
theorem fl1 (L : List ByteArray) : elemCells (L.map CV.str) = L.map CV.str := by
  induction L with
  | nil => rfl
  | cons a L ih =>
    show _ :: elemCells (L.map CV.str) = _
    rw [ih]
    rfl
theorem all_str (S : St) : ∀ L : List ByteArray, All2 (Vc S) (L.map CV.str) (L.map Value.string)
  | [] => .nil
  | a :: L => .cons (.str a) (all_str S L)
theorem h70 : Cw gI 8 132 L70 := contract_new og fun cargs rv outs h => by
  unfold L70 at h
  split at h <;> first | (cases h; done) | skip
  rename_i s c
  by_cases hs : s.size ≤ 10000
  · simp only [picked, pickAlt, decide_eq_true hs] at h
    cases h
    refine ⟨rfl, rfl, fun S vals ok hI hv => ?_⟩
    have hv' := str2 hv
    subst hv'
    obtain ⟨⟨m, hm⟩, hT⟩ := hI
    refine (Tryz.strings_Split s ⟨#[c]⟩ m S.w (by omega) hm (Nat.le_refl _)).mono ?_
    rintro e w' ⟨rfl, rfl⟩
    refine ⟨_, rfl, ?_, fun S' hw hι hF => ?_⟩
    · exact RowKit.Below.alloc (RowKit.Below.refl _ _) (Nat.le_refl _) _
    · have hl : (Lib.splitB ⟨#[c]⟩ 0 (Lib.countB s ⟨#[c]⟩) s).length = Lib.countB s ⟨#[c]⟩ + 1 := Lib.splitB_all _ (Nat.le_refl _) 0 _ _ rfl
      have hx : spS s c = (Lib.splitB ⟨#[c]⟩ 0 (Lib.countB s ⟨#[c]⟩) s).map CV.str := by
        unfold spS
        rw [← split_eq]
        have := Lib.splitB_data ⟨#[c]⟩ 0 (Lib.countB s ⟨#[c]⟩) s
        have e : Lib.splitK [c] 0 (Lib.count s.data.toList [c]) s.data.toList = (Lib.splitB ⟨#[c]⟩ 0 (Lib.countB s ⟨#[c]⟩) s).map (·.data.toList) := this.symm
        rw [e, List.map_map]
        refine List.map_congr_left fun b _ => ?_
        show CV.str (mkS b.data.toList) = CV.str b
        rw [mkS_bl]
      rw [hx]
      generalize Lib.splitB ⟨#[c]⟩ 0 (Lib.countB s ⟨#[c]⟩) s = L at hl hw ⊢
      rw [← hl]
      have hlen : L.length = (L.map CV.str).length := (List.length_map ..).symm
      refine .res (.val (.cell (.data ?_)))
      have key := Vc.sl (S := S') false 1 (L.map CV.str) ⟨S.w.heap.size, 0, none⟩ L.length (L.map Value.string) (fun e he => ?_) ?_ ?_ (by rw [List.length_map]; exact Nat.le_refl _) (fun h => by cases h)
      · rw [List.length_map] at key
        exact key
      · obtain ⟨b, _, rfl⟩ := List.mem_map.1 he
        rfl
      · rw [fl1]; exact all_str S' L
      · intro j v hj
        have hv1 : v.oneCell' = true := by
          rw [List.getElem?_map] at hj
          cases hL : L[j]? with
          | none => rw [hL] at hj; cases hj
          | some b => rw [hL] at hj; cases hj; rfl
        refine ⟨rfl, ⟨fun hf => Nat.lt_irrefl _ (hF _ _ hf), fun r hr => ?_⟩, ?_, hv1⟩
        · rw [hι r] at hr; cases hr
        · rw [hw]
          unfold World.cell? World.alloc
          simp
          simpa using hj
  · simp only [picked, pickAlt, decide_eq_false hs] at h; cases h
theorem h28 : Cw gI 8 73 L28d := contract_new og fun cargs rv outs h => by
  unfold L28d at h
  split at h <;> first | (cases h; done) | skip
  rename_i s
  by_cases hs : s.size ≤ 10000
  · simp only [picked, pickAlt, decide_eq_true hs] at h
    cases h
    refine ⟨rfl, rfl, fun S vals ok hI hv => ?_⟩
    have hv' := str2 hv
    subst hv'
    obtain ⟨⟨m, hm⟩, hT⟩ := hI
    refine (Tryz.strings_Cut s ⟨#[58, 58]⟩ m S.w (by omega) hm).mono ?_
    rintro e w' ⟨rfl, n, rfl⟩
    refine ⟨_, rfl, ⟨rfl, rfl, rfl, Nat.le_refl _, fun _ _ => rfl⟩, fun S' hw hι hF => ?_⟩
    have hc : Lib.cut s.data.toList [58, 58] = ((ddH s).data.toList, (ddT s).data.toList, ddG s) := by
      rw [cut_eq2]
      unfold ddH ddT ddG
      cases cutDD s.data.toList with
      | none => rfl
      | some x => rfl
    show AllR S' _ (.tuple #[.string ⟨(Lib.cut s.data.toList [58, 58]).1.toArray⟩, .string ⟨(Lib.cut s.data.toList [58, 58]).2.1.toArray⟩, .bool (Lib.cut s.data.toList [58, 58]).2.2]) []
    rw [hc]
    have e : ∀ x : ByteArray, (⟨x.data.toList.toArray⟩ : ByteArray) = x := fun x => by cases x; simp
    simp only [e]
    exact .tup (tup_data (.cons (.str _) (.cons (.str _) (.cons (.bool _) .nil))))
  · simp only [picked, pickAlt, decide_eq_false hs] at h; cases h
theorem h52 : Cw gI 8 112 L52 := contract_new og fun cargs rv outs h => by
  unfold L52 at h
  split at h <;> first | (cases h; done) | skip
  rename_i s
  by_cases hs : s.size ≤ 10000
  · simp only [picked, pickAlt, decide_eq_true hs] at h
    cases h
    refine ⟨rfl, rfl, fun S vals ok hI hv => ?_⟩
    have hv' := str1 hv
    subst hv'
    refine (Tryz.utf8_DecodeLastRuneInString s S.w (by omega) hI.2).mono ?_
    rintro e w' ⟨rfl, B⟩
    exact ⟨_, rfl, B, fun S' hw hι hF => .tup (tup_data (.cons (.int _ _) (.cons (.int _ _) .nil)))⟩
  · simp only [picked, pickAlt, decide_eq_false hs] at h; cases h

end Go.Pv

/- Paths without dots: contracts of what is called; the loop of 'undotted'. -/
namespace Go.Pv
set_option linter.unusedVariables false
set_option maxRecDepth 100000
open Go Go.Proofs

abbrev I0 : World → Prop := gI
theorem on0 : OnGlobals I0 8 := og
abbrev Kn (tb : Table) : Prop := Known Tryz.prog I0 8 tb
abbrev Ct (f : FuncId) (F : Fn1) : Prop := Contract Tryz.prog I0 8 f F

theorem pre_list (l p : List UInt8) : pre (mkS l) (mkS p) = p.isPrefixOf l := by
  unfold pre
  rw [mkS_ext, mkS_toList, mkS_toList, mkS_size, mkS_size, List.drop_zero, Nat.sub_zero, Bool.eq_iff_iff, Bool.and_eq_true, decide_eq_true_eq, beq_iff_eq, List.isPrefixOf_iff_prefix, List.prefix_iff_eq_take]
  constructor
  · rintro ⟨_, h⟩; exact h.symm
  · intro h
    refine ⟨?_, h.symm⟩
    have := congrArg List.length h
    rw [List.length_take] at this
    omega
theorem pre_len {l p : List UInt8} (h : p.isPrefixOf l = true) : p.length ≤ l.length := (List.isPrefixOf_iff_prefix.1 h).length_le

/-! ### Contracts -/
theorem d65 : Ct 65 P38 := contract_of (fun _ => none) on0 (hok_of known_no) fun cargs rv outs h => by
  unfold P38 at h
  split at h
  · cases h; exact ⟨1, tree65 _ _⟩
  · cases h
theorem e65 : Kn U65 := known_add known_no d65
theorem d63 : Ct 63 P36 := contract_of (fun _ => none) on0 (hok_of e65) fun cargs rv outs h => by
  unfold P36 at h
  split at h
  · rename_i s p
    cases h
    refine ⟨1, ?_⟩
    rw [tree63]
    rw [← mkS_bl s, ← mkS_bl p, pre_list]
    generalize s.data.toList = l
    generalize p.data.toList = q
    rw [bif_dec]
    by_cases hq : q.length ≤ l.length
    · rw [if_pos (by rw [mkS_size, mkS_size]; omega), bif_dec, if_pos (by rw [mkS_size, mkS_size]; omega)]
      rw [mkS_ext, mkS_toList, mkS_toList]
      congr 3
      rw [Bool.eq_iff_iff, beq_iff_eq, List.isPrefixOf_iff_prefix, List.prefix_iff_eq_take]
      simp [mkS_size]
      exact eq_comm
    · rw [if_neg (by rw [mkS_size, mkS_size]; omega)]
      congr 3
      refine (Bool.eq_false_iff.2 fun h => hq (pre_len h)).symm
  · cases h
theorem e63 : Kn U63 := known_add e65 d63
theorem d64 : Ct 64 P37 := contract_of (fun _ => none) on0 (hok_of e63) fun cargs rv outs h => by
  unfold P37 at h
  split at h
  · rename_i s p
    refine ⟨1, ?_⟩
    rw [tree64]
    cases hp : pre s p with
    | true =>
      rw [hp] at h
      cases h
      have hl : p.size ≤ s.size := by
        rw [← mkS_bl s, ← mkS_bl p, pre_list] at hp
        exact pre_len hp
      rw [bif_t _ _ rfl, bif_dec, if_pos (by omega), bif_dec, if_pos (by omega)]
      simp
    | false =>
      rw [hp] at h
      cases h
      rw [bif_f _ _ rfl]
  · cases h
theorem e64 : Kn U64 := known_add e63 d64
theorem d36 : Ct 36 P36 := contract_of (fun _ => none) on0 (hok_of e64) fun cargs rv outs h => by
  unfold P36 at h
  split at h
  · cases h; exact ⟨1, tree36 _ _⟩
  · cases h
theorem e36 : Kn U36 := known_add e64 d36
theorem d37 : Ct 37 P37 := contract_of (fun _ => none) on0 (hok_of e36) fun cargs rv outs h => by
  unfold P37 at h
  split at h
  · rename_i s p
    refine ⟨1, ?_⟩
    rw [tree37]
    cases hp : pre s p with
    | true => rw [hp] at h; cases h; rfl
    | false => rw [hp] at h; cases h; rfl
  · cases h
theorem e37 : Kn U37 := known_add e36 d37
theorem d38 : Ct 38 P38 := contract_of (fun _ => none) on0 (hok_of e37) fun cargs rv outs h => by
  unfold P38 at h
  split at h
  · cases h; exact ⟨1, tree38 _ _⟩
  · cases h
theorem e38 : Kn U38 := known_add e37 d38
theorem d39 : Ct 39 PJoin := fun cargs rv outs h => c39 on0 cargs rv outs (by
  unfold PJoin at h
  unfold FJoin
  exact h)
theorem e39 : Kn U39 := known_add e38 d39

/-! ### The loop -/
/-- How long the first part of a path is. -/
def seg (s : List UInt8) : Nat := 1 + ((s.drop 1).takeWhile (· != 47)).length
theorem seg_index (t : List UInt8) : (Lib.indexByte t 47 = -1 ∧ (t.takeWhile (· != 47)).length = t.length) ∨ (Lib.indexByte t 47 = ((t.takeWhile (· != 47)).length : Int) ∧ (t.takeWhile (· != 47)).length < t.length) := by
  induction t with
  | nil => exact .inl ⟨rfl, rfl⟩
  | cons b t ih =>
    unfold Lib.indexByte
    by_cases hb : b = 47
    · subst hb
      exact .inr ⟨by simp, by simp⟩
    · have h1 : (b == 47) = false := by simpa using hb
      have h2 : (b :: t).takeWhile (· != 47) = b :: t.takeWhile (· != 47) := by
        rw [List.takeWhile_cons_of_pos (by simpa using hb)]
      rw [h1, h2]
      simp only [Bool.false_eq_true, if_false, List.length_cons]
      rcases ih with ⟨i1, i2⟩ | ⟨i1, i2⟩
      · exact .inl ⟨by rw [i1]; rfl, by omega⟩
      · refine .inr ⟨?_, by omega⟩
        rw [i1, if_neg (by simp)]
        rfl

def und : Nat → List UInt8 → List (List UInt8) → List (List UInt8)
  | 0, _, l => l
  | k + 1, s, l =>
    if s = [] then l
    else if [46, 46, 47].isPrefixOf s = true then und k (s.drop 3) l
    else if [46, 47].isPrefixOf s = true then und k (s.drop 2) l
    else if [47, 46, 47].isPrefixOf s = true then und k (s.drop 2) l
    else if s = [47, 46] then und k [47] l
    else if [47, 46, 46, 47].isPrefixOf s = true then und k (s.drop 3) l.dropLast
    else if s = [47, 46, 46] then und k [47] l.dropLast
    else if s = [46] ∨ s = [46, 46] then und k [] l
    else und k (s.drop (seg s)) (l ++ [s.take (seg s)])

def cvs (l : List (List UInt8)) : List CV := l.map fun b => .str (mkS b)
theorem cvs_len (l : List (List UInt8)) : (cvs l).length = l.length := by simp [cvs]
theorem cvs_all (l : List (List UInt8)) : (cvs l).all isStrC = true := by
  simp [cvs, isStrC]
theorem cvs_parts (l : List (List UInt8)) : partsOf (cvs l) = l := by
  simp [partsOf, cvs, CV.toStr, mkS_data, Function.comp_def]
theorem join_flat : ∀ l : List (List UInt8), Lib.join l [] = l.flatten
  | [] => rfl
  | x :: l => by
    rw [Lib.join_cons]
    simp [Lib.joinTail]
theorem bytes9 : Tryz.prog.types[9].bytes = 16 := by kernel_rfl

theorem pre3 {l : List UInt8} {a b c d : UInt8} (h : [a, b, c, d].isPrefixOf l = true) : ∃ t, l = a :: b :: c :: d :: t := by
  obtain ⟨t, ht⟩ := List.isPrefixOf_iff_prefix.1 h
  exact ⟨t, by rw [← ht]; rfl⟩

theorem t0 : Int.toNat 0 = 0 := rfl
theorem t1 : Int.toNat 1 = 1 := rfl
theorem t2 : Int.toNat 2 = 2 := rfl
theorem t3 : Int.toNat 3 = 3 := rfl
theorem t47 : (Int.toNat 47).toUInt8 = 47 := rfl
theorem take_end (l : List UInt8) (j : Nat) : (l.drop j).take (l.length - j) = l.drop j := by
  rw [List.take_of_length_le (by simp)]
def e19 (s : List UInt8) : Env := mkEnv 66 [(0, .c (.str (mkS s))), (3, .rw 0 0)]
def H19 (l : List (List UInt8)) : Hp := [.row (cvs l) 1 0 false]
theorem cvs_cut (l : List (List UInt8)) (j : Nat) : (cvs l).take j = cvs (l.take j) := by simp [cvs, List.map_take]
theorem cvs_add (l : List (List UInt8)) (b : List UInt8) : cvs l ++ [.str (mkS b)] = cvs (l ++ [b]) := by simp [cvs]
/-- One round. -/
theorem step19 (n : Nat) (s : List UInt8) (l : List (List UInt8)) (R : Env → Hp → Res) (h1 : s.length ≤ 10000) (h2 : l.length ≤ 10000) (h3 : l.flatten.length ≤ 10000) :
    round Tryz.prog (call' U39) (filt an19 0) n ⟨[0, 3], [(3, 1)], 0⟩ (codeOf Tryz.prog 19) (e19 s) (H19 l) R (endOf Tryz.prog 19 []) =
    if s = [] then some (.str (mkS l.flatten), [])
    else if [46, 46, 47].isPrefixOf s = true then R (e19 (s.drop 3)) (H19 l)
    else if [46, 47].isPrefixOf s = true then R (e19 (s.drop 2)) (H19 l)
    else if [47, 46, 47].isPrefixOf s = true then R (e19 (s.drop 2)) (H19 l)
    else if s = [47, 46] then R (e19 [47]) (H19 l)
    else if [47, 46, 46, 47].isPrefixOf s = true then R (e19 (s.drop 3)) (H19 l.dropLast)
    else if s = [47, 46, 46] then R (e19 [47]) (H19 l.dropLast)
    else if s = [46] ∨ s = [46, 46] then R (e19 []) (H19 l)
    else R (e19 (s.drop (seg s))) (H19 (l ++ [s.take (seg s)])) := by
  unfold e19 H19
  rw [round19]
  simp only [bif_dec]
  simp only [mk_lit, pre_list, mkS_toList, bif_b, Bool.not_eq_true', beq_list, decide_eq_true_eq, decide_eq_false_iff_not, mkS_size, mkS_ext, mkS_data, mkS_app, t0, t1, t2, t3, t47, Int.toNat_natCast, List.drop_zero, Nat.sub_zero, cvs_len, bytes9, Int.le_refl, if_true, decide_true, take_end, List.take_length]
  by_cases c0 : s = []
  · rw [if_neg (by simpa using c0), if_pos c0]
    have hj : joinLen (cvs l) (mkS []) = l.flatten.length := by
      unfold joinLen; rw [cvs_parts, mkS_data, join_flat]
    have hc : ((cvs l).all isStrC && (decide (l.length ≤ 140737488355328) && decide (joinLen (cvs l) (mkS []) ≤ 140737488355328))) = true := by
      rw [cvs_all, hj, decide_eq_true (show l.length ≤ 140737488355328 by omega), decide_eq_true (show l.flatten.length ≤ 140737488355328 by omega)]; rfl
    have hcv : joinCV (cvs l) (mkS []) = mkS l.flatten := by
      unfold joinCV; rw [cvs_parts, mkS_data, join_flat]; rfl
    rw [if_pos hc, hcv]
  rw [if_pos (by simpa using c0), if_neg c0]
  have hpos : 1 ≤ s.length := by cases s with | nil => exact absurd rfl c0 | cons _ _ => simp
  by_cases c1 : [46, 46, 47].isPrefixOf s = true
  · have := pre_len c1
    rw [if_pos c1, if_pos c1, if_pos (by simp at this; omega)]
  rw [if_neg c1, if_neg c1]
  by_cases c2 : [46, 47].isPrefixOf s = true
  · have := pre_len c2
    rw [if_pos c2, if_pos c2, if_pos (by simp at this; omega)]
  rw [if_neg c2, if_neg c2]
  by_cases c3 : [47, 46, 47].isPrefixOf s = true
  · have := pre_len c3
    rw [if_pos c3, if_pos c3, if_pos (by simp at this; omega)]
  rw [if_neg c3, if_neg c3]
  by_cases c4 : s = [47, 46]
  · rw [if_pos c4, if_pos c4]
  rw [if_neg c4, if_neg c4]
  have pop : ∀ t : List UInt8, (if (l.length : Int) > 0 then
      (if 0 ≤ IntKind.i64.wrap ((l.length : Int) - 1) then (if IntKind.i64.wrap ((l.length : Int) - 1) ≤ (l.length : Int) then R (mkEnv 66 [(0, .c (.str (mkS t))), (3, .rw 0 0)]) [.row ((cvs l).take (IntKind.i64.wrap ((l.length : Int) - 1)).toNat) 1 0 false] else none) else none)
      else R (mkEnv 66 [(0, .c (.str (mkS t))), (3, .rw 0 0)]) [.row (cvs l) 1 0 false]) = R (mkEnv 66 [(0, .c (.str (mkS t))), (3, .rw 0 0)]) [.row (cvs l.dropLast) 1 0 false] := by
    intro t
    rcases Nat.eq_zero_or_pos l.length with hl | hl
    · have : l = [] := List.length_eq_zero_iff.1 hl
      subst this
      rfl
    · obtain ⟨m, hm⟩ : ∃ m, l.length = m + 1 := ⟨l.length - 1, by omega⟩
      have hw : IntKind.i64.wrap ((l.length : Int) - 1) = (m : Int) := by rw [hm]; exact wrm (by omega)
      rw [if_pos (by omega), hw, if_pos (by omega), if_pos (by omega), Int.toNat_natCast, cvs_cut, List.dropLast_eq_take, hm, Nat.add_sub_cancel]
  by_cases c5 : [47, 46, 46, 47].isPrefixOf s = true
  · obtain ⟨t, rfl⟩ := pre3 c5
    simp at h1
    rw [if_pos c5, if_pos c5, if_pos (by simp; omega)]
    have e1 : [47].isPrefixOf (List.drop 3 (47 :: 46 :: 46 :: 47 :: t)) = true := by simp
    rw [if_pos e1, if_pos (fits_small (by simp; omega))]
    exact pop _
  rw [if_neg c5, if_neg c5]
  by_cases c6 : s = [47, 46, 46]
  · subst c6
    rw [if_pos rfl, if_pos rfl, if_pos (by decide)]
    rw [if_neg (by decide), if_pos (by decide)]
    exact pop _
  rw [if_neg c6, if_neg c6]
  by_cases c7 : s = [46]
  · rw [if_pos c7, if_pos (.inl c7)]
  rw [if_neg c7]
  by_cases c8 : s = [46, 46]
  · rw [if_pos c8, if_pos (.inr c8)]
  rw [if_neg c8, if_neg (show ¬ (s = [46] ∨ s = [46, 46]) from fun h => h.elim c7 c8), if_pos (show (1 : Int) ≤ (s.length : Int) by omega)]
  obtain ⟨b, t, rfl⟩ : ∃ b t, s = b :: t := by cases s with | nil => exact absurd rfl c0 | cons b t => exact ⟨b, t, rfl⟩
  have hseg : seg (b :: t) = 1 + (t.takeWhile (· != 47)).length := rfl
  simp only [List.drop_succ_cons, List.drop_zero]
  simp at h1
  rcases seg_index t with ⟨i1, i2⟩ | ⟨i1, i2⟩
  · have hw : IntKind.i64.wrap (Lib.indexByte t 47 + 1) = 0 := by rw [i1]; rfl
    rw [hw, if_pos (by rfl)]
    have hs : seg (b :: t) = (b :: t).length := by rw [hseg, i2, List.length_cons]; omega
    have hset : (List.replicate 1 (CV.str (mkS []))).set 0 (CV.str (mkS (b :: t))) = [.str (mkS (b :: t))] := rfl
    rw [hs, hset, if_pos (by simp only [List.length_cons, List.length_nil]; omega), List.take_length, cvs_add]
  · have hw : IntKind.i64.wrap (Lib.indexByte t 47 + 1) = ((seg (b :: t) : Nat) : Int) := by
      rw [i1, hseg]
      have := wrp (i := (t.takeWhile (· != 47)).length) (k := 1) (by omega) (by omega)
      rw [Nat.add_comm 1]
      exact this
    have hle : ((seg (b :: t) : Nat) : Int) ≤ (((b :: t).length : Nat) : Int) := by rw [hseg, List.length_cons]; omega
    have hset : (List.replicate 1 (CV.str (mkS []))).set 0 (CV.str (mkS ((b :: t).take (seg (b :: t))))) = [.str (mkS ((b :: t).take (seg (b :: t))))] := rfl
    rw [hw, if_neg (by rw [hseg]; simp; omega), if_pos (by omega), if_pos hle]
    simp only [Int.toNat_natCast]
    rw [hset, if_pos (by simp only [List.length_cons, List.length_nil]; omega), if_pos (by omega), if_pos hle, cvs_add]

theorem loop19 (n : Nat) : ∀ (k : Nat) (s : List UInt8) (l : List (List UInt8)), s.length < k → s.length + l.length ≤ 10000 → s.length + l.flatten.length ≤ 10000 →
    roundsOf Tryz.prog (call' U39) (filt an19 0) n ⟨[0, 3], [(3, 1)], 0⟩ (codeOf Tryz.prog 19) k (e19 s) (H19 l) (endOf Tryz.prog 19 []) = some (.str (mkS (und k s l).flatten), [])
  | 0, s, l, hk, h1, h2 => by omega
  | k + 1, s, l, hk, h1, h2 => by
    have ih := loop19 n k
    have hd : l.dropLast.length ≤ l.length := by simp
    have hf : l.dropLast.flatten.length ≤ l.flatten.length := by
      rcases List.eq_nil_or_concat l with rfl | ⟨l', x, rfl⟩
      · simp
      · simp
    rw [roundsOf_succ, step19 n s l _ (by omega) (by omega) (by omega)]
    unfold und
    by_cases c0 : s = []
    · rw [if_pos c0, if_pos c0]
    rw [if_neg c0, if_neg c0]
    by_cases c1 : [46, 46, 47].isPrefixOf s = true
    · have := pre_len c1
      rw [if_pos c1, if_pos c1]
      exact ih _ _ (by simp at this ⊢; omega) (by simp at this ⊢; omega) (by simp only [List.length_drop]; omega)
    rw [if_neg c1, if_neg c1]
    by_cases c2 : [46, 47].isPrefixOf s = true
    · have := pre_len c2
      rw [if_pos c2, if_pos c2]
      exact ih _ _ (by simp at this ⊢; omega) (by simp at this ⊢; omega) (by simp only [List.length_drop]; omega)
    rw [if_neg c2, if_neg c2]
    by_cases c3 : [47, 46, 47].isPrefixOf s = true
    · have := pre_len c3
      rw [if_pos c3, if_pos c3]
      exact ih _ _ (by simp at this ⊢; omega) (by simp at this ⊢; omega) (by simp only [List.length_drop]; omega)
    rw [if_neg c3, if_neg c3]
    by_cases c4 : s = [47, 46]
    · rw [if_pos c4, if_pos c4]
      subst c4
      exact ih _ _ (by simp at hk ⊢; omega) (by simp at h1 ⊢; omega) (by simp only [List.length_cons, List.length_nil] at h2 ⊢; omega)
    rw [if_neg c4, if_neg c4]
    by_cases c5 : [47, 46, 46, 47].isPrefixOf s = true
    · have := pre_len c5
      rw [if_pos c5, if_pos c5]
      exact ih _ _ (by simp at this ⊢; omega) (by simp only [List.length_drop]; omega) (by simp only [List.length_drop]; omega)
    rw [if_neg c5, if_neg c5]
    by_cases c6 : s = [47, 46, 46]
    · rw [if_pos c6, if_pos c6]
      subst c6
      simp only [List.length_cons, List.length_nil] at hk h1 h2
      exact ih _ _ (by simp only [List.length_cons, List.length_nil]; omega) (by simp only [List.length_cons, List.length_nil]; omega) (by simp only [List.length_cons, List.length_nil]; omega)
    rw [if_neg c6, if_neg c6]
    by_cases c7 : s = [46] ∨ s = [46, 46]
    · rw [if_pos c7, if_pos c7]
      have : 1 ≤ s.length := by rcases c7 with rfl | rfl <;> simp
      exact ih _ _ (by simp only [List.length_nil]; omega) (by simp only [List.length_nil]; omega) (by simp only [List.length_nil]; omega)
    rw [if_neg c7, if_neg c7]
    have hpos : 1 ≤ s.length := by cases s with | nil => exact absurd rfl c0 | cons _ _ => simp
    have hs : 1 ≤ seg s := by unfold seg; omega
    refine ih _ _ (by simp only [List.length_drop]; omega) (by simp only [List.length_drop, List.length_append, List.length_cons, List.length_nil]; omega) ?_
    simp only [List.length_drop, List.flatten_append, List.length_append, List.flatten_cons, List.flatten_nil, List.append_nil, List.length_take]
    omega

theorem entry19 (s : ByteArray) (n : Nat) : abody Tryz.prog (call' U39) an19 n 19 [.str s] =
 before Tryz.prog (call' U39) (filt an19 0) n (codeOf Tryz.prog 19) (envOf Tryz.prog 19 [.c (.str s)]) [] (fun env H => loopAt Tryz.prog (call' U39) (filt an19 0) n ⟨[0, 3], [(3, 1)], 0⟩ (codeOf Tryz.prog 19) env H (endOf Tryz.prog 19 [])) (endOf Tryz.prog 19 []) := by kernel_rfl
/-- 'undotted'. -/
theorem val19 (s : List UInt8) (hs : s.length ≤ 5000) : abody Tryz.prog (call' U39) an19 12000 19 [.str (mkS s)] = some (.str (mkS (und 12000 s []).flatten), []) := by
  rw [entry19, before19, loopAt_eq, ← loop19 12000 12000 s [] (by omega) (by simp; omega) (by simp; omega)]
  kernel_rfl

end Go.Pv

/- Paths without dots, by definition: its loops. -/
namespace Go.Pv
set_option linter.unusedVariables false
set_option maxRecDepth 100000
open Go Go.Proofs

def E8 (s t : List UInt8) (m : Nat) : Env := mkEnv 92 [(0, .c (.str (mkS s))), (3, .c (.str (mkS t))), (4, .c (.int .i64 (m : Int)))]
def E80 (s t : List UInt8) (m k : Nat) : Env := mkEnv 92 [(0, .c (.str (mkS s))), (3, .c (.str (mkS t))), (4, .c (.int .i64 (m : Int))), (5, .c (.int .i64 (k : Int)))]
def E81 (s t : List UInt8) (m k : Nat) : Env := mkEnv 92 [(0, .c (.str (mkS s))), (3, .c (.str (mkS t))), (4, .c (.int .i64 (m : Int))), (6, .c (.int .i64 (k : Int)))]

/-- Where a text is cut: ahead of its last slash below a place. -/
def cutAt : Nat → List UInt8 → Nat
  | 0, _ => 0
  | k + 1, t => if t.getD k 0 = 47 then k else cutAt k t

theorem byte47 (c : UInt8) : (((c.toNat : Nat) : Int) != 47) = !decide (c = 47) := by
  rw [Bool.eq_iff_iff]
  simp
  constructor
  · intro h e; subst e; exact h rfl
  · intro h e
    apply h
    have : c.toNat = 47 := by omega
    exact UInt8.toNat.inj this

noncomputable abbrev K80 (n : Nat) (R : Env → Hp → Res) : KX := restN Tryz.prog (call' V22) (filt an8 0) n 0 b8 (thenK (headK h8 R) (K8 n))
noncomputable abbrev K81 (n : Nat) (R : Env → Hp → Res) : KX := restN Tryz.prog (call' V22) (filt an8 0) n 1 b8 (thenK (headK h8 R) (K8 n))

theorem lo0 (n : Nat) (s t : List UInt8) (m : Nat) (R : Env → Hp → Res) (ht : t.length ≤ 10000) (hm : m ≤ 10000) : ∀ (j k : Nat), k < j → k ≤ t.length →
    rounds Tryz.prog (call' V22) (filt an8 0) n h80 (bodyN 0 b8) j (E80 s t m k) [] (K80 n R) = R (E8 s (t.take (cutAt k t)) (m + 1)) []
  | 0, k, hj, hk => by omega
  | j + 1, k, hj, hk => by
    have ih := lo0 n s t m R ht hm j
    rw [rounds_succ]
    unfold E80 at ih ⊢
    unfold E8 at ih ⊢
    rw [inner0]
    simp only [bif_dec]
    simp only [mkS_at, byte47, bif_b, mkS_size, mkS_ext, t0, List.drop_zero, Nat.sub_zero, Bool.not_eq_true', decide_eq_false_iff_not, wrp (i := m) (k := 1) (by omega) (by omega)]
    have hm1 : IntKind.i64.wrap ((m : Int) + 1) = ((m + 1 : Nat) : Int) := wrp (i := m) (k := 1) (by omega) (by omega)
    cases k with
    | zero =>
      rw [if_neg (by omega), if_neg (by omega), if_pos (by omega), if_pos (by omega), hm1]
      rfl
    | succ k =>
      rw [wrm (by omega)]
      simp only [Int.toNat_natCast]
      have p0 : ((k + 1 : Nat) : Int) > 0 := by omega
      rw [if_pos p0, if_pos (by omega), if_pos (by omega)]
      by_cases hc : t.getD k 0 = 47
      · rw [if_neg (by simpa using hc), if_pos p0, if_pos (by omega), if_pos (by omega), hm1]
        have : cutAt (k + 1) t = k := by unfold cutAt; rw [if_pos hc]
        rw [this]
      · rw [if_pos hc]
        have : cutAt (k + 1) t = cutAt k t := by rw [cutAt, if_neg hc]
        rw [this]
        exact ih k (by omega) (by omega)

/-- The next slash from a place on. -/
def nextS (s : List UInt8) (k : Nat) : Nat := k + ((s.drop k).takeWhile (· != 47)).length
theorem lo1 (n : Nat) (s t : List UInt8) (m : Nat) (R : Env → Hp → Res) (hs : s.length ≤ 10000) (ht : t.length ≤ 10000) (hm : m ≤ 10000) : ∀ (j k : Nat), s.length < j + k → k ≤ s.length →
    rounds Tryz.prog (call' V22) (filt an8 0) n h81 (bodyN 1 b8) j (E81 s t m k) [] (K81 n R) = R (E8 (s.drop (nextS s k)) (t ++ s.take (nextS s k)) (m + 1)) []
  | 0, k, hj, hk => by omega
  | j + 1, k, hj, hk => by
    have ih := lo1 n s t m R hs ht hm j
    rw [rounds_succ]
    unfold E81 at ih ⊢
    unfold E8 at ih ⊢
    rw [inner1]
    have hm1 : IntKind.i64.wrap ((m : Int) + 1) = ((m + 1 : Nat) : Int) := wrp (i := m) (k := 1) (by omega) (by omega)
    have hk1 : IntKind.i64.wrap ((k : Int) + 1) = ((k + 1 : Nat) : Int) := wrp (i := k) (k := 1) (by omega) (by omega)
    simp only [bif_dec]
    simp only [mkS_at, byte47, bif_b, mkS_size, mkS_ext, mkS_app, t0, List.drop_zero, Nat.sub_zero, Bool.not_eq_true', decide_eq_false_iff_not, Int.toNat_natCast, take_end, Int.le_refl, if_true, hm1, hk1]
    have hfit : fitsS (t.length + (s.take k).length) = true := fits_small (by simp; omega)
    by_cases h1 : k < s.length
    · rw [if_pos (by omega), if_pos (by omega), if_pos (by omega)]
      have hdrop : s.drop k = s.getD k 0 :: s.drop (k + 1) := by
        rw [List.drop_eq_getElem_cons h1]
        simp [List.getD_eq_getElem?_getD, h1]
      by_cases hc : s.getD k 0 = 47
      · have : nextS s k = k := by
          unfold nextS
          rw [hdrop, List.takeWhile_cons_of_neg (by rw [hc]; simp)]; simp
        rw [if_neg (by simpa using hc), if_pos (by omega), if_pos (by omega), if_pos hfit, if_pos (by omega), if_pos (by omega), this]
      · have : nextS s k = nextS s (k + 1) := by
          unfold nextS
          rw [hdrop, List.takeWhile_cons_of_pos (by simpa using hc), List.length_cons]; omega
        rw [if_pos hc, this]
        exact ih (k + 1) (by omega) (by omega)
    · have hk' : k = s.length := by omega
      have : nextS s k = k := by
        unfold nextS
        rw [List.drop_of_length_le (by omega)]; simp
      rw [if_neg (by omega), if_pos (by omega), if_pos (by omega), if_pos hfit, if_pos (by omega), if_pos (by omega), this]

def refD : Nat → List UInt8 → List UInt8 → List UInt8
  | 0, _, t => t
  | k + 1, s, t =>
    if s = [] then t
    else if [46, 46, 47].isPrefixOf s = true then refD k (s.drop 3) t
    else if [46, 47].isPrefixOf s = true then refD k (s.drop 2) t
    else if [47, 46, 47].isPrefixOf s = true then refD k (s.drop 2) t
    else if s = [47, 46] then refD k [47] t
    else if [47, 46, 46, 47].isPrefixOf s = true then refD k (s.drop 3) (t.take (cutAt t.length t))
    else if s = [47, 46, 46] then refD k [47] (t.take (cutAt t.length t))
    else if s = [46] ∨ s = [46, 46] then refD k [] t
    else refD k (s.drop (seg s)) (t ++ s.take (seg s))

theorem ids8 : idsOk b8 = true := by kernel_rfl
theorem n8 : nLoops b8 = 2 := by kernel_rfl
theorem fr80 : (firstRegion (bodyN 0 b8)).bind (filt an8 0) = some h80 := by kernel_rfl
theorem fr81 : (firstRegion (bodyN 1 b8)).bind (filt an8 0) = some h81 := by kernel_rfl
theorem ids8' : idsOk c8 = true := by kernel_rfl
theorem n8' : nLoops c8 = 1 := by kernel_rfl
theorem fr8 : (firstRegion (bodyN 0 c8)).bind (filt an8 0) = some h8 := by kernel_rfl

theorem step8 (n : Nat) (hn : 10001 ≤ n) (s t : List UInt8) (m : Nat) (R : Env → Hp → Res) (hs : s.length ≤ 10000) (ht : t.length ≤ 10000) (hm : m < 5000) :
    aexec Tryz.prog (call' V22) (filt an8 0) n b8 (E8 s t m) [] (thenK (headK h8 R) (K8 n)) =
    if s = [] then some (.str (mkS t), [])
    else if [46, 46, 47].isPrefixOf s = true then R (E8 (s.drop 3) t (m + 1)) []
    else if [46, 47].isPrefixOf s = true then R (E8 (s.drop 2) t (m + 1)) []
    else if [47, 46, 47].isPrefixOf s = true then R (E8 (s.drop 2) t (m + 1)) []
    else if s = [47, 46] then R (E8 [47] t (m + 1)) []
    else if [47, 46, 46, 47].isPrefixOf s = true then R (E8 (s.drop 3) (t.take (cutAt t.length t)) (m + 1)) []
    else if s = [47, 46, 46] then R (E8 [47] (t.take (cutAt t.length t)) (m + 1)) []
    else if s = [46] ∨ s = [46, 46] then R (E8 [] t (m + 1)) []
    else R (E8 (s.drop (seg s)) (t ++ s.take (seg s)) (m + 1)) [] := by
  have hcut := cut_eq (P := Tryz.prog) (tb := call' V22) (an := filt an8 0) (fuel := n) (L := LL (fun env H => rounds Tryz.prog (call' V22) (filt an8 0) n h80 (bodyN 0 b8) n env H (K80 n R)) (fun env H => rounds Tryz.prog (call' V22) (filt an8 0) n h81 (bodyN 1 b8) n env H (K81 n R))) b8 0 (thenK (headK h8 R) (K8 n)) (E8 s t m) [] ids8 (fun i env H hi => by
    rw [n8] at hi
    rcases (show i = 0 ∨ i = 1 by omega) with rfl | rfl
    · rw [loop_eq fr80]; rfl
    · rw [loop_eq fr81]; rfl)
  rw [hcut]
  have hr := round8 (mkS s) (mkS t) n m (fun env H => rounds Tryz.prog (call' V22) (filt an8 0) n h80 (bodyN 0 b8) n env H (K80 n R)) (fun env H => rounds Tryz.prog (call' V22) (filt an8 0) n h81 (bodyN 1 b8) n env H (K81 n R)) R
  unfold parts at hr
  unfold E8 at *
  rw [hr]
  clear hr hcut
  have hm1 : IntKind.i64.wrap ((m : Int) + 1) = ((m + 1 : Nat) : Int) := wrp (i := m) (k := 1) (by omega) (by omega)
  have L0 := fun s' => lo0 n s' t m R ht (by omega) n t.length (by omega) (Nat.le_refl _)
  unfold E80 E8 at L0
  simp only [bif_dec]
  simp only [mk_lit, pre_list, mkS_toList, bif_b, Bool.not_eq_true', beq_list, decide_eq_true_eq, decide_eq_false_iff_not, mkS_size, mkS_ext, mkS_data, mkS_app, t0, t1, t2, t3, Int.toNat_natCast, List.drop_zero, Nat.sub_zero, Int.le_refl, if_true, take_end, List.take_length, hm1]
  by_cases c0 : s = []
  · rw [if_neg (by simpa using c0), if_pos c0]
  rw [if_pos (by simpa using c0), if_neg c0, if_pos (show (m : Int) < 5000 by omega)]
  have hpos : 1 ≤ s.length := by cases s with | nil => exact absurd rfl c0 | cons _ _ => simp
  by_cases c1 : [46, 46, 47].isPrefixOf s = true
  · have := pre_len c1
    rw [if_pos c1, if_pos c1, if_pos (by simp at this; omega)]
  rw [if_neg c1, if_neg c1]
  by_cases c2 : [46, 47].isPrefixOf s = true
  · have := pre_len c2
    rw [if_pos c2, if_pos c2, if_pos (by simp at this; omega)]
  rw [if_neg c2, if_neg c2]
  by_cases c3 : [47, 46, 47].isPrefixOf s = true
  · have := pre_len c3
    rw [if_pos c3, if_pos c3, if_pos (by simp at this; omega)]
  rw [if_neg c3, if_neg c3]
  by_cases c4 : s = [47, 46]
  · rw [if_pos c4, if_pos c4]
  rw [if_neg c4, if_neg c4]
  by_cases c5 : [47, 46, 46, 47].isPrefixOf s = true
  · have := pre_len c5
    rw [if_pos c5, if_pos c5]
    have c6 : ¬ s = [47, 46, 46] := by intro e; subst e; simp at this
    rw [if_neg c6, if_pos (by simp at this; omega)]
    exact L0 _
  rw [if_neg c5, if_neg c5]
  by_cases c6 : s = [47, 46, 46]
  · rw [if_pos c6, if_pos c6, if_pos c6]
    exact L0 _
  rw [if_neg c6, if_neg c6]
  by_cases c7 : s = [46]
  · rw [if_pos c7, if_pos (.inl c7)]
  rw [if_neg c7]
  by_cases c8' : s = [46, 46]
  · rw [if_pos c8', if_pos (.inr c8')]
  rw [if_neg c8', if_neg (show ¬ (s = [46] ∨ s = [46, 46]) from fun h => h.elim c7 c8')]
  have L1 := lo1 n s t m R hs ht (by omega) n 1 (by omega) hpos
  exact L1

theorem loop8 (n : Nat) (hn : 10001 ≤ n) : ∀ (k : Nat) (s t : List UInt8) (m : Nat), s.length < k → m + s.length < 5000 → s.length + t.length ≤ 10000 →
    rounds Tryz.prog (call' V22) (filt an8 0) n h8 b8 k (E8 s t m) [] (K8 n) = some (.str (mkS (refD k s t)), [])
  | 0, s, t, m, hk, h1, h2 => by omega
  | k + 1, s, t, m, hk, h1, h2 => by
    have ih := loop8 n hn k
    have hcut : (t.take (cutAt t.length t)).length ≤ t.length := by rw [List.length_take]; omega
    rw [rounds_succ, step8 n hn s t m _ (by omega) (by omega) (by omega)]
    unfold refD
    by_cases c0 : s = []
    · rw [if_pos c0, if_pos c0]
    rw [if_neg c0, if_neg c0]
    by_cases c1 : [46, 46, 47].isPrefixOf s = true
    · have := pre_len c1
      simp only [List.length_cons, List.length_nil] at this
      rw [if_pos c1, if_pos c1]
      exact ih _ _ _ (by simp only [List.length_drop]; omega) (by simp only [List.length_drop]; omega) (by simp only [List.length_drop]; omega)
    rw [if_neg c1, if_neg c1]
    by_cases c2 : [46, 47].isPrefixOf s = true
    · have := pre_len c2
      simp only [List.length_cons, List.length_nil] at this
      rw [if_pos c2, if_pos c2]
      exact ih _ _ _ (by simp only [List.length_drop]; omega) (by simp only [List.length_drop]; omega) (by simp only [List.length_drop]; omega)
    rw [if_neg c2, if_neg c2]
    by_cases c3 : [47, 46, 47].isPrefixOf s = true
    · have := pre_len c3
      simp only [List.length_cons, List.length_nil] at this
      rw [if_pos c3, if_pos c3]
      exact ih _ _ _ (by simp only [List.length_drop]; omega) (by simp only [List.length_drop]; omega) (by simp only [List.length_drop]; omega)
    rw [if_neg c3, if_neg c3]
    by_cases c4 : s = [47, 46]
    · rw [if_pos c4, if_pos c4]
      subst c4
      simp only [List.length_cons, List.length_nil] at hk h1 h2
      exact ih _ _ _ (by simp only [List.length_cons, List.length_nil]; omega) (by simp only [List.length_cons, List.length_nil]; omega) (by simp only [List.length_cons, List.length_nil]; omega)
    rw [if_neg c4, if_neg c4]
    by_cases c5 : [47, 46, 46, 47].isPrefixOf s = true
    · have := pre_len c5
      simp only [List.length_cons, List.length_nil] at this
      rw [if_pos c5, if_pos c5]
      exact ih _ _ _ (by simp only [List.length_drop]; omega) (by simp only [List.length_drop]; omega) (by simp only [List.length_drop]; omega)
    rw [if_neg c5, if_neg c5]
    by_cases c6 : s = [47, 46, 46]
    · rw [if_pos c6, if_pos c6]
      subst c6
      simp only [List.length_cons, List.length_nil] at hk h1 h2
      exact ih _ _ _ (by simp only [List.length_cons, List.length_nil]; omega) (by simp only [List.length_cons, List.length_nil]; omega) (by simp only [List.length_cons, List.length_nil]; omega)
    rw [if_neg c6, if_neg c6]
    have hpos : 1 ≤ s.length := by cases s with | nil => exact absurd rfl c0 | cons _ _ => simp
    by_cases c7 : s = [46] ∨ s = [46, 46]
    · rw [if_pos c7, if_pos c7]
      exact ih _ _ _ (by simp only [List.length_nil]; omega) (by simp only [List.length_nil]; omega) (by simp only [List.length_nil]; omega)
    rw [if_neg c7, if_neg c7]
    have hsg : 1 ≤ seg s := by unfold seg; omega
    refine ih _ _ _ (by simp only [List.length_drop]; omega) (by simp only [List.length_drop]; omega) ?_
    simp only [List.length_drop, List.length_append, List.length_take]
    omega

/-- The definition. -/
theorem val8 (s : List UInt8) (hs : s.length ≤ 4000) : abody Tryz.prog (call' V22) an8 12000 8 [.str (mkS s)] = some (.str (mkS (refD 12000 s [])), []) := by
  have e1 : abody Tryz.prog (call' V22) an8 12000 8 [.str (mkS s)] = aexec Tryz.prog (call' V22) (filt an8 0) 12000 c8 (envOf Tryz.prog 8 [.c (.str (mkS s))]) [] (endOf Tryz.prog 8 []) := by kernel_rfl
  have hcut := cut_eq (P := Tryz.prog) (tb := call' V22) (an := filt an8 0) (fuel := 12000) (L := fun _ => headK h8 fun env H => rounds Tryz.prog (call' V22) (filt an8 0) 12000 h8 b8 12000 env H (K8 12000)) c8 0 (endOf Tryz.prog 8 []) (envOf Tryz.prog 8 [.c (.str (mkS s))]) [] ids8' (fun i env H hi => by
    rw [n8'] at hi
    obtain rfl : i = 0 := by omega
    rw [loop_eq fr8]; rfl)
  have hb := before8 (mkS s) 12000 (fun env H => rounds Tryz.prog (call' V22) (filt an8 0) 12000 h8 b8 12000 env H (K8 12000))
  unfold parts at hb
  rw [e1, hcut, hb, ← loop8 12000 (by omega) 12000 s [] 0 (by omega) (by omega) (by simp; omega)]
  rfl

end Go.Pv

/- Paths without dots: the plain laws: both ways come to one; done twice is done once. -/
namespace Go.Pv
set_option linter.unusedVariables false
open Go Go.Proofs

def special (e : List UInt8) : Prop := e = [46] ∨ e = [46, 46] ∨ e = [47, 46] ∨ e = [47, 46, 46]
/-- A part of a path without dots. -/
def part1 (e : List UInt8) : Prop := ∃ c r, e = c :: r ∧ 47 ∉ r ∧ ¬ special e
def slash (s : List UInt8) : Prop := s = [] ∨ ∃ t, s = 47 :: t
structure Parts (l : List (List UInt8)) : Prop where
  each : ∀ e ∈ l, part1 e
  rest : ∀ e ∈ l.drop 1, ∃ t, e = 47 :: t

def plain7 (s : List UInt8) : Prop := ¬ [46, 46, 47].isPrefixOf s = true ∧ ¬ [46, 47].isPrefixOf s = true ∧ ¬ [47, 46, 47].isPrefixOf s = true ∧ ¬ s = [47, 46] ∧ ¬ [47, 46, 46, 47].isPrefixOf s = true ∧ ¬ s = [47, 46, 46] ∧ ¬ (s = [46] ∨ s = [46, 46])
theorem plain7_iff {c : UInt8} {r R : List UInt8} (hr : 47 ∉ r) (hR : slash R) : plain7 (c :: (r ++ R)) ↔ ¬ special (c :: r) := by
  unfold plain7 special
  have h47 : ∀ x : UInt8, x ∈ r → ¬ (47 : UInt8) = x := fun x hx e => hr (e ▸ hx)
  rcases r with _ | ⟨x, _ | ⟨y, _ | ⟨z, r1⟩⟩⟩
  · rcases hR with rfl | ⟨t, rfl⟩ <;> simp [List.isPrefixOf] <;> grind
  · have hx := h47 x (by simp)
    rcases hR with rfl | ⟨t, rfl⟩ <;> simp [List.isPrefixOf, hx] <;> grind
  · have hx := h47 x (by simp)
    have hy := h47 y (by simp)
    rcases hR with rfl | ⟨t, rfl⟩ <;> simp [List.isPrefixOf, hx, hy] <;> grind
  · have hx := h47 x (by simp)
    have hy := h47 y (by simp)
    have hz := h47 z (by simp)
    simp [List.isPrefixOf, hx, hy, hz]

theorem tw_split : ∀ t : List UInt8, t.takeWhile (· != 47) ++ t.dropWhile (· != 47) = t := fun t => List.takeWhile_append_dropWhile
theorem tw_no : ∀ t : List UInt8, 47 ∉ t.takeWhile (· != 47)
  | [] => by simp
  | b :: t => by
    by_cases hb : b = 47
    · subst hb; simp
    · rw [List.takeWhile_cons_of_pos (by simpa using hb)]
      intro h
      rcases List.mem_cons.1 h with h | h
      · exact hb h.symm
      · exact tw_no t h
theorem dw_slash : ∀ t : List UInt8, slash (t.dropWhile (· != 47))
  | [] => .inl rfl
  | b :: t => by
    by_cases hb : b = 47
    · subst hb; exact .inr ⟨t, by simp⟩
    · rw [List.dropWhile_cons_of_pos (by simpa using hb)]
      exact dw_slash t
theorem seg_cut (b : UInt8) (t : List UInt8) : (b :: t).take (seg (b :: t)) = b :: t.takeWhile (· != 47) ∧ (b :: t).drop (seg (b :: t)) = t.dropWhile (· != 47) := by
  have h : seg (b :: t) = (t.takeWhile (· != 47)).length + 1 := by unfold seg; simp; omega
  rw [h, List.take_succ_cons, List.drop_succ_cons]
  have hs := tw_split t
  have h1 := @List.take_left _ (t.takeWhile (· != 47)) (t.dropWhile (· != 47))
  have h2 := @List.drop_left _ (t.takeWhile (· != 47)) (t.dropWhile (· != 47))
  rw [hs] at h1 h2
  exact ⟨by rw [h1], h2⟩
/-- The first part of e ++ R is e. -/
theorem seg_of {c : UInt8} {r R : List UInt8} (hr : 47 ∉ r) (hR : slash R) : seg (c :: (r ++ R)) = (c :: r).length := by
  unfold seg
  have : (r ++ R).takeWhile (· != 47) = r := by
    rw [List.takeWhile_append_of_pos (by intro x hx; simp; intro e; subst e; exact hr hx)]
    rcases hR with rfl | ⟨t, rfl⟩ <;> simp
  simp [this]; omega

/-! ### A text cut ahead of its last slash -/
theorem cutAt_skip {t : List UInt8} {p : Nat} : ∀ d, (∀ j, p ≤ j → j < p + d → t.getD j 0 ≠ 47) → cutAt (p + d) t = cutAt p t
  | 0, _ => rfl
  | d + 1, h => by
    show cutAt ((p + d) + 1) t = _
    rw [cutAt, if_neg (h (p + d) (by omega) (by omega))]
    exact cutAt_skip d fun j h1 h2 => h j h1 (by omega)
theorem cut_parts {l : List (List UInt8)} (h : Parts l) : l.flatten.take (cutAt l.flatten.length l.flatten) = l.dropLast.flatten := by
  rcases List.eq_nil_or_concat l with rfl | ⟨l', e, rfl⟩
  · rfl
  rw [List.concat_eq_append] at h ⊢
  obtain ⟨c, r, rfl, hr, _⟩ := h.each e (by simp)
  have hfl : (l' ++ [c :: r]).flatten = l'.flatten ++ c :: r := by simp
  rw [hfl, List.dropLast_concat]
  have hlen : (l'.flatten ++ c :: r).length = l'.flatten.length + 1 + r.length := by simp; omega
  rw [hlen, cutAt_skip (p := l'.flatten.length + 1) r.length (by
    intro j h1 h2
    rw [List.getD_eq_getElem?_getD, List.getElem?_append_right (by omega)]
    obtain ⟨i, hi⟩ : ∃ i, j - l'.flatten.length = i + 1 := ⟨j - l'.flatten.length - 1, by omega⟩
    rw [hi, List.getElem?_cons_succ]
    have hil : i < r.length := by omega
    rw [List.getElem?_eq_getElem hil]
    intro e
    exact hr (by rw [← e]; simp))]
  unfold cutAt
  have hat : (l'.flatten ++ c :: r).getD l'.flatten.length 0 = c := by
    rw [List.getD_eq_getElem?_getD, List.getElem?_append_right (Nat.le_refl _)]; simp
  rw [hat]
  by_cases hc : c = 47
  · rw [if_pos hc, List.take_left]
  · rw [if_neg hc]
    have : l' = [] := by
      cases l' with
      | nil => rfl
      | cons x l'' =>
        obtain ⟨t, ht⟩ := h.rest (c :: r) (by simp)
        cases ht
        exact absurd rfl hc
    subst this
    rfl

theorem Parts.dropLast {l : List (List UInt8)} (h : Parts l) : Parts l.dropLast := by
  refine ⟨fun e he => h.each e (List.dropLast_subset l he), fun e he => h.rest e ?_⟩
  rw [List.dropLast_eq_take, List.drop_take] at he
  exact List.mem_of_mem_take he
theorem Parts.add {l : List (List UInt8)} (h : Parts l) {b : UInt8} {t : List UInt8} (hl : l ≠ [] → slash (b :: t)) (hp : plain7 (b :: t)) : Parts (l ++ [(b :: t).take (seg (b :: t))]) := by
  rw [(seg_cut b t).1]
  refine ⟨fun e he => ?_, fun e he => ?_⟩
  · rcases List.mem_append.1 he with he | he
    · exact h.each e he
    · simp only [List.mem_singleton] at he
      subst he
      refine ⟨b, _, rfl, tw_no t, ?_⟩
      rw [← plain7_iff (tw_no t) (dw_slash t), tw_split]
      exact hp
  · by_cases hn : l = []
    · subst hn; simp at he
    · have hd : (l ++ [b :: t.takeWhile (· != 47)]).drop 1 = l.drop 1 ++ [b :: t.takeWhile (· != 47)] := by
        cases l with
        | nil => exact absurd rfl hn
        | cons _ _ => rfl
      rw [hd] at he
      rcases List.mem_append.1 he with he | he
      · exact h.rest e he
      · simp only [List.mem_singleton] at he
        subst he
        rcases hl hn with h1 | ⟨t', h1⟩
        · cases h1
        · cases h1; exact ⟨_, rfl⟩

theorem slash_no {s : List UInt8} {p : List UInt8} (h : slash s) (hp : (46 :: p).isPrefixOf s = true) : False := by
  rcases h with rfl | ⟨t, rfl⟩
  · simp [List.isPrefixOf] at hp
  · simp [List.isPrefixOf] at hp

/-- Both ways come to one, in parts. -/
theorem dots_eq : ∀ (k : Nat) (s : List UInt8) (l : List (List UInt8)), Parts l → (l ≠ [] → slash s) → refD k s l.flatten = (und k s l).flatten ∧ Parts (und k s l) ∧ (und k s l).flatten.length ≤ s.length + l.flatten.length
  | 0, s, l, hp, hl => ⟨rfl, hp, by simp only [und]; omega⟩
  | k + 1, s, l, hp, hl => by
    have ih := dots_eq k
    have hcut := cut_parts hp
    have hf : l.dropLast.flatten.length ≤ l.flatten.length := by rw [← hcut, List.length_take]; omega
    unfold refD und
    by_cases c0 : s = []
    · rw [if_pos c0, if_pos c0]; exact ⟨rfl, hp, by omega⟩
    rw [if_neg c0, if_neg c0]
    by_cases c1 : [46, 46, 47].isPrefixOf s = true
    · have hn : l = [] := Classical.byContradiction fun hn => slash_no (hl hn) c1
      rw [if_pos c1, if_pos c1]
      obtain ⟨a1, a2, a3⟩ := ih (s.drop 3) l hp (fun h => absurd hn h)
      exact ⟨a1, a2, by rw [List.length_drop] at a3; omega⟩
    rw [if_neg c1, if_neg c1]
    by_cases c2 : [46, 47].isPrefixOf s = true
    · have hn : l = [] := Classical.byContradiction fun hn => slash_no (hl hn) c2
      rw [if_pos c2, if_pos c2]
      obtain ⟨a1, a2, a3⟩ := ih (s.drop 2) l hp (fun h => absurd hn h)
      exact ⟨a1, a2, by rw [List.length_drop] at a3; omega⟩
    rw [if_neg c2, if_neg c2]
    by_cases c3 : [47, 46, 47].isPrefixOf s = true
    · rw [if_pos c3, if_pos c3]
      obtain ⟨t, ht⟩ := List.isPrefixOf_iff_prefix.1 c3
      obtain ⟨a1, a2, a3⟩ := ih (s.drop 2) l hp (fun _ => .inr ⟨t, by rw [← ht]; rfl⟩)
      exact ⟨a1, a2, by rw [List.length_drop] at a3; omega⟩
    rw [if_neg c3, if_neg c3]
    by_cases c4 : s = [47, 46]
    · rw [if_pos c4, if_pos c4]
      obtain ⟨a1, a2, a3⟩ := ih [47] l hp (fun _ => .inr ⟨[], rfl⟩)
      refine ⟨a1, a2, ?_⟩
      subst c4
      simp only [List.length_cons, List.length_nil] at a3 ⊢; omega
    rw [if_neg c4, if_neg c4]
    by_cases c5 : [47, 46, 46, 47].isPrefixOf s = true
    · rw [if_pos c5, if_pos c5, hcut]
      obtain ⟨t, ht⟩ := List.isPrefixOf_iff_prefix.1 c5
      obtain ⟨a1, a2, a3⟩ := ih (s.drop 3) l.dropLast hp.dropLast (fun _ => .inr ⟨t, by rw [← ht]; rfl⟩)
      exact ⟨a1, a2, by rw [List.length_drop] at a3; omega⟩
    rw [if_neg c5, if_neg c5]
    by_cases c6 : s = [47, 46, 46]
    · rw [if_pos c6, if_pos c6, hcut]
      obtain ⟨a1, a2, a3⟩ := ih [47] l.dropLast hp.dropLast (fun _ => .inr ⟨[], rfl⟩)
      refine ⟨a1, a2, ?_⟩
      subst c6
      simp only [List.length_cons, List.length_nil] at a3 ⊢; omega
    rw [if_neg c6, if_neg c6]
    by_cases c7 : s = [46] ∨ s = [46, 46]
    · rw [if_pos c7, if_pos c7]
      obtain ⟨a1, a2, a3⟩ := ih [] l hp (fun _ => .inl rfl)
      exact ⟨a1, a2, by simp only [List.length_nil] at a3; omega⟩
    rw [if_neg c7, if_neg c7]
    obtain ⟨b, t, rfl⟩ : ∃ b t, s = b :: t := by cases s with | nil => exact absurd rfl c0 | cons b t => exact ⟨b, t, rfl⟩
    have hadd := hp.add hl ⟨c1, c2, c3, c4, c5, c6, c7⟩
    obtain ⟨a1, a2, a3⟩ := ih ((b :: t).drop (seg (b :: t))) (l ++ [(b :: t).take (seg (b :: t))]) hadd (fun _ => by rw [(seg_cut b t).2]; exact dw_slash t)
    refine ⟨?_, a2, ?_⟩
    · rw [← a1]
      congr 1
      simp
    · refine Nat.le_trans a3 ?_
      simp only [List.length_drop, List.flatten_append, List.length_append, List.flatten_cons, List.flatten_nil, List.append_nil, List.length_take]
      omega

/-- What has no dots stays. -/
theorem dots_id : ∀ (r l : List (List UInt8)) (k : Nat), Parts (l ++ r) → r.flatten.length < k → und k r.flatten l = l ++ r
  | [], l, k + 1, hp, hk => by simp [und]
  | e :: r, l, k + 1, hp, hk => by
    obtain ⟨c, r0, rfl, hr0, hsp⟩ := hp.each e (by simp)
    have hR : slash r.flatten := by
      cases r with
      | nil => exact .inl rfl
      | cons e' r' =>
        have hmem : e' ∈ (l ++ (c :: r0) :: e' :: r').drop 1 := by
          cases l with
          | nil => simp
          | cons x l => simp
        obtain ⟨t, rfl⟩ := hp.rest e' hmem
        exact .inr ⟨t ++ r'.flatten, by simp⟩
    have hs : ((c :: r0) :: r).flatten = c :: (r0 ++ r.flatten) := by simp
    obtain ⟨c1, c2, c3, c4, c5, c6, c7⟩ := (plain7_iff hr0 hR).2 hsp
    rw [hs] at hk ⊢
    unfold und
    rw [if_neg (by simp), if_neg c1, if_neg c2, if_neg c3, if_neg c4, if_neg c5, if_neg c6, if_neg c7, seg_of hr0 hR]
    have h1 : (c :: (r0 ++ r.flatten)).drop (c :: r0).length = r.flatten := by
      show ((c :: r0) ++ r.flatten).drop _ = _
      rw [List.drop_left]
    have h2 : (c :: (r0 ++ r.flatten)).take (c :: r0).length = c :: r0 := by
      show ((c :: r0) ++ r.flatten).take _ = _
      rw [List.take_left]
    rw [h1, h2, dots_id r (l ++ [c :: r0]) k (by simpa using hp) (by simp only [List.length_cons, List.length_append] at hk; omega)]
    simp

def dotsL (s : List UInt8) : List UInt8 := (und 12000 s []).flatten
theorem parts_nil : Parts [] := ⟨by simp, by simp⟩
theorem dotsL_ref (s : List UInt8) : refD 12000 s [] = dotsL s := (dots_eq 12000 s [] parts_nil (by simp)).1
theorem dotsL_len (s : List UInt8) : (dotsL s).length ≤ s.length := by
  have := (dots_eq 12000 s [] parts_nil (by simp)).2.2
  simp only [List.flatten_nil, List.length_nil, Nat.add_zero] at this
  exact this
theorem dotsL_id (s : List UInt8) (hs : s.length ≤ 10000) : dotsL (dotsL s) = dotsL s := by
  have h := (dots_eq 12000 s [] parts_nil (by simp)).2.1
  have := dots_id (und 12000 s []) [] 12000 (by simpa using h) (by have := dotsL_len s; unfold dotsL at this; omega)
  show (und 12000 (und 12000 s []).flatten []).flatten = _
  rw [this]; rfl

end Go.Pv

/- awake: two URLs resolved and normed, worked out by the kernel, call by call. -/
namespace Go.Pv
set_option linter.unusedVariables false
set_option maxRecDepth 100000
open Go Go.Proofs

def by1 (l : List Nat) : ByteArray := ⟨(l.map UInt8.ofNat).toArray⟩
def beq1 : CV → CV → Bool
  | .str a, .str b => a.data.toList == b.data.toList
  | .bool a, .bool b => a == b
  | .int k a, .int k' b => k == k' && a == b
  | _, _ => false
def beqL : List CV → List CV → Bool
  | [], [] => true
  | a :: la, b :: lb => beq1 a b && beqL la lb
  | _, _ => false
def beqA : CV → CV → Bool
  | .agg a, .agg b => beqL a b
  | a, b => beq1 a b
def beqAs : List CV → List CV → Bool
  | [], [] => true
  | a :: la, b :: lb => beqA a b && beqAs la lb
  | _, _ => false
theorem beq1_ok {a b : CV} (h : beq1 a b = true) : a = b := by
  cases a <;> cases b <;> simp [beq1] at h
  · rw [h]
  · rw [h.1, h.2]
  · rename_i x y
    congr 1
    exact ByteArray.ext h
theorem beqL_ok : ∀ {a b : List CV}, beqL a b = true → a = b
  | [], [], _ => rfl
  | [], _ :: _, h => by simp [beqL] at h
  | _ :: _, [], h => by simp [beqL] at h
  | a :: la, b :: lb, h => by
    simp only [beqL, Bool.and_eq_true] at h
    rw [beq1_ok h.1, beqL_ok h.2]
theorem beqA_ok {a b : CV} (h : beqA a b = true) : a = b := by
  unfold beqA at h
  split at h
  · rw [beqL_ok h]
  · exact beq1_ok h
theorem beqAs_ok : ∀ {a b : List CV}, beqAs a b = true → a = b
  | [], [], _ => rfl
  | [], _ :: _, h => by simp [beqAs] at h
  | _ :: _, [], h => by simp [beqAs] at h
  | a :: la, b :: lb, h => by
    simp only [beqAs, Bool.and_eq_true] at h
    rw [beqA_ok h.1, beqAs_ok h.2]
/-- A function at some points. -/
def ptF : List (List CV × CV) → Fn1
  | [], _ => none
  | (a, r) :: l, x => if beqAs x a then some [(true, r, [])] else ptF l x
theorem ptF_ok : ∀ {l : List (List CV × CV)} {x : List CV} {rv : CV} {outs : List CV}, picked (ptF l x) = some (rv, outs) → (x, rv) ∈ l ∧ outs = []
  | [], x, rv, outs, h => by cases h
  | (a, r) :: l, x, rv, outs, h => by
    simp only [ptF] at h
    split at h
    · rename_i hb
      cases h
      rw [beqAs_ok hb]
      exact ⟨by simp, rfl⟩
    · obtain ⟨h1, h2⟩ := ptF_ok h
      exact ⟨by simp [h1], h2⟩
theorem contract_pt {P : Program} {I : World → Prop} {ng : Nat} {tb : Handler} {f : FuncId} {l : List (List CV × CV)} (hg : OnGlobals I ng) (h : HOk P I ng tb) (hl : ∀ x rv, (x, rv) ∈ l → abody P tb (fun _ => none) 200 f x = some (rv, [])) : Contract P I ng f (ptF l) :=
  contract_of _ hg h fun cargs rv outs hF => by
    obtain ⟨h1, rfl⟩ := ptF_ok hF
    exact ⟨200, hl _ _ h1⟩

def ilA : List FuncId := [75, 50, 51, 76]
noncomputable def hd (T : Table) : Handler := inls Tryz.prog (fun _ => none) 200 ilA (call' T)
theorem hd_ok {I : World → Prop} {ng : Nat} {T : Table} (hg : OnGlobals I ng) (h : Known Tryz.prog I ng T) : HOk Tryz.prog I ng (hd T) := inls_ok hg (hok_of h) _
noncomputable def tJ : Table := addF noTable 39 FJoin
theorem kJ {I : World → Prop} {ng : Nat} (hg : OnGlobals I ng) : Known Tryz.prog I ng tJ := known_add known_no (c39 hg)
noncomputable def tA : Table := bodiesI Tryz.prog 200 ilA [72, 98, 117, 116, 134, 73, 99, 115, 114, 133, 132, 139, 142, 141, 143, 135, 118, 136, 140, 125, 97, 113, 131, 74, 25, 49, 71, 96, 63, 70, 69, 95, 94, 112, 130, 80, 105, 68, 38, 65] tJ
theorem kA {I : World → Prop} {ng : Nat} (hg : OnGlobals I ng) : Known Tryz.prog I ng tA := known_bodiesI hg (kJ hg) _
theorem ptUp_0 : abody Tryz.prog (hd tA) (fun _ => none) 200 47 [.str (by1 [104, 116, 116, 112, 58, 47, 47, 97, 47, 98, 47, 99, 47, 100, 59, 112, 63, 113])] = some (.tup [.agg [.str (by1 [104, 116, 116, 112]), .str (by1 []), .bool false, .str (by1 [97]), .str (by1 []), .bool false, .bool true, .str (by1 [47, 98, 47, 99, 47, 100, 59, 112]), .str (by1 [113]), .bool true, .str (by1 []), .bool false], .int .i64 0], []) := by kernel_rfl
theorem ptUp_1 : abody Tryz.prog (hd tA) (fun _ => none) 200 47 [.str (by1 [46, 46, 47, 103])] = some (.tup [.agg [.str (by1 []), .str (by1 []), .bool false, .str (by1 []), .str (by1 []), .bool false, .bool false, .str (by1 [46, 46, 47, 103]), .str (by1 []), .bool false, .str (by1 []), .bool false], .int .i64 0], []) := by kernel_rfl
theorem ptUp_2 : abody Tryz.prog (hd tA) (fun _ => none) 200 47 [.str (by1 [104, 116, 116, 112, 58, 47, 47, 97, 47, 98, 47, 103])] = some (.tup [.agg [.str (by1 [104, 116, 116, 112]), .str (by1 []), .bool false, .str (by1 [97]), .str (by1 []), .bool false, .bool true, .str (by1 [47, 98, 47, 103]), .str (by1 []), .bool false, .str (by1 []), .bool false], .int .i64 0], []) := by kernel_rfl
theorem ptUp_3 : abody Tryz.prog (hd tA) (fun _ => none) 200 47 [.str (by1 [72, 84, 84, 80, 58, 47, 47, 69, 88, 46, 99, 111, 109, 58, 48, 56, 48, 47, 37, 55, 101, 97, 47, 46, 47, 98, 37, 50, 102])] = some (.tup [.agg [.str (by1 [72, 84, 84, 80]), .str (by1 []), .bool false, .str (by1 [69, 88, 46, 99, 111, 109]), .str (by1 [48, 56, 48]), .bool true, .bool true, .str (by1 [47, 37, 55, 101, 97, 47, 46, 47, 98, 37, 50, 102]), .str (by1 []), .bool false, .str (by1 []), .bool false], .int .i64 0], []) := by kernel_rfl
def lUp : List (List CV × CV) := [([.str (by1 [104, 116, 116, 112, 58, 47, 47, 97, 47, 98, 47, 99, 47, 100, 59, 112, 63, 113])], .tup [.agg [.str (by1 [104, 116, 116, 112]), .str (by1 []), .bool false, .str (by1 [97]), .str (by1 []), .bool false, .bool true, .str (by1 [47, 98, 47, 99, 47, 100, 59, 112]), .str (by1 [113]), .bool true, .str (by1 []), .bool false], .int .i64 0]), ([.str (by1 [46, 46, 47, 103])], .tup [.agg [.str (by1 []), .str (by1 []), .bool false, .str (by1 []), .str (by1 []), .bool false, .bool false, .str (by1 [46, 46, 47, 103]), .str (by1 []), .bool false, .str (by1 []), .bool false], .int .i64 0]), ([.str (by1 [104, 116, 116, 112, 58, 47, 47, 97, 47, 98, 47, 103])], .tup [.agg [.str (by1 [104, 116, 116, 112]), .str (by1 []), .bool false, .str (by1 [97]), .str (by1 []), .bool false, .bool true, .str (by1 [47, 98, 47, 103]), .str (by1 []), .bool false, .str (by1 []), .bool false], .int .i64 0]), ([.str (by1 [72, 84, 84, 80, 58, 47, 47, 69, 88, 46, 99, 111, 109, 58, 48, 56, 48, 47, 37, 55, 101, 97, 47, 46, 47, 98, 37, 50, 102])], .tup [.agg [.str (by1 [72, 84, 84, 80]), .str (by1 []), .bool false, .str (by1 [69, 88, 46, 99, 111, 109]), .str (by1 [48, 56, 48]), .bool true, .bool true, .str (by1 [47, 37, 55, 101, 97, 47, 46, 47, 98, 37, 50, 102]), .str (by1 []), .bool false, .str (by1 []), .bool false], .int .i64 0])]
theorem cUp {I : World → Prop} {ng : Nat} (hg : OnGlobals I ng) : Contract Tryz.prog I ng 47 (ptF lUp) := contract_pt hg (hd_ok hg (kA hg)) fun x rv h => by
  simp only [lUp, List.mem_cons, Prod.mk.injEq, List.not_mem_nil, or_false] at h
  rcases h with ⟨rfl, rfl⟩ | ⟨rfl, rfl⟩ | ⟨rfl, rfl⟩ | ⟨rfl, rfl⟩
  · exact ptUp_0
  · exact ptUp_1
  · exact ptUp_2
  · exact ptUp_3
theorem ptUt_0 : abody Tryz.prog (hd tA) (fun _ => none) 200 48 [.agg [.str (by1 [104, 116, 116, 112]), .str (by1 []), .bool false, .str (by1 [97]), .str (by1 []), .bool false, .bool true, .str (by1 [47, 98, 47, 99, 47, 100, 59, 112]), .str (by1 [113]), .bool true, .str (by1 []), .bool false]] = some (.str (by1 [104, 116, 116, 112, 58, 47, 47, 97, 47, 98, 47, 99, 47, 100, 59, 112, 63, 113]), []) := by kernel_rfl
theorem ptUt_1 : abody Tryz.prog (hd tA) (fun _ => none) 200 48 [.agg [.str (by1 []), .str (by1 []), .bool false, .str (by1 []), .str (by1 []), .bool false, .bool false, .str (by1 [46, 46, 47, 103]), .str (by1 []), .bool false, .str (by1 []), .bool false]] = some (.str (by1 [46, 46, 47, 103]), []) := by kernel_rfl
theorem ptUt_2 : abody Tryz.prog (hd tA) (fun _ => none) 200 48 [.agg [.str (by1 [104, 116, 116, 112]), .str (by1 []), .bool false, .str (by1 [97]), .str (by1 []), .bool false, .bool true, .str (by1 [47, 98, 47, 103]), .str (by1 []), .bool false, .str (by1 []), .bool false]] = some (.str (by1 [104, 116, 116, 112, 58, 47, 47, 97, 47, 98, 47, 103]), []) := by kernel_rfl
theorem ptUt_3 : abody Tryz.prog (hd tA) (fun _ => none) 200 48 [.agg [.str (by1 [72, 84, 84, 80]), .str (by1 []), .bool false, .str (by1 [69, 88, 46, 99, 111, 109]), .str (by1 [48, 56, 48]), .bool true, .bool true, .str (by1 [47, 37, 55, 101, 97, 47, 46, 47, 98, 37, 50, 102]), .str (by1 []), .bool false, .str (by1 []), .bool false]] = some (.str (by1 [72, 84, 84, 80, 58, 47, 47, 69, 88, 46, 99, 111, 109, 58, 48, 56, 48, 47, 37, 55, 101, 97, 47, 46, 47, 98, 37, 50, 102]), []) := by kernel_rfl
def lUt : List (List CV × CV) := [([.agg [.str (by1 [104, 116, 116, 112]), .str (by1 []), .bool false, .str (by1 [97]), .str (by1 []), .bool false, .bool true, .str (by1 [47, 98, 47, 99, 47, 100, 59, 112]), .str (by1 [113]), .bool true, .str (by1 []), .bool false]], .str (by1 [104, 116, 116, 112, 58, 47, 47, 97, 47, 98, 47, 99, 47, 100, 59, 112, 63, 113])), ([.agg [.str (by1 []), .str (by1 []), .bool false, .str (by1 []), .str (by1 []), .bool false, .bool false, .str (by1 [46, 46, 47, 103]), .str (by1 []), .bool false, .str (by1 []), .bool false]], .str (by1 [46, 46, 47, 103])), ([.agg [.str (by1 [104, 116, 116, 112]), .str (by1 []), .bool false, .str (by1 [97]), .str (by1 []), .bool false, .bool true, .str (by1 [47, 98, 47, 103]), .str (by1 []), .bool false, .str (by1 []), .bool false]], .str (by1 [104, 116, 116, 112, 58, 47, 47, 97, 47, 98, 47, 103])), ([.agg [.str (by1 [72, 84, 84, 80]), .str (by1 []), .bool false, .str (by1 [69, 88, 46, 99, 111, 109]), .str (by1 [48, 56, 48]), .bool true, .bool true, .str (by1 [47, 37, 55, 101, 97, 47, 46, 47, 98, 37, 50, 102]), .str (by1 []), .bool false, .str (by1 []), .bool false]], .str (by1 [72, 84, 84, 80, 58, 47, 47, 69, 88, 46, 99, 111, 109, 58, 48, 56, 48, 47, 37, 55, 101, 97, 47, 46, 47, 98, 37, 50, 102]))]
theorem cUt {I : World → Prop} {ng : Nat} (hg : OnGlobals I ng) : Contract Tryz.prog I ng 48 (ptF lUt) := contract_pt hg (hd_ok hg (kA hg)) fun x rv h => by
  simp only [lUt, List.mem_cons, Prod.mk.injEq, List.not_mem_nil, or_false] at h
  rcases h with ⟨rfl, rfl⟩ | ⟨rfl, rfl⟩ | ⟨rfl, rfl⟩ | ⟨rfl, rfl⟩
  · exact ptUt_0
  · exact ptUt_1
  · exact ptUt_2
  · exact ptUt_3
noncomputable def tB : Table := addF tJ 47 (ptF lUp)
theorem kB {I : World → Prop} {ng : Nat} (hg : OnGlobals I ng) : Known Tryz.prog I ng tB := known_add (kJ hg) (cUp hg)
noncomputable def tC : Table := addF tB 48 (ptF lUt)
theorem kC {I : World → Prop} {ng : Nat} (hg : OnGlobals I ng) : Known Tryz.prog I ng tC := known_add (kB hg) (cUt hg)
theorem ptUc_0 : abody Tryz.prog (hd tC) (fun _ => none) 200 24 [.agg [.str (by1 [104, 116, 116, 112]), .str (by1 []), .bool false, .str (by1 [97]), .str (by1 []), .bool false, .bool true, .str (by1 [47, 98, 47, 99, 47, 100, 59, 112]), .str (by1 [113]), .bool true, .str (by1 []), .bool false]] = some (.int .i64 0, []) := by kernel_rfl
theorem ptUc_1 : abody Tryz.prog (hd tC) (fun _ => none) 200 24 [.agg [.str (by1 []), .str (by1 []), .bool false, .str (by1 []), .str (by1 []), .bool false, .bool false, .str (by1 [46, 46, 47, 103]), .str (by1 []), .bool false, .str (by1 []), .bool false]] = some (.int .i64 0, []) := by kernel_rfl
theorem ptUc_2 : abody Tryz.prog (hd tC) (fun _ => none) 200 24 [.agg [.str (by1 [104, 116, 116, 112]), .str (by1 []), .bool false, .str (by1 [97]), .str (by1 []), .bool false, .bool true, .str (by1 [47, 98, 47, 103]), .str (by1 []), .bool false, .str (by1 []), .bool false]] = some (.int .i64 0, []) := by kernel_rfl
theorem ptUc_3 : abody Tryz.prog (hd tC) (fun _ => none) 200 24 [.agg [.str (by1 [72, 84, 84, 80]), .str (by1 []), .bool false, .str (by1 [69, 88, 46, 99, 111, 109]), .str (by1 [48, 56, 48]), .bool true, .bool true, .str (by1 [47, 37, 55, 101, 97, 47, 46, 47, 98, 37, 50, 102]), .str (by1 []), .bool false, .str (by1 []), .bool false]] = some (.int .i64 0, []) := by kernel_rfl
def lUc : List (List CV × CV) := [([.agg [.str (by1 [104, 116, 116, 112]), .str (by1 []), .bool false, .str (by1 [97]), .str (by1 []), .bool false, .bool true, .str (by1 [47, 98, 47, 99, 47, 100, 59, 112]), .str (by1 [113]), .bool true, .str (by1 []), .bool false]], .int .i64 0), ([.agg [.str (by1 []), .str (by1 []), .bool false, .str (by1 []), .str (by1 []), .bool false, .bool false, .str (by1 [46, 46, 47, 103]), .str (by1 []), .bool false, .str (by1 []), .bool false]], .int .i64 0), ([.agg [.str (by1 [104, 116, 116, 112]), .str (by1 []), .bool false, .str (by1 [97]), .str (by1 []), .bool false, .bool true, .str (by1 [47, 98, 47, 103]), .str (by1 []), .bool false, .str (by1 []), .bool false]], .int .i64 0), ([.agg [.str (by1 [72, 84, 84, 80]), .str (by1 []), .bool false, .str (by1 [69, 88, 46, 99, 111, 109]), .str (by1 [48, 56, 48]), .bool true, .bool true, .str (by1 [47, 37, 55, 101, 97, 47, 46, 47, 98, 37, 50, 102]), .str (by1 []), .bool false, .str (by1 []), .bool false]], .int .i64 0)]
theorem cUc {I : World → Prop} {ng : Nat} (hg : OnGlobals I ng) : Contract Tryz.prog I ng 24 (ptF lUc) := contract_pt hg (hd_ok hg (kC hg)) fun x rv h => by
  simp only [lUc, List.mem_cons, Prod.mk.injEq, List.not_mem_nil, or_false] at h
  rcases h with ⟨rfl, rfl⟩ | ⟨rfl, rfl⟩ | ⟨rfl, rfl⟩ | ⟨rfl, rfl⟩
  · exact ptUc_0
  · exact ptUc_1
  · exact ptUc_2
  · exact ptUc_3
noncomputable def tD : Table := addF tJ 24 (ptF lUc)
theorem kD {I : World → Prop} {ng : Nat} (hg : OnGlobals I ng) : Known Tryz.prog I ng tD := known_add (kJ hg) (cUc hg)
noncomputable def tE : Table := bodiesI Tryz.prog 200 ilA [28, 53, 52, 77, 27, 14, 32, 60, 86, 85, 109, 30, 54, 78, 104, 123, 138, 137, 122, 103, 102, 121, 120, 119, 101, 84, 83, 108, 59, 82, 107, 128, 127, 31, 58, 81, 106, 124, 80, 105, 57, 79, 56, 55, 29, 26, 25, 49, 19, 38, 65, 37, 64, 36, 63] tD
theorem kE {I : World → Prop} {ng : Nat} (hg : OnGlobals I ng) : Known Tryz.prog I ng tE := known_bodiesI hg (kD hg) _
theorem ptRe_0 : abody Tryz.prog (hd tE) (fun _ => none) 200 11 [.agg [.str (by1 [104, 116, 116, 112]), .str (by1 []), .bool false, .str (by1 [97]), .str (by1 []), .bool false, .bool true, .str (by1 [47, 98, 47, 99, 47, 100, 59, 112]), .str (by1 [113]), .bool true, .str (by1 []), .bool false], .agg [.str (by1 []), .str (by1 []), .bool false, .str (by1 []), .str (by1 []), .bool false, .bool false, .str (by1 [46, 46, 47, 103]), .str (by1 []), .bool false, .str (by1 []), .bool false]] = some (.tup [.agg [.str (by1 [104, 116, 116, 112]), .str (by1 []), .bool false, .str (by1 [97]), .str (by1 []), .bool false, .bool true, .str (by1 [47, 98, 47, 103]), .str (by1 []), .bool false, .str (by1 []), .bool false], .int .i64 0], []) := by kernel_rfl
def lRe : List (List CV × CV) := [([.agg [.str (by1 [104, 116, 116, 112]), .str (by1 []), .bool false, .str (by1 [97]), .str (by1 []), .bool false, .bool true, .str (by1 [47, 98, 47, 99, 47, 100, 59, 112]), .str (by1 [113]), .bool true, .str (by1 []), .bool false], .agg [.str (by1 []), .str (by1 []), .bool false, .str (by1 []), .str (by1 []), .bool false, .bool false, .str (by1 [46, 46, 47, 103]), .str (by1 []), .bool false, .str (by1 []), .bool false]], .tup [.agg [.str (by1 [104, 116, 116, 112]), .str (by1 []), .bool false, .str (by1 [97]), .str (by1 []), .bool false, .bool true, .str (by1 [47, 98, 47, 103]), .str (by1 []), .bool false, .str (by1 []), .bool false], .int .i64 0])]
theorem cRe {I : World → Prop} {ng : Nat} (hg : OnGlobals I ng) : Contract Tryz.prog I ng 11 (ptF lRe) := contract_pt hg (hd_ok hg (kE hg)) fun x rv h => by
  simp only [lRe, List.mem_cons, Prod.mk.injEq, List.not_mem_nil, or_false] at h
  obtain ⟨rfl, rfl⟩ := h
  exact ptRe_0
theorem ptNo_0 : abody Tryz.prog (hd tE) (fun _ => none) 200 12 [.agg [.str (by1 [72, 84, 84, 80]), .str (by1 []), .bool false, .str (by1 [69, 88, 46, 99, 111, 109]), .str (by1 [48, 56, 48]), .bool true, .bool true, .str (by1 [47, 37, 55, 101, 97, 47, 46, 47, 98, 37, 50, 102]), .str (by1 []), .bool false, .str (by1 []), .bool false]] = some (.tup [.agg [.str (by1 [104, 116, 116, 112]), .str (by1 []), .bool false, .str (by1 [101, 120, 46, 99, 111, 109]), .str (by1 []), .bool false, .bool true, .str (by1 [47, 126, 97, 47, 98, 37, 50, 70]), .str (by1 []), .bool false, .str (by1 []), .bool false], .int .i64 0], []) := by kernel_rfl
def lNo : List (List CV × CV) := [([.agg [.str (by1 [72, 84, 84, 80]), .str (by1 []), .bool false, .str (by1 [69, 88, 46, 99, 111, 109]), .str (by1 [48, 56, 48]), .bool true, .bool true, .str (by1 [47, 37, 55, 101, 97, 47, 46, 47, 98, 37, 50, 102]), .str (by1 []), .bool false, .str (by1 []), .bool false]], .tup [.agg [.str (by1 [104, 116, 116, 112]), .str (by1 []), .bool false, .str (by1 [101, 120, 46, 99, 111, 109]), .str (by1 []), .bool false, .bool true, .str (by1 [47, 126, 97, 47, 98, 37, 50, 70]), .str (by1 []), .bool false, .str (by1 []), .bool false], .int .i64 0])]
theorem cNo {I : World → Prop} {ng : Nat} (hg : OnGlobals I ng) : Contract Tryz.prog I ng 12 (ptF lNo) := contract_pt hg (hd_ok hg (kE hg)) fun x rv h => by
  simp only [lNo, List.mem_cons, Prod.mk.injEq, List.not_mem_nil, or_false] at h
  obtain ⟨rfl, rfl⟩ := h
  exact ptNo_0
noncomputable def tF : Table := bodiesI Tryz.prog 200 ilA [46, 67, 92, 91, 90, 111, 129, 93, 45, 43, 42, 41, 40, 61, 87, 44] tJ
theorem kF {I : World → Prop} {ng : Nat} (hg : OnGlobals I ng) : Known Tryz.prog I ng tF := known_bodiesI hg (kJ hg) _
theorem ptRp_0 : abody Tryz.prog (hd tF) (fun _ => none) 200 23 [.str (by1 [104, 116, 116, 112, 58, 47, 47, 97, 47, 98, 47, 99, 47, 100, 59, 112, 63, 113])] = some (.tup [.agg [.str (by1 [104, 116, 116, 112]), .str (by1 []), .bool false, .str (by1 [97]), .str (by1 []), .bool false, .bool true, .str (by1 [47, 98, 47, 99, 47, 100, 59, 112]), .str (by1 [113]), .bool true, .str (by1 []), .bool false], .bool true], []) := by kernel_rfl
theorem ptRp_1 : abody Tryz.prog (hd tF) (fun _ => none) 200 23 [.str (by1 [46, 46, 47, 103])] = some (.tup [.agg [.str (by1 []), .str (by1 []), .bool false, .str (by1 []), .str (by1 []), .bool false, .bool false, .str (by1 [46, 46, 47, 103]), .str (by1 []), .bool false, .str (by1 []), .bool false], .bool true], []) := by kernel_rfl
theorem ptRp_2 : abody Tryz.prog (hd tF) (fun _ => none) 200 23 [.str (by1 [72, 84, 84, 80, 58, 47, 47, 69, 88, 46, 99, 111, 109, 58, 48, 56, 48, 47, 37, 55, 101, 97, 47, 46, 47, 98, 37, 50, 102])] = some (.tup [.agg [.str (by1 [72, 84, 84, 80]), .str (by1 []), .bool false, .str (by1 [69, 88, 46, 99, 111, 109]), .str (by1 [48, 56, 48]), .bool true, .bool true, .str (by1 [47, 37, 55, 101, 97, 47, 46, 47, 98, 37, 50, 102]), .str (by1 []), .bool false, .str (by1 []), .bool false], .bool true], []) := by kernel_rfl
def lRp : List (List CV × CV) := [([.str (by1 [104, 116, 116, 112, 58, 47, 47, 97, 47, 98, 47, 99, 47, 100, 59, 112, 63, 113])], .tup [.agg [.str (by1 [104, 116, 116, 112]), .str (by1 []), .bool false, .str (by1 [97]), .str (by1 []), .bool false, .bool true, .str (by1 [47, 98, 47, 99, 47, 100, 59, 112]), .str (by1 [113]), .bool true, .str (by1 []), .bool false], .bool true]), ([.str (by1 [46, 46, 47, 103])], .tup [.agg [.str (by1 []), .str (by1 []), .bool false, .str (by1 []), .str (by1 []), .bool false, .bool false, .str (by1 [46, 46, 47, 103]), .str (by1 []), .bool false, .str (by1 []), .bool false], .bool true]), ([.str (by1 [72, 84, 84, 80, 58, 47, 47, 69, 88, 46, 99, 111, 109, 58, 48, 56, 48, 47, 37, 55, 101, 97, 47, 46, 47, 98, 37, 50, 102])], .tup [.agg [.str (by1 [72, 84, 84, 80]), .str (by1 []), .bool false, .str (by1 [69, 88, 46, 99, 111, 109]), .str (by1 [48, 56, 48]), .bool true, .bool true, .str (by1 [47, 37, 55, 101, 97, 47, 46, 47, 98, 37, 50, 102]), .str (by1 []), .bool false, .str (by1 []), .bool false], .bool true])]
theorem cRp {I : World → Prop} {ng : Nat} (hg : OnGlobals I ng) : Contract Tryz.prog I ng 23 (ptF lRp) := contract_pt hg (hd_ok hg (kF hg)) fun x rv h => by
  simp only [lRp, List.mem_cons, Prod.mk.injEq, List.not_mem_nil, or_false] at h
  rcases h with ⟨rfl, rfl⟩ | ⟨rfl, rfl⟩ | ⟨rfl, rfl⟩
  · exact ptRp_0
  · exact ptRp_1
  · exact ptRp_2
noncomputable def tG : Table := addF tJ 11 (ptF lRe)
theorem kG {I : World → Prop} {ng : Nat} (hg : OnGlobals I ng) : Known Tryz.prog I ng tG := known_add (kJ hg) (cRe hg)
noncomputable def tH : Table := addF tG 12 (ptF lNo)
theorem kH {I : World → Prop} {ng : Nat} (hg : OnGlobals I ng) : Known Tryz.prog I ng tH := known_add (kG hg) (cNo hg)
noncomputable def tK : Table := addF tH 23 (ptF lRp)
theorem kK {I : World → Prop} {ng : Nat} (hg : OnGlobals I ng) : Known Tryz.prog I ng tK := known_add (kH hg) (cRp hg)
noncomputable def tL : Table := bodiesI Tryz.prog 200 ilA [21, 20, 6, 19, 38, 65, 37, 64, 36, 63] tK
theorem kL {I : World → Prop} {ng : Nat} (hg : OnGlobals I ng) : Known Tryz.prog I ng tL := known_bodiesI hg (kK hg) _
theorem awake_val : abody Tryz.prog (hd tL) (fun _ => none) 200 7 [] = some (.bool true, []) := by kernel_rfl
def FAwake : Fn1 := fun x => match x with
  | [] => some [(true, .bool true, [])]
  | _ => none
theorem cAwake {I : World → Prop} {ng : Nat} (hg : OnGlobals I ng) : Contract Tryz.prog I ng 7 FAwake := contract_of _ hg (hd_ok hg (kL hg)) fun cargs rv outs h => by
  unfold FAwake at h
  split at h
  · cases h; exact ⟨200, awake_val⟩
  · cases h

end Go.Pv

/- PathDots: the law's code. -/
namespace Go.Pv
set_option linter.unusedVariables false
set_option maxRecDepth 100000
open Go Go.Proofs

def dotS (s : ByteArray) : ByteArray := mkS (dotsL s.data.toList)
def Q19 : Fn1 := fun x => match x with
  | [.str s] => some [(decide (s.size ≤ 4000), .str (dotS s), [])]
  | _ => none
def Q6 : Fn1 := fun x => match x with
  | [.str s] => some [(decide (s.size ≤ 2048), .str (dotS s), []), (true, .str s, [])]
  | _ => none
def Q7 : Fn1 := fun x => match x with
  | [] => some [(true, .bool true, [])]
  | _ => none
def W0 : Table := fun _ _ => none
def W19 : Table := fun g => if Nat.beq g 19 then Q19 else W0 g
def W6 : Table := fun g => if Nat.beq g 6 then Q6 else W19 g
def W8 : Table := fun g => if Nat.beq g 8 then Q19 else W6 g
def W7 : Table := fun g => if Nat.beq g 7 then Q7 else W8 g
theorem tree6d (s : ByteArray) : abody Tryz.prog (call' W19) (fun _ => none) 1 6 [.str s] =
 bif' (decide ((↑s.size : Int) > 2048)) (some (CV.str s, [])) (bif' (decide (s.size ≤ 4000)) (some (CV.str (dotS s), [])) none) := by kernel_rfl
theorem tree3d (s : ByteArray) : abody Tryz.prog (call' W7) (fun _ => none) 1 3 [.str s] =
 bif' (decide (s.size ≤ 2048)) (bif' (decide ((↑s.size : Int) > 2048)) (bif' ((dotS s).toList == s.toList) (some (CV.bool true, [])) (some (CV.bool false, []))) (bif' (decide (s.size ≤ 4000)) (bif' ((dotS s).toList == (dotS s).toList) (bif' (decide ((dotS s).size ≤ 2048)) (bif' ((dotS (dotS s)).toList == (dotS s).toList) (some (CV.bool true, [])) (some (CV.bool false, []))) (bif' ((dotS s).toList == (dotS s).toList) (some (CV.bool true, [])) (some (CV.bool false, [])))) (some (CV.bool false, []))) none)) (bif' (decide ((↑s.size : Int) > 2048)) (bif' (s.toList == s.toList) (some (CV.bool true, [])) (some (CV.bool false, []))) (bif' (decide (s.size ≤ 4000)) (bif' (s.toList == (dotS s).toList) (bif' (decide (s.size ≤ 2048)) (bif' ((dotS s).toList == s.toList) (some (CV.bool true, [])) (some (CV.bool false, []))) (bif' (s.toList == s.toList) (some (CV.bool true, [])) (some (CV.bool false, [])))) (some (CV.bool false, []))) none)) := by kernel_rfl

end Go.Pv

/- PathDots: what its code does. -/
namespace Go.Pv
set_option linter.unusedVariables false
set_option maxRecDepth 100000
open Go Go.Proofs

theorem k22 : Kn V22 := known_add known_no (contract_of (fun _ => none) on0 (hok_of known_no) fun cargs rv outs h => by
  unfold P22 at h
  split at h
  · rename_i s p
    cases h
    refine ⟨1, ?_⟩
    have ht := tree22 s p
    show abody Tryz.prog (call' V0) (fun _ => none) 1 22 [.str s, .str p] = _
    rw [ht, ← mkS_bl s, ← mkS_bl p, pre_list]
    generalize s.data.toList = l
    generalize p.data.toList = q
    rw [bif_dec]
    by_cases hq : q.length ≤ l.length
    · rw [if_pos (by rw [mkS_size, mkS_size]; omega), bif_dec, if_pos (by rw [mkS_size, mkS_size]; omega)]
      rw [mkS_ext, mkS_toList, mkS_toList]
      congr 3
      rw [Bool.eq_iff_iff, beq_iff_eq, List.isPrefixOf_iff_prefix, List.prefix_iff_eq_take]
      simp [mkS_size]
      exact eq_comm
    · rw [if_neg (by rw [mkS_size, mkS_size]; omega)]
      congr 3
      refine (Bool.eq_false_iff.2 fun h => hq (pre_len h)).symm
  · cases h)
theorem m19 : Ct 19 Q19 := contract_of an19 on0 (hok_of e39) fun cargs rv outs h => by
  unfold Q19 at h
  split at h <;> first | (cases h; done) | skip
  rename_i s
  by_cases hs : s.size ≤ 4000
  · simp only [picked, pickAlt, decide_eq_true hs] at h
    cases h
    refine ⟨12000, ?_⟩
    have := val19 s.data.toList (by have : s.data.toList.length = s.size := Array.length_toList; omega)
    rw [mkS_bl] at this
    exact this
  · simp only [picked, pickAlt, decide_eq_false hs] at h; cases h
theorem m8 : Ct 8 Q19 := contract_of an8 on0 (hok_of k22) fun cargs rv outs h => by
  unfold Q19 at h
  split at h <;> first | (cases h; done) | skip
  rename_i s
  by_cases hs : s.size ≤ 4000
  · simp only [picked, pickAlt, decide_eq_true hs] at h
    cases h
    refine ⟨12000, ?_⟩
    have := val8 s.data.toList (by have : s.data.toList.length = s.size := Array.length_toList; omega)
    rw [mkS_bl, dotsL_ref] at this
    exact this
  · simp only [picked, pickAlt, decide_eq_false hs] at h; cases h
theorem wk19 : Kn W19 := known_add known_no m19
theorem m6 : Ct 6 Q6 := contract_of (fun _ => none) on0 (hok_of wk19) fun cargs rv outs h => by
  unfold Q6 at h
  split at h <;> first | (cases h; done) | skip
  rename_i s
  refine ⟨1, ?_⟩
  rw [tree6d, bif_dec, bif_dec]
  by_cases hs : s.size ≤ 2048
  · simp only [picked, pickAlt, decide_eq_true hs] at h
    cases h
    rw [if_neg (by omega), if_pos (by omega)]
  · simp only [picked, pickAlt, decide_eq_false hs] at h
    cases h
    rw [if_pos (by omega)]
theorem wk6 : Kn W6 := known_add wk19 m6
theorem wk8 : Kn W8 := known_add wk6 m8
theorem m7 : Ct 7 Q7 := fun cargs rv outs h => cAwake on0 cargs rv outs h
theorem wk7 : Kn W7 := known_add wk8 m7

theorem dotS_size (s : ByteArray) : (dotS s).size ≤ s.size := by
  have := dotsL_len s.data.toList
  have h : s.data.toList.length = s.size := Array.length_toList
  unfold dotS
  rw [mkS_size]; omega
theorem dotS_id (s : ByteArray) (hs : s.size ≤ 10000) : dotS (dotS s) = dotS s := by
  have h : s.data.toList.length = s.size := Array.length_toList
  unfold dotS
  rw [mkS_data, dotsL_id _ (by omega)]

def Q3 : Fn1 := fun x => match x with
  | [.str s] => some [(true, .bool true, [])]
  | _ => none
theorem m3 : Ct 3 Q3 := contract_of (fun _ => none) on0 (hok_of wk7) fun cargs rv outs h => by
  unfold Q3 at h
  split at h <;> first | (cases h; done) | skip
  rename_i s
  cases h
  refine ⟨1, ?_⟩
  rw [tree3d]
  simp only [bif_dec]
  by_cases hs : s.size ≤ 2048
  · have hd := dotS_size s
    rw [if_pos hs, if_neg (by omega), if_pos (by omega), bif_t _ _ (by simp), if_pos (by omega), dotS_id s (by omega), bif_t _ _ (by simp)]
  · rw [if_neg hs, if_pos (by omega), bif_t _ _ (by simp)]

end Go.Pv

/- URLs: without its last part, behind '#', what may be may be. -/
namespace Go.Pv
set_option linter.unusedVariables false
set_option linter.unusedSimpArgs false
set_option maxRecDepth 100000
open Go Go.Proofs

def no35 (l : List UInt8) : Prop := ∀ b ∈ l, b ≠ 35
theorem findL_35 (p : List UInt8) (h : p.contains 35 = true) (F : List UInt8) : ∀ A : List UInt8, findL p (A ++ 35 :: F) = findL p A
  | [] => by
    show findL p (35 :: F) = 0
    unfold findL
    have e := in_lit p 35
    rw [h] at e
    rw [e, if_pos rfl]
  | a :: A => by
    show findL p (a :: (A ++ 35 :: F)) = findL p (a :: A)
    conv => lhs; unfold findL
    conv => rhs; unfold findL
    rw [findL_35 p h F A]
theorem take_app (A F : List UInt8) {n : Nat} (h : n ≤ A.length) : (A ++ F).take n = A.take n := by
  rw [List.take_append, Nat.sub_eq_zero_of_le h, List.take_zero, List.append_nil]
theorem drop_app (A F : List UInt8) {n : Nat} (h : n ≤ A.length) : (A ++ F).drop n = A.drop n ++ F := by
  rw [List.drop_append, Nat.sub_eq_zero_of_le h, List.drop_zero]
theorem no35_drop {A : List UInt8} (h : no35 A) (n : Nat) : no35 (A.drop n) := fun b hb => h b (List.mem_of_mem_drop hb)
theorem hcL_35 (A F : List UInt8) : hcL (A ++ 35 :: F) = hcL A := by
  unfold hcL
  rw [findL_35 _ rfl, drop_app _ _ (findL_le _ _)]
  cases A.drop (findL [58, 47, 63, 35] A) with
  | nil => rfl
  | cons c t => rfl
theorem atL_le (A : List UInt8) : atL A ≤ A.length := by
  unfold atL
  split
  · rename_i h
    have h1 := findL_le [58, 47, 63, 35] A
    by_cases h2 : findL [58, 47, 63, 35] A = A.length
    · unfold hcL at h
      rw [h2, List.drop_length] at h
      cases h
    · omega
  · omega
theorem atL_35 (A F : List UInt8) : atL (A ++ 35 :: F) = atL A := by
  unfold atL
  rw [hcL_35, findL_35 _ rfl]
theorem shL_35 (A F : List UInt8) : shL (A ++ 35 :: F) = shL A := by
  unfold shL
  rw [hcL_35, findL_35 _ rfl, take_app _ _ (findL_le _ _)]
theorem scL_35 (A F : List UInt8) (h : scL (A ++ 35 :: F) = true) : scL A = true := by
  unfold scL at h ⊢
  rw [hcL_35, findL_35 _ rfl, take_app _ _ (findL_le _ _)] at h
  cases A with
  | nil =>
    have e : hcL [] = false := rfl
    rw [e]; rfl
  | cons a A => exact h
theorem haL_35 (R F : List UInt8) (hn : no35 R) : haL (R ++ 35 :: F) = haL R := by
  match R, hn with
  | [], _ => rfl
  | [a], hn =>
    show (47 == a && (47 == (35 : UInt8) && true)) = (47 == a && false)
    have : ((47 : UInt8) == 35 && true) = false := rfl
    rw [this]
  | a :: b :: R, _ => rfl
theorem haL_len {R : List UInt8} (h : haL R = true) : 2 ≤ R.length := by
  have := (List.isPrefixOf_iff_prefix.1 h).length_le
  exact this
theorem auL_35 (R F : List UInt8) (h : haL R = true) : auL (R ++ 35 :: F) = auL R := by
  unfold auL
  rw [drop_app _ _ (haL_len h), findL_35 _ rfl, take_app _ _ (findL_le _ _)]
theorem rsL_35 (R F : List UInt8) (hn : no35 R) : rsL (R ++ 35 :: F) = rsL R ++ 35 :: F := by
  unfold rsL
  rw [haL_35 _ _ hn]
  cases h : haL R with
  | false => rfl
  | true =>
    rw [if_pos rfl, if_pos rfl, drop_app _ _ (haL_len h), findL_35 _ rfl, drop_app _ _ (findL_le _ _)]
theorem no35_rs {R : List UInt8} (h : no35 R) : no35 (rsL R) := by
  unfold rsL
  split
  · exact no35_drop (no35_drop h _) _
  · exact h
theorem stL_35 (F : List UInt8) : ∀ A : List UInt8, stL (A ++ 35 :: F) = true → stL A = true
  | [], _ => rfl
  | [a], h => by
    have h' : stL (a :: 35 :: F) = true := h
    unfold stL at h' ⊢
    simp only [Bool.and_eq_true] at h' ⊢
    refine ⟨h'.1, ?_, rfl⟩
    have h2 := h'.2.1
    cases F with
    | nil => exact h2
    | cons f F =>
      have h3 : (!decide (a = 37) || (hexd 35 && hexd f)) = true := h2
      have hx : hexd 35 = false := by decide +kernel
      rw [hx, Bool.false_and] at h3
      exact h3
  | [a, b], h => by
    have h' : stL (a :: (b :: 35 :: F)) = true := h
    have ih := stL_35 F [b]
    unfold stL at h' ⊢
    simp only [Bool.and_eq_true] at h' ⊢
    refine ⟨h'.1, ?_, ih h'.2.2⟩
    have h2 : (!decide (a = 37) || (hexd b && hexd 35)) = true := h'.2.1
    have hx : hexd 35 = false := by decide +kernel
    rw [hx, Bool.and_false] at h2
    exact h2
  | a :: b :: c :: A, h => by
    have h' : stL (a :: (b :: c :: (A ++ 35 :: F))) = true := h
    have ih := stL_35 F (b :: c :: A)
    unfold stL at h' ⊢
    simp only [Bool.and_eq_true] at h' ⊢
    exact ⟨h'.1, h'.2.1, ih h'.2.2⟩
theorem tw_35 {T : List UInt8} (h : no35 T) (F : List UInt8) : (T ++ 35 :: F).takeWhile (fun b => !decide (b = 35)) = T ∧ (T ++ 35 :: F).dropWhile (fun b => !decide (b = 35)) = 35 :: F := by
  induction T with
  | nil => simp
  | cons t T ih =>
    have ht : t ≠ 35 := h t (by simp)
    have := ih fun b hb => h b (by simp [hb])
    simp [List.takeWhile_cons, List.dropWhile_cons, ht, this]
theorem tw_n35 {T : List UInt8} (h : no35 T) : T.takeWhile (fun b => !decide (b = 35)) = T ∧ T.dropWhile (fun b => !decide (b = 35)) = [] := by
  induction T with
  | nil => simp
  | cons t T ih =>
    have ht : t ≠ 35 := h t (by simp)
    have := ih fun b hb => h b (by simp [hb])
    simp [List.takeWhile_cons, List.dropWhile_cons, ht, this]

/-! ### What the text says, and what it says without its end -/
theorem cutB35 {T : List UInt8} (h : no35 T) (F : List UInt8) : cutB (mkS (T ++ 35 :: F)) 35 = mkS T ∧ cutB (mkS T) 35 = mkS T := by
  unfold cutB
  rw [mkS_data, mkS_data, (tw_35 h F).1, (tw_n35 h).1]
  exact ⟨rfl, rfl⟩
theorem tFr35 {T : List UInt8} (h : no35 T) (F : List UInt8) : tFr (mkS (T ++ 35 :: F)) = mkS F ∧ tFr (mkS T) = nB := by
  unfold tFr cutA
  rw [mkS_data, mkS_data, (tw_35 h F).2, (tw_n35 h).2]
  exact ⟨rfl, rfl⟩
theorem tHF35 {T : List UInt8} (h : no35 T) (F : List UInt8) : tHF (mkS T) = false := by
  unfold tHF cutF
  rw [mkS_data, List.any_eq_false]
  intro b hb
  simpa using h b hb
theorem uRst_35 (A F : List UInt8) : uRst (mkS (A ++ 35 :: F)) = mkS (A.drop (atL A) ++ 35 :: F) := by
  rw [uRst_mk, atL_35, drop_app _ _ (atL_le A)]
theorem tOk_35 {T : List UInt8} (h : no35 T) (F : List UInt8) (ho : tOk (mkS (T ++ 35 :: F)) = true) : tOk (mkS T) = true := by
  unfold tOk tPa tQu at ho ⊢
  rw [(cutB35 h F).1, brS_app, brS_app] at ho
  rw [(cutB35 h F).2, (tFr35 h F).2, brS_app, brS_app]
  have e : brS nB = false := rfl
  rw [e]
  have e2 : (nB.data.toList.any fun b => decide (b = 35)) = false := rfl
  rw [e2]
  revert ho
  generalize brS (cutB (mkS T) 63) = x
  generalize brS (cutA (mkS T) 63) = y
  generalize brS _ = z
  generalize List.any _ _ = w
  intro ho
  cases x <;> cases y <;> cases z <;> cases w <;> first | rfl | (cases ho; done)
theorem uOk_35 (A F : List UInt8) (hn : no35 A) (h : uOk (mkS (A ++ 35 :: F)) = true) : uOk (mkS A) = true := by
  unfold uOk at h ⊢
  simp only [Bool.and_eq_true] at h ⊢
  obtain ⟨h1, h2, h3, h4⟩ := h
  have hR : no35 (A.drop (atL A)) := no35_drop hn _
  refine ⟨?_, ?_, ?_, ?_⟩
  · rw [uSOk_mk] at h1 ⊢; exact scL_35 A F h1
  · exact stL_35 F A h2
  · rw [uRst_35] at h3
    rw [uRst_mk]
    unfold rOkU at h3 ⊢
    rw [rHA_mk, haL_35 _ _ hR, rAu_mk] at h3
    rw [rHA_mk, rAu_mk]
    cases hh : haL (A.drop (atL A)) with
    | false => rfl
    | true => rw [hh, auL_35 _ _ hh] at h3; exact h3
  · rw [uRst_35, rAf_mk, rsL_35 _ _ hR] at h4
    rw [uRst_mk, rAf_mk]
    exact tOk_35 (no35_rs hR) F h4
/-- What is read: all but the end is read alike. -/
theorem read_35 (A F : List UInt8) (hn : no35 A) :
    (w0 (mkS (A ++ 35 :: F)) = w0 (mkS A) ∧ w1 (mkS (A ++ 35 :: F)) = w1 (mkS A) ∧ x2 (mkS (A ++ 35 :: F)) = x2 (mkS A) ∧ w3 (mkS (A ++ 35 :: F)) = w3 (mkS A) ∧ w4 (mkS (A ++ 35 :: F)) = w4 (mkS A) ∧ x5 (mkS (A ++ 35 :: F)) = x5 (mkS A) ∧ x6 (mkS (A ++ 35 :: F)) = x6 (mkS A)) ∧
    w7 (mkS (A ++ 35 :: F)) = w7 (mkS A) ∧ w8 (mkS (A ++ 35 :: F)) = w8 (mkS A) ∧ x9 (mkS (A ++ 35 :: F)) = x9 (mkS A) ∧ wT (mkS (A ++ 35 :: F)) = mkS F ∧ wT (mkS A) = nB ∧ xE (mkS A) = false := by
  have hR : no35 (A.drop (atL A)) := no35_drop hn _
  have hT := no35_rs hR
  unfold w0 w1 x2 w3 w4 x5 x6 w7 w8 x9 wT xE
  rw [uSch_mk, uSch_mk, shL_35, uRst_35, uRst_mk, rAf_mk, rAf_mk, rsL_35 _ _ hR, (tFr35 hT F).1, (tFr35 hT F).2, tHF35 hT F]
  refine ⟨⟨rfl, ?_, ?_, ?_, ?_, ?_, ?_⟩, ?_, ?_, ?_, rfl, rfl, rfl⟩
  · unfold rUsr; rw [rHA_mk, rHA_mk, haL_35 _ _ hR, rAu_mk, rAu_mk]; split
    · rename_i h; rw [auL_35 _ _ h]
    · rfl
  · unfold rHU; rw [rHA_mk, rHA_mk, haL_35 _ _ hR, rAu_mk, rAu_mk]
    cases h : haL (A.drop (atL A)) with
    | true => rw [auL_35 _ _ h]
    | false => rfl
  · unfold rHost; rw [rHA_mk, rHA_mk, haL_35 _ _ hR, rAu_mk, rAu_mk]; split
    · rename_i h; rw [auL_35 _ _ h]
    · rfl
  · unfold rPort; rw [rHA_mk, rHA_mk, haL_35 _ _ hR, rAu_mk, rAu_mk]; split
    · rename_i h; rw [auL_35 _ _ h]
    · rfl
  · unfold rHP; rw [rHA_mk, rHA_mk, haL_35 _ _ hR, rAu_mk, rAu_mk]
    cases h : haL (A.drop (atL A)) with
    | true => rw [auL_35 _ _ h]
    | false => rfl
  · rw [rHA_mk, rHA_mk, haL_35 _ _ hR]
  · unfold tPa; rw [(cutB35 hT F).1, (cutB35 hT F).2]
  · unfold tQu; rw [(cutB35 hT F).1, (cutB35 hT F).2]
  · unfold tHQ; rw [(cutB35 hT F).1, (cutB35 hT F).2]
theorem split35 : ∀ l : List UInt8, no35 l ∨ ∃ A F, l = A ++ 35 :: F ∧ no35 A
  | [] => .inl fun b hb => by cases hb
  | c :: l => by
    by_cases h : c = 35
    · subst h
      exact .inr ⟨[], l, rfl, fun b hb => by cases hb⟩
    · rcases split35 l with h1 | ⟨A, F, rfl, h1⟩
      · exact .inl fun b hb => by
          rcases List.mem_cons.1 hb with rfl | hb
          · exact h
          · exact h1 b hb
      · refine .inr ⟨c :: A, F, rfl, fun b hb => ?_⟩
        rcases List.mem_cons.1 hb with rfl | hb
        · exact h
        · exact h1 b hb
theorem beqB (a b : ByteArray) : (a == b) = true ↔ a = b := by
  cases a with | mk a => cases b with | mk b =>
  show (a == b) = true ↔ _
  rw [beq_iff_eq]
  constructor
  · intro h; rw [h]
  · intro h; cases h; rfl
theorem eqU_iff {J sc us ho po pa qu fr : ByteArray} {hu hp ha hq hf : Bool} : eqU J sc us ho po pa qu fr hu hp ha hq hf = true ↔
    (w0 J = sc ∧ w1 J = us ∧ x2 J = hu ∧ w3 J = ho ∧ w4 J = po ∧ x5 J = hp ∧ x6 J = ha) ∧ w7 J = pa ∧ w8 J = qu ∧ x9 J = hq ∧ wT J = fr ∧ xE J = hf := by
  unfold eqU
  simp only [Bool.and_eq_true, beqB, beq_iff_eq, Bool.and_true]
  constructor
  · rintro ⟨a, b, c, d, e, f, g, h, i, j, k, l⟩; exact ⟨⟨a, b, c, d, e, f, g⟩, h, i, j, k, l⟩
  · rintro ⟨⟨a, b, c, d, e, f, g⟩, h, i, j, k, l⟩; exact ⟨a, b, c, d, e, f, g, h, i, j, k, l⟩
/-- A URL without the part behind '#' may be, if it may be with it. -/
theorem may_cut {sc us ho po pa qu fr : ByteArray} {hu hp ha hq hf : Bool} (h : mayU sc us ho po pa qu fr hu hp ha hq hf = true) : mayU sc us ho po pa qu nB hu hp ha hq false = true := by
  unfold mayU at h ⊢
  simp only [Bool.and_eq_true, Bool.not_eq_true', decide_eq_false_iff_not, eqU_iff] at h ⊢
  obtain ⟨hz, hu1, ⟨he1, he7, he8, he9, heT, heE⟩⟩ := h
  have hJ : joinU sc us ho po pa qu fr hu hp ha hq hf = joinU sc us ho po pa qu nB hu hp ha hq false ++ jFr hf fr := by
    have : joinU sc us ho po pa qu nB hu hp ha hq false = ((((((jSc sc ++ jAu ha) ++ jUs hu us) ++ ho) ++ jPo hp po) ++ pa) ++ jQu hq qu) := bA_appNil _
    rw [this]; rfl
  rw [hJ] at hz hu1 he1 he7 he8 he9 heT heE
  generalize joinU sc us ho po pa qu nB hu hp ha hq false = B at hz hu1 he1 he7 he8 he9 heT heE ⊢
  obtain ⟨b, rfl⟩ : ∃ b, B = mkS b := ⟨_, (mkS_bl B).symm⟩
  cases hf with
  | false =>
    rw [show jFr false fr = ⟨#[]⟩ from rfl, bA_appNil] at hz hu1 he1 he7 he8 he9 heT heE
    refine ⟨hz, hu1, he1, he7, he8, he9, ?_, heE⟩
    unfold wT tFr cutA
    unfold xE tHF cutF at heE
    rw [List.any_eq_false] at heE
    have : no35 (rAf (uRst (mkS b))).data.toList := fun x hx => by simpa using heE x hx
    rw [(tw_n35 this).2]
    rfl
  | true =>
    have e1 : mkS b ++ jFr true fr = mkS (b ++ 35 :: fr.data.toList) := by
      show mkS b ++ (mkS [35] ++ fr) = _
      rw [← mkS_bl fr, mkS_app, mkS_app, mkS_data]
      rfl
    rw [e1] at hz hu1 he1 he7 he8 he9 heT heE
    rcases split35 (b ++ 35 :: fr.data.toList) with h | ⟨A, F, hAF, hn⟩
    · exact absurd rfl (h 35 (by simp))
    · rw [hAF] at hz hu1 he1 he7 he8 he9 heT heE
      obtain ⟨⟨r0, r1, r2, r3, r4, r5, r6⟩, r7, r8, r9, rT, rT', rE⟩ := read_35 A F hn
      have hF : F = fr.data.toList := by
        rw [rT] at heT
        have := congrArg (fun x => x.data.toList) heT
        simpa [mkS_data] using this
      have hA : b = A := by
        rw [← hF] at hAF
        exact List.append_cancel_right hAF
      subst hA
      refine ⟨?_, uOk_35 b F hn hu1, ?_, ?_, ?_, ?_, rT', rE⟩
      · rw [sizeM, List.length_append] at hz; rw [sizeM]; omega
      · rw [r0, r1, r2, r3, r4, r5, r6] at he1; exact he1
      · rw [r7] at he7; exact he7
      · rw [r8] at he8; exact he8
      · rw [r9] at he9; exact he9

end Go.Pv

/- A reference against a base: trees. -/
namespace Go.Pv
set_option linter.unusedVariables false
set_option maxRecDepth 100000
open Go Go.Proofs

def X0 : Table := fun _ _ => none
def X24 : Table := fun g => if Nat.beq g 24 then M12 else X0 g
def X19 : Table := fun g => if Nat.beq g 19 then Q19 else X24 g
def X25 : Table := fun g => if Nat.beq g 25 then L54 else X19 g
def zV : CV := uV nB nB false nB nB false false nB nB false nB false
noncomputable def c11 : Code := codeOf Tryz.prog 11
def h11a : Head := ⟨[4, 6], [], 4⟩
def h11b : Head := ⟨[4, 6, 7], [], 4⟩
def hL11 : Head := ⟨[4, 6, 7, 145, 146, 147], [(145, 1)], 4⟩
def an11 : Ann := fun i => if Nat.beq i 500018 then some h11a else if Nat.beq i 500019 then some h11b else if Nat.beq i 500025 then some h11b else if Nat.beq i 20 then some hL11 else none
def E11 : Env := mkEnv 163 [(4, .bptr 2 0), (6, .bptr 3 0)]
def E11s (s : Int) : Env := mkEnv 163 [(4, .bptr 2 0), (6, .bptr 3 0), (7, .c (.int .i64 s))]
def E11L (s m i : Int) : Env := mkEnv 163 [(4, .bptr 2 0), (6, .bptr 3 0), (7, .c (.int .i64 s)), (145, .rw 4 0), (146, .c (.int .i64 m)), (147, .c (.int .i64 i))]
def B11 (b r o : CV) : Hp := [.box (.c b) kU, .box (.c r) kU, .box (.c zV) kU, .box (.c o) kU]
theorem rra0 (sc us ho po pa qu fr : ByteArray) (hu hp ha hq hf : Bool) (n : Nat) (L : Env → Hp → Res) : aexec Tryz.prog (call' X25) (filt an11 0) n (prefC 5 c11) (envOf Tryz.prog 11 [.c (uV sc us hu ho po hp ha pa qu hq fr hf), .c zV]) [] (thenK (headK h11a L) (endOf Tryz.prog 11 [])) =
 bif' (n7 sc us ho po pa qu fr && mayU sc us ho po pa qu fr hu hp ha hq hf) (bif' (n7 nB nB nB nB nB nB nB && mayU nB nB nB nB nB nB nB false false false false false) (bif' (sc.toList == (ByteArray.mk #[]).toList) (some (CV.tup [CV.agg [CV.str ⟨⟨[]⟩⟩, CV.str ⟨⟨[]⟩⟩, CV.bool false, CV.str ⟨⟨[]⟩⟩, CV.str ⟨⟨[]⟩⟩, CV.bool false, CV.bool false, CV.str ⟨⟨[]⟩⟩, CV.str ⟨⟨[]⟩⟩, CV.bool false, CV.str ⟨⟨[]⟩⟩, CV.bool false], CV.int IntKind.i64 (Int.ofNat 1)], [])) (L (mkEnv 163 [(4, PV.bptr 2 0), (6, PV.bptr 3 0)]) [AO.box (PV.c (CV.agg [CV.str sc, CV.str us, CV.bool hu, CV.str ho, CV.str po, CV.bool hp, CV.bool ha, CV.str pa, CV.str qu, CV.bool hq, CV.str fr, CV.bool hf])) (kU), AO.box (PV.c (CV.agg [CV.str ⟨⟨[]⟩⟩, CV.str ⟨⟨[]⟩⟩, CV.bool false, CV.str ⟨⟨[]⟩⟩, CV.str ⟨⟨[]⟩⟩, CV.bool false, CV.bool false, CV.str ⟨⟨[]⟩⟩, CV.str ⟨⟨[]⟩⟩, CV.bool false, CV.str ⟨⟨[]⟩⟩, CV.bool false])) kU, AO.box (PV.c (CV.agg [CV.str ⟨⟨[]⟩⟩, CV.str ⟨⟨[]⟩⟩, CV.bool false, CV.str ⟨⟨[]⟩⟩, CV.str ⟨⟨[]⟩⟩, CV.bool false, CV.bool false, CV.str ⟨⟨[]⟩⟩, CV.str ⟨⟨[]⟩⟩, CV.bool false, CV.str ⟨⟨[]⟩⟩, CV.bool false])) kU, AO.box (PV.c (CV.agg [CV.str sc, CV.str us, CV.bool hu, CV.str ho, CV.str po, CV.bool hp, CV.bool ha, CV.str pa, CV.str qu, CV.bool hq, CV.str ⟨⟨[]⟩⟩, CV.bool false])) kU])) (bif' (n7 nB nB nB nB nB nB nB) (some (CV.tup [CV.agg [CV.str ⟨⟨[]⟩⟩, CV.str ⟨⟨[]⟩⟩, CV.bool false, CV.str ⟨⟨[]⟩⟩, CV.str ⟨⟨[]⟩⟩, CV.bool false, CV.bool false, CV.str ⟨⟨[]⟩⟩, CV.str ⟨⟨[]⟩⟩, CV.bool false, CV.str ⟨⟨[]⟩⟩, CV.bool false], CV.int IntKind.i64 (Int.ofNat 1)], [])) none)) (bif' (n7 sc us ho po pa qu fr) (some (CV.tup [CV.agg [CV.str ⟨⟨[]⟩⟩, CV.str ⟨⟨[]⟩⟩, CV.bool false, CV.str ⟨⟨[]⟩⟩, CV.str ⟨⟨[]⟩⟩, CV.bool false, CV.bool false, CV.str ⟨⟨[]⟩⟩, CV.str ⟨⟨[]⟩⟩, CV.bool false, CV.str ⟨⟨[]⟩⟩, CV.bool false], CV.int IntKind.i64 (Int.ofNat 1)], [])) none) := by kernel_rfl
theorem rra1 (sc us ho po pa qu fr : ByteArray) (hu hp ha hq hf : Bool) (n : Nat) (L : Env → Hp → Res) : aexec Tryz.prog (call' X25) (filt an11 0) n (prefC 5 c11) (envOf Tryz.prog 11 [.c (uV sc us hu ho po hp ha pa qu hq fr hf), .c (uV sc us hu ho po hp ha pa qu hq fr hf)]) [] (thenK (headK h11a L) (endOf Tryz.prog 11 [])) =
 bif' (n7 sc us ho po pa qu fr && mayU sc us ho po pa qu fr hu hp ha hq hf) (bif' (n7 sc us ho po pa qu fr && mayU sc us ho po pa qu fr hu hp ha hq hf) (bif' (sc.toList == (ByteArray.mk #[]).toList) (some (CV.tup [CV.agg [CV.str ⟨⟨[]⟩⟩, CV.str ⟨⟨[]⟩⟩, CV.bool false, CV.str ⟨⟨[]⟩⟩, CV.str ⟨⟨[]⟩⟩, CV.bool false, CV.bool false, CV.str ⟨⟨[]⟩⟩, CV.str ⟨⟨[]⟩⟩, CV.bool false, CV.str ⟨⟨[]⟩⟩, CV.bool false], CV.int IntKind.i64 (Int.ofNat 1)], [])) (bif' (!sc.toList == (ByteArray.mk #[]).toList) (bif' (decide (pa.size ≤ 4000)) (bif' (sc.toList == (ByteArray.mk #[]).toList) (L (mkEnv 163 [(4, PV.bptr 2 0), (6, PV.bptr 3 0)]) [AO.box (PV.c (CV.agg [CV.str sc, CV.str us, CV.bool hu, CV.str ho, CV.str po, CV.bool hp, CV.bool ha, CV.str pa, CV.str qu, CV.bool hq, CV.str fr, CV.bool hf])) (kU), AO.box (PV.c (CV.agg [CV.str sc, CV.str us, CV.bool hu, CV.str ho, CV.str po, CV.bool hp, CV.bool ha, CV.str pa, CV.str qu, CV.bool hq, CV.str fr, CV.bool hf])) (kU), AO.box (PV.c (CV.agg [CV.str ⟨⟨[]⟩⟩, CV.str ⟨⟨[]⟩⟩, CV.bool false, CV.str ⟨⟨[]⟩⟩, CV.str ⟨⟨[]⟩⟩, CV.bool false, CV.bool false, CV.str ⟨⟨[]⟩⟩, CV.str ⟨⟨[]⟩⟩, CV.bool false, CV.str ⟨⟨[]⟩⟩, CV.bool false])) kU, AO.box (PV.c (CV.agg [CV.str sc, CV.str us, CV.bool hu, CV.str ho, CV.str po, CV.bool hp, CV.bool ha, CV.str (dotS pa), CV.str qu, CV.bool hq, CV.str fr, CV.bool hf])) kU]) (L (mkEnv 163 [(4, PV.bptr 2 0), (6, PV.bptr 3 0)]) [AO.box (PV.c (CV.agg [CV.str sc, CV.str us, CV.bool hu, CV.str ho, CV.str po, CV.bool hp, CV.bool ha, CV.str pa, CV.str qu, CV.bool hq, CV.str fr, CV.bool hf])) (kU), AO.box (PV.c (CV.agg [CV.str sc, CV.str us, CV.bool hu, CV.str ho, CV.str po, CV.bool hp, CV.bool ha, CV.str pa, CV.str qu, CV.bool hq, CV.str fr, CV.bool hf])) (kU), AO.box (PV.c (CV.agg [CV.str ⟨⟨[]⟩⟩, CV.str ⟨⟨[]⟩⟩, CV.bool false, CV.str ⟨⟨[]⟩⟩, CV.str ⟨⟨[]⟩⟩, CV.bool false, CV.bool false, CV.str ⟨⟨[]⟩⟩, CV.str ⟨⟨[]⟩⟩, CV.bool false, CV.str ⟨⟨[]⟩⟩, CV.bool false])) kU, AO.box (PV.c (CV.agg [CV.str sc, CV.str us, CV.bool hu, CV.str ho, CV.str po, CV.bool hp, CV.bool ha, CV.str (dotS pa), CV.str qu, CV.bool hq, CV.str fr, CV.bool hf])) kU])) none) (bif' ha (bif' (decide (pa.size ≤ 4000)) (bif' (sc.toList == (ByteArray.mk #[]).toList) (L (mkEnv 163 [(4, PV.bptr 2 0), (6, PV.bptr 3 0)]) [AO.box (PV.c (CV.agg [CV.str sc, CV.str us, CV.bool hu, CV.str ho, CV.str po, CV.bool hp, CV.bool ha, CV.str pa, CV.str qu, CV.bool hq, CV.str fr, CV.bool hf])) (kU), AO.box (PV.c (CV.agg [CV.str sc, CV.str us, CV.bool hu, CV.str ho, CV.str po, CV.bool hp, CV.bool ha, CV.str pa, CV.str qu, CV.bool hq, CV.str fr, CV.bool hf])) (kU), AO.box (PV.c (CV.agg [CV.str ⟨⟨[]⟩⟩, CV.str ⟨⟨[]⟩⟩, CV.bool false, CV.str ⟨⟨[]⟩⟩, CV.str ⟨⟨[]⟩⟩, CV.bool false, CV.bool false, CV.str ⟨⟨[]⟩⟩, CV.str ⟨⟨[]⟩⟩, CV.bool false, CV.str ⟨⟨[]⟩⟩, CV.bool false])) kU, AO.box (PV.c (CV.agg [CV.str sc, CV.str us, CV.bool hu, CV.str ho, CV.str po, CV.bool hp, CV.bool ha, CV.str (dotS pa), CV.str qu, CV.bool hq, CV.str fr, CV.bool hf])) kU]) (L (mkEnv 163 [(4, PV.bptr 2 0), (6, PV.bptr 3 0)]) [AO.box (PV.c (CV.agg [CV.str sc, CV.str us, CV.bool hu, CV.str ho, CV.str po, CV.bool hp, CV.bool ha, CV.str pa, CV.str qu, CV.bool hq, CV.str fr, CV.bool hf])) (kU), AO.box (PV.c (CV.agg [CV.str sc, CV.str us, CV.bool hu, CV.str ho, CV.str po, CV.bool hp, CV.bool ha, CV.str pa, CV.str qu, CV.bool hq, CV.str fr, CV.bool hf])) (kU), AO.box (PV.c (CV.agg [CV.str ⟨⟨[]⟩⟩, CV.str ⟨⟨[]⟩⟩, CV.bool false, CV.str ⟨⟨[]⟩⟩, CV.str ⟨⟨[]⟩⟩, CV.bool false, CV.bool false, CV.str ⟨⟨[]⟩⟩, CV.str ⟨⟨[]⟩⟩, CV.bool false, CV.str ⟨⟨[]⟩⟩, CV.bool false])) kU, AO.box (PV.c (CV.agg [CV.str sc, CV.str us, CV.bool hu, CV.str ho, CV.str po, CV.bool hp, CV.bool ha, CV.str (dotS pa), CV.str qu, CV.bool hq, CV.str fr, CV.bool hf])) kU])) none) (bif' (pa.toList == (ByteArray.mk #[]).toList) (bif' (!hq) (L (mkEnv 163 [(4, PV.bptr 2 0), (6, PV.bptr 3 0)]) [AO.box (PV.c (CV.agg [CV.str sc, CV.str us, CV.bool hu, CV.str ho, CV.str po, CV.bool hp, CV.bool ha, CV.str pa, CV.str qu, CV.bool hq, CV.str fr, CV.bool hf])) (kU), AO.box (PV.c (CV.agg [CV.str sc, CV.str us, CV.bool hu, CV.str ho, CV.str po, CV.bool hp, CV.bool ha, CV.str pa, CV.str qu, CV.bool hq, CV.str fr, CV.bool hf])) (kU), AO.box (PV.c (CV.agg [CV.str ⟨⟨[]⟩⟩, CV.str ⟨⟨[]⟩⟩, CV.bool false, CV.str ⟨⟨[]⟩⟩, CV.str ⟨⟨[]⟩⟩, CV.bool false, CV.bool false, CV.str ⟨⟨[]⟩⟩, CV.str ⟨⟨[]⟩⟩, CV.bool false, CV.str ⟨⟨[]⟩⟩, CV.bool false])) kU, AO.box (PV.c (CV.agg [CV.str sc, CV.str us, CV.bool hu, CV.str ho, CV.str po, CV.bool hp, CV.bool ha, CV.str pa, CV.str qu, CV.bool hq, CV.str fr, CV.bool hf])) kU]) (L (mkEnv 163 [(4, PV.bptr 2 0), (6, PV.bptr 3 0)]) [AO.box (PV.c (CV.agg [CV.str sc, CV.str us, CV.bool hu, CV.str ho, CV.str po, CV.bool hp, CV.bool ha, CV.str pa, CV.str qu, CV.bool hq, CV.str fr, CV.bool hf])) (kU), AO.box (PV.c (CV.agg [CV.str sc, CV.str us, CV.bool hu, CV.str ho, CV.str po, CV.bool hp, CV.bool ha, CV.str pa, CV.str qu, CV.bool hq, CV.str fr, CV.bool hf])) (kU), AO.box (PV.c (CV.agg [CV.str ⟨⟨[]⟩⟩, CV.str ⟨⟨[]⟩⟩, CV.bool false, CV.str ⟨⟨[]⟩⟩, CV.str ⟨⟨[]⟩⟩, CV.bool false, CV.bool false, CV.str ⟨⟨[]⟩⟩, CV.str ⟨⟨[]⟩⟩, CV.bool false, CV.str ⟨⟨[]⟩⟩, CV.bool false])) kU, AO.box (PV.c (CV.agg [CV.str sc, CV.str us, CV.bool hu, CV.str ho, CV.str po, CV.bool hp, CV.bool ha, CV.str pa, CV.str qu, CV.bool hq, CV.str fr, CV.bool hf])) kU])) (bif' (decide (0 < (↑pa.size : Int))) (bif' (byteAt pa 0 == 47) (bif' (decide (pa.size ≤ 4000)) (L (mkEnv 163 [(4, PV.bptr 2 0), (6, PV.bptr 3 0)]) [AO.box (PV.c (CV.agg [CV.str sc, CV.str us, CV.bool hu, CV.str ho, CV.str po, CV.bool hp, CV.bool ha, CV.str pa, CV.str qu, CV.bool hq, CV.str fr, CV.bool hf])) (kU), AO.box (PV.c (CV.agg [CV.str sc, CV.str us, CV.bool hu, CV.str ho, CV.str po, CV.bool hp, CV.bool ha, CV.str pa, CV.str qu, CV.bool hq, CV.str fr, CV.bool hf])) (kU), AO.box (PV.c (CV.agg [CV.str ⟨⟨[]⟩⟩, CV.str ⟨⟨[]⟩⟩, CV.bool false, CV.str ⟨⟨[]⟩⟩, CV.str ⟨⟨[]⟩⟩, CV.bool false, CV.bool false, CV.str ⟨⟨[]⟩⟩, CV.str ⟨⟨[]⟩⟩, CV.bool false, CV.str ⟨⟨[]⟩⟩, CV.bool false])) kU, AO.box (PV.c (CV.agg [CV.str sc, CV.str us, CV.bool hu, CV.str ho, CV.str po, CV.bool hp, CV.bool ha, CV.str (dotS pa), CV.str qu, CV.bool hq, CV.str fr, CV.bool hf])) kU]) none) (bif' ha (bif' (pa.toList == (ByteArray.mk #[]).toList) (bif' (fitsS (1 + pa.size)) (bif' (decide ((ByteArray.mk #[47] ++ pa).size ≤ 4000)) (L (mkEnv 163 [(4, PV.bptr 2 0), (6, PV.bptr 3 0)]) [AO.box (PV.c (CV.agg [CV.str sc, CV.str us, CV.bool hu, CV.str ho, CV.str po, CV.bool hp, CV.bool ha, CV.str pa, CV.str qu, CV.bool hq, CV.str fr, CV.bool hf])) (kU), AO.box (PV.c (CV.agg [CV.str sc, CV.str us, CV.bool hu, CV.str ho, CV.str po, CV.bool hp, CV.bool ha, CV.str pa, CV.str qu, CV.bool hq, CV.str fr, CV.bool hf])) (kU), AO.box (PV.c (CV.agg [CV.str ⟨⟨[]⟩⟩, CV.str ⟨⟨[]⟩⟩, CV.bool false, CV.str ⟨⟨[]⟩⟩, CV.str ⟨⟨[]⟩⟩, CV.bool false, CV.bool false, CV.str ⟨⟨[]⟩⟩, CV.str ⟨⟨[]⟩⟩, CV.bool false, CV.str ⟨⟨[]⟩⟩, CV.bool false])) kU, AO.box (PV.c (CV.agg [CV.str sc, CV.str us, CV.bool hu, CV.str ho, CV.str po, CV.bool hp, CV.bool ha, CV.str (dotS (ByteArray.mk #[47] ++ pa)), CV.str qu, CV.bool hq, CV.str fr, CV.bool hf])) kU]) none) none) (bif' (decide (pa.size ≤ 10000)) (bif' (decide (0 ≤ IntKind.i64.wrap (lastI pa 47 + 1))) (bif' (decide (IntKind.i64.wrap (lastI pa 47 + 1) ≤ (↑pa.size : Int))) (bif' (fitsS ((pa.extract 0 (IntKind.i64.wrap (lastI pa 47 + 1)).toNat).size + pa.size)) (bif' (decide ((pa.extract 0 (IntKind.i64.wrap (lastI pa 47 + 1)).toNat ++ pa).size ≤ 4000)) (L (mkEnv 163 [(4, PV.bptr 2 0), (6, PV.bptr 3 0)]) [AO.box (PV.c (CV.agg [CV.str sc, CV.str us, CV.bool hu, CV.str ho, CV.str po, CV.bool hp, CV.bool ha, CV.str pa, CV.str qu, CV.bool hq, CV.str fr, CV.bool hf])) (kU), AO.box (PV.c (CV.agg [CV.str sc, CV.str us, CV.bool hu, CV.str ho, CV.str po, CV.bool hp, CV.bool ha, CV.str pa, CV.str qu, CV.bool hq, CV.str fr, CV.bool hf])) (kU), AO.box (PV.c (CV.agg [CV.str ⟨⟨[]⟩⟩, CV.str ⟨⟨[]⟩⟩, CV.bool false, CV.str ⟨⟨[]⟩⟩, CV.str ⟨⟨[]⟩⟩, CV.bool false, CV.bool false, CV.str ⟨⟨[]⟩⟩, CV.str ⟨⟨[]⟩⟩, CV.bool false, CV.str ⟨⟨[]⟩⟩, CV.bool false])) kU, AO.box (PV.c (CV.agg [CV.str sc, CV.str us, CV.bool hu, CV.str ho, CV.str po, CV.bool hp, CV.bool ha, CV.str (dotS (pa.extract 0 (IntKind.i64.wrap (lastI pa 47 + 1)).toNat ++ pa)), CV.str qu, CV.bool hq, CV.str fr, CV.bool hf])) kU]) none) none) none) none) none)) (bif' (decide (pa.size ≤ 10000)) (bif' (decide (0 ≤ IntKind.i64.wrap (lastI pa 47 + 1))) (bif' (decide (IntKind.i64.wrap (lastI pa 47 + 1) ≤ (↑pa.size : Int))) (bif' (fitsS ((pa.extract 0 (IntKind.i64.wrap (lastI pa 47 + 1)).toNat).size + pa.size)) (bif' (decide ((pa.extract 0 (IntKind.i64.wrap (lastI pa 47 + 1)).toNat ++ pa).size ≤ 4000)) (L (mkEnv 163 [(4, PV.bptr 2 0), (6, PV.bptr 3 0)]) [AO.box (PV.c (CV.agg [CV.str sc, CV.str us, CV.bool hu, CV.str ho, CV.str po, CV.bool hp, CV.bool ha, CV.str pa, CV.str qu, CV.bool hq, CV.str fr, CV.bool hf])) (kU), AO.box (PV.c (CV.agg [CV.str sc, CV.str us, CV.bool hu, CV.str ho, CV.str po, CV.bool hp, CV.bool ha, CV.str pa, CV.str qu, CV.bool hq, CV.str fr, CV.bool hf])) (kU), AO.box (PV.c (CV.agg [CV.str ⟨⟨[]⟩⟩, CV.str ⟨⟨[]⟩⟩, CV.bool false, CV.str ⟨⟨[]⟩⟩, CV.str ⟨⟨[]⟩⟩, CV.bool false, CV.bool false, CV.str ⟨⟨[]⟩⟩, CV.str ⟨⟨[]⟩⟩, CV.bool false, CV.str ⟨⟨[]⟩⟩, CV.bool false])) kU, AO.box (PV.c (CV.agg [CV.str sc, CV.str us, CV.bool hu, CV.str ho, CV.str po, CV.bool hp, CV.bool ha, CV.str (dotS (pa.extract 0 (IntKind.i64.wrap (lastI pa 47 + 1)).toNat ++ pa)), CV.str qu, CV.bool hq, CV.str fr, CV.bool hf])) kU]) none) none) none) none) none))) none))))) (bif' (n7 sc us ho po pa qu fr) (some (CV.tup [CV.agg [CV.str ⟨⟨[]⟩⟩, CV.str ⟨⟨[]⟩⟩, CV.bool false, CV.str ⟨⟨[]⟩⟩, CV.str ⟨⟨[]⟩⟩, CV.bool false, CV.bool false, CV.str ⟨⟨[]⟩⟩, CV.str ⟨⟨[]⟩⟩, CV.bool false, CV.str ⟨⟨[]⟩⟩, CV.bool false], CV.int IntKind.i64 (Int.ofNat 1)], [])) none)) (bif' (n7 sc us ho po pa qu fr) (some (CV.tup [CV.agg [CV.str ⟨⟨[]⟩⟩, CV.str ⟨⟨[]⟩⟩, CV.bool false, CV.str ⟨⟨[]⟩⟩, CV.str ⟨⟨[]⟩⟩, CV.bool false, CV.bool false, CV.str ⟨⟨[]⟩⟩, CV.str ⟨⟨[]⟩⟩, CV.bool false, CV.str ⟨⟨[]⟩⟩, CV.bool false], CV.int IntKind.i64 (Int.ofNat 1)], [])) none) := by kernel_rfl
theorem rrb (b r : CV) (sc us ho po pa qu fr : ByteArray) (hu hp ha hq hf : Bool) (n : Nat) (L : Env → Hp → Res) : aexecB Tryz.prog (call' X25) (filt an11 0) n (prefC 1 (tailC 5 c11)) E11 (B11 b r (uV sc us hu ho po hp ha pa qu hq fr hf)) (thenK (headK h11b L) (endOf Tryz.prog 11 [])) =
 L (mkEnv 163 [(4, PV.bptr 2 0), (6, PV.bptr 3 0), (7, PV.c (CV.int IntKind.i64 (IntKind.i64.wrap (IntKind.i64.wrap (IntKind.i64.wrap (IntKind.i64.wrap (IntKind.i64.wrap (IntKind.i64.wrap ((↑sc.size : Int) + (↑us.size : Int)) + (↑ho.size : Int)) + (↑po.size : Int)) + (↑pa.size : Int)) + (↑qu.size : Int)) + (↑fr.size : Int)))))]) [AO.box (PV.c b) kU, AO.box (PV.c r) kU, AO.box (PV.c (CV.agg [CV.str ⟨⟨[]⟩⟩, CV.str ⟨⟨[]⟩⟩, CV.bool false, CV.str ⟨⟨[]⟩⟩, CV.str ⟨⟨[]⟩⟩, CV.bool false, CV.bool false, CV.str ⟨⟨[]⟩⟩, CV.str ⟨⟨[]⟩⟩, CV.bool false, CV.str ⟨⟨[]⟩⟩, CV.bool false])) kU, AO.box (PV.c (CV.agg [CV.str sc, CV.str us, CV.bool hu, CV.str ho, CV.str po, CV.bool hp, CV.bool ha, CV.str pa, CV.str qu, CV.bool hq, CV.str fr, CV.bool hf])) kU] := by kernel_rfl
theorem rrc (b r : CV) (sc us ho po pa qu fr : ByteArray) (hu hp ha hq hf : Bool) (s : Int) (n : Nat) (R : Env → Hp → Res) (K : KX) : partsB Tryz.prog (call' X25) (filt an11 0) n (prefC 1 (tailC 6 c11)) (E11s s) (B11 b r (uV sc us hu ho po hp ha pa qu hq fr hf)) (fun _ => headK hL11 R) K =
 R (mkEnv 163 [(4, PV.bptr 2 0), (6, PV.bptr 3 0), (7, PV.c (CV.int IntKind.i64 s)), (145, PV.rw 4 0), (146, PV.c (CV.int IntKind.i64 (↑((((((((List.replicate 7 (CV.bool false)).set 0 (CV.bool !sc.toList == (ByteArray.mk #[]).toList)).set 1 (rdc (CV.bool false) ((uV sc us hu ho po hp ha pa qu hq fr hf).cl.getD 6 CV.nilptr))).set 2 (rdc (CV.bool false) ((uV sc us hu ho po hp ha pa qu hq fr hf).cl.getD 6 CV.nilptr))).set 3 (rdc (CV.bool false) ((uV sc us hu ho po hp ha pa qu hq fr hf).cl.getD 2 CV.nilptr))).set 4 (rdc (CV.bool false) ((uV sc us hu ho po hp ha pa qu hq fr hf).cl.getD 5 CV.nilptr))).set 5 (rdc (CV.bool false) ((uV sc us hu ho po hp ha pa qu hq fr hf).cl.getD 9 CV.nilptr))).set 6 (rdc (CV.bool false) ((uV sc us hu ho po hp ha pa qu hq fr hf).cl.getD 11 CV.nilptr))).length : Int))), (147, PV.c (CV.int IntKind.i64 (Int.ofNat 0)))]) [AO.box (PV.c b) kU, AO.box (PV.c r) kU, AO.box (PV.c (CV.agg [CV.str ⟨⟨[]⟩⟩, CV.str ⟨⟨[]⟩⟩, CV.bool false, CV.str ⟨⟨[]⟩⟩, CV.str ⟨⟨[]⟩⟩, CV.bool false, CV.bool false, CV.str ⟨⟨[]⟩⟩, CV.str ⟨⟨[]⟩⟩, CV.bool false, CV.str ⟨⟨[]⟩⟩, CV.bool false])) kU, AO.box (PV.c (CV.agg [CV.str sc, CV.str us, CV.bool hu, CV.str ho, CV.str po, CV.bool hp, CV.bool ha, CV.str pa, CV.str qu, CV.bool hq, CV.str fr, CV.bool hf])) kU, AO.row [CV.bool !sc.toList == (ByteArray.mk #[]).toList, CV.bool ha, CV.bool ha, CV.bool hu, CV.bool hp, CV.bool hq, CV.bool hf] 1 0 false] := by kernel_rfl
theorem rre (b r : CV) (sc us ho po pa qu fr : ByteArray) (hu hp ha hq hf : Bool) (s m i : Int) (xs : List CV) (n : Nat) (R L : Env → Hp → Res) : aexec Tryz.prog (call' X25) (filt an11 0) n (bodyN 0 (prefC 1 (tailC 6 c11))) (E11L s m i) (B11 b r (uV sc us hu ho po hp ha pa qu hq fr hf) ++ [.row xs 1 0 false]) (thenK (headK hL11 R) (restN Tryz.prog (call' X25) (filt an11 0) n 0 (prefC 1 (tailC 6 c11)) (thenK (headK h11b L) (endOf Tryz.prog 11 [])))) =
 bif' (decide (i < m)) (bif' (decide (0 ≤ i)) (bif' (decide (i < (↑xs.length : Int))) (bif' (decide (i.toNat < xs.length)) (bif' (decide (0 < (xs.getD i.toNat CV.nilptr).cl.length)) (bif' (okc (CV.bool false) ((xs.getD i.toNat CV.nilptr).cl.getD 0 CV.nilptr)) (bif' ((xs.getD i.toNat CV.nilptr).cl.getD 0 CV.nilptr).toBool (R (mkEnv 163 [(4, PV.bptr 2 0), (6, PV.bptr 3 0), (7, PV.c (CV.int IntKind.i64 (IntKind.i64.wrap (s + 1)))), (145, PV.rw 4 0), (146, PV.c (CV.int IntKind.i64 m)), (147, PV.c (CV.int IntKind.i64 (IntKind.i64.wrap (i + 1))))]) [AO.box (PV.c b) kU, AO.box (PV.c r) kU, AO.box (PV.c (CV.agg [CV.str ⟨⟨[]⟩⟩, CV.str ⟨⟨[]⟩⟩, CV.bool false, CV.str ⟨⟨[]⟩⟩, CV.str ⟨⟨[]⟩⟩, CV.bool false, CV.bool false, CV.str ⟨⟨[]⟩⟩, CV.str ⟨⟨[]⟩⟩, CV.bool false, CV.str ⟨⟨[]⟩⟩, CV.bool false])) kU, AO.box (PV.c (CV.agg [CV.str sc, CV.str us, CV.bool hu, CV.str ho, CV.str po, CV.bool hp, CV.bool ha, CV.str pa, CV.str qu, CV.bool hq, CV.str fr, CV.bool hf])) kU, AO.row xs 1 0 false]) (R (mkEnv 163 [(4, PV.bptr 2 0), (6, PV.bptr 3 0), (7, PV.c (CV.int IntKind.i64 s)), (145, PV.rw 4 0), (146, PV.c (CV.int IntKind.i64 m)), (147, PV.c (CV.int IntKind.i64 (IntKind.i64.wrap (i + 1))))]) [AO.box (PV.c b) kU, AO.box (PV.c r) kU, AO.box (PV.c (CV.agg [CV.str ⟨⟨[]⟩⟩, CV.str ⟨⟨[]⟩⟩, CV.bool false, CV.str ⟨⟨[]⟩⟩, CV.str ⟨⟨[]⟩⟩, CV.bool false, CV.bool false, CV.str ⟨⟨[]⟩⟩, CV.str ⟨⟨[]⟩⟩, CV.bool false, CV.str ⟨⟨[]⟩⟩, CV.bool false])) kU, AO.box (PV.c (CV.agg [CV.str sc, CV.str us, CV.bool hu, CV.str ho, CV.str po, CV.bool hp, CV.bool ha, CV.str pa, CV.str qu, CV.bool hq, CV.str fr, CV.bool hf])) kU, AO.row xs 1 0 false])) none) none) none) none) none) (L (mkEnv 163 [(4, PV.bptr 2 0), (6, PV.bptr 3 0), (7, PV.c (CV.int IntKind.i64 s))]) [AO.box (PV.c b) kU, AO.box (PV.c r) kU, AO.box (PV.c (CV.agg [CV.str ⟨⟨[]⟩⟩, CV.str ⟨⟨[]⟩⟩, CV.bool false, CV.str ⟨⟨[]⟩⟩, CV.str ⟨⟨[]⟩⟩, CV.bool false, CV.bool false, CV.str ⟨⟨[]⟩⟩, CV.str ⟨⟨[]⟩⟩, CV.bool false, CV.str ⟨⟨[]⟩⟩, CV.bool false])) kU, AO.box (PV.c (CV.agg [CV.str sc, CV.str us, CV.bool hu, CV.str ho, CV.str po, CV.bool hp, CV.bool ha, CV.str pa, CV.str qu, CV.bool hq, CV.str fr, CV.bool hf])) kU]) := by kernel_rfl
theorem rrd (b r : CV) (sc us ho po pa qu fr : ByteArray) (hu hp ha hq hf : Bool) (s : Int) (n : Nat) : aexecB Tryz.prog (call' X25) (filt an11 0) n (tailC 7 c11) (E11s s) (B11 b r (uV sc us hu ho po hp ha pa qu hq fr hf)) (endOf Tryz.prog 11 []) =
 bif' (decide (s > 2048)) (some (CV.tup [CV.agg [CV.str ⟨⟨[]⟩⟩, CV.str ⟨⟨[]⟩⟩, CV.bool false, CV.str ⟨⟨[]⟩⟩, CV.str ⟨⟨[]⟩⟩, CV.bool false, CV.bool false, CV.str ⟨⟨[]⟩⟩, CV.str ⟨⟨[]⟩⟩, CV.bool false, CV.str ⟨⟨[]⟩⟩, CV.bool false], CV.int IntKind.i64 (Int.ofNat 3)], [])) (bif' (n7 sc us ho po pa qu fr && mayU sc us ho po pa qu fr hu hp ha hq hf) (some (CV.tup [CV.agg [CV.str sc, CV.str us, CV.bool hu, CV.str ho, CV.str po, CV.bool hp, CV.bool ha, CV.str pa, CV.str qu, CV.bool hq, CV.str fr, CV.bool hf], CV.int IntKind.i64 (Int.ofNat 0)], [])) (bif' (n7 sc us ho po pa qu fr) (some (CV.tup [CV.agg [CV.str ⟨⟨[]⟩⟩, CV.str ⟨⟨[]⟩⟩, CV.bool false, CV.str ⟨⟨[]⟩⟩, CV.str ⟨⟨[]⟩⟩, CV.bool false, CV.bool false, CV.str ⟨⟨[]⟩⟩, CV.str ⟨⟨[]⟩⟩, CV.bool false, CV.str ⟨⟨[]⟩⟩, CV.bool false], CV.int IntKind.i64 (Int.ofNat 1)], [])) none)) := by kernel_rfl

end Go.Pv

/- URLs: how long parts put together are. -/
namespace Go.Pv
set_option linter.unusedVariables false
set_option linter.unusedSimpArgs false
set_option maxRecDepth 100000
open Go Go.Proofs

def cB (b : Bool) : Nat := if b = true then 1 else 0
/-- A part whose mark is not set is empty. -/
def noPart (us po qu fr : ByteArray) (hu hp hq hf : Bool) : Prop := (hu = false → us.size = 0) ∧ (hp = false → po.size = 0) ∧ (hq = false → qu.size = 0) ∧ (hf = false → fr.size = 0)
theorem dw_all {p : UInt8 → Bool} : ∀ {l : List UInt8}, (∀ b ∈ l, p b = true) → l.dropWhile p = []
  | [], _ => rfl
  | b :: l, h => by
    rw [List.dropWhile_cons, h b (by simp), if_pos rfl]
    exact dw_all fun x hx => h x (by simp [hx])
theorem cutA_no {t : ByteArray} {c : UInt8} (h : cutF t c = false) : (cutA t c).size = 0 := by
  unfold cutF at h
  rw [List.any_eq_false] at h
  unfold cutA
  have e : t.data.toList.dropWhile (fun b => !decide (b = c)) = [] := by
    refine dw_all fun b hb => ?_
    simpa using h b hb
  rw [e]
  rfl
theorem rd_no (J : ByteArray) : noPart (w1 J) (w4 J) (w8 J) (wT J) (x2 J) (x5 J) (x9 J) (xE J) := by
  refine ⟨fun h => ?_, fun h => ?_, fun h => cutA_no h, fun h => cutA_no h⟩
  · unfold x2 rHU at h
    unfold w1 rUsr
    split
    · rename_i hA
      rw [hA, Bool.true_and] at h
      unfold auUsr
      rw [h]
      rfl
    · rfl
  · unfold x5 rHP at h
    unfold w4 rPort
    split
    · rename_i hA
      rw [hA, Bool.true_and] at h
      unfold auPort
      rw [h]
      rfl
    · rfl
theorem may_no {sc us ho po pa qu fr : ByteArray} {hu hp ha hq hf : Bool} (h : mayU sc us ho po pa qu fr hu hp ha hq hf = true) : noPart us po qu fr hu hp hq hf := by
  unfold mayU at h
  revert h
  generalize joinU sc us ho po pa qu fr hu hp ha hq hf = J
  intro h
  simp only [Bool.and_eq_true, eqU_iff] at h
  obtain ⟨_, _, ⟨_, e1, e2, _, e4, e5, _⟩, _, e8, e9, eT, eE⟩ := h
  subst e1 e2 e4 e5 e8 e9 eT eE
  exact rd_no J
theorem may_size {sc us ho po pa qu fr : ByteArray} {hu hp ha hq hf : Bool} (h : mayU sc us ho po pa qu fr hu hp ha hq hf = true) : (joinU sc us ho po pa qu fr hu hp ha hq hf).size ≤ 2048 := by
  unfold mayU at h
  revert h
  generalize joinU sc us ho po pa qu fr hu hp ha hq hf = J
  intro h
  simp only [Bool.and_eq_true, Bool.not_eq_true', decide_eq_false_iff_not] at h
  have := h.1
  omega
theorem jP (c : ByteArray) (hc : c.size = 1) (b : Bool) (s : ByteArray) (h : b = false → s.size = 0) : (if b = true then c ++ s else (⟨#[]⟩ : ByteArray)).size = s.size + cB b := by
  cases b with
  | true => simp only [if_true, ByteArray.size_append, cB]; omega
  | false => have := h rfl; simp only [cB, Bool.false_eq_true, if_false]; rw [this]; rfl
theorem join_size (sc us ho po pa qu fr : ByteArray) (hu hp ha hq hf : Bool) (hn : noPart us po qu fr hu hp hq hf) :
    (joinU sc us ho po pa qu fr hu hp ha hq hf).size = sc.size + us.size + ho.size + po.size + pa.size + qu.size + fr.size + (cB (!decide (sc.size = 0)) + (cB ha + (cB ha + (cB hu + (cB hp + (cB hq + cB hf)))))) := by
  obtain ⟨h1, h2, h3, h4⟩ := hn
  have a1 : (jSc sc).size = sc.size + cB (!decide (sc.size = 0)) := by
    unfold jSc
    by_cases h : sc.size = 0
    · rw [if_pos h, decide_eq_true h, h]; rfl
    · rw [if_neg h, decide_eq_false h]
      have q : (⟨#[58]⟩ : ByteArray).size = 1 := rfl
      simp only [ByteArray.size_append, cB, Bool.not_false, if_true]; omega
  have a2 : (jAu ha).size = cB ha + cB ha := by cases ha <;> rfl
  have a3 : (jUs hu us).size = us.size + cB hu := by
    cases hu with
    | true =>
      have q : (⟨#[64]⟩ : ByteArray).size = 1 := rfl
      show (us ++ _).size = _
      simp only [ByteArray.size_append, cB, if_true]; omega
    | false => have := h1 rfl; rw [this]; rfl
  have a4 : (jPo hp po).size = po.size + cB hp := jP _ rfl hp po h2
  have a5 : (jQu hq qu).size = qu.size + cB hq := jP _ rfl hq qu h3
  have a6 : (jFr hf fr).size = fr.size + cB hf := jP _ rfl hf fr h4
  unfold joinU
  simp only [ByteArray.size_append]
  omega

end Go.Pv

/- A reference against a base: what comes of it, the reference being nothing or the base itself. -/
namespace Go.Pv
set_option linter.unusedVariables false
set_option linter.unusedSimpArgs false
set_option maxRecDepth 100000
open Go Go.Proofs

/-! ### The loop -/
def cntL : List Bool → Nat
  | [] => 0
  | b :: l => cB b + cntL l
theorem cntL_le : ∀ l : List Bool, cntL l ≤ l.length
  | [] => Nat.le_refl _
  | b :: l => by
    have := cntL_le l
    have h : cB b ≤ 1 := by cases b <;> decide
    show cB b + cntL l ≤ l.length + 1
    omega
noncomputable def q11 : Code := prefC 1 (tailC 6 c11)
noncomputable abbrev K11 (n : Nat) (L : Env → Hp → Res) : KX := restN Tryz.prog (call' X25) (filt an11 0) n 0 q11 (thenK (headK h11b L) (endOf Tryz.prog 11 []))
theorem lo11 (b r : CV) (sc us ho po pa qu fr : ByteArray) (hu hp ha hq hf : Bool) (n : Nat) (L : Env → Hp → Res) (bs : List Bool) (hb : bs.length ≤ 100) : ∀ (j k s : Nat), bs.length < j + k → k ≤ bs.length → s + (bs.length - k) ≤ 70000 →
    rounds Tryz.prog (call' X25) (filt an11 0) n hL11 (bodyN 0 q11) j (E11L (s : Int) (bs.length : Int) (k : Int)) (B11 b r (uV sc us hu ho po hp ha pa qu hq fr hf) ++ [.row (bs.map CV.bool) 1 0 false]) (K11 n L) = L (E11s ((s + cntL (bs.drop k) : Nat) : Int)) (B11 b r (uV sc us hu ho po hp ha pa qu hq fr hf))
  | 0, k, s, hj, hk, hs => by omega
  | j + 1, k, s, hj, hk, hs => by
    have e := rre b r sc us ho po pa qu fr hu hp ha hq hf (s : Int) (bs.length : Int) (k : Int) (bs.map CV.bool) n (fun env H => rounds Tryz.prog (call' X25) (filt an11 0) n hL11 (bodyN 0 q11) j env H (K11 n L)) L
    rw [rounds_succ]
    refine Eq.trans e ?_
    clear e
    by_cases h : k < bs.length
    · have b1 : decide ((k : Int) < (bs.length : Int)) = true := decide_eq_true (by omega)
      have b2 : decide (0 ≤ (k : Int)) = true := decide_eq_true (by omega)
      have b3 : decide ((k : Int) < (((bs.map CV.bool).length : Nat) : Int)) = true := decide_eq_true (by rw [List.length_map]; omega)
      have b4 : decide ((k : Int).toNat < (bs.map CV.bool).length) = true := decide_eq_true (by rw [List.length_map]; omega)
      have e1 : (bs.map CV.bool).getD (k : Int).toNat CV.nilptr = CV.bool (bs[k]) := by
        rw [natM, List.getD_eq_getElem?_getD, List.getElem?_map, List.getElem?_eq_getElem h]; rfl
      have e2 : bs.drop k = bs[k] :: bs.drop (k + 1) := List.drop_eq_getElem_cons h
      rw [b1, b2, b3, b4, e1, e2]
      generalize bs[k] = c
      have w1 : IntKind.i64.wrap ((k : Int) + 1) = ((k + 1 : Nat) : Int) := wrp1 (by omega)
      have w2 : IntKind.i64.wrap ((s : Int) + 1) = ((s + 1 : Nat) : Int) := wrp1 (by omega)
      cases c with
      | true =>
        have := lo11 b r sc us ho po pa qu fr hu hp ha hq hf n L bs hb j (k + 1) (s + 1) (by omega) (by omega) (by omega)
        rw [w1, w2]
        refine Eq.trans this ?_
        have e3 : s + 1 + cntL (bs.drop (k + 1)) = s + cntL (true :: bs.drop (k + 1)) := by show _ = s + (1 + _); omega
        rw [e3]
      | false =>
        have := lo11 b r sc us ho po pa qu fr hu hp ha hq hf n L bs hb j (k + 1) s (by omega) (by omega) (by omega)
        rw [w1]
        refine Eq.trans this ?_
        have e3 : s + cntL (bs.drop (k + 1)) = s + cntL (false :: bs.drop (k + 1)) := by show _ = s + (0 + _); omega
        rw [e3]
    · have b1 : decide ((k : Int) < (bs.length : Int)) = false := decide_eq_false (by omega)
      rw [b1, List.drop_of_length_le (by omega)]
      rfl

/-! ### From the parts on -/
theorem sp11a : spine 5 c11 = true := by kernel_rfl
theorem ha11a : headAt (filt an11 0) (tailC 5 c11) = some h11a := by kernel_rfl
theorem sp11b : spine 1 (tailC 5 c11) = true := by kernel_rfl
theorem ha11b : headAt (filt an11 0) (tailC 1 (tailC 5 c11)) = some h11b := by kernel_rfl
theorem ta11b : tailC 1 (tailC 5 c11) = tailC 6 c11 := eq_of_heq (heq_of_eq (by kernel_rfl))
theorem sp11c : spine 1 (tailC 6 c11) = true := by kernel_rfl
theorem ha11c : headAt (filt an11 0) (tailC 1 (tailC 6 c11)) = some h11b := by kernel_rfl
theorem ta11c : tailC 1 (tailC 6 c11) = tailC 7 c11 := eq_of_heq (heq_of_eq (by kernel_rfl))
theorem st11 : startsR q11 = true := by kernel_rfl
theorem id11 : idsOk q11 = true := by kernel_rfl
theorem nl11 : nLoops q11 = 1 := by kernel_rfl
theorem fr11 : (firstRegion (bodyN 0 q11)).bind (filt an11 0) = some hL11 := by kernel_rfl
/-- What the end answers for parts. -/
def out11 (sc us ho po pa qu fr : ByteArray) (hu hp ha hq hf : Bool) : Res :=
  if 2048 < (joinU sc us ho po pa qu fr hu hp ha hq hf).size then some (.tup [zV, .int .i64 3], []) else if mayU sc us ho po pa qu fr hu hp ha hq hf = true then some (.tup [uV sc us hu ho po hp ha pa qu hq fr hf, .int .i64 0], []) else some (.tup [zV, .int .i64 1], [])
theorem tail11 (b r : CV) (sc us ho po pa qu fr : ByteArray) (hu hp ha hq hf : Bool) (n : Nat) (hn : 200 ≤ n) (h7 : n7 sc us ho po pa qu fr = true) (hno : noPart us po qu fr hu hp hq hf) :
    aexecB Tryz.prog (call' X25) (filt an11 0) n (tailC 5 c11) E11 (B11 b r (uV sc us hu ho po hp ha pa qu hq fr hf)) (endOf Tryz.prog 11 []) = out11 sc us ho po pa qu fr hu hp ha hq hf := by
  have hz := h7
  unfold n7 at hz
  simp only [Bool.and_eq_true, n4_iff] at hz
  obtain ⟨z0, z1, z3, z4, z7, z8, zT⟩ := hz
  rw [seg_b (k := 1) (by decide) sp11b ha11b, rrb]
  have w : IntKind.i64.wrap (IntKind.i64.wrap (IntKind.i64.wrap (IntKind.i64.wrap (IntKind.i64.wrap (IntKind.i64.wrap ((sc.size : Int) + (us.size : Int)) + (ho.size : Int)) + (po.size : Int)) + (pa.size : Int)) + (qu.size : Int)) + (fr.size : Int)) = ((sc.size + us.size + ho.size + po.size + pa.size + qu.size + fr.size : Nat) : Int) := by
    rw [wrp (by omega) (by omega), wrp (by omega) (by omega), wrp (by omega) (by omega), wrp (by omega) (by omega), wrp (by omega) (by omega), wrp (by omega) (by omega)]
  rw [w, ta11b]
  show aexecB Tryz.prog (call' X25) (filt an11 0) n (tailC 6 c11) (E11s _) (B11 b r (uV sc us hu ho po hp ha pa qu hq fr hf)) _ = _
  rw [seg_b (k := 1) (by decide) sp11c ha11c]
  show aexecB Tryz.prog (call' X25) (filt an11 0) n q11 (E11s _) (B11 b r (uV sc us hu ho po hp ha pa qu hq fr hf)) _ = _
  rw [loopB' st11 id11 nl11 fr11]
  have e := rrc b r sc us ho po pa qu fr hu hp ha hq hf ((sc.size + us.size + ho.size + po.size + pa.size + qu.size + fr.size : Nat) : Int) n (fun env H => rounds Tryz.prog (call' X25) (filt an11 0) n hL11 (bodyN 0 q11) n env H (restN Tryz.prog (call' X25) (filt an11 0) n 0 q11 (thenK (headK h11b fun e H => aexecB Tryz.prog (call' X25) (filt an11 0) n (tailC 1 (tailC 6 c11)) e H (endOf Tryz.prog 11 [])) (endOf Tryz.prog 11 [])))) (thenK (headK h11b fun e H => aexecB Tryz.prog (call' X25) (filt an11 0) n (tailC 1 (tailC 6 c11)) e H (endOf Tryz.prog 11 [])) (endOf Tryz.prog 11 []))
  refine Eq.trans e ?_
  clear e
  have hx : (!sc.toList == (ByteArray.mk #[]).toList) = !decide (sc.size = 0) := by rw [bA_emp]
  have l := lo11 b r sc us ho po pa qu fr hu hp ha hq hf n (fun e H => aexecB Tryz.prog (call' X25) (filt an11 0) n (tailC 1 (tailC 6 c11)) e H (endOf Tryz.prog 11 [])) [!decide (sc.size = 0), ha, ha, hu, hp, hq, hf] (by show 7 ≤ 100; omega) n 0 (sc.size + us.size + ho.size + po.size + pa.size + qu.size + fr.size) (by show 7 < n + 0; omega) (Nat.zero_le _) (by show _ + (7 - 0) ≤ 70000; omega)
  rw [hx]
  refine Eq.trans l ?_
  clear l
  have hj := join_size sc us ho po pa qu fr hu hp ha hq hf hno
  have hc : cntL (List.drop 0 [!decide (sc.size = 0), ha, ha, hu, hp, hq, hf]) = cB (!decide (sc.size = 0)) + (cB ha + (cB ha + (cB hu + (cB hp + (cB hq + cB hf))))) := rfl
  rw [hc, ← hj, ta11c, rrd, h7]
  unfold out11
  by_cases hbig : 2048 < (joinU sc us ho po pa qu fr hu hp ha hq hf).size
  · rw [if_pos hbig, decide_eq_true (show (((joinU sc us ho po pa qu fr hu hp ha hq hf).size : Nat) : Int) > 2048 by omega)]
    rfl
  · rw [if_neg hbig, decide_eq_false (show ¬ (((joinU sc us ho po pa qu fr hu hp ha hq hf).size : Nat) : Int) > 2048 by omega)]
    cases mayU sc us ho po pa qu fr hu hp ha hq hf <;> rfl

end Go.Pv

/- A reference against a base: the contract of Resolve at two kinds of references. -/
namespace Go.Pv
set_option linter.unusedVariables false
set_option linter.unusedSimpArgs false
set_option maxRecDepth 100000
open Go Go.Proofs

theorem hA23 : Known Tryz.prog gI 8 A23 := g23 og (known_add (g40 og) h52)
theorem hH47 : Cw gI 8 98 L47 := h47 og h70 h28
theorem hH51 : Cw gI 8 67 L51 := h51 og h70 h28
theorem kT12 : Known Tryz.prog gI 8 T12 := gm12 og hA23 hH47 hH51
theorem kT11 : Known Tryz.prog gI 8 T11 := gm11 og hA23 hH47 hH51
theorem kX25 : Kn X25 := known_add (known_add (known_add known_no (fun cargs rv outs h => kT12 24 cargs rv outs h)) m19) (fun cargs rv outs h => hA23 25 cargs rv outs h)
def eq12 (sc us ho po pa qu fr : ByteArray) (hu hp ha hq hf : Bool) (sc' us' ho' po' pa' qu' fr' : ByteArray) (hu' hp' ha' hq' hf' : Bool) : Bool :=
  sc == sc' && (us == us' && (ho == ho' && (po == po' && (pa == pa' && (qu == qu' && (fr == fr' && (hu == hu' && (hp == hp' && (ha == ha' && (hq == hq' && hf == hf'))))))))))
theorem eq12_refl (sc us ho po pa qu fr : ByteArray) (hu hp ha hq hf : Bool) : eq12 sc us ho po pa qu fr hu hp ha hq hf sc us ho po pa qu fr hu hp ha hq hf = true := by
  unfold eq12
  simp only [Bool.and_eq_true, beqB, beq_self_eq_true, and_self]
def gd11 (sc us ho po pa qu fr : ByteArray) (hu hp ha hq hf : Bool) : Bool := n7 sc us ho po pa qu fr && (mayU sc us ho po pa qu fr hu hp ha hq hf && !decide (sc.size = 0))
def Z11 : Fn1 := fun cargs => match cargs with
  | [.agg [.str sc, .str us, .bool hu, .str ho, .str po, .bool hp, .bool ha, .str pa, .str qu, .bool hq, .str fr, .bool hf], .agg [.str sc', .str us', .bool hu', .str ho', .str po', .bool hp', .bool ha', .str pa', .str qu', .bool hq', .str fr', .bool hf']] =>
    some [(gd11 sc us ho po pa qu fr hu hp ha hq hf && eq12 sc' us' ho' po' pa' qu' fr' hu' hp' ha' hq' hf' nB nB nB nB nB nB nB false false false false false, .tup [uV sc us hu ho po hp ha pa qu hq nB false, .int .i64 0], []),
      (gd11 sc us ho po pa qu fr hu hp ha hq hf && (eq12 sc' us' ho' po' pa' qu' fr' hu' hp' ha' hq' hf' sc us ho po pa qu fr hu hp ha hq hf && mayU sc us ho po (dotS pa) qu fr hu hp ha hq hf), .tup [uV sc us hu ho po hp ha (dotS pa) qu hq fr hf, .int .i64 0], []),
      (gd11 sc us ho po pa qu fr hu hp ha hq hf && eq12 sc' us' ho' po' pa' qu' fr' hu' hp' ha' hq' hf' sc us ho po pa qu fr hu hp ha hq hf, .tup [zV, .int .i64 1], [])]
  | _ => none
theorem may_nil : mayU nB nB nB nB nB nB nB false false false false false = true := by kernel_rfl
theorem n7_nil : n7 nB nB nB nB nB nB nB = true := by kernel_rfl
theorem nP_cut {us po qu fr : ByteArray} {hu hp hq hf : Bool} (h : noPart us po qu fr hu hp hq hf) : noPart us po qu nB hu hp hq false := ⟨h.1, h.2.1, h.2.2.1, fun _ => rfl⟩
theorem dot_n7 {sc us ho po pa qu fr : ByteArray} (h : n7 sc us ho po pa qu fr = true) : n7 sc us ho po (dotS pa) qu fr = true := by
  unfold n7 at h ⊢
  simp only [Bool.and_eq_true, n4_iff] at h ⊢
  have := dotS_size pa
  exact ⟨h.1, h.2.1, h.2.2.1, h.2.2.2.1, by omega, h.2.2.2.2.2⟩
theorem dot_size {sc us ho po pa qu fr : ByteArray} {hu hp ha hq hf : Bool} (h : mayU sc us ho po pa qu fr hu hp ha hq hf = true) : (joinU sc us ho po (dotS pa) qu fr hu hp ha hq hf).size ≤ 2048 := by
  have h1 := may_size h
  rw [join_size _ _ _ _ _ _ _ _ _ _ _ _ (may_no h)] at h1
  rw [join_size _ _ _ _ _ _ _ _ _ _ _ _ (may_no h)]
  have := dotS_size pa
  omega
theorem cut_n7 {sc us ho po pa qu fr : ByteArray} (h : n7 sc us ho po pa qu fr = true) : n7 sc us ho po pa qu nB = true := by
  unfold n7 at h ⊢
  simp only [Bool.and_eq_true] at h ⊢
  exact ⟨h.1, h.2.1, h.2.2.1, h.2.2.2.1, h.2.2.2.2.1, h.2.2.2.2.2.1, rfl⟩
theorem c11_nil (sc us ho po pa qu fr : ByteArray) (hu hp ha hq hf : Bool) (h7 : n7 sc us ho po pa qu fr = true) (hm : mayU sc us ho po pa qu fr hu hp ha hq hf = true) (hs : sc.size ≠ 0) :
    abody Tryz.prog (call' X25) an11 200 11 [uV sc us hu ho po hp ha pa qu hq fr hf, zV] = some (.tup [uV sc us hu ho po hp ha pa qu hq nB false, .int .i64 0], []) := by
  rw [abody_eq2 (ps := [.c (uV sc us hu ho po hp ha pa qu hq fr hf), .c zV]) (H := []) rfl (by kernel_rfl)]
  show aexec Tryz.prog (call' X25) (filt an11 0) 200 c11 (envOf Tryz.prog 11 [.c (uV sc us hu ho po hp ha pa qu hq fr hf), .c zV]) [] (endOf Tryz.prog 11 []) = _
  rw [seg_a (k := 5) (by decide) sp11a ha11a, rra0, h7, hm, n7_nil, may_nil, bA_emp, decide_eq_false hs]
  simp only [Bool.and_self, bif_tt, bif_ff]
  refine Eq.trans (tail11 (uV sc us hu ho po hp ha pa qu hq fr hf) zV sc us ho po pa qu nB hu hp ha hq false 200 (by decide) (cut_n7 h7) (nP_cut (may_no hm))) ?_
  unfold out11
  have hc := may_cut hm
  rw [if_neg (Nat.not_lt.2 (may_size hc)), if_pos hc]
theorem c11_own (sc us ho po pa qu fr : ByteArray) (hu hp ha hq hf : Bool) (h7 : n7 sc us ho po pa qu fr = true) (hm : mayU sc us ho po pa qu fr hu hp ha hq hf = true) (hs : sc.size ≠ 0) :
    abody Tryz.prog (call' X25) an11 200 11 [uV sc us hu ho po hp ha pa qu hq fr hf, uV sc us hu ho po hp ha pa qu hq fr hf] = if mayU sc us ho po (dotS pa) qu fr hu hp ha hq hf = true then some (.tup [uV sc us hu ho po hp ha (dotS pa) qu hq fr hf, .int .i64 0], []) else some (.tup [zV, .int .i64 1], []) := by
  have h4 : decide (pa.size ≤ 4000) = true := by
    have h := h7
    unfold n7 at h
    simp only [Bool.and_eq_true, n4_iff] at h
    exact decide_eq_true h.2.2.2.2.1
  rw [abody_eq2 (ps := [.c (uV sc us hu ho po hp ha pa qu hq fr hf), .c (uV sc us hu ho po hp ha pa qu hq fr hf)]) (H := []) rfl (by kernel_rfl)]
  show aexec Tryz.prog (call' X25) (filt an11 0) 200 c11 (envOf Tryz.prog 11 [.c (uV sc us hu ho po hp ha pa qu hq fr hf), .c (uV sc us hu ho po hp ha pa qu hq fr hf)]) [] (endOf Tryz.prog 11 []) = _
  rw [seg_a (k := 5) (by decide) sp11a ha11a, rra1, h7, hm, h4, bA_emp, decide_eq_false hs]
  simp only [Bool.and_self, Bool.not_false, bif_tt, bif_ff]
  refine Eq.trans (tail11 (uV sc us hu ho po hp ha pa qu hq fr hf) (uV sc us hu ho po hp ha pa qu hq fr hf) sc us ho po (dotS pa) qu fr hu hp ha hq hf 200 (by decide) (dot_n7 h7) (may_no hm)) ?_
  unfold out11
  rw [if_neg (Nat.not_lt.2 (dot_size hm))]

end Go.Pv

/- A reference against a base: the contract. -/
namespace Go.Pv
set_option linter.unusedVariables false
set_option maxRecDepth 100000
open Go Go.Proofs

theorem eq12_iff {sc us ho po pa qu fr : ByteArray} {hu hp ha hq hf : Bool} {sc' us' ho' po' pa' qu' fr' : ByteArray} {hu' hp' ha' hq' hf' : Bool} (h : eq12 sc us ho po pa qu fr hu hp ha hq hf sc' us' ho' po' pa' qu' fr' hu' hp' ha' hq' hf' = true) :
    uV sc us hu ho po hp ha pa qu hq fr hf = uV sc' us' hu' ho' po' hp' ha' pa' qu' hq' fr' hf' := by
  unfold eq12 at h
  simp only [Bool.and_eq_true, beqB, beq_iff_eq] at h
  obtain ⟨rfl, rfl, rfl, rfl, rfl, rfl, rfl, rfl, rfl, rfl, rfl, rfl⟩ := h
  rfl
theorem a11 : Ct 11 Z11 := contract_of an11 on0 (hok_of kX25) fun cargs rv outs h => by
  unfold Z11 at h
  split at h <;> first | (cases h; done) | skip
  rename_i sc us hu ho po hp ha pa qu hq fr hf sc' us' hu' ho' po' hp' ha' pa' qu' hq' fr' hf'
  refine ⟨200, ?_⟩
  cases hg : gd11 sc us ho po pa qu fr hu hp ha hq hf with
  | false => rw [hg] at h; cases h
  | true =>
    rw [hg] at h
    unfold gd11 at hg
    simp only [Bool.and_eq_true, Bool.not_eq_true', decide_eq_false_iff_not] at hg
    obtain ⟨h7, hm, hs⟩ := hg
    show abody Tryz.prog (call' X25) an11 200 11 [uV sc us hu ho po hp ha pa qu hq fr hf, uV sc' us' hu' ho' po' hp' ha' pa' qu' hq' fr' hf'] = some (rv, outs)
    cases h0 : eq12 sc' us' ho' po' pa' qu' fr' hu' hp' ha' hq' hf' nB nB nB nB nB nB nB false false false false false with
    | true =>
      rw [h0] at h
      cases h
      rw [eq12_iff h0]
      exact c11_nil sc us ho po pa qu fr hu hp ha hq hf h7 hm hs
    | false =>
      rw [h0] at h
      cases h1 : eq12 sc' us' ho' po' pa' qu' fr' hu' hp' ha' hq' hf' sc us ho po pa qu fr hu hp ha hq hf with
      | false => rw [h1] at h; cases h
      | true =>
        rw [h1] at h
        rw [eq12_iff h1, c11_own sc us ho po pa qu fr hu hp ha hq hf h7 hm hs]
        cases h2 : mayU sc us ho po (dotS pa) qu fr hu hp ha hq hf with
        | true => rw [h2] at h; cases h; rfl
        | false => rw [h2] at h; cases h; rfl

end Go.Pv

/- PathOwn: the law's code. -/
namespace Go.Pv
set_option linter.unusedVariables false
set_option maxRecDepth 100000
open Go Go.Proofs

def n3 (s : ByteArray) : Bool := decide (s.size ≤ 3000)
def s7 (sc us ho po pa qu fr : ByteArray) : Bool := n3 sc && (n3 us && (n3 ho && (n3 po && (n3 pa && (n3 qu && n3 fr)))))
def N9 : Fn1 := fun cargs => match cargs with
  | [.agg [.str sc, .str us, .bool hu, .str ho, .str po, .bool hp, .bool ha, .str pa, .str qu, .bool hq, .str fr, .bool hf]] => some [(s7 sc us ho po pa qu fr, .bool false, []), (true, .bool true, [])]
  | _ => none
def Y0 : Table := fun _ _ => none
def Y9 : Table := fun g => if Nat.beq g 9 then N9 else Y0 g
def Y10 : Table := fun g => if Nat.beq g 10 then M11 else Y9 g
def Y8 : Table := fun g => if Nat.beq g 8 then Q19 else Y10 g
def Y7 : Table := fun g => if Nat.beq g 7 then Q7 else Y8 g
def Y11 : Table := fun g => if Nat.beq g 11 then Z11 else Y7 g
theorem rs9 (sc us ho po pa qu fr : ByteArray) (hu hp ha hq hf : Bool) : abody Tryz.prog (call' Y0) (fun _ => none) 1 9 [uV sc us hu ho po hp ha pa qu hq fr hf] =
 bif' (decide ((↑sc.size : Int) > 3000)) (some (CV.bool true, [])) (bif' (decide ((↑us.size : Int) > 3000)) (some (CV.bool true, [])) (bif' (decide ((↑ho.size : Int) > 3000)) (some (CV.bool true, [])) (bif' (decide ((↑po.size : Int) > 3000)) (some (CV.bool true, [])) (bif' (decide ((↑pa.size : Int) > 3000)) (some (CV.bool true, [])) (bif' (decide ((↑qu.size : Int) > 3000)) (some (CV.bool true, [])) (some (CV.bool (decide ((↑fr.size : Int) > 3000)), []))))))) := by kernel_rfl
theorem rs4 (sc us ho po pa qu fr : ByteArray) (hu hp ha hq hf : Bool) : abody Tryz.prog (call' Y11) (fun _ => none) 1 4 [uV sc us hu ho po hp ha pa qu hq fr hf] =
 bif' (s7 sc us ho po pa qu fr) (bif' (n7 sc us ho po pa qu fr && mayU sc us ho po pa qu fr hu hp ha hq hf) (bif' (sc.toList == (ByteArray.mk #[]).toList) (some (CV.bool true, [])) (bif' (gd11 sc us ho po pa qu fr hu hp ha hq hf && eq12 (ByteArray.mk #[]) (ByteArray.mk #[]) (ByteArray.mk #[]) (ByteArray.mk #[]) (ByteArray.mk #[]) (ByteArray.mk #[]) (ByteArray.mk #[]) false false false false false nB nB nB nB nB nB nB false false false false false) (bif' (!(sc == sc && (us == us && (hu == hu && (ho == ho && (po == po && (hp == hp && (ha == ha && (pa == pa && (qu == qu && (hq == hq && true))))))))))) (some (CV.bool false, [])) (bif' (gd11 sc us ho po pa qu fr hu hp ha hq hf && eq12 sc us ho po pa qu fr hu hp ha hq hf nB nB nB nB nB nB nB false false false false false) (bif' (decide (pa.size ≤ 4000)) (bif' (n7 sc us ho po (dotS pa) qu fr && mayU sc us ho po (dotS pa) qu fr hu hp ha hq hf) (bif' (sc == sc && (us == us && (hu == hu && (ho == ho && (po == po && (hp == hp && (ha == ha && (pa == dotS pa && (qu == qu && (hq == hq && (nB == fr && (false == hf && true)))))))))))) (some (CV.bool true, [])) (some (CV.bool false, []))) (bif' (n7 sc us ho po (dotS pa) qu fr) (some (CV.bool false, [])) none)) none) (bif' (gd11 sc us ho po pa qu fr hu hp ha hq hf && (eq12 sc us ho po pa qu fr hu hp ha hq hf sc us ho po pa qu fr hu hp ha hq hf && mayU sc us ho po (dotS pa) qu fr hu hp ha hq hf)) (bif' (decide (pa.size ≤ 4000)) (bif' (n7 sc us ho po (dotS pa) qu fr && mayU sc us ho po (dotS pa) qu fr hu hp ha hq hf) (bif' (sc == sc && (us == us && (hu == hu && (ho == ho && (po == po && (hp == hp && (ha == ha && (dotS pa == dotS pa && (qu == qu && (hq == hq && (fr == fr && (hf == hf && true)))))))))))) (some (CV.bool true, [])) (some (CV.bool false, []))) (bif' (n7 sc us ho po (dotS pa) qu fr) (some (CV.bool false, [])) none)) none) (bif' (gd11 sc us ho po pa qu fr hu hp ha hq hf && eq12 sc us ho po pa qu fr hu hp ha hq hf sc us ho po pa qu fr hu hp ha hq hf) (bif' (decide (pa.size ≤ 4000)) (bif' (n7 sc us ho po (dotS pa) qu fr && mayU sc us ho po (dotS pa) qu fr hu hp ha hq hf) (some (CV.bool false, [])) (bif' (n7 sc us ho po (dotS pa) qu fr) (some (CV.bool true, [])) none)) none) none)))) (bif' (gd11 sc us ho po pa qu fr hu hp ha hq hf && (eq12 (ByteArray.mk #[]) (ByteArray.mk #[]) (ByteArray.mk #[]) (ByteArray.mk #[]) (ByteArray.mk #[]) (ByteArray.mk #[]) (ByteArray.mk #[]) false false false false false sc us ho po pa qu fr hu hp ha hq hf && mayU sc us ho po (dotS pa) qu fr hu hp ha hq hf)) (bif' (!(sc == sc && (us == us && (hu == hu && (ho == ho && (po == po && (hp == hp && (ha == ha && (dotS pa == pa && (qu == qu && (hq == hq && (fr == ByteArray.mk #[] && (hf == false && true))))))))))))) (some (CV.bool false, [])) (bif' (gd11 sc us ho po pa qu fr hu hp ha hq hf && eq12 sc us ho po pa qu fr hu hp ha hq hf nB nB nB nB nB nB nB false false false false false) (bif' (decide (pa.size ≤ 4000)) (bif' (n7 sc us ho po (dotS pa) qu fr && mayU sc us ho po (dotS pa) qu fr hu hp ha hq hf) (bif' (sc == sc && (us == us && (hu == hu && (ho == ho && (po == po && (hp == hp && (ha == ha && (pa == dotS pa && (qu == qu && (hq == hq && (nB == fr && (false == hf && true)))))))))))) (some (CV.bool true, [])) (some (CV.bool false, []))) (bif' (n7 sc us ho po (dotS pa) qu fr) (some (CV.bool false, [])) none)) none) (bif' (gd11 sc us ho po pa qu fr hu hp ha hq hf && (eq12 sc us ho po pa qu fr hu hp ha hq hf sc us ho po pa qu fr hu hp ha hq hf && mayU sc us ho po (dotS pa) qu fr hu hp ha hq hf)) (bif' (decide (pa.size ≤ 4000)) (bif' (n7 sc us ho po (dotS pa) qu fr && mayU sc us ho po (dotS pa) qu fr hu hp ha hq hf) (bif' (sc == sc && (us == us && (hu == hu && (ho == ho && (po == po && (hp == hp && (ha == ha && (dotS pa == dotS pa && (qu == qu && (hq == hq && (fr == fr && (hf == hf && true)))))))))))) (some (CV.bool true, [])) (some (CV.bool false, []))) (bif' (n7 sc us ho po (dotS pa) qu fr) (some (CV.bool false, [])) none)) none) (bif' (gd11 sc us ho po pa qu fr hu hp ha hq hf && eq12 sc us ho po pa qu fr hu hp ha hq hf sc us ho po pa qu fr hu hp ha hq hf) (bif' (decide (pa.size ≤ 4000)) (bif' (n7 sc us ho po (dotS pa) qu fr && mayU sc us ho po (dotS pa) qu fr hu hp ha hq hf) (some (CV.bool false, [])) (bif' (n7 sc us ho po (dotS pa) qu fr) (some (CV.bool true, [])) none)) none) none)))) (bif' (gd11 sc us ho po pa qu fr hu hp ha hq hf && eq12 (ByteArray.mk #[]) (ByteArray.mk #[]) (ByteArray.mk #[]) (ByteArray.mk #[]) (ByteArray.mk #[]) (ByteArray.mk #[]) (ByteArray.mk #[]) false false false false false sc us ho po pa qu fr hu hp ha hq hf) (some (CV.bool false, [])) none)))) (bif' (n7 sc us ho po pa qu fr) (some (CV.bool true, [])) none)) (some (CV.bool true, [])) := by kernel_rfl

end Go.Pv

/- PathOwn: the law. -/
namespace Go.Pv
set_option linter.unusedVariables false
set_option linter.unusedSimpArgs false
set_option maxRecDepth 100000
open Go Go.Proofs

theorem big3 (s : ByteArray) : decide (((s.size : Nat) : Int) > 3000) = !n3 s := by
  unfold n3
  rw [Bool.eq_iff_iff, decide_eq_true_iff]
  simp
  omega
theorem ky9 : Kn Y9 := known_add known_no (contract_of (fun _ => none) on0 (hok_of known_no) fun cargs rv outs hF => by
  unfold N9 at hF
  split at hF <;> first | (cases hF; done) | skip
  rename_i sc us hu ho po hp ha pa qu hq fr hf
  refine ⟨1, ?_⟩
  have e := rs9 sc us ho po pa qu fr hu hp ha hq hf
  unfold s7 at hF
  simp only [big3] at e
  revert hF e
  generalize n3 sc = a1
  generalize n3 us = a2
  generalize n3 ho = a3
  generalize n3 po = a4
  generalize n3 pa = a5
  generalize n3 qu = a6
  generalize n3 fr = a7
  intro hF e
  cases a1 <;> cases a2 <;> cases a3 <;> cases a4 <;> cases a5 <;> cases a6 <;> cases a7 <;> (cases hF; exact e))
theorem ky10 : Kn Y10 := known_add ky9 (fun cargs rv outs h => kT11 10 cargs rv outs h)
theorem ky8 : Kn Y8 := known_add ky10 m8
theorem ky7 : Kn Y7 := known_add ky8 m7
theorem ky11 : Kn Y11 := known_add ky7 a11
theorem n3_iff {s : ByteArray} : n3 s = true ↔ s.size ≤ 3000 := decide_eq_true_iff
theorem s7_n7 {sc us ho po pa qu fr : ByteArray} (h : s7 sc us ho po pa qu fr = true) : n7 sc us ho po pa qu fr = true := by
  unfold s7 at h
  unfold n7
  simp only [Bool.and_eq_true, n3_iff, n4_iff] at h ⊢
  omega
def L4 : Fn1 := fun cargs => match cargs with
  | [.agg [.str sc, .str us, .bool hu, .str ho, .str po, .bool hp, .bool ha, .str pa, .str qu, .bool hq, .str fr, .bool hf]] => some [(true, .bool true, [])]
  | _ => none
theorem m4 : Ct 4 L4 := contract_of (fun _ => none) on0 (hok_of ky11) fun cargs rv outs hF => by
  unfold L4 at hF
  split at hF <;> first | (cases hF; done) | skip
  rename_i sc us hu ho po hp ha pa qu hq fr hf
  refine ⟨1, ?_⟩
  cases hF
  refine (rs4 sc us ho po pa qu fr hu hp ha hq hf).trans ?_
  cases hs : s7 sc us ho po pa qu fr with
  | false => rfl
  | true =>
    have hn := s7_n7 hs
    rw [hn]
    cases hm : mayU sc us ho po pa qu fr hu hp ha hq hf with
    | false => rfl
    | true =>
      rw [bA_emp]
      by_cases h0 : sc.size = 0
      · rw [decide_eq_true h0]; rfl
      · rw [decide_eq_false h0]
        have hg : gd11 sc us ho po pa qu fr hu hp ha hq hf = true := by
          unfold gd11
          rw [hn, hm, decide_eq_false h0]; rfl
        have h4 : decide (pa.size ≤ 4000) = true := by
          have h := hn
          unfold n7 at h
          simp only [Bool.and_eq_true, n4_iff] at h
          exact decide_eq_true h.2.2.2.2.1
        have hz : eq12 (ByteArray.mk #[]) (ByteArray.mk #[]) (ByteArray.mk #[]) (ByteArray.mk #[]) (ByteArray.mk #[]) (ByteArray.mk #[]) (ByteArray.mk #[]) false false false false false nB nB nB nB nB nB nB false false false false false = true := eq12_refl _ _ _ _ _ _ _ _ _ _ _ _
        have hno : eq12 sc us ho po pa qu fr hu hp ha hq hf nB nB nB nB nB nB nB false false false false false = false := by
          cases h : eq12 sc us ho po pa qu fr hu hp ha hq hf nB nB nB nB nB nB nB false false false false false with
          | false => rfl
          | true =>
            exfalso
            have := eq12_iff h
            cases this
            exact h0 rfl
        have hd := dot_n7 hn
        simp only [hg, hz, hno, h4, hd, eq12_refl, Bool.true_and, Bool.and_false, Bool.false_and, Bool.and_true, bif_tt, bif_ff]
        have e : ∀ x : ByteArray, (x == x) = true := fun x => (beqB x x).2 rfl
        simp only [e, beq_self_eq_true, Bool.and_self, Bool.and_true, Bool.not_true, bif_tt, bif_ff]
        cases mayU sc us ho po (dotS pa) qu fr hu hp ha hq hf <;> rfl

end Go.Pv
