/- URLs: the document's Parse answers as url.Parse does. -/
import Derived.Test.YtpclikkakhcomaaDoorQe
import Derived.Test.YtpclikkakhcomaaDoorQc
import Derived.Test.YtpclikkakhcomaaDoorProg
import Derived.Test.YtpclikkakhcomaaDoorQd
import Derived.Lib.SplitLaws
import Derived.Shelf.Strings.Cut
import Derived.Shelf.Strings.Split
import Derived.Shelf.Unicode.DecodeLast

namespace Go.Pv
set_option linter.unusedVariables false
set_option maxRecDepth 100000
set_option maxHeartbeats 100000
open Go Go.Proofs
variable {I : World → Prop} {ng : Nat}

/-! ### The scheme -/
theorem sch_in : ∀ n : Nat, n < 256 → inS schC (n : Int) = (decide ((97 : Int) ≤ (n : Int) ∧ (n : Int) ≤ 122 ∨ (65 : Int) ≤ (n : Int) ∧ (n : Int) ≤ 90) || (decide ((48 : Int) ≤ (n : Int) ∧ (n : Int) ≤ 57) || inS (ByteArray.mk #[43, 45, 46]) (n : Int))) := by decide +kernel
theorem let_in : ∀ n : Nat, n < 256 → inS letC (n : Int) = decide ((97 : Int) ≤ (n : Int) ∧ (n : Int) ≤ 122 ∨ (65 : Int) ≤ (n : Int) ∧ (n : Int) ≤ 90) := by decide +kernel
def E6 (l : List UInt8) (i : Nat) : Env := mkEnv 226 [(0, .c (.str (mkS l))), (2, .bptr 0 0), (4, .bptr 1 0), (6, .c (.int .i64 (i : Int)))]
def E67 (l : List UInt8) (i k : Nat) : Env := mkEnv 226 [(0, .c (.str (mkS l))), (2, .bptr 0 0), (4, .bptr 1 0), (6, .c (.int .i64 (i : Int))), (7, .c (.int .i64 (k : Int)))]
abbrev H0 : Hp := HX nB nB false nB nB false false
abbrev no22 : Res := some (.tup [zU nB false, .bool false], [])
noncomputable abbrev R10 (n j : Nat) (L M : Env → Hp → Res) (env : Env) (H : Hp) : Res := rounds Tryd.prog (call' A41) (filt an22 0) n hl10 (bodyN 0 q22a) j env H (restN Tryd.prog (call' A41) (filt an22 0) n 0 q22a (thenK (headK h22b L) (KM M)))
theorem lo10 (n : Nat) (l : List UInt8) (i : Nat) (L M : Env → Hp → Res) (hl : l.length ≤ 2500) (hi : i ≤ l.length) : ∀ (j k : Nat), i < j + k → k ≤ i →
    R10 n j L M (E67 l i k) H0 = if ((l.take i).drop k).all (fun c => inS schC c.toNat) = true then L (E6 l i) H0 else no22
  | 0, k, hj, hk => by omega
  | j + 1, k, hj, hk => by
    show aexec Tryd.prog (call' A41) (filt an22 0) n (bodyN 0 q22a) _ _ (thenK (headK hl10 fun env H => R10 n j L M env H) _) = _
    rw [E67, H0, HX, uc22]
    simp only [sizeM]
    rw [lez, natM, atM]
    have hw : IntKind.i64.wrap ((k : Int) + 1) = ((k + 1 : Nat) : Int) := wrp1 (by omega)
    rw [hw]
    by_cases h1 : k < i
    · have b1 : decide ((k : Int) < (i : Int)) = true := decide_eq_true (by omega)
      have b2 : decide ((k : Int) < ((l.length : Nat) : Int)) = true := decide_eq_true (by omega)
      have hd : (l.take i).drop k = l.getD k 0 :: (l.take i).drop (k + 1) := by
        rw [drop_getD (by rw [List.length_take]; omega)]
        congr 1
        simp [List.getD_eq_getElem?_getD, List.getElem?_take, h1]
      have ih := lo10 n l i L M hl hi j (k + 1) (by omega) (by omega)
      rw [b1, b2, hd, List.all_cons, sch_in _ (l.getD k 0).toNat_lt]
      simp only [bif_tt]
      generalize decide ((97 : Int) ≤ ((l.getD k 0).toNat : Int) ∧ ((l.getD k 0).toNat : Int) ≤ 122 ∨ (65 : Int) ≤ ((l.getD k 0).toNat : Int) ∧ ((l.getD k 0).toNat : Int) ≤ 90) = A
      generalize decide ((48 : Int) ≤ ((l.getD k 0).toNat : Int) ∧ ((l.getD k 0).toNat : Int) ≤ 57) = B
      generalize inS (ByteArray.mk #[43, 45, 46]) ((l.getD k 0).toNat : Int) = C
      cases A with
      | true => rw [Bool.true_or, Bool.true_and]; exact ih
      | false =>
        cases B with
        | true => rw [Bool.true_or, Bool.or_true, Bool.true_and]; exact ih
        | false =>
          cases C with
          | true => rw [Bool.or_true, Bool.or_true, Bool.true_and]; exact ih
          | false => rfl
    · have b1 : decide ((k : Int) < (i : Int)) = false := decide_eq_false (by omega)
      have hd : (l.take i).drop k = [] := List.drop_of_length_le (by rw [List.length_take]; omega)
      rw [b1, hd]
      rfl

theorem sp22p : spine 1 r22a = true := by kernel_rfl
theorem ha22p : headAt (filt an22 0) (tailC 1 r22a) = some h22b := by kernel_rfl
theorem sp22q : spine 1 (tailC 1 r22a) = true := by kernel_rfl
theorem ha22q : headAt (filt an22 0) (tailC 1 (tailC 1 r22a)) = some h22b := by kernel_rfl
theorem fo22q : tailC 1 (tailC 1 r22a) = tailC 2 r22a := eq_of_heq (heq_of_eq (by kernel_rfl))
theorem lp22a : isLoopPiece q22a = true := by kernel_rfl
theorem id22a : idsOk q22a = true := by kernel_rfl
theorem nl22a : nLoops q22a = 1 := by kernel_rfl
theorem hh22a : (firstRegion (bodyN 0 q22a)).bind (filt an22 0) = some hl10 := by kernel_rfl
theorem vm22 (l : List UInt8) (i n : Nat) (M : Env → Hp → Res) (hl : l.length ≤ 2500) (hi : i ≤ l.length) (hn : 3000 ≤ n) :
    aexecB Tryd.prog (call' A41) (filt an22 0) n (tailC 1 r22a) (E6 l i) H0 (KM M) = if (l.take i).all (fun c => inS schC c.toNat) = true then M (E5 l (i + 1)) (HX (mkS (l.take i)) nB false nB nB false false) else no22 := by
  rw [seg_b (k := 1) (by decide) sp22q ha22q]
  show aexecB Tryd.prog (call' A41) (filt an22 0) n q22a _ _ _ = _
  rw [loopB lp22a id22a nl22a hh22a]
  unfold E6 H0 HX
  rw [us22, fo22q]
  have h := lo10 n l i (fun e H => aexecB Tryd.prog (call' A41) (filt an22 0) n (tailC 2 r22a) e H (KM M)) M hl hi n 0 (by omega) (by omega)
  refine Eq.trans h ?_
  rw [List.drop_zero]
  split
  · unfold E6 H0 HX
    refine (ut22 ..).trans ?_
    have b2 : decide ((i : Int) ≤ ((l.length : Nat) : Int)) = true := decide_eq_true (by omega)
    have hw : IntKind.i64.wrap ((i : Int) + 1) = ((i + 1 : Nat) : Int) := wrp1 (by omega)
    rw [sizeM, lez, b2, hw, natM, toNat0, mkS_ext, List.drop_zero, Nat.sub_zero]
    rfl
  · rfl
theorem vn22 (l : List UInt8) (i n : Nat) (M : Env → Hp → Res) (hl : l.length ≤ 2500) (hi : i < l.length) (hn : 3000 ≤ n) :
    aexecB Tryd.prog (call' A41) (filt an22 0) n r22a (E6 l i) H0 (KM M) = if (!decide (i = 0) && (inS letC (l.getD 0 0).toNat && (l.take i).all (fun c => inS schC c.toNat))) = true then M (E5 l (i + 1)) (HX (mkS (l.take i)) nB false nB nB false false) else no22 := by
  rw [seg_b (k := 1) (by decide) sp22p ha22p]
  unfold E6 H0 HX
  rw [ur22]
  simp only [sizeM]
  have b2 : decide ((0 : Int) < ((l.length : Nat) : Int)) = true := decide_eq_true (by omega)
  rw [toNat0, atM, b2, let_in _ (l.getD 0 0).toNat_lt]
  have e0 : (((i : Nat) : Int) == 0) = decide (i = 0) := by
    rw [Bool.eq_iff_iff, beq_iff_eq, decide_eq_true_eq]; omega
  rw [e0]
  generalize decide ((97 : Int) ≤ ((l.getD 0 0).toNat : Int) ∧ ((l.getD 0 0).toNat : Int) ≤ 122 ∨ (65 : Int) ≤ ((l.getD 0 0).toNat : Int) ∧ ((l.getD 0 0).toNat : Int) ≤ 90) = A
  generalize decide (i = 0) = B
  cases B with
  | true => rfl
  | false =>
    cases A with
    | false => rfl
    | true =>
      rw [Bool.true_and]
      exact vm22 l i n M hl (by omega) hn

/-! ### All of it -/
theorem sp22x : spine 1 d22a = true := by kernel_rfl
theorem ha22x : headAt (filt an22 0) (tailC 1 d22a) = some h22c := by kernel_rfl
theorem io22a : isHole p22a = true := by kernel_rfl
theorem hr22a : headAt (filt an22 0) (lastArm p22a) = some h22b := by kernel_rfl
theorem sp22y : spine 5 c22 = true := by kernel_rfl
theorem ha22y : headAt (filt an22 0) (tailC 5 c22) = some h22a := by kernel_rfl
def hcL (l : List UInt8) : Bool := match l.drop (findL [58, 47, 63, 35] l) with
  | c :: _ => c == 58
  | [] => false
def scL (l : List UInt8) : Bool := !hcL l || (!decide (findL [58, 47, 63, 35] l = 0) && (inS letC (l.getD 0 0).toNat && (l.take (findL [58, 47, 63, 35] l)).all (fun c => inS schC c.toNat)))
def atL (l : List UInt8) : Nat := if hcL l then findL [58, 47, 63, 35] l + 1 else 0
def shL (l : List UInt8) : ByteArray := if hcL l then mkS (l.take (findL [58, 47, 63, 35] l)) else nB
def okR (r : List UInt8) : Bool := ok22 (usB r) (poB r) (hoB r) (haL r) (rsL r)
def vR (a : ByteArray) (r : List UInt8) : CV := v22 a (usB r) (huB r) (hoB r) (poB r) (hpB r) (haL r) (rsL r)
theorem hc_get (l : List UInt8) : hcL l = (decide (findL [58, 47, 63, 35] l < l.length) && (l.getD (findL [58, 47, 63, 35] l) 0 == 58)) := by
  unfold hcL
  by_cases h : findL [58, 47, 63, 35] l < l.length
  · rw [drop_getD h, decide_eq_true h, Bool.true_and]
  · rw [List.drop_of_length_le (by omega), decide_eq_false h, Bool.false_and]
theorem vz22 (l : List UInt8) (n : Nat) (hl : l.length ≤ 2500) (hn : 3000 ≤ n) :
    aexec Tryd.prog (call' A41) (filt an22 0) n c22 (envOf Tryd.prog 22 [.c (.str (mkS l))]) [] (endOf Tryd.prog 22 []) = fin22 (stS (mkS l) && (scL l && okR (l.drop (atL l)))) (vR (shL l) (l.drop (atL l))) := by
  rw [seg_a (k := 5) (by decide) sp22y ha22y]
  rw [up22]
  simp only [sizeM]
  have b3 : decide (l.length ≤ 10000) = true := decide_eq_true (by omega)
  have b9 : decide ((ByteArray.mk #[58, 47, 63, 35]).size ≤ 10000) = true := rfl
  have ee : (ByteArray.mk #[58, 47, 63, 35]) = mkS [58, 47, 63, 35] := rfl
  rw [b3, b9, lez, toNat0, ee, find0]
  rw [le00]
  cases hs : stS (mkS l) with
  | false => rfl
  | true =>
    simp only [Bool.not_true, Bool.and_self, bif_tt, bif_ff, Bool.true_and]
    show aexecB Tryd.prog (call' A41) (filt an22 0) n d22a _ _ _ = _
    rw [seg_b (k := 1) (by decide) sp22x ha22x]
    show aexecB Tryd.prog (call' A41) (filt an22 0) n p22a _ _ (thenK (headK h22c fun e H => aexecB Tryd.prog (call' A41) (filt an22 0) n d22b e H (endOf Tryd.prog 22 [])) _) = _
    rw [hole_eq io22a hr22a]
    refine (uq22 (mkS l) (findL [58, 47, 63, 35] l : Nat) n (fun e H => aexecB Tryd.prog (call' A41) (filt an22 0) n r22a e H (KM fun e H => aexecB Tryd.prog (call' A41) (filt an22 0) n d22b e H (endOf Tryd.prog 22 []))) (fun e H => aexecB Tryd.prog (call' A41) (filt an22 0) n d22b e H (endOf Tryd.prog 22 []))).trans ?_
    simp only [sizeM]
    rw [lez, natM, atM]
    have hno : hcL l = false → aexecB Tryd.prog (call' A41) (filt an22 0) n d22b (E5 l 0) H0 (endOf Tryd.prog 22 []) = fin22 (scL l && okR (l.drop (atL l))) (vR (shL l) (l.drop (atL l))) := by
      intro hc
      have := vp22 l nB 0 n hl (by omega) hn
      refine Eq.trans this ?_
      unfold scL okR vR shL atL
      rw [hc]
      simp only [Bool.not_false, Bool.true_or, Bool.true_and, Bool.false_eq_true, if_false]
    by_cases h : findL [58, 47, 63, 35] l < l.length
    · have b1 : decide (((findL [58, 47, 63, 35] l : Nat) : Int) < ((l.length : Nat) : Int)) = true := decide_eq_true (by omega)
      rw [b1]
      simp only [bif_tt]
      have e1 : (((l.getD (findL [58, 47, 63, 35] l) 0).toNat : Int) == 58) = hcL l := by
        rw [hc_get, decide_eq_true h, Bool.true_and, Bool.eq_iff_iff, beq_iff_eq, beq_iff_eq]
        constructor
        · intro hh
          have h2 : ((l.getD (findL [58, 47, 63, 35] l) 0).toNat : Int) = ((58 : UInt8).toNat : Int) := hh
          exact u8_int.1 h2
        · intro hh; rw [hh]; rfl
      rw [e1]
      cases hc : hcL l with
      | false =>
        rw [bif_ff]
        exact (hno hc)
      | true =>
        rw [bif_tt]
        refine (vn22 l (findL [58, 47, 63, 35] l) n _ hl h hn).trans ?_
        have hsc : scL l = (!decide (findL [58, 47, 63, 35] l = 0) && (inS letC (l.getD 0 0).toNat && (l.take (findL [58, 47, 63, 35] l)).all (fun c => inS schC c.toNat))) := by unfold scL; rw [hc]; rfl
        rw [← hsc]
        cases hq : scL l with
        | false => rfl
        | true =>
          rw [if_pos rfl, Bool.true_and]
          refine (vp22 l (mkS (l.take (findL [58, 47, 63, 35] l))) (findL [58, 47, 63, 35] l + 1) n hl (by omega) hn).trans ?_
          have ea : atL l = findL [58, 47, 63, 35] l + 1 := by unfold atL; rw [hc]; rfl
          have es : shL l = mkS (l.take (findL [58, 47, 63, 35] l)) := by unfold shL; rw [hc]; rfl
          rw [ea, es]
          unfold okR vR
          rfl
    · have b1 : decide (((findL [58, 47, 63, 35] l : Nat) : Int) < ((l.length : Nat) : Int)) = false := decide_eq_false (by omega)
      rw [b1, bif_ff]
      refine hno ?_
      rw [hc_get, decide_eq_false h, Bool.false_and]

end Go.Pv

/- URLs: one plain law for both ways of reading a URL. -/
namespace Go.Pv
set_option linter.unusedVariables false
set_option maxRecDepth 100000
set_option maxHeartbeats 100000
open Go Go.Proofs
variable {I : World → Prop} {ng : Nat}

/-! ### What is behind the authority -/
theorem in2 (b : UInt8) : inS (mkS [63, 35]) b.toNat = (decide (b = 63) || decide (b = 35)) := by
  rw [in_lit, Bool.eq_iff_iff]
  simp
theorem cut35 (l : List UInt8) : l.take (findL [35] l) = (l.takeWhile fun b => !decide (b = 35)) ∧ l.drop (findL [35] l) = l.dropWhile fun b => !decide (b = 35) := by
  rw [take_findL, drop_findL]
  have e : (fun b : UInt8 => !inS (mkS [35]) b.toNat) = fun b => !decide (b = 35) := by funext b; rw [in1]
  rw [e]; exact ⟨rfl, rfl⟩
def tl63 (t : List UInt8) : List UInt8 := (t.takeWhile fun b => !decide (b = 35))
theorem any_drop (q : UInt8 → Bool) : ∀ t : List UInt8, (t.any q) = !(t.dropWhile fun b => !q b).isEmpty
  | [] => rfl
  | b :: t => by
    rw [List.any_cons, List.dropWhile_cons]
    cases h : q b with
    | true => rfl
    | false => simpa using any_drop q t
theorem tail_eq : ∀ t : List UInt8,
    paL t = ((t.takeWhile fun b => !decide (b = 35)).takeWhile fun b => !decide (b = 63)) ∧
    hqL (deL t) = ((t.takeWhile fun b => !decide (b = 35)).any fun b => decide (b = 63)) ∧
    quL (deL t) = ((t.takeWhile fun b => !decide (b = 35)).dropWhile fun b => !decide (b = 63)).drop 1 ∧
    afL (deL t) = t.dropWhile fun b => !decide (b = 35)
  | [] => ⟨rfl, rfl, rfl, rfl⟩
  | c :: t => by
    have ih := tail_eq t
    by_cases h35 : c = 35
    · subst h35
      have e0 : findL [63, 35] (35 :: t) = 0 := by unfold findL; rw [in2]; rfl
      unfold paL deL
      rw [e0]
      simp [List.takeWhile_cons, List.dropWhile_cons, hqL, quL, afL]
    · by_cases h63 : c = 63
      · subst h63
        have e0 : findL [63, 35] (63 :: t) = 0 := by unfold findL; rw [in2]; rfl
        have hq : hqL (63 :: t) = true := rfl
        unfold paL deL quL afL
        rw [e0]
        simp only [List.drop_zero, hq, if_true, List.take_zero, List.drop_succ_cons]
        rw [(cut35 t).1, (cut35 t).2]
        simp [List.takeWhile_cons, List.dropWhile_cons]
      · have e0 : findL [63, 35] (c :: t) = findL [63, 35] t + 1 := by
          conv => lhs; unfold findL
          rw [in2, decide_eq_false h35, decide_eq_false h63]; rfl
        have e1 : paL (c :: t) = c :: paL t := by unfold paL; rw [e0]; rfl
        have e2 : deL (c :: t) = deL t := by unfold deL; rw [e0]; rfl
        rw [e1, e2, ih.1, ih.2.1, ih.2.2.1, ih.2.2.2]
        simp [List.takeWhile_cons, List.dropWhile_cons, h35, h63]
theorem brS_app (a b : ByteArray) : brS (a ++ b) = (brS a || brS b) := by
  unfold brS
  rw [← mkS_bl a, ← mkS_bl b, mkS_app, mkS_data, mkS_data, mkS_data, List.any_append]

/-! ### Both -/
theorem rAu_mk (r : List UInt8) : rAu (mkS r) = mkS (auL r) := by
  have e : rIn (mkS r) = mkS (r.drop 2) := by
    unfold rIn; rw [mkS_ext, sizeM, List.take_of_length_le (by simp)]
  have e2 : pD = mkS [47, 63, 35] := rfl
  unfold rAu auL
  rw [e, e2, find0, mkS_ext, List.drop_zero, Nat.sub_zero]
theorem rHA_mk (r : List UInt8) : rHA (mkS r) = haL r := rfl
theorem rAf_mk (r : List UInt8) : rAf (mkS r) = mkS (rsL r) := by
  have e : rIn (mkS r) = mkS (r.drop 2) := by
    unfold rIn; rw [mkS_ext, sizeM, List.take_of_length_le (by simp)]
  have e2 : pD = mkS [47, 63, 35] := rfl
  unfold rAf rsL
  rw [rHA_mk]
  split
  · rw [e, e2, find0, mkS_ext, sizeM, List.take_of_length_le (by simp only [List.length_drop]; omega)]
  · rfl
theorem dig_nB : digS nB = true := rfl
theorem br_nB : brS nB = false := rfl
theorem okR_eq (r : List UInt8) : okR r = (rOkU (mkS r) && tOk (mkS (rsL r))) := by
  obtain ⟨h1, h2, h3, h4⟩ := tail_eq (rsL r)
  unfold okR ok22 rOkU tOk tFr tPa tQu cutA cutB
  simp only [mkS_data]
  rw [h1, h3, h4, brS_app, brS_app, brS_app, brS_app, brS_app, rHA_mk, rAu_mk]
  generalize (((rsL r).dropWhile fun b => !decide (b = 35)).drop 1).any (fun b => decide (b = 35)) = F
  generalize brS (mkS (((rsL r).takeWhile fun b => !decide (b = 35)).takeWhile fun b => !decide (b = 63))) = G
  generalize brS (mkS ((((rsL r).takeWhile fun b => !decide (b = 35)).dropWhile fun b => !decide (b = 63)).drop 1)) = J
  generalize brS (mkS (((rsL r).dropWhile fun b => !decide (b = 35)).drop 1)) = M
  unfold usB poB hoB auOk
  cases hA : haL r with
  | true =>
    rw [if_pos rfl, if_pos rfl, if_pos rfl]
    generalize hostS (auHost (mkS (auL r))) = X
    generalize digS (auPort (mkS (auL r))) = Y
    generalize brS (auUsr (mkS (auL r))) = Z
    cases X <;> cases Y <;> cases Z <;> cases F <;> cases G <;> cases J <;> cases M <;> rfl
  | false =>
    rw [if_neg Bool.false_ne_true, if_neg Bool.false_ne_true, dig_nB, br_nB]
    cases F <;> cases G <;> cases J <;> cases M <;> rfl
theorem vR_eq (a : ByteArray) (r : List UInt8) : vR a r = uV2 a (mkS r) (mkS (rsL r)) := by
  obtain ⟨h1, h2, h3, h4⟩ := tail_eq (rsL r)
  have h5 := any_drop (fun b => decide (b = 35)) (rsL r)
  unfold vR v22 uV2 tFr tPa tQu tHQ tHF cutA cutB cutF
  simp only [mkS_data]
  rw [h1, h2, h3, h4, h5]
  unfold usB poB hoB huB hpB rUsr rHU rHost rPort rHP
  rw [rHA_mk, rAu_mk]
theorem uTl_mk (l : List UInt8) : uTl (mkS l) = mkS (l.drop (findL [58, 47, 63, 35] l)) := by
  have e : pC = mkS [58, 47, 63, 35] := rfl
  unfold uTl
  rw [e, find0, mkS_ext, sizeM, List.take_of_length_le (by simp)]
theorem uHd_mk (l : List UInt8) : uHd (mkS l) = mkS (l.take (findL [58, 47, 63, 35] l)) := by
  have e : pC = mkS [58, 47, 63, 35] := rfl
  unfold uHd
  rw [e, find0, mkS_ext, List.drop_zero, Nat.sub_zero]
theorem uHS_mk (l : List UInt8) : uHS (mkS l) = hcL l := by
  unfold uHS hcL
  rw [uTl_mk, toList_data, toList_data, mkS_data, mkS_at]
  cases l.drop (findL [58, 47, 63, 35] l) with
  | nil => rfl
  | cons c t =>
    have e : ((((c :: t).getD 0 0).toNat : Int) == 58) = (c == 58) := by
      rw [Bool.eq_iff_iff, beq_iff_eq, beq_iff_eq]
      constructor
      · intro hh
        have h2 : (c.toNat : Int) = ((58 : UInt8).toNat : Int) := hh
        exact u8_int.1 h2
      · intro hh; rw [hh]; rfl
    rw [e]; rfl
theorem uRst_mk (l : List UInt8) : uRst (mkS l) = mkS (l.drop (atL l)) := by
  unfold uRst atL
  rw [uHS_mk]
  cases hcL l with
  | true =>
    rw [if_pos rfl, if_pos rfl, uTl_mk, mkS_ext, sizeM, List.take_of_length_le (by simp only [List.length_drop]; omega), List.drop_drop]
  | false => rfl
theorem uSch_mk (l : List UInt8) : uSch (mkS l) = shL l := by
  unfold uSch shL
  rw [uHS_mk, uHd_mk]
theorem uSOk_mk (l : List UInt8) : uSOk (mkS l) = scL l := by
  unfold uSOk scL
  rw [uHS_mk, uHd_mk]
  cases hc : hcL l with
  | false => rfl
  | true =>
    rw [hc_get, Bool.and_eq_true, decide_eq_true_eq] at hc
    have hl := hc.1
    rw [toList_data, toList_data, mkS_data, mkS_ext, List.drop_zero, Nat.sub_zero]
    unfold allS
    rw [mkS_data, mkS_data]
    generalize findL [58, 47, 63, 35] l = f at hl
    cases f with
    | zero => rfl
    | succ f =>
      cases l with
      | nil => simp at hl
      | cons c t =>
        have e1 : (((c :: t).take (f + 1)) == (ByteArray.mk #[]).data.toList) = false := rfl
        have e2 : decide (f + 1 = 0) = false := rfl
        have e3 : ((c :: t).take (f + 1)).take 1 = [c] := rfl
        have e4 : (c :: t).getD 0 0 = c := rfl
        rw [e1, e2, e3, e4, List.all_cons, List.all_nil, Bool.and_true]
        generalize inS letC c.toNat = X
        generalize ((c :: t).take (f + 1)).all (fun c => inS schC c.toNat) = Y
        cases X <;> cases Y <;> rfl
theorem same22 (l : List UInt8) : (stS (mkS l) && (scL l && okR (l.drop (atL l)))) = uOk (mkS l) ∧ vR (shL l) (l.drop (atL l)) = uR (mkS l) := by
  unfold uOk uR
  rw [uSOk_mk, uRst_mk, uSch_mk, rAf_mk, okR_eq, vR_eq]
  refine ⟨?_, rfl⟩
  generalize stS (mkS l) = X
  generalize scL l = Y
  cases X <;> cases Y <;> rfl

def A22 : Table := fun g => if Nat.beq g 22 then L22 else A41 g
theorem g22 (hg : OnGlobals I ng) (h : Kw I ng A41) : Kw I ng A22 := known_add h (contract_of an22 hg (hok_of h) fun cargs rv outs h => by
  unfold L22 at h
  split at h <;> first | (cases h; done) | skip
  rename_i s
  by_cases hs : s.size ≤ 2500
  · refine ⟨3000, ?_⟩
    rw [abody_eq2 (ps := [.c (.str s)]) (H := []) rfl (by kernel_rfl)]
    obtain ⟨l, rfl⟩ : ∃ l, s = mkS l := ⟨_, (mkS_bl s).symm⟩
    have hz := vz22 l 3000 hs (Nat.le_refl _)
    rw [(same22 l).1, (same22 l).2] at hz
    refine Eq.trans hz ?_
    simp only [picked, pickAlt, decide_eq_true hs, Bool.true_and] at h
    unfold fin22
    cases hk : uOk (mkS l) with
    | true => rw [hk] at h; cases h; rfl
    | false => rw [hk] at h; cases h; rfl
  · simp only [picked, pickAlt, decide_eq_false hs, Bool.false_and] at h; cases h)

end Go.Pv

/- URLs: which texts may be hosts. -/
namespace Go.Pv
set_option linter.unusedVariables false
set_option maxRecDepth 100000
set_option maxHeartbeats 200000
open Go Go.Proofs
variable {I : World → Prop} {ng : Nat}

theorem g51 (hg : OnGlobals I ng) (h : Kw I ng A23) (h47 : Cw I ng 47 L47) (h51 : Cw I ng 51 L51) : Kw I ng A51 := known_add (g27 hg h h47) h51
theorem find_any (l : List UInt8) : (((findI (mkS l) 0 (ByteArray.mk #[58, 91, 93, 64]) : Nat) : Int) == ((l.length : Nat) : Int)) = !(l.any fun b => inS (ByteArray.mk #[58, 91, 93, 64]) b.toNat) := by
  have e : (ByteArray.mk #[58, 91, 93, 64]) = mkS [58, 91, 93, 64] := rfl
  rw [e, find0]
  have h1 := findL_lt [58, 91, 93, 64] l
  have h2 := findL_le [58, 91, 93, 64] l
  rw [← h1]
  by_cases h : findL [58, 91, 93, 64] l < l.length
  · rw [decide_eq_true h]
    refine Bool.eq_false_iff.2 fun hh => ?_
    have := eq_of_beq hh; omega
  · rw [decide_eq_false h]
    have : findL [58, 91, 93, 64] l = l.length := by omega
    rw [this]
    exact beq_iff_eq.2 rfl
theorem g41 (hg : OnGlobals I ng) (h : Kw I ng A23) (h47 : Cw I ng 47 L47) (h51 : Cw I ng 51 L51) : Kw I ng A41 := known_add (g51 hg h h47 h51) (contract_of (fun _ => none) hg (hok_of (g51 hg h h47 h51)) fun cargs rv outs h => by
  unfold L41 at h
  split at h <;> first | (cases h; done) | skip
  rename_i s
  by_cases hs : s.size ≤ 2500
  · simp only [picked, pickAlt, decide_eq_true hs] at h
    cases h
    refine ⟨1, ?_⟩
    obtain ⟨l, rfl⟩ : ∃ l, s = mkS l := ⟨_, (mkS_bl s).symm⟩
    rw [sizeM] at hs
    rw [ut41, sizeM]
    have b9 : decide ((ByteArray.mk #[58, 91, 93, 64]).size ≤ 10000) = true := rfl
    have t1 : Int.toNat 1 = 1 := rfl
    rw [toNat0, t1, b9, lez, decide_eq_true (show l.length ≤ 10000 by omega), le00, find_any]
    simp only [Bool.and_self, bT]
    unfold hostS
    rw [sizeM, mkS_data]
    by_cases h2 : 2 ≤ l.length
    · have hw : IntKind.i64.wrap (((l.length : Nat) : Int) - 1) = ((l.length - 1 : Nat) : Int) := by rw [wrap_id (by omega) (by omega)]; omega
      rw [hw, natM]
      rw [decide_eq_true (show ((l.length : Nat) : Int) ≥ 2 by omega), decide_eq_true (show (0 : Int) < ((l.length : Nat) : Int) by omega), decide_eq_true (show (0 : Int) ≤ ((l.length - 1 : Nat) : Int) by omega), decide_eq_true (show ((l.length - 1 : Nat) : Int) < ((l.length : Nat) : Int) by omega), decide_eq_true (show (1 : Int) ≤ ((l.length - 1 : Nat) : Int) by omega), decide_eq_true (show ((l.length - 1 : Nat) : Int) ≤ ((l.length : Nat) : Int) by omega), decide_eq_true h2]
      have hz : ((mkS l).extract 1 (l.length - 1)).size ≤ 3000 := by rw [ByteArray.size_extract, sizeM]; omega
      rw [decide_eq_true hz, atM, atM]
      simp only [bT, Bool.true_and]
      have p1 : preS (mkS l) ⟨#[91]⟩ = (((l.getD 0 0).toNat : Int) == 91) := by
        have : (((l.getD 0 0).toNat : Int) == 91) = (l.getD 0 0 == 91) := beq_by (l.getD 0 0) 91
        rw [this]
        unfold preS
        rw [mkS_data]
        cases l with
        | nil => simp at h2
        | cons a t =>
          show ([91] : List UInt8).isPrefixOf (a :: t) = (a == 91)
          rw [Bool.eq_iff_iff]
          simp [List.isPrefixOf]
          exact eq_comm
      have p2 : sufS (mkS l) ⟨#[93]⟩ = (((l.getD (l.length - 1) 0).toNat : Int) == 93) := by
        have : (((l.getD (l.length - 1) 0).toNat : Int) == 93) = (l.getD (l.length - 1) 0 == 93) := beq_by (l.getD (l.length - 1) 0) 93
        rw [this]
        unfold sufS
        rw [mkS_data]
        show ([93] : List UInt8).isSuffixOf l = _
        have hd : l.drop (l.length - 1) = [l.getD (l.length - 1) 0] := by
          rw [drop_getD (by omega), List.drop_of_length_le (by omega)]
        rw [Bool.eq_iff_iff, List.isSuffixOf_iff_suffix, List.suffix_iff_eq_drop, beq_iff_eq]
        have e1 : l.length - ([93] : List UInt8).length = l.length - 1 := rfl
        rw [e1, hd]
        constructor
        · intro h; simp at h; exact h.symm
        · intro h; rw [h]
      rw [p1, p2]
      generalize (((l.getD 0 0).toNat : Int) == 91) = A
      generalize (((l.getD (l.length - 1) 0).toNat : Int) == 93) = B
      generalize ip6 ((mkS l).extract 1 (l.length - 1)) = C
      generalize ip4 ((mkS l).extract 1 (l.length - 1)) = D
      generalize (l.any fun b => inS (ByteArray.mk #[58, 91, 93, 64]) b.toNat) = F
      cases A <;> cases B <;> cases C <;> cases D <;> cases F <;> rfl
    · rw [decide_eq_false (show ¬ ((l.length : Nat) : Int) ≥ 2 by omega), decide_eq_false h2, bF]
      simp only [Bool.false_and, Bool.false_eq_true, if_false]
  · simp only [picked, pickAlt, decide_eq_false hs] at h; cases h)

end Go.Pv

/- URLs: parts put together: trees. -/
namespace Go.Pv
set_option linter.unusedVariables false
set_option maxRecDepth 100000
open Go Go.Proofs

def kBu : Nat := 2 + 4294967296 * (60 + 1)
def gBu : Nat := 1099511627776 * (5 + 1)
noncomputable def c20 : Code := codeOf Tryd.prog 20
def h20 : Head := ⟨[1, 3, 4], [(1001001, 1)], 2⟩
def h20e : Head := ⟨[3], [(1001001, 1)], 2⟩
def an20 : Ann := fun i => if Nat.beq i 500003 then some h20 else if Nat.beq i 500004 then some h20 else if Nat.beq i 500005 then some h20 else if Nat.beq i 500006 then some h20 else if Nat.beq i 500007 then some h20 else if Nat.beq i 500008 then some h20 else if Nat.beq i 500009 then some h20 else if Nat.beq i 500010 then some h20 else if Nat.beq i 500011 then some h20e else none
noncomputable def hd20 : Handler := inls Tryd.prog (fun _ => none) 4 [36, 37, 38, 50] (call' A0)
def E20 : Env := mkEnv 58 [(1, .bptr 0 0), (3, .bptr 1 0), (4, .fn 36 [.bptr 1 0])]
def B0 (u : CV) : Hp := [.box (.c u) kU, .box (.c (.agg [.nilptr, .nilsl])) kBu]
def B1 (u : CV) : Hp := [.box (.c u) kU, .box (.agg [.bptr 1 0, .c .nilsl]) kBu]
def B2 (u : CV) (xs : List CV) : Hp := [.box (.c u) kU, .box (.agg [.bptr 1 0, .rw 2 gBu]) kBu, .row xs 1 gBu false]
theorem tg0 (sc us ho po pa qu fr : ByteArray) (hu hp ha hq hf : Bool) (n : Nat) (L : Env → Hp → Res) : aexec Tryd.prog hd20 (filt an20 0) n (prefC 3 c20) (envOf Tryd.prog 20 [.c (uV sc us hu ho po hp ha pa qu hq fr hf)]) [] (thenK (headK h20 L) (endOf Tryd.prog 20 [])) =
    L (mkEnv 58 [(1, PV.bptr 0 0), (3, PV.bptr 1 0), (4, PV.fn 36 [PV.bptr 1 0])])
      [AO.box
          (PV.c
            (CV.agg
              [CV.str sc, CV.str us, CV.bool hu, CV.str ho, CV.str po, CV.bool hp, CV.bool ha, CV.str pa, CV.str qu,
                CV.bool hq, CV.str fr, CV.bool hf]))
          (kU),
        AO.box (PV.c (CV.agg [CV.nilptr, CV.nilsl])) kBu] := by kernel_rfl
theorem tg3a (sc us ho po pa qu fr : ByteArray) (hu hp ha hq hf : Bool) (n : Nat) (L : Env → Hp → Res) : aexecB Tryd.prog hd20 (filt an20 0) n (prefC 1 (tailC 3 c20)) E20 (B0 (uV sc us hu ho po hp ha pa qu hq fr hf)) (thenK (headK h20 L) (endOf Tryd.prog 20 [])) =
    bif' (!sc.toList == (ByteArray.mk #[]).toList)
      (bif' (decide ((strBytes sc).length * 1 ≤ 70368744177664))
        (bif' (strBytes sc).isEmpty
          (bif' (!sc.toList == (ByteArray.mk #[]).toList)
            (L (mkEnv 58 [(1, PV.bptr 0 0), (3, PV.bptr 1 0), (4, PV.fn 36 [PV.bptr 1 0])])
              [AO.box
                  (PV.c
                    (CV.agg
                      [CV.str sc, CV.str us, CV.bool hu, CV.str ho, CV.str po, CV.bool hp, CV.bool ha, CV.str pa, CV.str qu,
                        CV.bool hq, CV.str fr, CV.bool hf]))
                  kU,
                AO.box (PV.agg [PV.bptr 1 0, PV.rw 2 6597069766656]) kBu,
                AO.row [CV.int IntKind.u8 (Int.ofNat 58)] 1 6597069766656 false])
            (L (mkEnv 58 [(1, PV.bptr 0 0), (3, PV.bptr 1 0), (4, PV.fn 36 [PV.bptr 1 0])])
              [AO.box
                  (PV.c
                    (CV.agg
                      [CV.str sc, CV.str us, CV.bool hu, CV.str ho, CV.str po, CV.bool hp, CV.bool ha, CV.str pa, CV.str qu,
                        CV.bool hq, CV.str fr, CV.bool hf]))
                  kU,
                AO.box (PV.agg [PV.bptr 1 0, PV.c CV.nilsl]) kBu]))
          (bif' (!sc.toList == (ByteArray.mk #[]).toList)
            (bif' (decide (((strBytes sc).length + 1) * 1 ≤ 70368744177664))
              (L (mkEnv 58 [(1, PV.bptr 0 0), (3, PV.bptr 1 0), (4, PV.fn 36 [PV.bptr 1 0])])
                [AO.box
                    (PV.c
                      (CV.agg
                        [CV.str sc, CV.str us, CV.bool hu, CV.str ho, CV.str po, CV.bool hp, CV.bool ha, CV.str pa,
                          CV.str qu, CV.bool hq, CV.str fr, CV.bool hf]))
                    kU,
                  AO.box (PV.agg [PV.bptr 1 0, PV.rw 2 6597069766656]) kBu,
                  AO.row (strBytes sc ++ strBytes (ByteArray.mk #[58])) 1 6597069766656 false])
              none)
            (L (mkEnv 58 [(1, PV.bptr 0 0), (3, PV.bptr 1 0), (4, PV.fn 36 [PV.bptr 1 0])])
              [AO.box
                  (PV.c
                    (CV.agg
                      [CV.str sc, CV.str us, CV.bool hu, CV.str ho, CV.str po, CV.bool hp, CV.bool ha, CV.str pa, CV.str qu,
                        CV.bool hq, CV.str fr, CV.bool hf]))
                  kU,
                AO.box (PV.agg [PV.bptr 1 0, PV.rw 2 6597069766656]) kBu,
                AO.row (strBytes sc) 1 6597069766656 false])))
        none)
      (bif' (!sc.toList == (ByteArray.mk #[]).toList)
        (L (mkEnv 58 [(1, PV.bptr 0 0), (3, PV.bptr 1 0), (4, PV.fn 36 [PV.bptr 1 0])])
          [AO.box
              (PV.c
                (CV.agg
                  [CV.str sc, CV.str us, CV.bool hu, CV.str ho, CV.str po, CV.bool hp, CV.bool ha, CV.str pa, CV.str qu,
                    CV.bool hq, CV.str fr, CV.bool hf]))
              kU,
            AO.box (PV.agg [PV.bptr 1 0, PV.rw 2 6597069766656]) kBu,
            AO.row [CV.int IntKind.u8 (Int.ofNat 58)] 1 6597069766656 false])
        (L (mkEnv 58 [(1, PV.bptr 0 0), (3, PV.bptr 1 0), (4, PV.fn 36 [PV.bptr 1 0])])
          [AO.box
              (PV.c
                (CV.agg
                  [CV.str sc, CV.str us, CV.bool hu, CV.str ho, CV.str po, CV.bool hp, CV.bool ha, CV.str pa, CV.str qu,
                    CV.bool hq, CV.str fr, CV.bool hf]))
              kU,
            AO.box (PV.c (CV.agg [CV.nilptr, CV.nilsl])) kBu])) := by kernel_rfl
theorem tg4a (sc us ho po pa qu fr : ByteArray) (hu hp ha hq hf : Bool) (n : Nat) (L : Env → Hp → Res) : aexecB Tryd.prog hd20 (filt an20 0) n (prefC 1 (tailC 4 c20)) E20 (B0 (uV sc us hu ho po hp ha pa qu hq fr hf)) (thenK (headK h20 L) (endOf Tryd.prog 20 [])) =
    bif' ha
      (L (mkEnv 58 [(1, PV.bptr 0 0), (3, PV.bptr 1 0), (4, PV.fn 36 [PV.bptr 1 0])])
        [AO.box
            (PV.c
              (CV.agg
                [CV.str sc, CV.str us, CV.bool hu, CV.str ho, CV.str po, CV.bool hp, CV.bool ha, CV.str pa, CV.str qu,
                  CV.bool hq, CV.str fr, CV.bool hf]))
            kU,
          AO.box (PV.agg [PV.bptr 1 0, PV.rw 2 6597069766656]) kBu,
          AO.row [CV.int IntKind.u8 (Int.ofNat 47), CV.int IntKind.u8 (Int.ofNat 47)] 1 6597069766656 false])
      (L (mkEnv 58 [(1, PV.bptr 0 0), (3, PV.bptr 1 0), (4, PV.fn 36 [PV.bptr 1 0])])
        [AO.box
            (PV.c
              (CV.agg
                [CV.str sc, CV.str us, CV.bool hu, CV.str ho, CV.str po, CV.bool hp, CV.bool ha, CV.str pa, CV.str qu,
                  CV.bool hq, CV.str fr, CV.bool hf]))
            kU,
          AO.box (PV.c (CV.agg [CV.nilptr, CV.nilsl])) kBu]) := by kernel_rfl
theorem tg4b (sc us ho po pa qu fr : ByteArray) (hu hp ha hq hf : Bool) (n : Nat) (L : Env → Hp → Res) : aexecB Tryd.prog hd20 (filt an20 0) n (prefC 1 (tailC 4 c20)) E20 (B1 (uV sc us hu ho po hp ha pa qu hq fr hf)) (thenK (headK h20 L) (endOf Tryd.prog 20 [])) =
    bif' ha
      (L (mkEnv 58 [(1, PV.bptr 0 0), (3, PV.bptr 1 0), (4, PV.fn 36 [PV.bptr 1 0])])
        [AO.box
            (PV.c
              (CV.agg
                [CV.str sc, CV.str us, CV.bool hu, CV.str ho, CV.str po, CV.bool hp, CV.bool ha, CV.str pa, CV.str qu,
                  CV.bool hq, CV.str fr, CV.bool hf]))
            kU,
          AO.box (PV.agg [PV.bptr 1 0, PV.rw 2 6597069766656]) kBu,
          AO.row [CV.int IntKind.u8 (Int.ofNat 47), CV.int IntKind.u8 (Int.ofNat 47)] 1 6597069766656 false])
      (L (mkEnv 58 [(1, PV.bptr 0 0), (3, PV.bptr 1 0), (4, PV.fn 36 [PV.bptr 1 0])])
        [AO.box
            (PV.c
              (CV.agg
                [CV.str sc, CV.str us, CV.bool hu, CV.str ho, CV.str po, CV.bool hp, CV.bool ha, CV.str pa, CV.str qu,
                  CV.bool hq, CV.str fr, CV.bool hf]))
            kU,
          AO.box (PV.agg [PV.bptr 1 0, PV.c CV.nilsl]) kBu]) := by kernel_rfl
theorem tg4c (sc us ho po pa qu fr : ByteArray) (hu hp ha hq hf : Bool) (xs : List CV) (n : Nat) (L : Env → Hp → Res) : aexecB Tryd.prog hd20 (filt an20 0) n (prefC 1 (tailC 4 c20)) E20 (B2 (uV sc us hu ho po hp ha pa qu hq fr hf) xs) (thenK (headK h20 L) (endOf Tryd.prog 20 [])) =
    bif' ha
      (bif' (decide ((xs.length + 2) * 1 ≤ 70368744177664))
        (L (mkEnv 58 [(1, PV.bptr 0 0), (3, PV.bptr 1 0), (4, PV.fn 36 [PV.bptr 1 0])])
          [AO.box
              (PV.c
                (CV.agg
                  [CV.str sc, CV.str us, CV.bool hu, CV.str ho, CV.str po, CV.bool hp, CV.bool ha, CV.str pa, CV.str qu,
                    CV.bool hq, CV.str fr, CV.bool hf]))
              kU,
            AO.box (PV.agg [PV.bptr 1 0, PV.rw 2 6597069766656]) kBu,
            AO.row (xs ++ strBytes (ByteArray.mk #[47, 47])) 1 6597069766656 false])
        none)
      (L (mkEnv 58 [(1, PV.bptr 0 0), (3, PV.bptr 1 0), (4, PV.fn 36 [PV.bptr 1 0])])
        [AO.box
            (PV.c
              (CV.agg
                [CV.str sc, CV.str us, CV.bool hu, CV.str ho, CV.str po, CV.bool hp, CV.bool ha, CV.str pa, CV.str qu,
                  CV.bool hq, CV.str fr, CV.bool hf]))
            kU,
          AO.box (PV.agg [PV.bptr 1 0, PV.rw 2 6597069766656]) kBu, AO.row xs 1 6597069766656 false]) := by kernel_rfl
theorem tg5a (sc us ho po pa qu fr : ByteArray) (hu hp ha hq hf : Bool) (n : Nat) (L : Env → Hp → Res) : aexecB Tryd.prog hd20 (filt an20 0) n (prefC 1 (tailC 5 c20)) E20 (B0 (uV sc us hu ho po hp ha pa qu hq fr hf)) (thenK (headK h20 L) (endOf Tryd.prog 20 [])) =
    bif' hu
      (bif' (decide ((strBytes us).length * 1 ≤ 70368744177664))
        (bif' (strBytes us).isEmpty
          (bif' hu
            (L (mkEnv 58 [(1, PV.bptr 0 0), (3, PV.bptr 1 0), (4, PV.fn 36 [PV.bptr 1 0])])
              [AO.box
                  (PV.c
                    (CV.agg
                      [CV.str sc, CV.str us, CV.bool hu, CV.str ho, CV.str po, CV.bool hp, CV.bool ha, CV.str pa, CV.str qu,
                        CV.bool hq, CV.str fr, CV.bool hf]))
                  kU,
                AO.box (PV.agg [PV.bptr 1 0, PV.rw 2 6597069766656]) kBu,
                AO.row [CV.int IntKind.u8 (Int.ofNat 64)] 1 6597069766656 false])
            (L (mkEnv 58 [(1, PV.bptr 0 0), (3, PV.bptr 1 0), (4, PV.fn 36 [PV.bptr 1 0])])
              [AO.box
                  (PV.c
                    (CV.agg
                      [CV.str sc, CV.str us, CV.bool hu, CV.str ho, CV.str po, CV.bool hp, CV.bool ha, CV.str pa, CV.str qu,
                        CV.bool hq, CV.str fr, CV.bool hf]))
                  kU,
                AO.box (PV.agg [PV.bptr 1 0, PV.c CV.nilsl]) kBu]))
          (bif' hu
            (bif' (decide (((strBytes us).length + 1) * 1 ≤ 70368744177664))
              (L (mkEnv 58 [(1, PV.bptr 0 0), (3, PV.bptr 1 0), (4, PV.fn 36 [PV.bptr 1 0])])
                [AO.box
                    (PV.c
                      (CV.agg
                        [CV.str sc, CV.str us, CV.bool hu, CV.str ho, CV.str po, CV.bool hp, CV.bool ha, CV.str pa,
                          CV.str qu, CV.bool hq, CV.str fr, CV.bool hf]))
                    kU,
                  AO.box (PV.agg [PV.bptr 1 0, PV.rw 2 6597069766656]) kBu,
                  AO.row (strBytes us ++ strBytes (ByteArray.mk #[64])) 1 6597069766656 false])
              none)
            (L (mkEnv 58 [(1, PV.bptr 0 0), (3, PV.bptr 1 0), (4, PV.fn 36 [PV.bptr 1 0])])
              [AO.box
                  (PV.c
                    (CV.agg
                      [CV.str sc, CV.str us, CV.bool hu, CV.str ho, CV.str po, CV.bool hp, CV.bool ha, CV.str pa, CV.str qu,
                        CV.bool hq, CV.str fr, CV.bool hf]))
                  kU,
                AO.box (PV.agg [PV.bptr 1 0, PV.rw 2 6597069766656]) kBu,
                AO.row (strBytes us) 1 6597069766656 false])))
        none)
      (bif' hu
        (L (mkEnv 58 [(1, PV.bptr 0 0), (3, PV.bptr 1 0), (4, PV.fn 36 [PV.bptr 1 0])])
          [AO.box
              (PV.c
                (CV.agg
                  [CV.str sc, CV.str us, CV.bool hu, CV.str ho, CV.str po, CV.bool hp, CV.bool ha, CV.str pa, CV.str qu,
                    CV.bool hq, CV.str fr, CV.bool hf]))
              kU,
            AO.box (PV.agg [PV.bptr 1 0, PV.rw 2 6597069766656]) kBu,
            AO.row [CV.int IntKind.u8 (Int.ofNat 64)] 1 6597069766656 false])
        (L (mkEnv 58 [(1, PV.bptr 0 0), (3, PV.bptr 1 0), (4, PV.fn 36 [PV.bptr 1 0])])
          [AO.box
              (PV.c
                (CV.agg
                  [CV.str sc, CV.str us, CV.bool hu, CV.str ho, CV.str po, CV.bool hp, CV.bool ha, CV.str pa, CV.str qu,
                    CV.bool hq, CV.str fr, CV.bool hf]))
              kU,
            AO.box (PV.c (CV.agg [CV.nilptr, CV.nilsl])) kBu])) := by kernel_rfl
theorem tg5b (sc us ho po pa qu fr : ByteArray) (hu hp ha hq hf : Bool) (n : Nat) (L : Env → Hp → Res) : aexecB Tryd.prog hd20 (filt an20 0) n (prefC 1 (tailC 5 c20)) E20 (B1 (uV sc us hu ho po hp ha pa qu hq fr hf)) (thenK (headK h20 L) (endOf Tryd.prog 20 [])) =
    bif' hu
      (bif' (decide ((strBytes us).length * 1 ≤ 70368744177664))
        (bif' (strBytes us).isEmpty
          (bif' hu
            (L (mkEnv 58 [(1, PV.bptr 0 0), (3, PV.bptr 1 0), (4, PV.fn 36 [PV.bptr 1 0])])
              [AO.box
                  (PV.c
                    (CV.agg
                      [CV.str sc, CV.str us, CV.bool hu, CV.str ho, CV.str po, CV.bool hp, CV.bool ha, CV.str pa, CV.str qu,
                        CV.bool hq, CV.str fr, CV.bool hf]))
                  kU,
                AO.box (PV.agg [PV.bptr 1 0, PV.rw 2 6597069766656]) kBu,
                AO.row [CV.int IntKind.u8 (Int.ofNat 64)] 1 6597069766656 false])
            (L (mkEnv 58 [(1, PV.bptr 0 0), (3, PV.bptr 1 0), (4, PV.fn 36 [PV.bptr 1 0])])
              [AO.box
                  (PV.c
                    (CV.agg
                      [CV.str sc, CV.str us, CV.bool hu, CV.str ho, CV.str po, CV.bool hp, CV.bool ha, CV.str pa, CV.str qu,
                        CV.bool hq, CV.str fr, CV.bool hf]))
                  kU,
                AO.box (PV.agg [PV.bptr 1 0, PV.c CV.nilsl]) kBu]))
          (bif' hu
            (bif' (decide (((strBytes us).length + 1) * 1 ≤ 70368744177664))
              (L (mkEnv 58 [(1, PV.bptr 0 0), (3, PV.bptr 1 0), (4, PV.fn 36 [PV.bptr 1 0])])
                [AO.box
                    (PV.c
                      (CV.agg
                        [CV.str sc, CV.str us, CV.bool hu, CV.str ho, CV.str po, CV.bool hp, CV.bool ha, CV.str pa,
                          CV.str qu, CV.bool hq, CV.str fr, CV.bool hf]))
                    kU,
                  AO.box (PV.agg [PV.bptr 1 0, PV.rw 2 6597069766656]) kBu,
                  AO.row (strBytes us ++ strBytes (ByteArray.mk #[64])) 1 6597069766656 false])
              none)
            (L (mkEnv 58 [(1, PV.bptr 0 0), (3, PV.bptr 1 0), (4, PV.fn 36 [PV.bptr 1 0])])
              [AO.box
                  (PV.c
                    (CV.agg
                      [CV.str sc, CV.str us, CV.bool hu, CV.str ho, CV.str po, CV.bool hp, CV.bool ha, CV.str pa, CV.str qu,
                        CV.bool hq, CV.str fr, CV.bool hf]))
                  kU,
                AO.box (PV.agg [PV.bptr 1 0, PV.rw 2 6597069766656]) kBu,
                AO.row (strBytes us) 1 6597069766656 false])))
        none)
      (bif' hu
        (L (mkEnv 58 [(1, PV.bptr 0 0), (3, PV.bptr 1 0), (4, PV.fn 36 [PV.bptr 1 0])])
          [AO.box
              (PV.c
                (CV.agg
                  [CV.str sc, CV.str us, CV.bool hu, CV.str ho, CV.str po, CV.bool hp, CV.bool ha, CV.str pa, CV.str qu,
                    CV.bool hq, CV.str fr, CV.bool hf]))
              kU,
            AO.box (PV.agg [PV.bptr 1 0, PV.rw 2 6597069766656]) kBu,
            AO.row [CV.int IntKind.u8 (Int.ofNat 64)] 1 6597069766656 false])
        (L (mkEnv 58 [(1, PV.bptr 0 0), (3, PV.bptr 1 0), (4, PV.fn 36 [PV.bptr 1 0])])
          [AO.box
              (PV.c
                (CV.agg
                  [CV.str sc, CV.str us, CV.bool hu, CV.str ho, CV.str po, CV.bool hp, CV.bool ha, CV.str pa, CV.str qu,
                    CV.bool hq, CV.str fr, CV.bool hf]))
              kU,
            AO.box (PV.agg [PV.bptr 1 0, PV.c CV.nilsl]) kBu])) := by kernel_rfl
theorem tg5c (sc us ho po pa qu fr : ByteArray) (hu hp ha hq hf : Bool) (xs : List CV) (n : Nat) (L : Env → Hp → Res) : aexecB Tryd.prog hd20 (filt an20 0) n (prefC 1 (tailC 5 c20)) E20 (B2 (uV sc us hu ho po hp ha pa qu hq fr hf) xs) (thenK (headK h20 L) (endOf Tryd.prog 20 [])) =
    bif' hu
      (bif' (decide ((xs.length + (strBytes us).length) * 1 ≤ 70368744177664))
        (bif' hu
          (bif' (decide (((xs ++ strBytes us).length + 1) * 1 ≤ 70368744177664))
            (L (mkEnv 58 [(1, PV.bptr 0 0), (3, PV.bptr 1 0), (4, PV.fn 36 [PV.bptr 1 0])])
              [AO.box
                  (PV.c
                    (CV.agg
                      [CV.str sc, CV.str us, CV.bool hu, CV.str ho, CV.str po, CV.bool hp, CV.bool ha, CV.str pa, CV.str qu,
                        CV.bool hq, CV.str fr, CV.bool hf]))
                  kU,
                AO.box (PV.agg [PV.bptr 1 0, PV.rw 2 6597069766656]) kBu,
                AO.row (xs ++ strBytes us ++ strBytes (ByteArray.mk #[64])) 1 6597069766656 false])
            none)
          (L (mkEnv 58 [(1, PV.bptr 0 0), (3, PV.bptr 1 0), (4, PV.fn 36 [PV.bptr 1 0])])
            [AO.box
                (PV.c
                  (CV.agg
                    [CV.str sc, CV.str us, CV.bool hu, CV.str ho, CV.str po, CV.bool hp, CV.bool ha, CV.str pa, CV.str qu,
                      CV.bool hq, CV.str fr, CV.bool hf]))
                kU,
              AO.box (PV.agg [PV.bptr 1 0, PV.rw 2 6597069766656]) kBu,
              AO.row (xs ++ strBytes us) 1 6597069766656 false]))
        none)
      (bif' hu
        (bif' (decide ((xs.length + 1) * 1 ≤ 70368744177664))
          (L (mkEnv 58 [(1, PV.bptr 0 0), (3, PV.bptr 1 0), (4, PV.fn 36 [PV.bptr 1 0])])
            [AO.box
                (PV.c
                  (CV.agg
                    [CV.str sc, CV.str us, CV.bool hu, CV.str ho, CV.str po, CV.bool hp, CV.bool ha, CV.str pa, CV.str qu,
                      CV.bool hq, CV.str fr, CV.bool hf]))
                kU,
              AO.box (PV.agg [PV.bptr 1 0, PV.rw 2 6597069766656]) kBu,
              AO.row (xs ++ strBytes (ByteArray.mk #[64])) 1 6597069766656 false])
          none)
        (L (mkEnv 58 [(1, PV.bptr 0 0), (3, PV.bptr 1 0), (4, PV.fn 36 [PV.bptr 1 0])])
          [AO.box
              (PV.c
                (CV.agg
                  [CV.str sc, CV.str us, CV.bool hu, CV.str ho, CV.str po, CV.bool hp, CV.bool ha, CV.str pa, CV.str qu,
                    CV.bool hq, CV.str fr, CV.bool hf]))
              kU,
            AO.box (PV.agg [PV.bptr 1 0, PV.rw 2 6597069766656]) kBu, AO.row xs 1 6597069766656 false])) := by kernel_rfl
theorem tg6a (sc us ho po pa qu fr : ByteArray) (hu hp ha hq hf : Bool) (n : Nat) (L : Env → Hp → Res) : aexecB Tryd.prog hd20 (filt an20 0) n (prefC 1 (tailC 6 c20)) E20 (B0 (uV sc us hu ho po hp ha pa qu hq fr hf)) (thenK (headK h20 L) (endOf Tryd.prog 20 [])) =
    bif' (decide ((strBytes ho).length * 1 ≤ 70368744177664))
      (bif' (strBytes ho).isEmpty
        (L (mkEnv 58 [(1, PV.bptr 0 0), (3, PV.bptr 1 0), (4, PV.fn 36 [PV.bptr 1 0])])
          [AO.box
              (PV.c
                (CV.agg
                  [CV.str sc, CV.str us, CV.bool hu, CV.str ho, CV.str po, CV.bool hp, CV.bool ha, CV.str pa, CV.str qu,
                    CV.bool hq, CV.str fr, CV.bool hf]))
              kU,
            AO.box (PV.agg [PV.bptr 1 0, PV.c CV.nilsl]) kBu])
        (L (mkEnv 58 [(1, PV.bptr 0 0), (3, PV.bptr 1 0), (4, PV.fn 36 [PV.bptr 1 0])])
          [AO.box
              (PV.c
                (CV.agg
                  [CV.str sc, CV.str us, CV.bool hu, CV.str ho, CV.str po, CV.bool hp, CV.bool ha, CV.str pa, CV.str qu,
                    CV.bool hq, CV.str fr, CV.bool hf]))
              kU,
            AO.box (PV.agg [PV.bptr 1 0, PV.rw 2 6597069766656]) kBu, AO.row (strBytes ho) 1 6597069766656 false]))
      none := by kernel_rfl
theorem tg6b (sc us ho po pa qu fr : ByteArray) (hu hp ha hq hf : Bool) (n : Nat) (L : Env → Hp → Res) : aexecB Tryd.prog hd20 (filt an20 0) n (prefC 1 (tailC 6 c20)) E20 (B1 (uV sc us hu ho po hp ha pa qu hq fr hf)) (thenK (headK h20 L) (endOf Tryd.prog 20 [])) =
    bif' (decide ((strBytes ho).length * 1 ≤ 70368744177664))
      (bif' (strBytes ho).isEmpty
        (L (mkEnv 58 [(1, PV.bptr 0 0), (3, PV.bptr 1 0), (4, PV.fn 36 [PV.bptr 1 0])])
          [AO.box
              (PV.c
                (CV.agg
                  [CV.str sc, CV.str us, CV.bool hu, CV.str ho, CV.str po, CV.bool hp, CV.bool ha, CV.str pa, CV.str qu,
                    CV.bool hq, CV.str fr, CV.bool hf]))
              kU,
            AO.box (PV.agg [PV.bptr 1 0, PV.c CV.nilsl]) kBu])
        (L (mkEnv 58 [(1, PV.bptr 0 0), (3, PV.bptr 1 0), (4, PV.fn 36 [PV.bptr 1 0])])
          [AO.box
              (PV.c
                (CV.agg
                  [CV.str sc, CV.str us, CV.bool hu, CV.str ho, CV.str po, CV.bool hp, CV.bool ha, CV.str pa, CV.str qu,
                    CV.bool hq, CV.str fr, CV.bool hf]))
              kU,
            AO.box (PV.agg [PV.bptr 1 0, PV.rw 2 6597069766656]) kBu, AO.row (strBytes ho) 1 6597069766656 false]))
      none := by kernel_rfl
theorem tg6c (sc us ho po pa qu fr : ByteArray) (hu hp ha hq hf : Bool) (xs : List CV) (n : Nat) (L : Env → Hp → Res) : aexecB Tryd.prog hd20 (filt an20 0) n (prefC 1 (tailC 6 c20)) E20 (B2 (uV sc us hu ho po hp ha pa qu hq fr hf) xs) (thenK (headK h20 L) (endOf Tryd.prog 20 [])) =
    bif' (decide ((xs.length + (strBytes ho).length) * 1 ≤ 70368744177664))
      (L (mkEnv 58 [(1, PV.bptr 0 0), (3, PV.bptr 1 0), (4, PV.fn 36 [PV.bptr 1 0])])
        [AO.box
            (PV.c
              (CV.agg
                [CV.str sc, CV.str us, CV.bool hu, CV.str ho, CV.str po, CV.bool hp, CV.bool ha, CV.str pa, CV.str qu,
                  CV.bool hq, CV.str fr, CV.bool hf]))
            kU,
          AO.box (PV.agg [PV.bptr 1 0, PV.rw 2 6597069766656]) kBu,
          AO.row (xs ++ strBytes ho) 1 6597069766656 false])
      none := by kernel_rfl
theorem tg7b (sc us ho po pa qu fr : ByteArray) (hu hp ha hq hf : Bool) (n : Nat) (L : Env → Hp → Res) : aexecB Tryd.prog hd20 (filt an20 0) n (prefC 1 (tailC 7 c20)) E20 (B1 (uV sc us hu ho po hp ha pa qu hq fr hf)) (thenK (headK h20 L) (endOf Tryd.prog 20 [])) =
    bif' hp
      (bif' hp
        (bif' (decide ((1 + (strBytes po).length) * 1 ≤ 70368744177664))
          (L (mkEnv 58 [(1, PV.bptr 0 0), (3, PV.bptr 1 0), (4, PV.fn 36 [PV.bptr 1 0])])
            [AO.box
                (PV.c
                  (CV.agg
                    [CV.str sc, CV.str us, CV.bool hu, CV.str ho, CV.str po, CV.bool hp, CV.bool ha, CV.str pa, CV.str qu,
                      CV.bool hq, CV.str fr, CV.bool hf]))
                kU,
              AO.box (PV.agg [PV.bptr 1 0, PV.rw 2 6597069766656]) kBu,
              AO.row (CV.int IntKind.u8 (Int.ofNat 58) :: strBytes po) 1 6597069766656
                false])
          none)
        (L (mkEnv 58 [(1, PV.bptr 0 0), (3, PV.bptr 1 0), (4, PV.fn 36 [PV.bptr 1 0])])
          [AO.box
              (PV.c
                (CV.agg
                  [CV.str sc, CV.str us, CV.bool hu, CV.str ho, CV.str po, CV.bool hp, CV.bool ha, CV.str pa, CV.str qu,
                    CV.bool hq, CV.str fr, CV.bool hf]))
              kU,
            AO.box (PV.agg [PV.bptr 1 0, PV.rw 2 6597069766656]) kBu,
            AO.row [CV.int IntKind.u8 (Int.ofNat 58)] 1 6597069766656 false]))
      (bif' hp
        (bif' (decide ((strBytes po).length * 1 ≤ 70368744177664))
          (bif' (strBytes po).isEmpty
            (L (mkEnv 58 [(1, PV.bptr 0 0), (3, PV.bptr 1 0), (4, PV.fn 36 [PV.bptr 1 0])])
              [AO.box
                  (PV.c
                    (CV.agg
                      [CV.str sc, CV.str us, CV.bool hu, CV.str ho, CV.str po, CV.bool hp, CV.bool ha, CV.str pa, CV.str qu,
                        CV.bool hq, CV.str fr, CV.bool hf]))
                  kU,
                AO.box (PV.agg [PV.bptr 1 0, PV.c CV.nilsl]) kBu])
            (L (mkEnv 58 [(1, PV.bptr 0 0), (3, PV.bptr 1 0), (4, PV.fn 36 [PV.bptr 1 0])])
              [AO.box
                  (PV.c
                    (CV.agg
                      [CV.str sc, CV.str us, CV.bool hu, CV.str ho, CV.str po, CV.bool hp, CV.bool ha, CV.str pa, CV.str qu,
                        CV.bool hq, CV.str fr, CV.bool hf]))
                  kU,
                AO.box (PV.agg [PV.bptr 1 0, PV.rw 2 6597069766656]) kBu,
                AO.row (strBytes po) 1 6597069766656 false]))
          none)
        (L (mkEnv 58 [(1, PV.bptr 0 0), (3, PV.bptr 1 0), (4, PV.fn 36 [PV.bptr 1 0])])
          [AO.box
              (PV.c
                (CV.agg
                  [CV.str sc, CV.str us, CV.bool hu, CV.str ho, CV.str po, CV.bool hp, CV.bool ha, CV.str pa, CV.str qu,
                    CV.bool hq, CV.str fr, CV.bool hf]))
              kU,
            AO.box (PV.agg [PV.bptr 1 0, PV.c CV.nilsl]) kBu])) := by kernel_rfl
theorem tg7c (sc us ho po pa qu fr : ByteArray) (hu hp ha hq hf : Bool) (xs : List CV) (n : Nat) (L : Env → Hp → Res) : aexecB Tryd.prog hd20 (filt an20 0) n (prefC 1 (tailC 7 c20)) E20 (B2 (uV sc us hu ho po hp ha pa qu hq fr hf) xs) (thenK (headK h20 L) (endOf Tryd.prog 20 [])) =
    bif' hp
      (bif' (decide ((xs.length + 1) * 1 ≤ 70368744177664))
        (bif' hp
          (bif' (decide (((xs ++ strBytes (ByteArray.mk #[58])).length + (strBytes po).length) * 1 ≤ 70368744177664))
            (L (mkEnv 58 [(1, PV.bptr 0 0), (3, PV.bptr 1 0), (4, PV.fn 36 [PV.bptr 1 0])])
              [AO.box
                  (PV.c
                    (CV.agg
                      [CV.str sc, CV.str us, CV.bool hu, CV.str ho, CV.str po, CV.bool hp, CV.bool ha, CV.str pa, CV.str qu,
                        CV.bool hq, CV.str fr, CV.bool hf]))
                  kU,
                AO.box (PV.agg [PV.bptr 1 0, PV.rw 2 6597069766656]) kBu,
                AO.row (xs ++ strBytes (ByteArray.mk #[58]) ++ strBytes po) 1 6597069766656 false])
            none)
          (L (mkEnv 58 [(1, PV.bptr 0 0), (3, PV.bptr 1 0), (4, PV.fn 36 [PV.bptr 1 0])])
            [AO.box
                (PV.c
                  (CV.agg
                    [CV.str sc, CV.str us, CV.bool hu, CV.str ho, CV.str po, CV.bool hp, CV.bool ha, CV.str pa, CV.str qu,
                      CV.bool hq, CV.str fr, CV.bool hf]))
                kU,
              AO.box (PV.agg [PV.bptr 1 0, PV.rw 2 6597069766656]) kBu,
              AO.row (xs ++ strBytes (ByteArray.mk #[58])) 1 6597069766656 false]))
        none)
      (bif' hp
        (bif' (decide ((xs.length + (strBytes po).length) * 1 ≤ 70368744177664))
          (L (mkEnv 58 [(1, PV.bptr 0 0), (3, PV.bptr 1 0), (4, PV.fn 36 [PV.bptr 1 0])])
            [AO.box
                (PV.c
                  (CV.agg
                    [CV.str sc, CV.str us, CV.bool hu, CV.str ho, CV.str po, CV.bool hp, CV.bool ha, CV.str pa, CV.str qu,
                      CV.bool hq, CV.str fr, CV.bool hf]))
                kU,
              AO.box (PV.agg [PV.bptr 1 0, PV.rw 2 6597069766656]) kBu,
              AO.row (xs ++ strBytes po) 1 6597069766656 false])
          none)
        (L (mkEnv 58 [(1, PV.bptr 0 0), (3, PV.bptr 1 0), (4, PV.fn 36 [PV.bptr 1 0])])
          [AO.box
              (PV.c
                (CV.agg
                  [CV.str sc, CV.str us, CV.bool hu, CV.str ho, CV.str po, CV.bool hp, CV.bool ha, CV.str pa, CV.str qu,
                    CV.bool hq, CV.str fr, CV.bool hf]))
              kU,
            AO.box (PV.agg [PV.bptr 1 0, PV.rw 2 6597069766656]) kBu, AO.row xs 1 6597069766656 false])) := by kernel_rfl
theorem tg8b (sc us ho po pa qu fr : ByteArray) (hu hp ha hq hf : Bool) (n : Nat) (L : Env → Hp → Res) : aexecB Tryd.prog hd20 (filt an20 0) n (prefC 1 (tailC 8 c20)) E20 (B1 (uV sc us hu ho po hp ha pa qu hq fr hf)) (thenK (headK h20 L) (endOf Tryd.prog 20 [])) =
    bif' (decide ((strBytes pa).length * 1 ≤ 70368744177664))
      (bif' (strBytes pa).isEmpty
        (L (mkEnv 58 [(1, PV.bptr 0 0), (3, PV.bptr 1 0), (4, PV.fn 36 [PV.bptr 1 0])])
          [AO.box
              (PV.c
                (CV.agg
                  [CV.str sc, CV.str us, CV.bool hu, CV.str ho, CV.str po, CV.bool hp, CV.bool ha, CV.str pa, CV.str qu,
                    CV.bool hq, CV.str fr, CV.bool hf]))
              kU,
            AO.box (PV.agg [PV.bptr 1 0, PV.c CV.nilsl]) kBu])
        (L (mkEnv 58 [(1, PV.bptr 0 0), (3, PV.bptr 1 0), (4, PV.fn 36 [PV.bptr 1 0])])
          [AO.box
              (PV.c
                (CV.agg
                  [CV.str sc, CV.str us, CV.bool hu, CV.str ho, CV.str po, CV.bool hp, CV.bool ha, CV.str pa, CV.str qu,
                    CV.bool hq, CV.str fr, CV.bool hf]))
              kU,
            AO.box (PV.agg [PV.bptr 1 0, PV.rw 2 6597069766656]) kBu, AO.row (strBytes pa) 1 6597069766656 false]))
      none := by kernel_rfl
theorem tg8c (sc us ho po pa qu fr : ByteArray) (hu hp ha hq hf : Bool) (xs : List CV) (n : Nat) (L : Env → Hp → Res) : aexecB Tryd.prog hd20 (filt an20 0) n (prefC 1 (tailC 8 c20)) E20 (B2 (uV sc us hu ho po hp ha pa qu hq fr hf) xs) (thenK (headK h20 L) (endOf Tryd.prog 20 [])) =
    bif' (decide ((xs.length + (strBytes pa).length) * 1 ≤ 70368744177664))
      (L (mkEnv 58 [(1, PV.bptr 0 0), (3, PV.bptr 1 0), (4, PV.fn 36 [PV.bptr 1 0])])
        [AO.box
            (PV.c
              (CV.agg
                [CV.str sc, CV.str us, CV.bool hu, CV.str ho, CV.str po, CV.bool hp, CV.bool ha, CV.str pa, CV.str qu,
                  CV.bool hq, CV.str fr, CV.bool hf]))
            kU,
          AO.box (PV.agg [PV.bptr 1 0, PV.rw 2 6597069766656]) kBu,
          AO.row (xs ++ strBytes pa) 1 6597069766656 false])
      none := by kernel_rfl
theorem tg9b (sc us ho po pa qu fr : ByteArray) (hu hp ha hq hf : Bool) (n : Nat) (L : Env → Hp → Res) : aexecB Tryd.prog hd20 (filt an20 0) n (prefC 1 (tailC 9 c20)) E20 (B1 (uV sc us hu ho po hp ha pa qu hq fr hf)) (thenK (headK h20 L) (endOf Tryd.prog 20 [])) =
    bif' hq
      (bif' hq
        (bif' (decide ((1 + (strBytes qu).length) * 1 ≤ 70368744177664))
          (L (mkEnv 58 [(1, PV.bptr 0 0), (3, PV.bptr 1 0), (4, PV.fn 36 [PV.bptr 1 0])])
            [AO.box
                (PV.c
                  (CV.agg
                    [CV.str sc, CV.str us, CV.bool hu, CV.str ho, CV.str po, CV.bool hp, CV.bool ha, CV.str pa, CV.str qu,
                      CV.bool hq, CV.str fr, CV.bool hf]))
                kU,
              AO.box (PV.agg [PV.bptr 1 0, PV.rw 2 6597069766656]) kBu,
              AO.row (CV.int IntKind.u8 (Int.ofNat 63) :: strBytes qu) 1 6597069766656
                false])
          none)
        (L (mkEnv 58 [(1, PV.bptr 0 0), (3, PV.bptr 1 0), (4, PV.fn 36 [PV.bptr 1 0])])
          [AO.box
              (PV.c
                (CV.agg
                  [CV.str sc, CV.str us, CV.bool hu, CV.str ho, CV.str po, CV.bool hp, CV.bool ha, CV.str pa, CV.str qu,
                    CV.bool hq, CV.str fr, CV.bool hf]))
              kU,
            AO.box (PV.agg [PV.bptr 1 0, PV.rw 2 6597069766656]) kBu,
            AO.row [CV.int IntKind.u8 (Int.ofNat 63)] 1 6597069766656 false]))
      (bif' hq
        (bif' (decide ((strBytes qu).length * 1 ≤ 70368744177664))
          (bif' (strBytes qu).isEmpty
            (L (mkEnv 58 [(1, PV.bptr 0 0), (3, PV.bptr 1 0), (4, PV.fn 36 [PV.bptr 1 0])])
              [AO.box
                  (PV.c
                    (CV.agg
                      [CV.str sc, CV.str us, CV.bool hu, CV.str ho, CV.str po, CV.bool hp, CV.bool ha, CV.str pa, CV.str qu,
                        CV.bool hq, CV.str fr, CV.bool hf]))
                  kU,
                AO.box (PV.agg [PV.bptr 1 0, PV.c CV.nilsl]) kBu])
            (L (mkEnv 58 [(1, PV.bptr 0 0), (3, PV.bptr 1 0), (4, PV.fn 36 [PV.bptr 1 0])])
              [AO.box
                  (PV.c
                    (CV.agg
                      [CV.str sc, CV.str us, CV.bool hu, CV.str ho, CV.str po, CV.bool hp, CV.bool ha, CV.str pa, CV.str qu,
                        CV.bool hq, CV.str fr, CV.bool hf]))
                  kU,
                AO.box (PV.agg [PV.bptr 1 0, PV.rw 2 6597069766656]) kBu,
                AO.row (strBytes qu) 1 6597069766656 false]))
          none)
        (L (mkEnv 58 [(1, PV.bptr 0 0), (3, PV.bptr 1 0), (4, PV.fn 36 [PV.bptr 1 0])])
          [AO.box
              (PV.c
                (CV.agg
                  [CV.str sc, CV.str us, CV.bool hu, CV.str ho, CV.str po, CV.bool hp, CV.bool ha, CV.str pa, CV.str qu,
                    CV.bool hq, CV.str fr, CV.bool hf]))
              kU,
            AO.box (PV.agg [PV.bptr 1 0, PV.c CV.nilsl]) kBu])) := by kernel_rfl
theorem tg9c (sc us ho po pa qu fr : ByteArray) (hu hp ha hq hf : Bool) (xs : List CV) (n : Nat) (L : Env → Hp → Res) : aexecB Tryd.prog hd20 (filt an20 0) n (prefC 1 (tailC 9 c20)) E20 (B2 (uV sc us hu ho po hp ha pa qu hq fr hf) xs) (thenK (headK h20 L) (endOf Tryd.prog 20 [])) =
    bif' hq
      (bif' (decide ((xs.length + 1) * 1 ≤ 70368744177664))
        (bif' hq
          (bif' (decide (((xs ++ strBytes (ByteArray.mk #[63])).length + (strBytes qu).length) * 1 ≤ 70368744177664))
            (L (mkEnv 58 [(1, PV.bptr 0 0), (3, PV.bptr 1 0), (4, PV.fn 36 [PV.bptr 1 0])])
              [AO.box
                  (PV.c
                    (CV.agg
                      [CV.str sc, CV.str us, CV.bool hu, CV.str ho, CV.str po, CV.bool hp, CV.bool ha, CV.str pa, CV.str qu,
                        CV.bool hq, CV.str fr, CV.bool hf]))
                  kU,
                AO.box (PV.agg [PV.bptr 1 0, PV.rw 2 6597069766656]) kBu,
                AO.row (xs ++ strBytes (ByteArray.mk #[63]) ++ strBytes qu) 1 6597069766656 false])
            none)
          (L (mkEnv 58 [(1, PV.bptr 0 0), (3, PV.bptr 1 0), (4, PV.fn 36 [PV.bptr 1 0])])
            [AO.box
                (PV.c
                  (CV.agg
                    [CV.str sc, CV.str us, CV.bool hu, CV.str ho, CV.str po, CV.bool hp, CV.bool ha, CV.str pa, CV.str qu,
                      CV.bool hq, CV.str fr, CV.bool hf]))
                kU,
              AO.box (PV.agg [PV.bptr 1 0, PV.rw 2 6597069766656]) kBu,
              AO.row (xs ++ strBytes (ByteArray.mk #[63])) 1 6597069766656 false]))
        none)
      (bif' hq
        (bif' (decide ((xs.length + (strBytes qu).length) * 1 ≤ 70368744177664))
          (L (mkEnv 58 [(1, PV.bptr 0 0), (3, PV.bptr 1 0), (4, PV.fn 36 [PV.bptr 1 0])])
            [AO.box
                (PV.c
                  (CV.agg
                    [CV.str sc, CV.str us, CV.bool hu, CV.str ho, CV.str po, CV.bool hp, CV.bool ha, CV.str pa, CV.str qu,
                      CV.bool hq, CV.str fr, CV.bool hf]))
                kU,
              AO.box (PV.agg [PV.bptr 1 0, PV.rw 2 6597069766656]) kBu,
              AO.row (xs ++ strBytes qu) 1 6597069766656 false])
          none)
        (L (mkEnv 58 [(1, PV.bptr 0 0), (3, PV.bptr 1 0), (4, PV.fn 36 [PV.bptr 1 0])])
          [AO.box
              (PV.c
                (CV.agg
                  [CV.str sc, CV.str us, CV.bool hu, CV.str ho, CV.str po, CV.bool hp, CV.bool ha, CV.str pa, CV.str qu,
                    CV.bool hq, CV.str fr, CV.bool hf]))
              kU,
            AO.box (PV.agg [PV.bptr 1 0, PV.rw 2 6597069766656]) kBu, AO.row xs 1 6597069766656 false])) := by kernel_rfl
theorem tg10b (sc us ho po pa qu fr : ByteArray) (hu hp ha hq hf : Bool) (n : Nat) (L : Env → Hp → Res) : aexecB Tryd.prog hd20 (filt an20 0) n (prefC 1 (tailC 10 c20)) E20 (B1 (uV sc us hu ho po hp ha pa qu hq fr hf)) (thenK (headK h20e L) (endOf Tryd.prog 20 [])) =
    bif' hf
      (bif' hf
        (bif' (decide ((1 + (strBytes fr).length) * 1 ≤ 70368744177664))
          (L (mkEnv 58 [(3, PV.bptr 1 0)])
            [AO.box
                (PV.c
                  (CV.agg
                    [CV.str sc, CV.str us, CV.bool hu, CV.str ho, CV.str po, CV.bool hp, CV.bool ha, CV.str pa, CV.str qu,
                      CV.bool hq, CV.str fr, CV.bool hf]))
                kU,
              AO.box (PV.agg [PV.bptr 1 0, PV.rw 2 6597069766656]) kBu,
              AO.row (CV.int IntKind.u8 (Int.ofNat 35) :: strBytes fr) 1 6597069766656
                false])
          none)
        (L (mkEnv 58 [(3, PV.bptr 1 0)])
          [AO.box
              (PV.c
                (CV.agg
                  [CV.str sc, CV.str us, CV.bool hu, CV.str ho, CV.str po, CV.bool hp, CV.bool ha, CV.str pa, CV.str qu,
                    CV.bool hq, CV.str fr, CV.bool hf]))
              kU,
            AO.box (PV.agg [PV.bptr 1 0, PV.rw 2 6597069766656]) kBu,
            AO.row [CV.int IntKind.u8 (Int.ofNat 35)] 1 6597069766656 false]))
      (bif' hf
        (bif' (decide ((strBytes fr).length * 1 ≤ 70368744177664))
          (bif' (strBytes fr).isEmpty
            (L (mkEnv 58 [(3, PV.bptr 1 0)])
              [AO.box
                  (PV.c
                    (CV.agg
                      [CV.str sc, CV.str us, CV.bool hu, CV.str ho, CV.str po, CV.bool hp, CV.bool ha, CV.str pa, CV.str qu,
                        CV.bool hq, CV.str fr, CV.bool hf]))
                  kU,
                AO.box (PV.agg [PV.bptr 1 0, PV.c CV.nilsl]) kBu])
            (L (mkEnv 58 [(3, PV.bptr 1 0)])
              [AO.box
                  (PV.c
                    (CV.agg
                      [CV.str sc, CV.str us, CV.bool hu, CV.str ho, CV.str po, CV.bool hp, CV.bool ha, CV.str pa, CV.str qu,
                        CV.bool hq, CV.str fr, CV.bool hf]))
                  kU,
                AO.box (PV.agg [PV.bptr 1 0, PV.rw 2 6597069766656]) kBu,
                AO.row (strBytes fr) 1 6597069766656 false]))
          none)
        (L (mkEnv 58 [(3, PV.bptr 1 0)])
          [AO.box
              (PV.c
                (CV.agg
                  [CV.str sc, CV.str us, CV.bool hu, CV.str ho, CV.str po, CV.bool hp, CV.bool ha, CV.str pa, CV.str qu,
                    CV.bool hq, CV.str fr, CV.bool hf]))
              kU,
            AO.box (PV.agg [PV.bptr 1 0, PV.c CV.nilsl]) kBu])) := by kernel_rfl
theorem tg10c (sc us ho po pa qu fr : ByteArray) (hu hp ha hq hf : Bool) (xs : List CV) (n : Nat) (L : Env → Hp → Res) : aexecB Tryd.prog hd20 (filt an20 0) n (prefC 1 (tailC 10 c20)) E20 (B2 (uV sc us hu ho po hp ha pa qu hq fr hf) xs) (thenK (headK h20e L) (endOf Tryd.prog 20 [])) =
    bif' hf
      (bif' (decide ((xs.length + 1) * 1 ≤ 70368744177664))
        (bif' hf
          (bif' (decide (((xs ++ strBytes (ByteArray.mk #[35])).length + (strBytes fr).length) * 1 ≤ 70368744177664))
            (L (mkEnv 58 [(3, PV.bptr 1 0)])
              [AO.box
                  (PV.c
                    (CV.agg
                      [CV.str sc, CV.str us, CV.bool hu, CV.str ho, CV.str po, CV.bool hp, CV.bool ha, CV.str pa, CV.str qu,
                        CV.bool hq, CV.str fr, CV.bool hf]))
                  kU,
                AO.box (PV.agg [PV.bptr 1 0, PV.rw 2 6597069766656]) kBu,
                AO.row (xs ++ strBytes (ByteArray.mk #[35]) ++ strBytes fr) 1 6597069766656 false])
            none)
          (L (mkEnv 58 [(3, PV.bptr 1 0)])
            [AO.box
                (PV.c
                  (CV.agg
                    [CV.str sc, CV.str us, CV.bool hu, CV.str ho, CV.str po, CV.bool hp, CV.bool ha, CV.str pa, CV.str qu,
                      CV.bool hq, CV.str fr, CV.bool hf]))
                kU,
              AO.box (PV.agg [PV.bptr 1 0, PV.rw 2 6597069766656]) kBu,
              AO.row (xs ++ strBytes (ByteArray.mk #[35])) 1 6597069766656 false]))
        none)
      (bif' hf
        (bif' (decide ((xs.length + (strBytes fr).length) * 1 ≤ 70368744177664))
          (L (mkEnv 58 [(3, PV.bptr 1 0)])
            [AO.box
                (PV.c
                  (CV.agg
                    [CV.str sc, CV.str us, CV.bool hu, CV.str ho, CV.str po, CV.bool hp, CV.bool ha, CV.str pa, CV.str qu,
                      CV.bool hq, CV.str fr, CV.bool hf]))
                kU,
              AO.box (PV.agg [PV.bptr 1 0, PV.rw 2 6597069766656]) kBu,
              AO.row (xs ++ strBytes fr) 1 6597069766656 false])
          none)
        (L (mkEnv 58 [(3, PV.bptr 1 0)])
          [AO.box
              (PV.c
                (CV.agg
                  [CV.str sc, CV.str us, CV.bool hu, CV.str ho, CV.str po, CV.bool hp, CV.bool ha, CV.str pa, CV.str qu,
                    CV.bool hq, CV.str fr, CV.bool hf]))
              kU,
            AO.box (PV.agg [PV.bptr 1 0, PV.rw 2 6597069766656]) kBu, AO.row xs 1 6597069766656 false])) := by kernel_rfl
theorem tg11b (sc us ho po pa qu fr : ByteArray) (hu hp ha hq hf : Bool) (n : Nat) : aexecB Tryd.prog hd20 (filt an20 0) n (tailC 11 c20) (mkEnv 58 [(3, .bptr 1 0)]) (B1 (uV sc us hu ho po hp ha pa qu hq fr hf)) (endOf Tryd.prog 20 []) =
    some (CV.str ⟨⟨[]⟩⟩, []) := by kernel_rfl
theorem tg11c (sc us ho po pa qu fr : ByteArray) (hu hp ha hq hf : Bool) (xs : List CV) (n : Nat) : aexecB Tryd.prog hd20 (filt an20 0) n (tailC 11 c20) (mkEnv 58 [(3, .bptr 1 0)]) (B2 (uV sc us hu ho po hp ha pa qu hq fr hf) xs) (endOf Tryd.prog 20 []) =
    bif' (!xs.isEmpty)
      (bif' (decide (0 < (↑xs.length : Int)))
        (bif' (decide ((↑xs.length : Int) ≤ (↑xs.length : Int)))
          (bif' (decide ((↑xs.length : Int) ≤ 9223372036854775807))
            (bif' ((List.take (↑xs.length : Int).toNat xs).all isU8)
              (some (CV.str (bytesOf (List.take (↑xs.length : Int).toNat xs)), [])) none)
            none)
          none)
        none)
      none := by kernel_rfl

end Go.Pv

/- URLs: parts put together: what it is (lines printed by a small program of mine). -/
namespace Go.Pv
set_option linter.unusedVariables false
set_option linter.unusedSimpArgs false
set_option maxRecDepth 100000
open Go Go.Proofs

theorem sB_app (a b : ByteArray) : strBytes (a ++ b) = strBytes a ++ strBytes b := by
  unfold strBytes
  rw [ByteArray.data_append, Array.toList_append, List.map_append]
theorem sB_nil {a : ByteArray} (h : a.size = 0) : strBytes a = [] := List.eq_nil_of_length_eq_zero (by rw [bytes_len, h])
theorem bA_nil {a : ByteArray} (h : a.size = 0) : a = ⟨#[]⟩ := by
  rw [← mkS_bl a] at h ⊢
  rw [sizeM] at h
  rw [List.eq_nil_of_length_eq_zero h]
  rfl
theorem sB_emp (a : ByteArray) : (strBytes a).isEmpty = decide (a.size = 0) := by
  rw [Bool.eq_iff_iff, List.isEmpty_iff_length_eq_zero, bytes_len, decide_eq_true_iff]
theorem bA_emp (a : ByteArray) : (a.toList == (ByteArray.mk #[]).toList) = decide (a.size = 0) := by
  rw [toList_data, toList_data, beq_list, Bool.eq_iff_iff, decide_eq_true_iff, decide_eq_true_iff]
  constructor
  · intro h
    rw [← mkS_bl a, h]
    rfl
  · intro h; rw [bA_nil h]
theorem bA_appNil (a : ByteArray) : a ++ (⟨#[]⟩ : ByteArray) = a := by
  rw [← mkS_bl a]
  show mkS _ ++ mkS [] = _
  rw [mkS_app, List.append_nil]
theorem bA_nilApp (a : ByteArray) : (⟨#[]⟩ : ByteArray) ++ a = a := by
  rw [← mkS_bl a]
  show mkS [] ++ mkS _ = _
  rw [mkS_app, List.nil_append]
def StA (u : CV) (s : ByteArray) (H : Hp) : Prop := (H = B0 u ∧ s = ⟨#[]⟩) ∨ (H = B1 u ∧ s = ⟨#[]⟩) ∨ (H = B2 u (strBytes s) ∧ s.size ≠ 0)
def StB (u : CV) (s : ByteArray) (H : Hp) : Prop := (H = B1 u ∧ s = ⟨#[]⟩) ∨ (H = B2 u (strBytes s) ∧ s.size ≠ 0)

def jSc (sc : ByteArray) : ByteArray := if sc.size = 0 then ⟨#[]⟩ else sc ++ (⟨#[58]⟩ : ByteArray)
def jAu (ha : Bool) : ByteArray := if ha = true then (⟨#[47, 47]⟩ : ByteArray) else ⟨#[]⟩
def jUs (hu : Bool) (us : ByteArray) : ByteArray := if hu = true then us ++ (⟨#[64]⟩ : ByteArray) else ⟨#[]⟩
def jPo (h : Bool) (s : ByteArray) : ByteArray := if h = true then (⟨#[58]⟩ : ByteArray) ++ s else ⟨#[]⟩
def jQu (h : Bool) (s : ByteArray) : ByteArray := if h = true then (⟨#[63]⟩ : ByteArray) ++ s else ⟨#[]⟩
def jFr (h : Bool) (s : ByteArray) : ByteArray := if h = true then (⟨#[35]⟩ : ByteArray) ++ s else ⟨#[]⟩
theorem sg3 (sc us ho po pa qu fr : ByteArray) (hu hp ha hq hf : Bool)  (zsc : sc.size ≤ 4000) : ∃ H', StA (uV sc us hu ho po hp ha pa qu hq fr hf) (⟨#[]⟩ ++ jSc sc) H' ∧ ∀ n L, aexecB Tryd.prog hd20 (filt an20 0) n (prefC 1 (tailC 3 c20)) E20 (B0 (uV sc us hu ho po hp ha pa qu hq fr hf)) (thenK (headK h20 L) (endOf Tryd.prog 20 [])) = L E20 H' := by
  have da0 : decide ((strBytes sc).length * 1 ≤ 70368744177664) = true := decide_eq_true (by have q : (⟨#[58]⟩ : ByteArray).size = 1 := rfl; simp only [List.length_append, bytes_len]; omega)
  have da1 : decide (((strBytes sc).length + 1) * 1 ≤ 70368744177664) = true := decide_eq_true (by have q : (⟨#[58]⟩ : ByteArray).size = 1 := rfl; simp only [List.length_append, bytes_len]; omega)
  by_cases e0 : sc.size = 0
  · have ea : jSc sc = ⟨#[]⟩ := by unfold jSc; rw [if_pos e0]
    refine ⟨B0 (uV sc us hu ho po hp ha pa qu hq fr hf), by rw [ea, bA_appNil]; exact .inl ⟨rfl, rfl⟩, fun n L => ?_⟩
    rw [tg3a]
    rw [bA_emp, decide_eq_true e0]
    rfl
  · have e1 : ¬ sc.size = 0 := e0
    have ea : jSc sc = sc ++ (⟨#[58]⟩ : ByteArray) := by unfold jSc; rw [if_neg e0]
    have nz : ((⟨#[]⟩ : ByteArray) ++ (sc ++ (⟨#[58]⟩ : ByteArray))).size ≠ 0 := by
      have q0 : (⟨#[58]⟩ : ByteArray).size = 1 := rfl
      have q1 : (⟨#[]⟩ : ByteArray).size = 0 := rfl
      simp only [ByteArray.size_append]; omega
    refine ⟨B2 (uV sc us hu ho po hp ha pa qu hq fr hf) (strBytes ((⟨#[]⟩ : ByteArray) ++ (sc ++ (⟨#[58]⟩ : ByteArray)))), by rw [ea]; exact .inr (.inr ⟨rfl, nz⟩), fun n L => ?_⟩
    rw [tg3a]
    rw [bA_emp, decide_eq_false e0]
    simp only [da0, da1, sB_emp, decide_eq_false e1, bif_tt, bif_ff, Bool.not_true, Bool.not_false]
    rw [sB_app, sB_app]
    rfl
theorem sg4 (sc us ho po pa qu fr : ByteArray) (hu hp ha hq hf : Bool) (s : ByteArray) (H : Hp) (hz : s.size ≤ 60000) (hs : StA (uV sc us hu ho po hp ha pa qu hq fr hf) s H) : ∃ H', StA (uV sc us hu ho po hp ha pa qu hq fr hf) (s ++ jAu ha) H' ∧ ∀ n L, aexecB Tryd.prog hd20 (filt an20 0) n (prefC 1 (tailC 4 c20)) E20 H (thenK (headK h20 L) (endOf Tryd.prog 20 [])) = L E20 H' := by
  have dc0 : decide (((strBytes s).length + 2) * 1 ≤ 70368744177664) = true := decide_eq_true (by have q : (⟨#[47, 47]⟩ : ByteArray).size = 2 := rfl; simp only [List.length_append, bytes_len]; omega)
  rcases hs with ⟨rfl, rfl⟩ | ⟨rfl, rfl⟩ | ⟨rfl, hne⟩
  · cases ha
    · have ea : jAu false = ⟨#[]⟩ := rfl
      refine ⟨B0 (uV sc us hu ho po hp false pa qu hq fr hf), by rw [ea, bA_appNil]; exact .inl ⟨rfl, rfl⟩, fun n L => ?_⟩
      rw [tg4a]
      rfl
    · have ea : jAu true = (⟨#[47, 47]⟩ : ByteArray) := rfl
      have nz : ((⟨#[]⟩ : ByteArray) ++ ((⟨#[47, 47]⟩ : ByteArray))).size ≠ 0 := by
        have q0 : (⟨#[47, 47]⟩ : ByteArray).size = 2 := rfl
        have q1 : (⟨#[]⟩ : ByteArray).size = 0 := rfl
        simp only [ByteArray.size_append]; omega
      refine ⟨B2 (uV sc us hu ho po hp true pa qu hq fr hf) (strBytes ((⟨#[]⟩ : ByteArray) ++ ((⟨#[47, 47]⟩ : ByteArray)))), by rw [ea]; exact .inr (.inr ⟨rfl, nz⟩), fun n L => ?_⟩
      rw [tg4a]
      simp only [sB_emp, Bool.not_true, bif_tt, bif_ff, Bool.not_true, Bool.not_false]
      rw [sB_app]
      rfl
  · cases ha
    · have ea : jAu false = ⟨#[]⟩ := rfl
      refine ⟨B1 (uV sc us hu ho po hp false pa qu hq fr hf), by rw [ea, bA_appNil]; exact .inr (.inl ⟨rfl, rfl⟩), fun n L => ?_⟩
      rw [tg4b]
      rfl
    · have ea : jAu true = (⟨#[47, 47]⟩ : ByteArray) := rfl
      have nz : ((⟨#[]⟩ : ByteArray) ++ ((⟨#[47, 47]⟩ : ByteArray))).size ≠ 0 := by
        have q0 : (⟨#[47, 47]⟩ : ByteArray).size = 2 := rfl
        have q1 : (⟨#[]⟩ : ByteArray).size = 0 := rfl
        simp only [ByteArray.size_append]; omega
      refine ⟨B2 (uV sc us hu ho po hp true pa qu hq fr hf) (strBytes ((⟨#[]⟩ : ByteArray) ++ ((⟨#[47, 47]⟩ : ByteArray)))), by rw [ea]; exact .inr (.inr ⟨rfl, nz⟩), fun n L => ?_⟩
      rw [tg4b]
      simp only [sB_emp, Bool.not_true, bif_tt, bif_ff, Bool.not_true, Bool.not_false]
      rw [sB_app]
      rfl
  · cases ha
    · have ea : jAu false = ⟨#[]⟩ := rfl
      refine ⟨B2 (uV sc us hu ho po hp false pa qu hq fr hf) (strBytes s), by rw [ea, bA_appNil]; exact .inr (.inr ⟨rfl, hne⟩), fun n L => ?_⟩
      rw [tg4c]
      rfl
    · have ea : jAu true = (⟨#[47, 47]⟩ : ByteArray) := rfl
      have nz : (s ++ ((⟨#[47, 47]⟩ : ByteArray))).size ≠ 0 := by
        have q0 : (⟨#[47, 47]⟩ : ByteArray).size = 2 := rfl
        simp only [ByteArray.size_append]; omega
      refine ⟨B2 (uV sc us hu ho po hp true pa qu hq fr hf) (strBytes (s ++ ((⟨#[47, 47]⟩ : ByteArray)))), by rw [ea]; exact .inr (.inr ⟨rfl, nz⟩), fun n L => ?_⟩
      rw [tg4c]
      simp only [dc0, bif_tt, bif_ff, Bool.not_true, Bool.not_false]
      rw [sB_app]
      rfl
theorem sg5 (sc us ho po pa qu fr : ByteArray) (hu hp ha hq hf : Bool) (s : ByteArray) (H : Hp) (hz : s.size ≤ 60000) (hs : StA (uV sc us hu ho po hp ha pa qu hq fr hf) s H) (zus : us.size ≤ 4000) : ∃ H', StA (uV sc us hu ho po hp ha pa qu hq fr hf) (s ++ jUs hu us) H' ∧ ∀ n L, aexecB Tryd.prog hd20 (filt an20 0) n (prefC 1 (tailC 5 c20)) E20 H (thenK (headK h20 L) (endOf Tryd.prog 20 [])) = L E20 H' := by
  have da0 : decide ((strBytes us).length * 1 ≤ 70368744177664) = true := decide_eq_true (by have q : (⟨#[64]⟩ : ByteArray).size = 1 := rfl; simp only [List.length_append, bytes_len]; omega)
  have da1 : decide (((strBytes us).length + 1) * 1 ≤ 70368744177664) = true := decide_eq_true (by have q : (⟨#[64]⟩ : ByteArray).size = 1 := rfl; simp only [List.length_append, bytes_len]; omega)
  have db0 : decide ((strBytes us).length * 1 ≤ 70368744177664) = true := decide_eq_true (by have q : (⟨#[64]⟩ : ByteArray).size = 1 := rfl; simp only [List.length_append, bytes_len]; omega)
  have db1 : decide (((strBytes us).length + 1) * 1 ≤ 70368744177664) = true := decide_eq_true (by have q : (⟨#[64]⟩ : ByteArray).size = 1 := rfl; simp only [List.length_append, bytes_len]; omega)
  have dc0 : decide (((strBytes s).length + (strBytes us).length) * 1 ≤ 70368744177664) = true := decide_eq_true (by have q : (⟨#[64]⟩ : ByteArray).size = 1 := rfl; simp only [List.length_append, bytes_len]; omega)
  have dc1 : decide (((strBytes s ++ strBytes us).length + 1) * 1 ≤ 70368744177664) = true := decide_eq_true (by have q : (⟨#[64]⟩ : ByteArray).size = 1 := rfl; simp only [List.length_append, bytes_len]; omega)
  have dc2 : decide (((strBytes s).length + 1) * 1 ≤ 70368744177664) = true := decide_eq_true (by have q : (⟨#[64]⟩ : ByteArray).size = 1 := rfl; simp only [List.length_append, bytes_len]; omega)
  rcases hs with ⟨rfl, rfl⟩ | ⟨rfl, rfl⟩ | ⟨rfl, hne⟩
  · cases hu
    · have ea : jUs false us = ⟨#[]⟩ := rfl
      refine ⟨B0 (uV sc us false ho po hp ha pa qu hq fr hf), by rw [ea, bA_appNil]; exact .inl ⟨rfl, rfl⟩, fun n L => ?_⟩
      rw [tg5a]
      rfl
    · by_cases e1 : us.size = 0
      · have ea : jUs true us = us ++ (⟨#[64]⟩ : ByteArray) := rfl
        have nz : ((⟨#[]⟩ : ByteArray) ++ (us ++ (⟨#[64]⟩ : ByteArray))).size ≠ 0 := by
          have q0 : (⟨#[64]⟩ : ByteArray).size = 1 := rfl
          have q1 : (⟨#[]⟩ : ByteArray).size = 0 := rfl
          simp only [ByteArray.size_append]; omega
        refine ⟨B2 (uV sc us true ho po hp ha pa qu hq fr hf) (strBytes ((⟨#[]⟩ : ByteArray) ++ (us ++ (⟨#[64]⟩ : ByteArray)))), by rw [ea]; exact .inr (.inr ⟨rfl, nz⟩), fun n L => ?_⟩
        rw [tg5a]
        simp only [da0, da1, sB_emp, decide_eq_true e1, bif_tt, bif_ff, Bool.not_true, Bool.not_false]
        rw [sB_app, sB_app, sB_nil e1]
        rfl
      · have ea : jUs true us = us ++ (⟨#[64]⟩ : ByteArray) := rfl
        have nz : ((⟨#[]⟩ : ByteArray) ++ (us ++ (⟨#[64]⟩ : ByteArray))).size ≠ 0 := by
          have q0 : (⟨#[64]⟩ : ByteArray).size = 1 := rfl
          have q1 : (⟨#[]⟩ : ByteArray).size = 0 := rfl
          simp only [ByteArray.size_append]; omega
        refine ⟨B2 (uV sc us true ho po hp ha pa qu hq fr hf) (strBytes ((⟨#[]⟩ : ByteArray) ++ (us ++ (⟨#[64]⟩ : ByteArray)))), by rw [ea]; exact .inr (.inr ⟨rfl, nz⟩), fun n L => ?_⟩
        rw [tg5a]
        simp only [da0, da1, sB_emp, decide_eq_false e1, bif_tt, bif_ff, Bool.not_true, Bool.not_false]
        rw [sB_app, sB_app]
        rfl
  · cases hu
    · have ea : jUs false us = ⟨#[]⟩ := rfl
      refine ⟨B1 (uV sc us false ho po hp ha pa qu hq fr hf), by rw [ea, bA_appNil]; exact .inr (.inl ⟨rfl, rfl⟩), fun n L => ?_⟩
      rw [tg5b]
      rfl
    · by_cases e1 : us.size = 0
      · have ea : jUs true us = us ++ (⟨#[64]⟩ : ByteArray) := rfl
        have nz : ((⟨#[]⟩ : ByteArray) ++ (us ++ (⟨#[64]⟩ : ByteArray))).size ≠ 0 := by
          have q0 : (⟨#[64]⟩ : ByteArray).size = 1 := rfl
          have q1 : (⟨#[]⟩ : ByteArray).size = 0 := rfl
          simp only [ByteArray.size_append]; omega
        refine ⟨B2 (uV sc us true ho po hp ha pa qu hq fr hf) (strBytes ((⟨#[]⟩ : ByteArray) ++ (us ++ (⟨#[64]⟩ : ByteArray)))), by rw [ea]; exact .inr (.inr ⟨rfl, nz⟩), fun n L => ?_⟩
        rw [tg5b]
        simp only [db0, db1, sB_emp, decide_eq_true e1, bif_tt, bif_ff, Bool.not_true, Bool.not_false]
        rw [sB_app, sB_app, sB_nil e1]
        rfl
      · have ea : jUs true us = us ++ (⟨#[64]⟩ : ByteArray) := rfl
        have nz : ((⟨#[]⟩ : ByteArray) ++ (us ++ (⟨#[64]⟩ : ByteArray))).size ≠ 0 := by
          have q0 : (⟨#[64]⟩ : ByteArray).size = 1 := rfl
          have q1 : (⟨#[]⟩ : ByteArray).size = 0 := rfl
          simp only [ByteArray.size_append]; omega
        refine ⟨B2 (uV sc us true ho po hp ha pa qu hq fr hf) (strBytes ((⟨#[]⟩ : ByteArray) ++ (us ++ (⟨#[64]⟩ : ByteArray)))), by rw [ea]; exact .inr (.inr ⟨rfl, nz⟩), fun n L => ?_⟩
        rw [tg5b]
        simp only [db0, db1, sB_emp, decide_eq_false e1, bif_tt, bif_ff, Bool.not_true, Bool.not_false]
        rw [sB_app, sB_app]
        rfl
  · cases hu
    · have ea : jUs false us = ⟨#[]⟩ := rfl
      refine ⟨B2 (uV sc us false ho po hp ha pa qu hq fr hf) (strBytes s), by rw [ea, bA_appNil]; exact .inr (.inr ⟨rfl, hne⟩), fun n L => ?_⟩
      rw [tg5c]
      rfl
    · have ea : jUs true us = us ++ (⟨#[64]⟩ : ByteArray) := rfl
      have nz : (s ++ (us ++ (⟨#[64]⟩ : ByteArray))).size ≠ 0 := by
        have q0 : (⟨#[64]⟩ : ByteArray).size = 1 := rfl
        simp only [ByteArray.size_append]; omega
      refine ⟨B2 (uV sc us true ho po hp ha pa qu hq fr hf) (strBytes (s ++ (us ++ (⟨#[64]⟩ : ByteArray)))), by rw [ea]; exact .inr (.inr ⟨rfl, nz⟩), fun n L => ?_⟩
      rw [tg5c]
      simp only [dc0, dc1, dc2, bif_tt, bif_ff, Bool.not_true, Bool.not_false]
      rw [sB_app, sB_app]
      rw [← List.append_assoc]
      rfl
theorem sg6 (sc us ho po pa qu fr : ByteArray) (hu hp ha hq hf : Bool) (s : ByteArray) (H : Hp) (hz : s.size ≤ 60000) (hs : StA (uV sc us hu ho po hp ha pa qu hq fr hf) s H) (zho : ho.size ≤ 4000) : ∃ H', StB (uV sc us hu ho po hp ha pa qu hq fr hf) (s ++ ho) H' ∧ ∀ n L, aexecB Tryd.prog hd20 (filt an20 0) n (prefC 1 (tailC 6 c20)) E20 H (thenK (headK h20 L) (endOf Tryd.prog 20 [])) = L E20 H' := by
  have da0 : decide ((strBytes ho).length * 1 ≤ 70368744177664) = true := decide_eq_true (by simp only [List.length_append, bytes_len]; omega)
  have db0 : decide ((strBytes ho).length * 1 ≤ 70368744177664) = true := decide_eq_true (by simp only [List.length_append, bytes_len]; omega)
  have dc0 : decide (((strBytes s).length + (strBytes ho).length) * 1 ≤ 70368744177664) = true := decide_eq_true (by simp only [List.length_append, bytes_len]; omega)
  rcases hs with ⟨rfl, rfl⟩ | ⟨rfl, rfl⟩ | ⟨rfl, hne⟩
  · by_cases e1 : ho.size = 0
    · refine ⟨B1 (uV sc us hu ho po hp ha pa qu hq fr hf), by rw [bA_nil e1, bA_appNil]; exact .inl ⟨rfl, rfl⟩, fun n L => ?_⟩
      rw [tg6a, da0, sB_emp, decide_eq_true e1]
      rfl
    · have nz : ((⟨#[]⟩ : ByteArray) ++ (ho)).size ≠ 0 := by
        have q0 : (⟨#[]⟩ : ByteArray).size = 0 := rfl
        simp only [ByteArray.size_append]; omega
      refine ⟨B2 (uV sc us hu ho po hp ha pa qu hq fr hf) (strBytes ((⟨#[]⟩ : ByteArray) ++ (ho))), by exact .inr ⟨rfl, nz⟩, fun n L => ?_⟩
      rw [tg6a]
      simp only [da0, sB_emp, decide_eq_false e1, bif_tt, bif_ff, Bool.not_true, Bool.not_false]
      rw [sB_app]
      rfl
  · by_cases e1 : ho.size = 0
    · refine ⟨B1 (uV sc us hu ho po hp ha pa qu hq fr hf), by rw [bA_nil e1, bA_appNil]; exact .inl ⟨rfl, rfl⟩, fun n L => ?_⟩
      rw [tg6b, db0, sB_emp, decide_eq_true e1]
      rfl
    · have nz : ((⟨#[]⟩ : ByteArray) ++ (ho)).size ≠ 0 := by
        have q0 : (⟨#[]⟩ : ByteArray).size = 0 := rfl
        simp only [ByteArray.size_append]; omega
      refine ⟨B2 (uV sc us hu ho po hp ha pa qu hq fr hf) (strBytes ((⟨#[]⟩ : ByteArray) ++ (ho))), by exact .inr ⟨rfl, nz⟩, fun n L => ?_⟩
      rw [tg6b]
      simp only [db0, sB_emp, decide_eq_false e1, bif_tt, bif_ff, Bool.not_true, Bool.not_false]
      rw [sB_app]
      rfl
  · have nz : (s ++ (ho)).size ≠ 0 := by
      simp only [ByteArray.size_append]; omega
    refine ⟨B2 (uV sc us hu ho po hp ha pa qu hq fr hf) (strBytes (s ++ (ho))), by exact .inr ⟨rfl, nz⟩, fun n L => ?_⟩
    rw [tg6c]
    simp only [dc0, bif_tt, bif_ff, Bool.not_true, Bool.not_false]
    rw [sB_app]
    rfl
theorem sg7 (sc us ho po pa qu fr : ByteArray) (hu hp ha hq hf : Bool) (s : ByteArray) (H : Hp) (hz : s.size ≤ 60000) (hs : StB (uV sc us hu ho po hp ha pa qu hq fr hf) s H) (zpo : po.size ≤ 4000) : ∃ H', StB (uV sc us hu ho po hp ha pa qu hq fr hf) (s ++ jPo hp po) H' ∧ ∀ n L, aexecB Tryd.prog hd20 (filt an20 0) n (prefC 1 (tailC 7 c20)) E20 H (thenK (headK h20 L) (endOf Tryd.prog 20 [])) = L E20 H' := by
  have db0 : decide ((1 + (strBytes po).length) * 1 ≤ 70368744177664) = true := decide_eq_true (by have q : (⟨#[58]⟩ : ByteArray).size = 1 := rfl; simp only [List.length_append, bytes_len]; omega)
  have db1 : decide ((strBytes po).length * 1 ≤ 70368744177664) = true := decide_eq_true (by have q : (⟨#[58]⟩ : ByteArray).size = 1 := rfl; simp only [List.length_append, bytes_len]; omega)
  have dc0 : decide (((strBytes s).length + 1) * 1 ≤ 70368744177664) = true := decide_eq_true (by have q : (⟨#[58]⟩ : ByteArray).size = 1 := rfl; simp only [List.length_append, bytes_len]; omega)
  have dc1 : decide (((strBytes s ++ strBytes (ByteArray.mk #[58])).length + (strBytes po).length) * 1 ≤ 70368744177664) = true := decide_eq_true (by have q : (⟨#[58]⟩ : ByteArray).size = 1 := rfl; simp only [List.length_append, bytes_len]; omega)
  have dc2 : decide (((strBytes s).length + (strBytes po).length) * 1 ≤ 70368744177664) = true := decide_eq_true (by have q : (⟨#[58]⟩ : ByteArray).size = 1 := rfl; simp only [List.length_append, bytes_len]; omega)
  rcases hs with ⟨rfl, rfl⟩ | ⟨rfl, hne⟩
  · cases hp
    · have ea : jPo false po = ⟨#[]⟩ := rfl
      refine ⟨B1 (uV sc us hu ho po false ha pa qu hq fr hf), by rw [ea, bA_appNil]; exact .inl ⟨rfl, rfl⟩, fun n L => ?_⟩
      rw [tg7b]
      rfl
    · have ea : jPo true po = (⟨#[58]⟩ : ByteArray) ++ po := rfl
      have nz : ((⟨#[]⟩ : ByteArray) ++ ((⟨#[58]⟩ : ByteArray) ++ po)).size ≠ 0 := by
        have q0 : (⟨#[58]⟩ : ByteArray).size = 1 := rfl
        have q1 : (⟨#[]⟩ : ByteArray).size = 0 := rfl
        simp only [ByteArray.size_append]; omega
      refine ⟨B2 (uV sc us hu ho po true ha pa qu hq fr hf) (strBytes ((⟨#[]⟩ : ByteArray) ++ ((⟨#[58]⟩ : ByteArray) ++ po))), by rw [ea]; exact .inr ⟨rfl, nz⟩, fun n L => ?_⟩
      rw [tg7b]
      simp only [db0, db1, sB_emp, Bool.not_true, bif_tt, bif_ff, Bool.not_true, Bool.not_false]
      rw [sB_app, sB_app]
      rfl
  · cases hp
    · have ea : jPo false po = ⟨#[]⟩ := rfl
      refine ⟨B2 (uV sc us hu ho po false ha pa qu hq fr hf) (strBytes s), by rw [ea, bA_appNil]; exact .inr ⟨rfl, hne⟩, fun n L => ?_⟩
      rw [tg7c]
      rfl
    · have ea : jPo true po = (⟨#[58]⟩ : ByteArray) ++ po := rfl
      have nz : (s ++ ((⟨#[58]⟩ : ByteArray) ++ po)).size ≠ 0 := by
        have q0 : (⟨#[58]⟩ : ByteArray).size = 1 := rfl
        simp only [ByteArray.size_append]; omega
      refine ⟨B2 (uV sc us hu ho po true ha pa qu hq fr hf) (strBytes (s ++ ((⟨#[58]⟩ : ByteArray) ++ po))), by rw [ea]; exact .inr ⟨rfl, nz⟩, fun n L => ?_⟩
      rw [tg7c]
      simp only [dc0, dc1, dc2, bif_tt, bif_ff, Bool.not_true, Bool.not_false]
      rw [sB_app, sB_app]
      rw [← List.append_assoc]
      rfl
theorem sg8 (sc us ho po pa qu fr : ByteArray) (hu hp ha hq hf : Bool) (s : ByteArray) (H : Hp) (hz : s.size ≤ 60000) (hs : StB (uV sc us hu ho po hp ha pa qu hq fr hf) s H) (zpa : pa.size ≤ 4000) : ∃ H', StB (uV sc us hu ho po hp ha pa qu hq fr hf) (s ++ pa) H' ∧ ∀ n L, aexecB Tryd.prog hd20 (filt an20 0) n (prefC 1 (tailC 8 c20)) E20 H (thenK (headK h20 L) (endOf Tryd.prog 20 [])) = L E20 H' := by
  have db0 : decide ((strBytes pa).length * 1 ≤ 70368744177664) = true := decide_eq_true (by simp only [List.length_append, bytes_len]; omega)
  have dc0 : decide (((strBytes s).length + (strBytes pa).length) * 1 ≤ 70368744177664) = true := decide_eq_true (by simp only [List.length_append, bytes_len]; omega)
  rcases hs with ⟨rfl, rfl⟩ | ⟨rfl, hne⟩
  · by_cases e1 : pa.size = 0
    · refine ⟨B1 (uV sc us hu ho po hp ha pa qu hq fr hf), by rw [bA_nil e1, bA_appNil]; exact .inl ⟨rfl, rfl⟩, fun n L => ?_⟩
      rw [tg8b, db0, sB_emp, decide_eq_true e1]
      rfl
    · have nz : ((⟨#[]⟩ : ByteArray) ++ (pa)).size ≠ 0 := by
        have q0 : (⟨#[]⟩ : ByteArray).size = 0 := rfl
        simp only [ByteArray.size_append]; omega
      refine ⟨B2 (uV sc us hu ho po hp ha pa qu hq fr hf) (strBytes ((⟨#[]⟩ : ByteArray) ++ (pa))), by exact .inr ⟨rfl, nz⟩, fun n L => ?_⟩
      rw [tg8b]
      simp only [db0, sB_emp, decide_eq_false e1, bif_tt, bif_ff, Bool.not_true, Bool.not_false]
      rw [sB_app]
      rfl
  · have nz : (s ++ (pa)).size ≠ 0 := by
      simp only [ByteArray.size_append]; omega
    refine ⟨B2 (uV sc us hu ho po hp ha pa qu hq fr hf) (strBytes (s ++ (pa))), by exact .inr ⟨rfl, nz⟩, fun n L => ?_⟩
    rw [tg8c]
    simp only [dc0, bif_tt, bif_ff, Bool.not_true, Bool.not_false]
    rw [sB_app]
    rfl
theorem sg9 (sc us ho po pa qu fr : ByteArray) (hu hp ha hq hf : Bool) (s : ByteArray) (H : Hp) (hz : s.size ≤ 60000) (hs : StB (uV sc us hu ho po hp ha pa qu hq fr hf) s H) (zqu : qu.size ≤ 4000) : ∃ H', StB (uV sc us hu ho po hp ha pa qu hq fr hf) (s ++ jQu hq qu) H' ∧ ∀ n L, aexecB Tryd.prog hd20 (filt an20 0) n (prefC 1 (tailC 9 c20)) E20 H (thenK (headK h20 L) (endOf Tryd.prog 20 [])) = L E20 H' := by
  have db0 : decide ((1 + (strBytes qu).length) * 1 ≤ 70368744177664) = true := decide_eq_true (by have q : (⟨#[63]⟩ : ByteArray).size = 1 := rfl; simp only [List.length_append, bytes_len]; omega)
  have db1 : decide ((strBytes qu).length * 1 ≤ 70368744177664) = true := decide_eq_true (by have q : (⟨#[63]⟩ : ByteArray).size = 1 := rfl; simp only [List.length_append, bytes_len]; omega)
  have dc0 : decide (((strBytes s).length + 1) * 1 ≤ 70368744177664) = true := decide_eq_true (by have q : (⟨#[63]⟩ : ByteArray).size = 1 := rfl; simp only [List.length_append, bytes_len]; omega)
  have dc1 : decide (((strBytes s ++ strBytes (ByteArray.mk #[63])).length + (strBytes qu).length) * 1 ≤ 70368744177664) = true := decide_eq_true (by have q : (⟨#[63]⟩ : ByteArray).size = 1 := rfl; simp only [List.length_append, bytes_len]; omega)
  have dc2 : decide (((strBytes s).length + (strBytes qu).length) * 1 ≤ 70368744177664) = true := decide_eq_true (by have q : (⟨#[63]⟩ : ByteArray).size = 1 := rfl; simp only [List.length_append, bytes_len]; omega)
  rcases hs with ⟨rfl, rfl⟩ | ⟨rfl, hne⟩
  · cases hq
    · have ea : jQu false qu = ⟨#[]⟩ := rfl
      refine ⟨B1 (uV sc us hu ho po hp ha pa qu false fr hf), by rw [ea, bA_appNil]; exact .inl ⟨rfl, rfl⟩, fun n L => ?_⟩
      rw [tg9b]
      rfl
    · have ea : jQu true qu = (⟨#[63]⟩ : ByteArray) ++ qu := rfl
      have nz : ((⟨#[]⟩ : ByteArray) ++ ((⟨#[63]⟩ : ByteArray) ++ qu)).size ≠ 0 := by
        have q0 : (⟨#[63]⟩ : ByteArray).size = 1 := rfl
        have q1 : (⟨#[]⟩ : ByteArray).size = 0 := rfl
        simp only [ByteArray.size_append]; omega
      refine ⟨B2 (uV sc us hu ho po hp ha pa qu true fr hf) (strBytes ((⟨#[]⟩ : ByteArray) ++ ((⟨#[63]⟩ : ByteArray) ++ qu))), by rw [ea]; exact .inr ⟨rfl, nz⟩, fun n L => ?_⟩
      rw [tg9b]
      simp only [db0, db1, sB_emp, Bool.not_true, bif_tt, bif_ff, Bool.not_true, Bool.not_false]
      rw [sB_app, sB_app]
      rfl
  · cases hq
    · have ea : jQu false qu = ⟨#[]⟩ := rfl
      refine ⟨B2 (uV sc us hu ho po hp ha pa qu false fr hf) (strBytes s), by rw [ea, bA_appNil]; exact .inr ⟨rfl, hne⟩, fun n L => ?_⟩
      rw [tg9c]
      rfl
    · have ea : jQu true qu = (⟨#[63]⟩ : ByteArray) ++ qu := rfl
      have nz : (s ++ ((⟨#[63]⟩ : ByteArray) ++ qu)).size ≠ 0 := by
        have q0 : (⟨#[63]⟩ : ByteArray).size = 1 := rfl
        simp only [ByteArray.size_append]; omega
      refine ⟨B2 (uV sc us hu ho po hp ha pa qu true fr hf) (strBytes (s ++ ((⟨#[63]⟩ : ByteArray) ++ qu))), by rw [ea]; exact .inr ⟨rfl, nz⟩, fun n L => ?_⟩
      rw [tg9c]
      simp only [dc0, dc1, dc2, bif_tt, bif_ff, Bool.not_true, Bool.not_false]
      rw [sB_app, sB_app]
      rw [← List.append_assoc]
      rfl
theorem sg10 (sc us ho po pa qu fr : ByteArray) (hu hp ha hq hf : Bool) (s : ByteArray) (H : Hp) (hz : s.size ≤ 60000) (hs : StB (uV sc us hu ho po hp ha pa qu hq fr hf) s H) (zfr : fr.size ≤ 4000) : ∃ H', StB (uV sc us hu ho po hp ha pa qu hq fr hf) (s ++ jFr hf fr) H' ∧ ∀ n L, aexecB Tryd.prog hd20 (filt an20 0) n (prefC 1 (tailC 10 c20)) E20 H (thenK (headK h20e L) (endOf Tryd.prog 20 [])) = L (mkEnv 58 [(3, .bptr 1 0)]) H' := by
  have db0 : decide ((1 + (strBytes fr).length) * 1 ≤ 70368744177664) = true := decide_eq_true (by have q : (⟨#[35]⟩ : ByteArray).size = 1 := rfl; simp only [List.length_append, bytes_len]; omega)
  have db1 : decide ((strBytes fr).length * 1 ≤ 70368744177664) = true := decide_eq_true (by have q : (⟨#[35]⟩ : ByteArray).size = 1 := rfl; simp only [List.length_append, bytes_len]; omega)
  have dc0 : decide (((strBytes s).length + 1) * 1 ≤ 70368744177664) = true := decide_eq_true (by have q : (⟨#[35]⟩ : ByteArray).size = 1 := rfl; simp only [List.length_append, bytes_len]; omega)
  have dc1 : decide (((strBytes s ++ strBytes (ByteArray.mk #[35])).length + (strBytes fr).length) * 1 ≤ 70368744177664) = true := decide_eq_true (by have q : (⟨#[35]⟩ : ByteArray).size = 1 := rfl; simp only [List.length_append, bytes_len]; omega)
  have dc2 : decide (((strBytes s).length + (strBytes fr).length) * 1 ≤ 70368744177664) = true := decide_eq_true (by have q : (⟨#[35]⟩ : ByteArray).size = 1 := rfl; simp only [List.length_append, bytes_len]; omega)
  rcases hs with ⟨rfl, rfl⟩ | ⟨rfl, hne⟩
  · cases hf
    · have ea : jFr false fr = ⟨#[]⟩ := rfl
      refine ⟨B1 (uV sc us hu ho po hp ha pa qu hq fr false), by rw [ea, bA_appNil]; exact .inl ⟨rfl, rfl⟩, fun n L => ?_⟩
      rw [tg10b]
      rfl
    · have ea : jFr true fr = (⟨#[35]⟩ : ByteArray) ++ fr := rfl
      have nz : ((⟨#[]⟩ : ByteArray) ++ ((⟨#[35]⟩ : ByteArray) ++ fr)).size ≠ 0 := by
        have q0 : (⟨#[35]⟩ : ByteArray).size = 1 := rfl
        have q1 : (⟨#[]⟩ : ByteArray).size = 0 := rfl
        simp only [ByteArray.size_append]; omega
      refine ⟨B2 (uV sc us hu ho po hp ha pa qu hq fr true) (strBytes ((⟨#[]⟩ : ByteArray) ++ ((⟨#[35]⟩ : ByteArray) ++ fr))), by rw [ea]; exact .inr ⟨rfl, nz⟩, fun n L => ?_⟩
      rw [tg10b]
      simp only [db0, db1, sB_emp, Bool.not_true, bif_tt, bif_ff, Bool.not_true, Bool.not_false]
      rw [sB_app, sB_app]
      rfl
  · cases hf
    · have ea : jFr false fr = ⟨#[]⟩ := rfl
      refine ⟨B2 (uV sc us hu ho po hp ha pa qu hq fr false) (strBytes s), by rw [ea, bA_appNil]; exact .inr ⟨rfl, hne⟩, fun n L => ?_⟩
      rw [tg10c]
      rfl
    · have ea : jFr true fr = (⟨#[35]⟩ : ByteArray) ++ fr := rfl
      have nz : (s ++ ((⟨#[35]⟩ : ByteArray) ++ fr)).size ≠ 0 := by
        have q0 : (⟨#[35]⟩ : ByteArray).size = 1 := rfl
        simp only [ByteArray.size_append]; omega
      refine ⟨B2 (uV sc us hu ho po hp ha pa qu hq fr true) (strBytes (s ++ ((⟨#[35]⟩ : ByteArray) ++ fr))), by rw [ea]; exact .inr ⟨rfl, nz⟩, fun n L => ?_⟩
      rw [tg10c]
      simp only [dc0, dc1, dc2, bif_tt, bif_ff, Bool.not_true, Bool.not_false]
      rw [sB_app, sB_app]
      rw [← List.append_assoc]
      rfl

end Go.Pv

/- URLs: parts put together: all of it. -/
namespace Go.Pv
set_option linter.unusedVariables false
set_option maxRecDepth 100000
open Go Go.Proofs
variable {I : World → Prop} {ng : Nat}

theorem bytes_back (s : ByteArray) : bytesOf (strBytes s) = s := by
  unfold bytesOf strBytes
  rw [List.map_map]
  have e : ((fun c : CV => UInt8.ofNat c.toInt.toNat) ∘ encByte) = id := by
    funext b
    show UInt8.ofNat (Int.toNat ((b.toNat : Nat) : Int)) = b
    rw [natM]; simp
  rw [e, List.map_id]
theorem bytes_u8 (s : ByteArray) : (strBytes s).all isU8 = true := by
  unfold strBytes
  rw [List.all_map, List.all_eq_true]
  intro b _
  show isU8 (CV.int .u8 ((b.toNat : Nat) : Int)) = true
  have := b.toNat_lt
  simp [isU8]
def joinU (sc us ho po pa qu fr : ByteArray) (hu hp ha hq hf : Bool) : ByteArray :=
  (((((((jSc sc ++ jAu ha) ++ jUs hu us) ++ ho) ++ jPo hp po) ++ pa) ++ jQu hq qu) ++ jFr hf fr)
theorem tg11' (sc us ho po pa qu fr : ByteArray) (hu hp ha hq hf : Bool) (s : ByteArray) (H : Hp) (hz : s.size ≤ 60000) (hs : StB (uV sc us hu ho po hp ha pa qu hq fr hf) s H) (n : Nat) :
    aexecB Tryd.prog hd20 (filt an20 0) n (tailC 11 c20) (mkEnv 58 [(3, .bptr 1 0)]) H (endOf Tryd.prog 20 []) = some (.str s, []) := by
  rcases hs with ⟨rfl, rfl⟩ | ⟨rfl, hne⟩
  · rw [tg11b]
  · rw [tg11c]
    have d0 : decide (0 < (((strBytes s).length : Nat) : Int)) = true := decide_eq_true (by rw [bytes_len]; omega)
    have d1 : decide ((((strBytes s).length : Nat) : Int) ≤ (((strBytes s).length : Nat) : Int)) = true := decide_eq_true (Int.le_refl _)
    have d2 : decide ((((strBytes s).length : Nat) : Int) ≤ 9223372036854775807) = true := decide_eq_true (by rw [bytes_len]; omega)
    rw [d0, d1, d2, natM, List.take_length, bytes_u8, bytes_back, sB_emp, decide_eq_false hne]
    rfl
theorem sp20 (k : Nat) : spine k c20 = spine k c20 := rfl
theorem sp20_3 : spine 3 c20 = true := by kernel_rfl
theorem ha20_3 : headAt (filt an20 0) (tailC 3 c20) = some h20 := by kernel_rfl
theorem sp20_4 : spine 1 (tailC 3 c20) = true := by kernel_rfl
theorem ha20_4 : headAt (filt an20 0) (tailC 1 (tailC 3 c20)) = some h20 := by kernel_rfl
theorem ta20_4 : tailC 1 (tailC 3 c20) = tailC 4 c20 := eq_of_heq (heq_of_eq (by kernel_rfl))
theorem sp20_5 : spine 1 (tailC 4 c20) = true := by kernel_rfl
theorem ha20_5 : headAt (filt an20 0) (tailC 1 (tailC 4 c20)) = some h20 := by kernel_rfl
theorem ta20_5 : tailC 1 (tailC 4 c20) = tailC 5 c20 := eq_of_heq (heq_of_eq (by kernel_rfl))
theorem sp20_6 : spine 1 (tailC 5 c20) = true := by kernel_rfl
theorem ha20_6 : headAt (filt an20 0) (tailC 1 (tailC 5 c20)) = some h20 := by kernel_rfl
theorem ta20_6 : tailC 1 (tailC 5 c20) = tailC 6 c20 := eq_of_heq (heq_of_eq (by kernel_rfl))
theorem sp20_7 : spine 1 (tailC 6 c20) = true := by kernel_rfl
theorem ha20_7 : headAt (filt an20 0) (tailC 1 (tailC 6 c20)) = some h20 := by kernel_rfl
theorem ta20_7 : tailC 1 (tailC 6 c20) = tailC 7 c20 := eq_of_heq (heq_of_eq (by kernel_rfl))
theorem sp20_8 : spine 1 (tailC 7 c20) = true := by kernel_rfl
theorem ha20_8 : headAt (filt an20 0) (tailC 1 (tailC 7 c20)) = some h20 := by kernel_rfl
theorem ta20_8 : tailC 1 (tailC 7 c20) = tailC 8 c20 := eq_of_heq (heq_of_eq (by kernel_rfl))
theorem sp20_9 : spine 1 (tailC 8 c20) = true := by kernel_rfl
theorem ha20_9 : headAt (filt an20 0) (tailC 1 (tailC 8 c20)) = some h20 := by kernel_rfl
theorem ta20_9 : tailC 1 (tailC 8 c20) = tailC 9 c20 := eq_of_heq (heq_of_eq (by kernel_rfl))
theorem sp20_10 : spine 1 (tailC 9 c20) = true := by kernel_rfl
theorem ha20_10 : headAt (filt an20 0) (tailC 1 (tailC 9 c20)) = some h20 := by kernel_rfl
theorem ta20_10 : tailC 1 (tailC 9 c20) = tailC 10 c20 := eq_of_heq (heq_of_eq (by kernel_rfl))
theorem sp20_11 : spine 1 (tailC 10 c20) = true := by kernel_rfl
theorem ha20_11 : headAt (filt an20 0) (tailC 1 (tailC 10 c20)) = some h20e := by kernel_rfl
theorem ta20_11 : tailC 1 (tailC 10 c20) = tailC 11 c20 := eq_of_heq (heq_of_eq (by kernel_rfl))
theorem jz (c : ByteArray) (h : c.size = 1) (b : Bool) (s : ByteArray) (hs : s.size ≤ 4000) : (if b = true then c ++ s else (⟨#[]⟩ : ByteArray)).size ≤ 4001 := by
  cases b
  · exact Nat.zero_le _
  · simp only [if_true, ByteArray.size_append]; omega
theorem together_eq (sc us ho po pa qu fr : ByteArray) (hu hp ha hq hf : Bool) (zsc : sc.size ≤ 4000) (zus : us.size ≤ 4000) (zho : ho.size ≤ 4000) (zpo : po.size ≤ 4000) (zpa : pa.size ≤ 4000) (zqu : qu.size ≤ 4000) (zfr : fr.size ≤ 4000) (n : Nat) :
    aexec Tryd.prog hd20 (filt an20 0) n c20 (envOf Tryd.prog 20 [.c (uV sc us hu ho po hp ha pa qu hq fr hf)]) [] (endOf Tryd.prog 20 []) = some (.str (joinU sc us ho po pa qu fr hu hp ha hq hf), []) := by
  have y1 : (jSc sc).size ≤ 4001 := by
    unfold jSc
    split
    · exact Nat.zero_le _
    · have q : (⟨#[58]⟩ : ByteArray).size = 1 := rfl
      simp only [ByteArray.size_append]; omega
  have y2 : (jAu ha).size ≤ 2 := by cases ha <;> exact Nat.le_of_ble_eq_true rfl
  have y3 : (jUs hu us).size ≤ 4001 := by
    have q : (⟨#[64]⟩ : ByteArray).size = 1 := rfl
    cases hu
    · exact Nat.zero_le _
    · show (us ++ _).size ≤ _
      simp only [ByteArray.size_append]; omega
  have y4 : (jPo hp po).size ≤ 4001 := jz _ rfl hp po zpo
  have y5 : (jQu hq qu).size ≤ 4001 := jz _ rfl hq qu zqu
  have y6 : (jFr hf fr).size ≤ 4001 := jz _ rfl hf fr zfr
  rw [seg_a (k := 3) (by decide) sp20_3 ha20_3, tg0]
  show aexecB Tryd.prog hd20 (filt an20 0) n (tailC 3 c20) E20 (B0 (uV sc us hu ho po hp ha pa qu hq fr hf)) (endOf Tryd.prog 20 []) = _
  obtain ⟨H3, s3, x3⟩ := sg3 sc us ho po pa qu fr hu hp ha hq hf zsc
  rw [bA_nilApp] at s3
  rw [seg_b (k := 1) (by decide) sp20_4 ha20_4, x3, ta20_4]
  obtain ⟨H4, s4, x4⟩ := sg4 sc us ho po pa qu fr hu hp ha hq hf _ _ (by first | omega | (simp only [ByteArray.size_append]; omega)) s3
  rw [seg_b (k := 1) (by decide) sp20_5 ha20_5, x4, ta20_5]
  obtain ⟨H5, s5, x5⟩ := sg5 sc us ho po pa qu fr hu hp ha hq hf _ _ (by first | omega | (simp only [ByteArray.size_append]; omega)) s4 zus
  rw [seg_b (k := 1) (by decide) sp20_6 ha20_6, x5, ta20_6]
  obtain ⟨H6, s6, x6⟩ := sg6 sc us ho po pa qu fr hu hp ha hq hf _ _ (by first | omega | (simp only [ByteArray.size_append]; omega)) s5 zho
  rw [seg_b (k := 1) (by decide) sp20_7 ha20_7, x6, ta20_7]
  obtain ⟨H7, s7, x7⟩ := sg7 sc us ho po pa qu fr hu hp ha hq hf _ _ (by first | omega | (simp only [ByteArray.size_append]; omega)) s6 zpo
  rw [seg_b (k := 1) (by decide) sp20_8 ha20_8, x7, ta20_8]
  obtain ⟨H8, s8, x8⟩ := sg8 sc us ho po pa qu fr hu hp ha hq hf _ _ (by first | omega | (simp only [ByteArray.size_append]; omega)) s7 zpa
  rw [seg_b (k := 1) (by decide) sp20_9 ha20_9, x8, ta20_9]
  obtain ⟨H9, s9, x9⟩ := sg9 sc us ho po pa qu fr hu hp ha hq hf _ _ (by first | omega | (simp only [ByteArray.size_append]; omega)) s8 zqu
  rw [seg_b (k := 1) (by decide) sp20_10 ha20_10, x9, ta20_10]
  obtain ⟨H10, s10, x10⟩ := sg10 sc us ho po pa qu fr hu hp ha hq hf _ _ (by first | omega | (simp only [ByteArray.size_append]; omega)) s9 zfr
  rw [seg_b (k := 1) (by decide) sp20_11 ha20_11, x10, ta20_11]
  exact tg11' sc us ho po pa qu fr hu hp ha hq hf _ _ (by first | omega | (simp only [ByteArray.size_append]; omega)) s10 n

def n4 (s : ByteArray) : Bool := decide (s.size ≤ 4000)
def uSmall : CV → Bool
  | .agg [.str sc, .str us, .bool hu, .str ho, .str po, .bool hp, .bool ha, .str pa, .str qu, .bool hq, .str fr, .bool hf] => n4 sc && (n4 us && (n4 ho && (n4 po && (n4 pa && (n4 qu && n4 fr)))))
  | _ => false
def L20 : Fn1 := fun cargs => match cargs with
  | [.agg [.str sc, .str us, .bool hu, .str ho, .str po, .bool hp, .bool ha, .str pa, .str qu, .bool hq, .str fr, .bool hf]] => some [(n4 sc && (n4 us && (n4 ho && (n4 po && (n4 pa && (n4 qu && n4 fr))))), .str (joinU sc us ho po pa qu fr hu hp ha hq hf), [])]
  | _ => none
theorem n4_iff {s : ByteArray} : n4 s = true ↔ s.size ≤ 4000 := decide_eq_true_iff
theorem known0 : Kw I ng A0 := fun f cargs rv outs h => by cases h
theorem g20 (hg : OnGlobals I ng) : Cw I ng 20 L20 := contract_of an20 hg (inls_ok hg (hok_of known0) [36, 37, 38, 50]) fun cargs rv outs h => by
  unfold L20 at h
  split at h <;> first | (cases h; done) | skip
  rename_i sc us hu ho po hp ha pa qu hq fr hf
  cases hc : (n4 sc && (n4 us && (n4 ho && (n4 po && (n4 pa && (n4 qu && n4 fr)))))) with
  | false => rw [hc] at h; cases h
  | true =>
    rw [hc] at h
    cases h
    simp only [Bool.and_eq_true, n4_iff] at hc
    refine ⟨1, ?_⟩
    rw [abody_eq2 (ps := [.c (uV sc us hu ho po hp ha pa qu hq fr hf)]) (H := []) rfl (by kernel_rfl)]
    exact together_eq sc us ho po pa qu fr hu hp ha hq hf hc.1 hc.2.1 hc.2.2.1 hc.2.2.2.1 hc.2.2.2.2.1 hc.2.2.2.2.2.1 hc.2.2.2.2.2.2 1

end Go.Pv

/- URLs: the document's parts put together: trees. -/
namespace Go.Pv
set_option linter.unusedVariables false
set_option maxRecDepth 100000
open Go Go.Proofs

noncomputable def c14 : Code := codeOf Tryd.prog 14
def h14 : Head := ⟨[1, 3], [], 1⟩
def h14e : Head := ⟨[3], [], 1⟩
def an14 : Ann := fun i => if Nat.beq i 500004 then some h14 else if Nat.beq i 500006 then some h14 else if Nat.beq i 500008 then some h14 else if Nat.beq i 500009 then some h14 else if Nat.beq i 500011 then some h14 else if Nat.beq i 500012 then some h14 else if Nat.beq i 500014 then some h14 else if Nat.beq i 500016 then some h14e else none
def E14 (s : ByteArray) : Env := mkEnv 51 [(1, .bptr 0 0), (3, .c (.str s))]
def B14 (u : CV) : Hp := [.box (.c u) kU]
theorem tj2 (sc us ho po pa qu fr : ByteArray) (hu hp ha hq hf : Bool) (n : Nat) (L : Env → Hp → Res) : aexec Tryd.prog (call' A0) (filt an14 0) n (prefC 3 c14) (envOf Tryd.prog 14 [.c (uV sc us hu ho po hp ha pa qu hq fr hf)]) [] (thenK (headK h14 L) (endOf Tryd.prog 14 [])) =
    bif' (!sc.toList == (ByteArray.mk #[]).toList)
      (bif' (fitsS (sc.size + 1))
        (L (mkEnv 51 [(1, PV.bptr 0 0), (3, PV.c (CV.str (sc ++ ByteArray.mk #[58])))])
          [AO.box
              (PV.c
                (CV.agg
                  [CV.str sc, CV.str us, CV.bool hu, CV.str ho, CV.str po, CV.bool hp, CV.bool ha, CV.str pa, CV.str qu,
                    CV.bool hq, CV.str fr, CV.bool hf]))
              (kU)])
        none)
      (L (mkEnv 51 [(1, PV.bptr 0 0), (3, PV.c (CV.str ⟨⟨[]⟩⟩))])
        [AO.box
            (PV.c
              (CV.agg
                [CV.str sc, CV.str us, CV.bool hu, CV.str ho, CV.str po, CV.bool hp, CV.bool ha, CV.str pa, CV.str qu,
                  CV.bool hq, CV.str fr, CV.bool hf]))
            (kU)]) := by kernel_rfl
theorem tj3 (sc us ho po pa qu fr : ByteArray) (hu hp ha hq hf : Bool) (s : ByteArray) (n : Nat) (L : Env → Hp → Res) : aexecB Tryd.prog (call' A0) (filt an14 0) n (prefC 1 (tailC 3 c14)) (E14 s) (B14 (uV sc us hu ho po hp ha pa qu hq fr hf)) (thenK (headK h14 L) (endOf Tryd.prog 14 [])) =
    bif' ha
      (bif' (fitsS (s.size + 2))
        (L (mkEnv 51 [(1, PV.bptr 0 0), (3, PV.c (CV.str (s ++ ByteArray.mk #[47, 47])))])
          [AO.box
              (PV.c
                (CV.agg
                  [CV.str sc, CV.str us, CV.bool hu, CV.str ho, CV.str po, CV.bool hp, CV.bool ha, CV.str pa, CV.str qu,
                    CV.bool hq, CV.str fr, CV.bool hf]))
              kU])
        none)
      (L (mkEnv 51 [(1, PV.bptr 0 0), (3, PV.c (CV.str s))])
        [AO.box
            (PV.c
              (CV.agg
                [CV.str sc, CV.str us, CV.bool hu, CV.str ho, CV.str po, CV.bool hp, CV.bool ha, CV.str pa, CV.str qu,
                  CV.bool hq, CV.str fr, CV.bool hf]))
            kU]) := by kernel_rfl
theorem tj4 (sc us ho po pa qu fr : ByteArray) (hu hp ha hq hf : Bool) (s : ByteArray) (n : Nat) (L : Env → Hp → Res) : aexecB Tryd.prog (call' A0) (filt an14 0) n (prefC 1 (tailC 4 c14)) (E14 s) (B14 (uV sc us hu ho po hp ha pa qu hq fr hf)) (thenK (headK h14 L) (endOf Tryd.prog 14 [])) =
    bif' hu
      (bif' (fitsS (s.size + us.size))
        (bif' (fitsS ((s ++ us).size + 1))
          (L (mkEnv 51 [(1, PV.bptr 0 0), (3, PV.c (CV.str (s ++ us ++ ByteArray.mk #[64])))])
            [AO.box
                (PV.c
                  (CV.agg
                    [CV.str sc, CV.str us, CV.bool hu, CV.str ho, CV.str po, CV.bool hp, CV.bool ha, CV.str pa, CV.str qu,
                      CV.bool hq, CV.str fr, CV.bool hf]))
                kU])
          none)
        none)
      (L (mkEnv 51 [(1, PV.bptr 0 0), (3, PV.c (CV.str s))])
        [AO.box
            (PV.c
              (CV.agg
                [CV.str sc, CV.str us, CV.bool hu, CV.str ho, CV.str po, CV.bool hp, CV.bool ha, CV.str pa, CV.str qu,
                  CV.bool hq, CV.str fr, CV.bool hf]))
            kU]) := by kernel_rfl
theorem tj5 (sc us ho po pa qu fr : ByteArray) (hu hp ha hq hf : Bool) (s : ByteArray) (n : Nat) (L : Env → Hp → Res) : aexecB Tryd.prog (call' A0) (filt an14 0) n (prefC 1 (tailC 5 c14)) (E14 s) (B14 (uV sc us hu ho po hp ha pa qu hq fr hf)) (thenK (headK h14 L) (endOf Tryd.prog 14 [])) =
    bif' (fitsS (s.size + ho.size))
      (L (mkEnv 51 [(1, PV.bptr 0 0), (3, PV.c (CV.str (s ++ ho)))])
        [AO.box
            (PV.c
              (CV.agg
                [CV.str sc, CV.str us, CV.bool hu, CV.str ho, CV.str po, CV.bool hp, CV.bool ha, CV.str pa, CV.str qu,
                  CV.bool hq, CV.str fr, CV.bool hf]))
            kU])
      none := by kernel_rfl
theorem tj6 (sc us ho po pa qu fr : ByteArray) (hu hp ha hq hf : Bool) (s : ByteArray) (n : Nat) (L : Env → Hp → Res) : aexecB Tryd.prog (call' A0) (filt an14 0) n (prefC 1 (tailC 6 c14)) (E14 s) (B14 (uV sc us hu ho po hp ha pa qu hq fr hf)) (thenK (headK h14 L) (endOf Tryd.prog 14 [])) =
    bif' hp
      (bif' (fitsS (s.size + 1))
        (bif' (fitsS ((s ++ ByteArray.mk #[58]).size + po.size))
          (L (mkEnv 51 [(1, PV.bptr 0 0), (3, PV.c (CV.str (s ++ ByteArray.mk #[58] ++ po)))])
            [AO.box
                (PV.c
                  (CV.agg
                    [CV.str sc, CV.str us, CV.bool hu, CV.str ho, CV.str po, CV.bool hp, CV.bool ha, CV.str pa, CV.str qu,
                      CV.bool hq, CV.str fr, CV.bool hf]))
                kU])
          none)
        none)
      (L (mkEnv 51 [(1, PV.bptr 0 0), (3, PV.c (CV.str s))])
        [AO.box
            (PV.c
              (CV.agg
                [CV.str sc, CV.str us, CV.bool hu, CV.str ho, CV.str po, CV.bool hp, CV.bool ha, CV.str pa, CV.str qu,
                  CV.bool hq, CV.str fr, CV.bool hf]))
            kU]) := by kernel_rfl
theorem tj7 (sc us ho po pa qu fr : ByteArray) (hu hp ha hq hf : Bool) (s : ByteArray) (n : Nat) (L : Env → Hp → Res) : aexecB Tryd.prog (call' A0) (filt an14 0) n (prefC 1 (tailC 7 c14)) (E14 s) (B14 (uV sc us hu ho po hp ha pa qu hq fr hf)) (thenK (headK h14 L) (endOf Tryd.prog 14 [])) =
    bif' (fitsS (s.size + pa.size))
      (L (mkEnv 51 [(1, PV.bptr 0 0), (3, PV.c (CV.str (s ++ pa)))])
        [AO.box
            (PV.c
              (CV.agg
                [CV.str sc, CV.str us, CV.bool hu, CV.str ho, CV.str po, CV.bool hp, CV.bool ha, CV.str pa, CV.str qu,
                  CV.bool hq, CV.str fr, CV.bool hf]))
            kU])
      none := by kernel_rfl
theorem tj8 (sc us ho po pa qu fr : ByteArray) (hu hp ha hq hf : Bool) (s : ByteArray) (n : Nat) (L : Env → Hp → Res) : aexecB Tryd.prog (call' A0) (filt an14 0) n (prefC 1 (tailC 8 c14)) (E14 s) (B14 (uV sc us hu ho po hp ha pa qu hq fr hf)) (thenK (headK h14 L) (endOf Tryd.prog 14 [])) =
    bif' hq
      (bif' (fitsS (s.size + 1))
        (bif' (fitsS ((s ++ ByteArray.mk #[63]).size + qu.size))
          (L (mkEnv 51 [(1, PV.bptr 0 0), (3, PV.c (CV.str (s ++ ByteArray.mk #[63] ++ qu)))])
            [AO.box
                (PV.c
                  (CV.agg
                    [CV.str sc, CV.str us, CV.bool hu, CV.str ho, CV.str po, CV.bool hp, CV.bool ha, CV.str pa, CV.str qu,
                      CV.bool hq, CV.str fr, CV.bool hf]))
                kU])
          none)
        none)
      (L (mkEnv 51 [(1, PV.bptr 0 0), (3, PV.c (CV.str s))])
        [AO.box
            (PV.c
              (CV.agg
                [CV.str sc, CV.str us, CV.bool hu, CV.str ho, CV.str po, CV.bool hp, CV.bool ha, CV.str pa, CV.str qu,
                  CV.bool hq, CV.str fr, CV.bool hf]))
            kU]) := by kernel_rfl
theorem tj9 (sc us ho po pa qu fr : ByteArray) (hu hp ha hq hf : Bool) (s : ByteArray) (n : Nat) (L : Env → Hp → Res) : aexecB Tryd.prog (call' A0) (filt an14 0) n (prefC 1 (tailC 9 c14)) (E14 s) (B14 (uV sc us hu ho po hp ha pa qu hq fr hf)) (thenK (headK h14e L) (endOf Tryd.prog 14 [])) =
    bif' hf
      (bif' (fitsS (s.size + 1))
        (bif' (fitsS ((s ++ ByteArray.mk #[35]).size + fr.size))
          (L (mkEnv 51 [(3, PV.c (CV.str (s ++ ByteArray.mk #[35] ++ fr)))])
            [AO.box
                (PV.c
                  (CV.agg
                    [CV.str sc, CV.str us, CV.bool hu, CV.str ho, CV.str po, CV.bool hp, CV.bool ha, CV.str pa, CV.str qu,
                      CV.bool hq, CV.str fr, CV.bool hf]))
                kU])
          none)
        none)
      (L (mkEnv 51 [(3, PV.c (CV.str s))])
        [AO.box
            (PV.c
              (CV.agg
                [CV.str sc, CV.str us, CV.bool hu, CV.str ho, CV.str po, CV.bool hp, CV.bool ha, CV.str pa, CV.str qu,
                  CV.bool hq, CV.str fr, CV.bool hf]))
            kU]) := by kernel_rfl
theorem tj10 (sc us ho po pa qu fr : ByteArray) (hu hp ha hq hf : Bool) (s : ByteArray) (n : Nat) : aexecB Tryd.prog (call' A0) (filt an14 0) n (tailC 10 c14) (mkEnv 51 [(3, .c (.str s))]) (B14 (uV sc us hu ho po hp ha pa qu hq fr hf)) (endOf Tryd.prog 14 []) =
    some (CV.str s, []) := by kernel_rfl

end Go.Pv

/- URLs: the document's parts put together: what it is. -/
namespace Go.Pv
set_option linter.unusedVariables false
set_option linter.unusedSimpArgs false
set_option maxRecDepth 100000
open Go Go.Proofs
variable {I : World → Prop} {ng : Nat}

theorem jg2 (sc us ho po pa qu fr : ByteArray) (hu hp ha hq hf : Bool) (zsc : sc.size ≤ 4000) (n : Nat) (L : Env → Hp → Res) : aexec Tryd.prog (call' A0) (filt an14 0) n (prefC 3 c14) (envOf Tryd.prog 14 [.c (uV sc us hu ho po hp ha pa qu hq fr hf)]) [] (thenK (headK h14 L) (endOf Tryd.prog 14 [])) = L (E14 (jSc sc)) (B14 (uV sc us hu ho po hp ha pa qu hq fr hf)) := by
  rw [tj2, bA_emp]
  by_cases e0 : sc.size = 0
  · rw [decide_eq_true e0, show jSc sc = ⟨#[]⟩ from if_pos e0]; rfl
  · rw [decide_eq_false e0, fits_small (by omega), show jSc sc = sc ++ (⟨#[58]⟩ : ByteArray) from if_neg e0]; rfl
theorem jg3 (sc us ho po pa qu fr : ByteArray) (hu hp ha hq hf : Bool) (s : ByteArray) (hz : s.size ≤ 60000) (n : Nat) (L : Env → Hp → Res) : aexecB Tryd.prog (call' A0) (filt an14 0) n (prefC 1 (tailC 3 c14)) (E14 s) (B14 (uV sc us hu ho po hp ha pa qu hq fr hf)) (thenK (headK h14 L) (endOf Tryd.prog 14 [])) = L (E14 (s ++ jAu ha)) (B14 (uV sc us hu ho po hp ha pa qu hq fr hf)) := by
  rw [tj3]
  have q : (⟨#[47, 47]⟩ : ByteArray).size = 2 := rfl
  have f0 : fitsS (s.size + 2) = true := fits_small (by omega)
  rw [f0]
  cases ha
  · rw [show jAu false = ⟨#[]⟩ from rfl, bA_appNil]; rfl
  · rw [show jAu true = (⟨#[47, 47]⟩ : ByteArray) from rfl]; rfl
theorem jg4 (sc us ho po pa qu fr : ByteArray) (hu hp ha hq hf : Bool) (s : ByteArray) (hz : s.size ≤ 60000) (zus : us.size ≤ 4000) (n : Nat) (L : Env → Hp → Res) : aexecB Tryd.prog (call' A0) (filt an14 0) n (prefC 1 (tailC 4 c14)) (E14 s) (B14 (uV sc us hu ho po hp ha pa qu hq fr hf)) (thenK (headK h14 L) (endOf Tryd.prog 14 [])) = L (E14 (s ++ jUs hu us)) (B14 (uV sc us hu ho po hp ha pa qu hq fr hf)) := by
  rw [tj4]
  have q : (⟨#[64]⟩ : ByteArray).size = 1 := rfl
  have f0 : fitsS (s.size + us.size) = true := fits_small (by omega)
  have f1 : fitsS ((s ++ us).size + 1) = true := fits_small (by simp only [ByteArray.size_append]; omega)
  rw [f0, f1]
  cases hu
  · rw [show jUs false us = ⟨#[]⟩ from rfl, bA_appNil]; rfl
  · rw [show jUs true us = us ++ (⟨#[64]⟩ : ByteArray) from rfl, ← ByteArray.append_assoc]; rfl
theorem jg5 (sc us ho po pa qu fr : ByteArray) (hu hp ha hq hf : Bool) (s : ByteArray) (hz : s.size ≤ 60000) (zho : ho.size ≤ 4000) (n : Nat) (L : Env → Hp → Res) : aexecB Tryd.prog (call' A0) (filt an14 0) n (prefC 1 (tailC 5 c14)) (E14 s) (B14 (uV sc us hu ho po hp ha pa qu hq fr hf)) (thenK (headK h14 L) (endOf Tryd.prog 14 [])) = L (E14 (s ++ ho)) (B14 (uV sc us hu ho po hp ha pa qu hq fr hf)) := by
  rw [tj5]
  have f0 : fitsS (s.size + ho.size) = true := fits_small (by omega)
  rw [f0]
  rfl
theorem jg6 (sc us ho po pa qu fr : ByteArray) (hu hp ha hq hf : Bool) (s : ByteArray) (hz : s.size ≤ 60000) (zpo : po.size ≤ 4000) (n : Nat) (L : Env → Hp → Res) : aexecB Tryd.prog (call' A0) (filt an14 0) n (prefC 1 (tailC 6 c14)) (E14 s) (B14 (uV sc us hu ho po hp ha pa qu hq fr hf)) (thenK (headK h14 L) (endOf Tryd.prog 14 [])) = L (E14 (s ++ jPo hp po)) (B14 (uV sc us hu ho po hp ha pa qu hq fr hf)) := by
  rw [tj6]
  have q : (⟨#[58]⟩ : ByteArray).size = 1 := rfl
  have f0 : fitsS (s.size + 1) = true := fits_small (by omega)
  have f1 : fitsS ((s ++ (⟨#[58]⟩ : ByteArray)).size + po.size) = true := fits_small (by simp only [ByteArray.size_append]; omega)
  rw [f0, f1]
  cases hp
  · rw [show jPo false po = ⟨#[]⟩ from rfl, bA_appNil]; rfl
  · rw [show jPo true po = (⟨#[58]⟩ : ByteArray) ++ po from rfl, ← ByteArray.append_assoc]; rfl
theorem jg7 (sc us ho po pa qu fr : ByteArray) (hu hp ha hq hf : Bool) (s : ByteArray) (hz : s.size ≤ 60000) (zpa : pa.size ≤ 4000) (n : Nat) (L : Env → Hp → Res) : aexecB Tryd.prog (call' A0) (filt an14 0) n (prefC 1 (tailC 7 c14)) (E14 s) (B14 (uV sc us hu ho po hp ha pa qu hq fr hf)) (thenK (headK h14 L) (endOf Tryd.prog 14 [])) = L (E14 (s ++ pa)) (B14 (uV sc us hu ho po hp ha pa qu hq fr hf)) := by
  rw [tj7]
  have f0 : fitsS (s.size + pa.size) = true := fits_small (by omega)
  rw [f0]
  rfl
theorem jg8 (sc us ho po pa qu fr : ByteArray) (hu hp ha hq hf : Bool) (s : ByteArray) (hz : s.size ≤ 60000) (zqu : qu.size ≤ 4000) (n : Nat) (L : Env → Hp → Res) : aexecB Tryd.prog (call' A0) (filt an14 0) n (prefC 1 (tailC 8 c14)) (E14 s) (B14 (uV sc us hu ho po hp ha pa qu hq fr hf)) (thenK (headK h14 L) (endOf Tryd.prog 14 [])) = L (E14 (s ++ jQu hq qu)) (B14 (uV sc us hu ho po hp ha pa qu hq fr hf)) := by
  rw [tj8]
  have q : (⟨#[63]⟩ : ByteArray).size = 1 := rfl
  have f0 : fitsS (s.size + 1) = true := fits_small (by omega)
  have f1 : fitsS ((s ++ (⟨#[63]⟩ : ByteArray)).size + qu.size) = true := fits_small (by simp only [ByteArray.size_append]; omega)
  rw [f0, f1]
  cases hq
  · rw [show jQu false qu = ⟨#[]⟩ from rfl, bA_appNil]; rfl
  · rw [show jQu true qu = (⟨#[63]⟩ : ByteArray) ++ qu from rfl, ← ByteArray.append_assoc]; rfl
theorem jg9 (sc us ho po pa qu fr : ByteArray) (hu hp ha hq hf : Bool) (s : ByteArray) (hz : s.size ≤ 60000) (zfr : fr.size ≤ 4000) (n : Nat) (L : Env → Hp → Res) : aexecB Tryd.prog (call' A0) (filt an14 0) n (prefC 1 (tailC 9 c14)) (E14 s) (B14 (uV sc us hu ho po hp ha pa qu hq fr hf)) (thenK (headK h14e L) (endOf Tryd.prog 14 [])) = L (mkEnv 51 [(3, .c (.str (s ++ jFr hf fr)))]) (B14 (uV sc us hu ho po hp ha pa qu hq fr hf)) := by
  rw [tj9]
  have q : (⟨#[35]⟩ : ByteArray).size = 1 := rfl
  have f0 : fitsS (s.size + 1) = true := fits_small (by omega)
  have f1 : fitsS ((s ++ (⟨#[35]⟩ : ByteArray)).size + fr.size) = true := fits_small (by simp only [ByteArray.size_append]; omega)
  rw [f0, f1]
  cases hf
  · rw [show jFr false fr = ⟨#[]⟩ from rfl, bA_appNil]; rfl
  · rw [show jFr true fr = (⟨#[35]⟩ : ByteArray) ++ fr from rfl, ← ByteArray.append_assoc]; rfl
theorem sp14_2 : spine 3 c14 = true := by kernel_rfl
theorem ha14_2 : headAt (filt an14 0) (tailC 3 c14) = some h14 := by kernel_rfl
theorem sp14_3 : spine 1 (tailC 3 c14) = true := by kernel_rfl
theorem ha14_3 : headAt (filt an14 0) (tailC 1 (tailC 3 c14)) = some h14 := by kernel_rfl
theorem ta14_3 : tailC 1 (tailC 3 c14) = tailC 4 c14 := eq_of_heq (heq_of_eq (by kernel_rfl))
theorem sp14_4 : spine 1 (tailC 4 c14) = true := by kernel_rfl
theorem ha14_4 : headAt (filt an14 0) (tailC 1 (tailC 4 c14)) = some h14 := by kernel_rfl
theorem ta14_4 : tailC 1 (tailC 4 c14) = tailC 5 c14 := eq_of_heq (heq_of_eq (by kernel_rfl))
theorem sp14_5 : spine 1 (tailC 5 c14) = true := by kernel_rfl
theorem ha14_5 : headAt (filt an14 0) (tailC 1 (tailC 5 c14)) = some h14 := by kernel_rfl
theorem ta14_5 : tailC 1 (tailC 5 c14) = tailC 6 c14 := eq_of_heq (heq_of_eq (by kernel_rfl))
theorem sp14_6 : spine 1 (tailC 6 c14) = true := by kernel_rfl
theorem ha14_6 : headAt (filt an14 0) (tailC 1 (tailC 6 c14)) = some h14 := by kernel_rfl
theorem ta14_6 : tailC 1 (tailC 6 c14) = tailC 7 c14 := eq_of_heq (heq_of_eq (by kernel_rfl))
theorem sp14_7 : spine 1 (tailC 7 c14) = true := by kernel_rfl
theorem ha14_7 : headAt (filt an14 0) (tailC 1 (tailC 7 c14)) = some h14 := by kernel_rfl
theorem ta14_7 : tailC 1 (tailC 7 c14) = tailC 8 c14 := eq_of_heq (heq_of_eq (by kernel_rfl))
theorem sp14_8 : spine 1 (tailC 8 c14) = true := by kernel_rfl
theorem ha14_8 : headAt (filt an14 0) (tailC 1 (tailC 8 c14)) = some h14 := by kernel_rfl
theorem ta14_8 : tailC 1 (tailC 8 c14) = tailC 9 c14 := eq_of_heq (heq_of_eq (by kernel_rfl))
theorem sp14_9 : spine 1 (tailC 9 c14) = true := by kernel_rfl
theorem ha14_9 : headAt (filt an14 0) (tailC 1 (tailC 9 c14)) = some h14e := by kernel_rfl
theorem ta14_9 : tailC 1 (tailC 9 c14) = tailC 10 c14 := eq_of_heq (heq_of_eq (by kernel_rfl))
theorem join_eq (sc us ho po pa qu fr : ByteArray) (hu hp ha hq hf : Bool) (zsc : sc.size ≤ 4000) (zus : us.size ≤ 4000) (zho : ho.size ≤ 4000) (zpo : po.size ≤ 4000) (zpa : pa.size ≤ 4000) (zqu : qu.size ≤ 4000) (zfr : fr.size ≤ 4000) (n : Nat) :
    aexec Tryd.prog (call' A0) (filt an14 0) n c14 (envOf Tryd.prog 14 [.c (uV sc us hu ho po hp ha pa qu hq fr hf)]) [] (endOf Tryd.prog 14 []) = some (.str (joinU sc us ho po pa qu fr hu hp ha hq hf), []) := by
  have y1 : (jSc sc).size ≤ 4001 := by
    unfold jSc
    split
    · exact Nat.zero_le _
    · have q : (⟨#[58]⟩ : ByteArray).size = 1 := rfl
      simp only [ByteArray.size_append]; omega
  have y2 : (jAu ha).size ≤ 2 := by cases ha <;> exact Nat.le_of_ble_eq_true rfl
  have y3 : (jUs hu us).size ≤ 4001 := by
    have q : (⟨#[64]⟩ : ByteArray).size = 1 := rfl
    cases hu
    · exact Nat.zero_le _
    · show (us ++ _).size ≤ _
      simp only [ByteArray.size_append]; omega
  have y4 : (jPo hp po).size ≤ 4001 := jz _ rfl hp po zpo
  have y5 : (jQu hq qu).size ≤ 4001 := jz _ rfl hq qu zqu
  rw [seg_a (k := 3) (by decide) sp14_2 ha14_2, jg2 sc us ho po pa qu fr hu hp ha hq hf zsc]
  rw [seg_b (k := 1) (by decide) sp14_3 ha14_3, jg3 sc us ho po pa qu fr hu hp ha hq hf _ (by first | omega | (simp only [ByteArray.size_append]; omega)), ta14_3]
  rw [seg_b (k := 1) (by decide) sp14_4 ha14_4, jg4 sc us ho po pa qu fr hu hp ha hq hf _ (by first | omega | (simp only [ByteArray.size_append]; omega)) zus, ta14_4]
  rw [seg_b (k := 1) (by decide) sp14_5 ha14_5, jg5 sc us ho po pa qu fr hu hp ha hq hf _ (by first | omega | (simp only [ByteArray.size_append]; omega)) zho, ta14_5]
  rw [seg_b (k := 1) (by decide) sp14_6 ha14_6, jg6 sc us ho po pa qu fr hu hp ha hq hf _ (by first | omega | (simp only [ByteArray.size_append]; omega)) zpo, ta14_6]
  rw [seg_b (k := 1) (by decide) sp14_7 ha14_7, jg7 sc us ho po pa qu fr hu hp ha hq hf _ (by first | omega | (simp only [ByteArray.size_append]; omega)) zpa, ta14_7]
  rw [seg_b (k := 1) (by decide) sp14_8 ha14_8, jg8 sc us ho po pa qu fr hu hp ha hq hf _ (by first | omega | (simp only [ByteArray.size_append]; omega)) zqu, ta14_8]
  rw [seg_b (k := 1) (by decide) sp14_9 ha14_9, jg9 sc us ho po pa qu fr hu hp ha hq hf _ (by first | omega | (simp only [ByteArray.size_append]; omega)) zfr, ta14_9]
  rw [tj10]
  rfl
theorem g14 (hg : OnGlobals I ng) : Cw I ng 14 L20 := contract_of an14 hg (hok_of known0) fun cargs rv outs h => by
  unfold L20 at h
  split at h <;> first | (cases h; done) | skip
  rename_i sc us hu ho po hp ha pa qu hq fr hf
  cases hc : (n4 sc && (n4 us && (n4 ho && (n4 po && (n4 pa && (n4 qu && n4 fr)))))) with
  | false => rw [hc] at h; cases h
  | true =>
    rw [hc] at h
    cases h
    simp only [Bool.and_eq_true, n4_iff] at hc
    refine ⟨1, ?_⟩
    rw [abody_eq2 (ps := [.c (uV sc us hu ho po hp ha pa qu hq fr hf)]) (H := []) rfl (by kernel_rfl)]
    exact join_eq sc us ho po pa qu fr hu hp ha hq hf hc.1 hc.2.1 hc.2.2.1 hc.2.2.2.1 hc.2.2.2.2.1 hc.2.2.2.2.2.1 hc.2.2.2.2.2.2 1

end Go.Pv

/- URLs: checking and printing: trees. -/
namespace Go.Pv
set_option linter.unusedVariables false
set_option maxRecDepth 100000
open Go Go.Proofs

def w0 (s : ByteArray) : ByteArray := uSch s
def w1 (s : ByteArray) : ByteArray := rUsr (uRst s)
def x2 (s : ByteArray) : Bool := rHU (uRst s)
def w3 (s : ByteArray) : ByteArray := rHost (uRst s)
def w4 (s : ByteArray) : ByteArray := rPort (uRst s)
def x5 (s : ByteArray) : Bool := rHP (uRst s)
def x6 (s : ByteArray) : Bool := rHA (uRst s)
def w7 (s : ByteArray) : ByteArray := tPa (rAf (uRst s))
def w8 (s : ByteArray) : ByteArray := tQu (rAf (uRst s))
def x9 (s : ByteArray) : Bool := tHQ (rAf (uRst s))
def wT (s : ByteArray) : ByteArray := tFr (rAf (uRst s))
def xE (s : ByteArray) : Bool := tHF (rAf (uRst s))
def n7 (sc us ho po pa qu fr : ByteArray) : Bool := n4 sc && (n4 us && (n4 ho && (n4 po && (n4 pa && (n4 qu && n4 fr)))))
def eqU (J sc us ho po pa qu fr : ByteArray) (hu hp ha hq hf : Bool) : Bool := w0 J == sc && (w1 J == us && (x2 J == hu && (w3 J == ho && (w4 J == po && (x5 J == hp && (x6 J == ha && (w7 J == pa && (w8 J == qu && (x9 J == hq && (wT J == fr && (xE J == hf && true)))))))))))
def mayU (sc us ho po pa qu fr : ByteArray) (hu hp ha hq hf : Bool) : Bool := !decide (2048 < (joinU sc us ho po pa qu fr hu hp ha hq hf).size) && (uOk (joinU sc us ho po pa qu fr hu hp ha hq hf) && eqU (joinU sc us ho po pa qu fr hu hp ha hq hf) sc us ho po pa qu fr hu hp ha hq hf)
def uVe (s : ByteArray) : CV := uV (w0 s) (w1 s) (x2 s) (w3 s) (w4 s) (x5 s) (x6 s) (w7 s) (w8 s) (x9 s) (wT s) (xE s)
def zVe : CV := uV nB nB false nB nB false false nB nB false nB false
def M13 : Fn1 := fun x => match x with
  | [.str s] => some [(decide (2048 < s.size), .tup [zVe, .int .i64 3], []), (uOk s, .tup [uVe s, .int .i64 0], []), (true, .tup [zVe, .int .i64 5], [])]
  | _ => none
def M22 : Fn1 := fun x => match x with
  | [.str s] => some [(decide (s.size ≤ 2500) && uOk s, .tup [uVe s, .bool true], []), (decide (s.size ≤ 2500), .tup [zVe, .bool false], [])]
  | _ => none
def M20 : Fn1 := fun cargs => match cargs with
  | [.agg [.str sc, .str us, .bool hu, .str ho, .str po, .bool hp, .bool ha, .str pa, .str qu, .bool hq, .str fr, .bool hf]] => some [(n7 sc us ho po pa qu fr, .str (joinU sc us ho po pa qu fr hu hp ha hq hf), [])]
  | _ => none
def M21 : Fn1 := fun cargs => match cargs with
  | [.agg [.str sc, .str us, .bool hu, .str ho, .str po, .bool hp, .bool ha, .str pa, .str qu, .bool hq, .str fr, .bool hf]] => some [(n7 sc us ho po pa qu fr, .bool (decide (2048 < (joinU sc us ho po pa qu fr hu hp ha hq hf).size)), [])]
  | _ => none
def M12 : Fn1 := fun cargs => match cargs with
  | [.agg [.str sc, .str us, .bool hu, .str ho, .str po, .bool hp, .bool ha, .str pa, .str qu, .bool hq, .str fr, .bool hf]] => some [(n7 sc us ho po pa qu fr && mayU sc us ho po pa qu fr hu hp ha hq hf, .int .i64 0, []), (n7 sc us ho po pa qu fr, .int .i64 1, [])]
  | _ => none
def M10 : Fn1 := fun cargs => match cargs with
  | [.agg [.str sc, .str us, .bool hu, .str ho, .str po, .bool hp, .bool ha, .str pa, .str qu, .bool hq, .str fr, .bool hf]] => some [(n7 sc us ho po pa qu fr && mayU sc us ho po pa qu fr hu hp ha hq hf, .tup [.str (joinU sc us ho po pa qu fr hu hp ha hq hf), .int .i64 0], []), (n7 sc us ho po pa qu fr, .tup [.str nB, .int .i64 1], [])]
  | _ => none
def M11 : Fn1 := fun cargs => match cargs with
  | [.agg [.str sc, .str us, .bool hu, .str ho, .str po, .bool hp, .bool ha, .str pa, .str qu, .bool hq, .str fr, .bool hf]] => some [(n7 sc us ho po pa qu fr && mayU sc us ho po pa qu fr hu hp ha hq hf, .bool true, []), (n7 sc us ho po pa qu fr, .bool false, [])]
  | _ => none
def M9 : Fn1 := fun cargs => match cargs with
  | [.agg [.str sc, .str us, .bool hu, .str ho, .str po, .bool hp, .bool ha, .str pa, .str qu, .bool hq, .str fr, .bool hf]] => some [(n7 sc us ho po pa qu fr, .bool false, []), (true, .bool true, [])]
  | _ => none
def M6 : Fn1 := fun cargs => match cargs with
  | [] => some [(true, .bool true, [])]
  | _ => none
def T0 : Table := fun _ _ => none
def T13 : Table := fun g => if Nat.beq g 13 then M13 else T0 g
def T22 : Table := fun g => if Nat.beq g 22 then M22 else T13 g
def T20 : Table := fun g => if Nat.beq g 20 then M20 else T22 g
def T14 : Table := fun g => if Nat.beq g 14 then M20 else T20 g
def T21 : Table := fun g => if Nat.beq g 21 then M21 else T14 g
def T12 : Table := fun g => if Nat.beq g 12 then M12 else T21 g
def T10 : Table := fun g => if Nat.beq g 10 then M10 else T12 g
def T11 : Table := fun g => if Nat.beq g 11 then M11 else T10 g
def T9 : Table := fun g => if Nat.beq g 9 then M9 else T11 g
def T6 : Table := fun g => if Nat.beq g 6 then M6 else T9 g
theorem vm21 (sc us ho po pa qu fr : ByteArray) (hu hp ha hq hf : Bool) : abody Tryd.prog (call' T14) (fun _ => none) 1 21 [uV sc us hu ho po hp ha pa qu hq fr hf] =
    bif' (n7 sc us ho po pa qu fr)
      (some (CV.bool (decide ((↑(joinU sc us ho po pa qu fr hu hp ha hq hf).size : Int) > 2048)), [])) none := by kernel_rfl
theorem vm12 (sc us ho po pa qu fr : ByteArray) (hu hp ha hq hf : Bool) : abody Tryd.prog (call' T21) (fun _ => none) 1 12 [uV sc us hu ho po hp ha pa qu hq fr hf] =
    bif' (n7 sc us ho po pa qu fr)
      (bif' (decide (2048 < (joinU sc us ho po pa qu fr hu hp ha hq hf).size)) (some (CV.int IntKind.i64 (Int.ofNat 1), []))
        (bif' (uOk (joinU sc us ho po pa qu fr hu hp ha hq hf))
          (bif'
            (!(w0 (joinU sc us ho po pa qu fr hu hp ha hq hf) == sc &&
                (w1 (joinU sc us ho po pa qu fr hu hp ha hq hf) == us &&
                  (x2 (joinU sc us ho po pa qu fr hu hp ha hq hf) == hu &&
                    (w3 (joinU sc us ho po pa qu fr hu hp ha hq hf) == ho &&
                      (w4 (joinU sc us ho po pa qu fr hu hp ha hq hf) == po &&
                        (x5 (joinU sc us ho po pa qu fr hu hp ha hq hf) == hp &&
                          (x6 (joinU sc us ho po pa qu fr hu hp ha hq hf) == ha &&
                            (w7 (joinU sc us ho po pa qu fr hu hp ha hq hf) == pa &&
                              (w8 (joinU sc us ho po pa qu fr hu hp ha hq hf) == qu &&
                                (x9 (joinU sc us ho po pa qu fr hu hp ha hq hf) == hq &&
                                  (wT (joinU sc us ho po pa qu fr hu hp ha hq hf) == fr &&
                                    (xE (joinU sc us ho po pa qu fr hu hp ha hq hf) == hf && true)))))))))))))
            (some (CV.int IntKind.i64 (Int.ofNat 1), [])) (some (CV.int IntKind.i64 (Int.ofNat 0), [])))
          (some (CV.int IntKind.i64 (Int.ofNat 1), []))))
      none := by kernel_rfl
theorem vm10 (sc us ho po pa qu fr : ByteArray) (hu hp ha hq hf : Bool) : abody Tryd.prog (call' T12) (fun _ => none) 1 10 [uV sc us hu ho po hp ha pa qu hq fr hf] =
    bif' (n7 sc us ho po pa qu fr && mayU sc us ho po pa qu fr hu hp ha hq hf)
      (bif' (n7 sc us ho po pa qu fr)
        (some (CV.tup [CV.str (joinU sc us ho po pa qu fr hu hp ha hq hf), CV.int IntKind.i64 (Int.ofNat 0)], [])) none)
      (bif' (n7 sc us ho po pa qu fr)
        (some (CV.tup [CV.str ⟨⟨[]⟩⟩, CV.int IntKind.i64 (Int.ofNat 1)], [])) none) := by kernel_rfl
theorem vm11 (sc us ho po pa qu fr : ByteArray) (hu hp ha hq hf : Bool) : abody Tryd.prog (call' T10) (fun _ => none) 1 11 [uV sc us hu ho po hp ha pa qu hq fr hf] =
    bif' (n7 sc us ho po pa qu fr)
      (bif' (decide (2048 < (joinU sc us ho po pa qu fr hu hp ha hq hf).size)) (some (CV.bool false, []))
        (bif' (n7 sc us ho po pa qu fr)
          (bif'
            (decide ((joinU sc us ho po pa qu fr hu hp ha hq hf).size ≤ 2500) &&
              uOk (joinU sc us ho po pa qu fr hu hp ha hq hf))
            (some
              (CV.bool
                  (w0 (joinU sc us ho po pa qu fr hu hp ha hq hf) == sc &&
                    (w1 (joinU sc us ho po pa qu fr hu hp ha hq hf) == us &&
                      (x2 (joinU sc us ho po pa qu fr hu hp ha hq hf) == hu &&
                        (w3 (joinU sc us ho po pa qu fr hu hp ha hq hf) == ho &&
                          (w4 (joinU sc us ho po pa qu fr hu hp ha hq hf) == po &&
                            (x5 (joinU sc us ho po pa qu fr hu hp ha hq hf) == hp &&
                              (x6 (joinU sc us ho po pa qu fr hu hp ha hq hf) == ha &&
                                (w7 (joinU sc us ho po pa qu fr hu hp ha hq hf) == pa &&
                                  (w8 (joinU sc us ho po pa qu fr hu hp ha hq hf) == qu &&
                                    (x9 (joinU sc us ho po pa qu fr hu hp ha hq hf) == hq &&
                                      (wT (joinU sc us ho po pa qu fr hu hp ha hq hf) == fr &&
                                        (xE (joinU sc us ho po pa qu fr hu hp ha hq hf) == hf && true)))))))))))),
                []))
            (bif' (decide ((joinU sc us ho po pa qu fr hu hp ha hq hf).size ≤ 2500)) (some (CV.bool false, [])) none))
          none))
      none := by kernel_rfl
theorem vm9 (sc us ho po pa qu fr : ByteArray) (hu hp ha hq hf : Bool) : abody Tryd.prog (call' T11) (fun _ => none) 1 9 [uV sc us hu ho po hp ha pa qu hq fr hf] =
    bif' (decide ((↑sc.size : Int) > 4000)) (some (CV.bool true, []))
      (bif' (decide ((↑us.size : Int) > 4000)) (some (CV.bool true, []))
        (bif' (decide ((↑ho.size : Int) > 4000)) (some (CV.bool true, []))
          (bif' (decide ((↑po.size : Int) > 4000)) (some (CV.bool true, []))
            (bif' (decide ((↑pa.size : Int) > 4000)) (some (CV.bool true, []))
              (bif' (decide ((↑qu.size : Int) > 4000)) (some (CV.bool true, []))
                (some (CV.bool (decide ((↑fr.size : Int) > 4000)), []))))))) := by kernel_rfl
theorem vm4 (sc us ho po pa qu fr : ByteArray) (hu hp ha hq hf : Bool) : abody Tryd.prog (call' T6) (fun _ => none) 1 4 [uV sc us hu ho po hp ha pa qu hq fr hf] =
    bif' (n7 sc us ho po pa qu fr)
      (bif' (n7 sc us ho po pa qu fr && mayU sc us ho po pa qu fr hu hp ha hq hf)
        (bif' (n7 sc us ho po pa qu fr && mayU sc us ho po pa qu fr hu hp ha hq hf)
          (bif' (decide (2048 < (joinU sc us ho po pa qu fr hu hp ha hq hf).size))
            (bif' (n7 sc us ho po pa qu fr && mayU sc us ho po pa qu fr hu hp ha hq hf)
              (bif' (n7 sc us ho po pa qu fr)
                (bif'
                  ((joinU sc us ho po pa qu fr hu hp ha hq hf).toList == (joinU sc us ho po pa qu fr hu hp ha hq hf).toList)
                  (some (CV.bool false, [])) (some (CV.bool false, [])))
                none)
              (bif' (n7 sc us ho po pa qu fr) (some (CV.bool false, [])) none))
            (bif' (uOk (joinU sc us ho po pa qu fr hu hp ha hq hf))
              (bif' (n7 sc us ho po pa qu fr && mayU sc us ho po pa qu fr hu hp ha hq hf)
                (bif' (n7 sc us ho po pa qu fr)
                  (bif'
                    ((joinU sc us ho po pa qu fr hu hp ha hq hf).toList ==
                      (joinU sc us ho po pa qu fr hu hp ha hq hf).toList)
                    (bif'
                      (w0 (joinU sc us ho po pa qu fr hu hp ha hq hf) == sc &&
                        (w1 (joinU sc us ho po pa qu fr hu hp ha hq hf) == us &&
                          (x2 (joinU sc us ho po pa qu fr hu hp ha hq hf) == hu &&
                            (w3 (joinU sc us ho po pa qu fr hu hp ha hq hf) == ho &&
                              (w4 (joinU sc us ho po pa qu fr hu hp ha hq hf) == po &&
                                (x5 (joinU sc us ho po pa qu fr hu hp ha hq hf) == hp &&
                                  (x6 (joinU sc us ho po pa qu fr hu hp ha hq hf) == ha &&
                                    (w7 (joinU sc us ho po pa qu fr hu hp ha hq hf) == pa &&
                                      (w8 (joinU sc us ho po pa qu fr hu hp ha hq hf) == qu &&
                                        (x9 (joinU sc us ho po pa qu fr hu hp ha hq hf) == hq &&
                                          (wT (joinU sc us ho po pa qu fr hu hp ha hq hf) == fr &&
                                            (xE (joinU sc us ho po pa qu fr hu hp ha hq hf) == hf && true))))))))))))
                      (some (CV.bool true, [])) (some (CV.bool false, [])))
                    (some (CV.bool false, [])))
                  none)
                (bif' (n7 sc us ho po pa qu fr) (some (CV.bool false, [])) none))
              (bif' (n7 sc us ho po pa qu fr && mayU sc us ho po pa qu fr hu hp ha hq hf)
                (bif' (n7 sc us ho po pa qu fr)
                  (bif'
                    ((joinU sc us ho po pa qu fr hu hp ha hq hf).toList ==
                      (joinU sc us ho po pa qu fr hu hp ha hq hf).toList)
                    (some (CV.bool false, [])) (some (CV.bool false, [])))
                  none)
                (bif' (n7 sc us ho po pa qu fr) (some (CV.bool false, [])) none))))
          (bif' (n7 sc us ho po pa qu fr)
            (bif' (n7 sc us ho po pa qu fr && mayU sc us ho po pa qu fr hu hp ha hq hf) (some (CV.bool false, []))
              (bif' (n7 sc us ho po pa qu fr) (some (CV.bool false, [])) none))
            none))
        (bif' (n7 sc us ho po pa qu fr)
          (bif' (n7 sc us ho po pa qu fr && mayU sc us ho po pa qu fr hu hp ha hq hf)
            (bif' (uOk nB)
              (bif' (n7 sc us ho po pa qu fr && mayU sc us ho po pa qu fr hu hp ha hq hf) (some (CV.bool false, []))
                (bif' (n7 sc us ho po pa qu fr) (some (CV.bool false, [])) none))
              (bif' (n7 sc us ho po pa qu fr && mayU sc us ho po pa qu fr hu hp ha hq hf) (some (CV.bool false, []))
                (bif' (n7 sc us ho po pa qu fr) (some (CV.bool false, [])) none)))
            (bif' (n7 sc us ho po pa qu fr)
              (bif' (n7 sc us ho po pa qu fr && mayU sc us ho po pa qu fr hu hp ha hq hf) (some (CV.bool false, []))
                (bif' (n7 sc us ho po pa qu fr) (some (CV.bool true, [])) none))
              none))
          none))
      (some (CV.bool true, [])) := by kernel_rfl

end Go.Pv

/- awake: one question with its answer, worked out. -/
namespace Go.Pv
set_option linter.unusedVariables false
set_option maxRecDepth 100000
open Go Go.Proofs

def awakeList : List (FuncId × List (Nat × Head)) := [
  (13, []), (27, []), (30, []), (24, []),
  (25, [(2, ⟨[0, 3], [], 0⟩)]),
  (23, [(2, ⟨[0, 1, 6], [], 0⟩)]),
  (42, [(1, ⟨[0, 1], [], 0⟩), (5, ⟨[0, 1, 5, 6, 7, 19], [], 1⟩)]),
  (43, [(2, ⟨[0, 1, 11], [], 1⟩), (6, ⟨[0, 1, 5, 6, 7, 11, 17], [], 2⟩)]),
  (52, []), (67, []),
  (26, []), (28, []), (29, []), (45, []), (46, []), (44, []), (48, []), (60, []), (55, []), (53, []), (69, []),
  (54, [(2, ⟨[0, 1, 5], [], 0⟩)]), (49, [])]
noncomputable def awakeT : Table := bodies Tryd.prog 100 awakeList noTable
theorem awake_val : abody Tryd.prog (call' awakeT) (fun _ => none) 1 6 [] = some (.bool true, []) := by kernel_rfl
def F6 : Fn1 := fun x => match x with
  | [] => some [(true, .bool true, [])]
  | _ => none
theorem c6 {I : World → Prop} {ng : Nat} (hg : OnGlobals I ng) : Contract Tryd.prog I ng 6 F6 := contract_of (fun _ => none) hg (hok_of (known_bodies hg known_no _)) fun cargs rv outs h => by
  unfold F6 at h
  split at h
  · cases h; exact ⟨1, awake_val⟩
  · cases h

end Go.Pv

/- URLs: checking and printing: the law of UrlPrints. -/
namespace Go.Pv
set_option linter.unusedVariables false
set_option linter.unusedSimpArgs false
set_option maxRecDepth 100000
open Go Go.Proofs
variable {I : World → Prop} {ng : Nat}

theorem l13_eq (s : ByteArray) : L13 [.str s] = M13 [.str s] := rfl
theorem l22_eq (s : ByteArray) : L22 [.str s] = M22 [.str s] := rfl
theorem gm13 (hg : OnGlobals I ng) (h : Kw I ng A23) (h47 : Cw I ng 47 L47) : Kw I ng T13 := known_add known_no fun cargs rv outs hF => by
  unfold M13 at hF
  split at hF <;> first | (cases hF; done) | skip
  rename_i s
  exact (g13 hg h h47 13) [.str s] rv outs hF
theorem gm22 (hg : OnGlobals I ng) (h : Kw I ng A23) (h47 : Cw I ng 47 L47) (h51 : Cw I ng 51 L51) : Kw I ng T22 := known_add (gm13 hg h h47) fun cargs rv outs hF => by
  unfold M22 at hF
  split at hF <;> first | (cases hF; done) | skip
  rename_i s
  exact (g22 hg (g41 hg h h47 h51) 22) [.str s] rv outs hF
theorem m20 {F : Fn1} {f : FuncId} (h : Cw I ng f L20) : Cw I ng f M20 := fun cargs rv outs hF => by
  unfold M20 at hF
  split at hF <;> first | (cases hF; done) | skip
  rename_i sc us hu ho po hp ha pa qu hq fr hf
  exact h [uV sc us hu ho po hp ha pa qu hq fr hf] rv outs hF
theorem gm20 (hg : OnGlobals I ng) (h : Kw I ng A23) (h47 : Cw I ng 47 L47) (h51 : Cw I ng 51 L51) : Kw I ng T20 := known_add (gm22 hg h h47 h51) (m20 (F := M20) (g20 hg))
theorem gm14 (hg : OnGlobals I ng) (h : Kw I ng A23) (h47 : Cw I ng 47 L47) (h51 : Cw I ng 51 L51) : Kw I ng T14 := known_add (gm20 hg h h47 h51) (m20 (F := M20) (g14 hg))
theorem big_eq (n : Nat) : decide (((n : Nat) : Int) > 2048) = decide (2048 < n) := by
  rw [Bool.eq_iff_iff, decide_eq_true_iff, decide_eq_true_iff]; omega
theorem gm21 (hg : OnGlobals I ng) (h : Kw I ng A23) (h47 : Cw I ng 47 L47) (h51 : Cw I ng 51 L51) : Kw I ng T21 := known_add (gm14 hg h h47 h51) (contract_of (fun _ => none) hg (hok_of (gm14 hg h h47 h51)) fun cargs rv outs hF => by
  unfold M21 at hF
  split at hF <;> first | (cases hF; done) | skip
  rename_i sc us hu ho po hp ha pa qu hq fr hf
  refine ⟨1, ?_⟩
  have e := vm21 sc us ho po pa qu fr hu hp ha hq hf
  cases hn : n7 sc us ho po pa qu fr with
  | false => rw [hn] at hF; cases hF
  | true =>
    rw [hn] at hF e
    cases hF
    rw [big_eq] at e
    exact e)
theorem gm12 (hg : OnGlobals I ng) (h : Kw I ng A23) (h47 : Cw I ng 47 L47) (h51 : Cw I ng 51 L51) : Kw I ng T12 := known_add (gm21 hg h h47 h51) (contract_of (fun _ => none) hg (hok_of (gm21 hg h h47 h51)) fun cargs rv outs hF => by
  unfold M12 at hF
  split at hF <;> first | (cases hF; done) | skip
  rename_i sc us hu ho po hp ha pa qu hq fr hf
  refine ⟨1, ?_⟩
  have e := vm12 sc us ho po pa qu fr hu hp ha hq hf
  cases hn : n7 sc us ho po pa qu fr with
  | false => rw [hn] at hF; cases hF
  | true =>
    unfold mayU at hF
    unfold eqU at hF
    rw [hn] at hF e
    refine e.trans ?_
    clear e
    simp only [bif_tt, Bool.true_and] at hF ⊢
    revert hF
    generalize decide (2048 < (joinU sc us ho po pa qu fr hu hp ha hq hf).size) = a
    generalize uOk (joinU sc us ho po pa qu fr hu hp ha hq hf) = b
    generalize (w0 (joinU sc us ho po pa qu fr hu hp ha hq hf) == sc && _) = c
    intro hF
    cases a <;> cases b <;> cases c <;> first | (cases hF; done) | (cases hF; rfl))
theorem gm10 (hg : OnGlobals I ng) (h : Kw I ng A23) (h47 : Cw I ng 47 L47) (h51 : Cw I ng 51 L51) : Kw I ng T10 := known_add (gm12 hg h h47 h51) (contract_of (fun _ => none) hg (hok_of (gm12 hg h h47 h51)) fun cargs rv outs hF => by
  unfold M10 at hF
  split at hF <;> first | (cases hF; done) | skip
  rename_i sc us hu ho po hp ha pa qu hq fr hf
  refine ⟨1, ?_⟩
  have e := vm10 sc us ho po pa qu fr hu hp ha hq hf
  revert hF e
  generalize n7 sc us ho po pa qu fr = a
  generalize mayU sc us ho po pa qu fr hu hp ha hq hf = b
  intro hF e
  cases a <;> cases b <;> first | (cases hF; done) | (cases hF; exact e))
theorem gm11 (hg : OnGlobals I ng) (h : Kw I ng A23) (h47 : Cw I ng 47 L47) (h51 : Cw I ng 51 L51) : Kw I ng T11 := known_add (gm10 hg h h47 h51) (contract_of (fun _ => none) hg (hok_of (gm10 hg h h47 h51)) fun cargs rv outs hF => by
  unfold M11 at hF
  split at hF <;> first | (cases hF; done) | skip
  rename_i sc us hu ho po hp ha pa qu hq fr hf
  refine ⟨1, ?_⟩
  have e := vm11 sc us ho po pa qu fr hu hp ha hq hf
  cases hn : n7 sc us ho po pa qu fr with
  | false => rw [hn] at hF; cases hF
  | true =>
    unfold mayU at hF
    unfold eqU at hF
    rw [hn] at hF e
    refine e.trans ?_
    clear e
    by_cases hz : 2048 < (joinU sc us ho po pa qu fr hu hp ha hq hf).size
    · rw [decide_eq_true hz] at hF ⊢
      cases hF
      rfl
    · have hz2 : (joinU sc us ho po pa qu fr hu hp ha hq hf).size ≤ 2500 := by omega
      rw [decide_eq_false hz] at hF ⊢
      rw [decide_eq_true hz2]
      revert hF
      generalize uOk (joinU sc us ho po pa qu fr hu hp ha hq hf) = b
      generalize (w0 (joinU sc us ho po pa qu fr hu hp ha hq hf) == sc && _) = c
      intro hF
      cases b <;> cases c <;> (cases hF; rfl))
theorem big4 (s : ByteArray) : decide (((s.size : Nat) : Int) > 4000) = !n4 s := by
  unfold n4
  rw [Bool.eq_iff_iff, decide_eq_true_iff]
  simp
  omega
theorem gm9 (hg : OnGlobals I ng) (h : Kw I ng A23) (h47 : Cw I ng 47 L47) (h51 : Cw I ng 51 L51) : Kw I ng T9 := known_add (gm11 hg h h47 h51) (contract_of (fun _ => none) hg (hok_of (gm11 hg h h47 h51)) fun cargs rv outs hF => by
  unfold M9 at hF
  split at hF <;> first | (cases hF; done) | skip
  rename_i sc us hu ho po hp ha pa qu hq fr hf
  refine ⟨1, ?_⟩
  have e := vm9 sc us ho po pa qu fr hu hp ha hq hf
  unfold n7 at hF
  simp only [big4] at e
  revert hF e
  generalize n4 sc = a1
  generalize n4 us = a2
  generalize n4 ho = a3
  generalize n4 po = a4
  generalize n4 pa = a5
  generalize n4 qu = a6
  generalize n4 fr = a7
  intro hF e
  cases a1 <;> cases a2 <;> cases a3 <;> cases a4 <;> cases a5 <;> cases a6 <;> cases a7 <;> (cases hF; exact e))
theorem gm6 (hg : OnGlobals I ng) (h : Kw I ng A23) (h47 : Cw I ng 47 L47) (h51 : Cw I ng 51 L51) : Kw I ng T6 := known_add (gm9 hg h h47 h51) (c6 hg)
def L4 : Fn1 := fun cargs => match cargs with
  | [.agg [.str sc, .str us, .bool hu, .str ho, .str po, .bool hp, .bool ha, .str pa, .str qu, .bool hq, .str fr, .bool hf]] => some [(true, .bool true, [])]
  | _ => none
theorem list_refl (a : List UInt8) : (a == a) = true := beq_iff_eq.2 rfl
theorem c4 (hg : OnGlobals I ng) (h : Kw I ng A23) (h47 : Cw I ng 47 L47) (h51 : Cw I ng 51 L51) : Cw I ng 4 L4 := contract_of (fun _ => none) hg (hok_of (gm6 hg h h47 h51)) fun cargs rv outs hF => by
  unfold L4 at hF
  split at hF <;> first | (cases hF; done) | skip
  rename_i sc us hu ho po hp ha pa qu hq fr hf
  refine ⟨1, ?_⟩
  cases hF
  refine (vm4 sc us ho po pa qu fr hu hp ha hq hf).trans ?_
  cases hn : n7 sc us ho po pa qu fr with
  | false => rfl
  | true =>
    cases hm : mayU sc us ho po pa qu fr hu hp ha hq hf with
    | false => 
      simp only [Bool.true_and, Bool.and_true, bif_tt, bif_ff]
      first | done | (cases uOk nB <;> rfl)
    | true =>
      unfold mayU eqU at hm
      simp only [list_refl, Bool.true_and, Bool.and_true, bif_tt, bif_ff]
      revert hm
      generalize decide (2048 < (joinU sc us ho po pa qu fr hu hp ha hq hf).size) = a
      generalize uOk (joinU sc us ho po pa qu fr hu hp ha hq hf) = b
      simp only [Bool.and_true]
      generalize (w0 (joinU sc us ho po pa qu fr hu hp ha hq hf) == sc && _) = c
      intro hm
      cases a <;> cases b <;> cases c <;> first | rfl | (cases hm; done)

end Go.Pv

/- Contracts that others have proved: a function of data that may read package variables and hand over what is new. -/
namespace Go.Pv
set_option linter.unusedVariables false
open Go

variable {P : Program} {I : World → Prop}

theorem contract_new {f : FuncId} {F : Fn1} {ng : Nat} (hg : OnGlobals I ng)
    (h : ∀ cargs rv outs, picked (F cargs) = some (rv, outs) → outs = [] ∧ noBox cargs = true ∧ ∀ (S : St) (vals : Array Value), Ok S → I S.w → All2 (Vc S) cargs vals.toList →
      Calls P f vals S.w fun e w' => ∃ v, e = .returned v ∧ RowKit.Below S.w.heap.size S.w w' ∧
        ∀ S' : St, S'.w = w' → (∀ r, S'.ι r = none) → (∀ b off, S'.F b off → b < S.w.heap.size) → AllR S' rv v []) : Contract P I ng f F := by
  intro cargs rv outs hF S vals hH ok hng hI hv
  obtain ⟨rfl, hb, h⟩ := h cargs rv outs hF
  rw [openArgs_data hb] at hH hv
  refine (h S vals ok hI (c_list hv)).mono ?_
  rintro e w' ⟨v, rfl, B, hd⟩
  have hι : ∀ r, S.ι r = none := fun r => ok.out r (by rw [hH]; exact Nat.zero_le _)
  let S' : St := { S with w := w' }
  have K : Keeps S S' := ⟨B.os, B.tape, B.output, B.size, fun b hb _ => B.block b hb, fun r b hr => .inl ⟨r, hr⟩, rfl, rfl, rfl⟩
  have ok' : Ok S' := by
    refine ⟨fun r o hr => ?_, fun r _ => hι r, fun r r' b h1 _ => ?_, fun r b h1 => ?_, fun r b off h1 => ?_, ok.forb, Nat.le_trans ok.n0 B.size, fun r b h1 => ?_, ok.ng⟩
    · have hr' : S.H[r]? = some o := hr
      rw [hH] at hr'; simp at hr'
    all_goals
      have h1' : S.ι r = some b := h1
      rw [hι] at h1'; cases h1'
  refine ⟨v, S', [], rfl, rfl, ok', K, ?_, ?_, List.nodup_nil, ⟨by rw [hH]; rfl, fun i e k x hi => ?_⟩⟩
  · have := K.inv (I := I) ok (by rw [hng]; exact hg) hI
    exact this
  · exact hd S' rfl hι fun b off hf => Nat.lt_of_lt_of_le (ok.forb b off hf) ok.n0
  · rw [hH] at hi; simp at hi

end Go.Pv

/- strings.Split at one byte, strings.Cut at '::', the last rune: what the shelf says, as the specs say it. -/
namespace Go.Pv
set_option linter.unusedVariables false
set_option maxRecDepth 100000
open Go Go.Proofs

theorem split_eq (c : UInt8) : ∀ s : List UInt8, Lib.splitK [c] 0 (Lib.count s [c]) s = splitL c s
  | [] => by
    rw [Lib.count_miss (by simp [Lib.index])]
    rfl
  | b :: l => by
    have ih := split_eq c l
    by_cases h : b = c
    · subst h
      rw [Lib.count_cons_eq, Nat.add_comm]
      have hix : Lib.index (b :: l) [b] = 0 := by rw [Lib.index]; simp [List.isPrefixOf]
      have e1 : Lib.splitK [b] 0 (Lib.count l [b] + 1) (b :: l) = [] :: Lib.splitK [b] 0 (Lib.count l [b]) l := by
        rw [Lib.splitK, hix]
        rfl
      have e2 : splitL b (b :: l) = [] :: splitL b l := by rw [splitL, if_pos rfl]
      rw [e1, e2, ih]
    · rw [Lib.count_cons_ne b c l h]
      have hp : ([c] : List UInt8).isPrefixOf (b :: l) = false := by simp [List.isPrefixOf, Ne.symm h]
      have hix : Lib.index (b :: l) [c] = if Lib.index l [c] == -1 then -1 else Lib.index l [c] + 1 := by rw [Lib.index, hp]; simp
      by_cases hm : Lib.index l [c] = -1
      · rw [Lib.count_miss hm] at ih ⊢
        rw [splitL, if_neg h, ← ih]
        rfl
      · have hge := Lib.index_ge l [c]
        obtain ⟨j, hj⟩ : ∃ j : Nat, Lib.index l [c] = j := ⟨(Lib.index l [c]).toNat, by omega⟩
        have hix' : Lib.index (b :: l) [c] = ((j + 1 : Nat) : Int) := by rw [hix, if_neg (fun e => hm (beq_iff_eq.1 e)), hj]; omega
        have hk : Lib.count l [c] = Lib.count (l.drop (j + 1)) [c] + 1 := by
          rw [Lib.count_hit (by simp) hj]
          simp [Nat.add_comm]
        rw [hk] at ih ⊢
        have n1 : ¬ (Lib.index l [c] == -1) = true := fun e => hm (beq_iff_eq.1 e)
        have n2 : ¬ (Lib.index (b :: l) [c] == -1) = true := fun e => by
          have := beq_iff_eq.1 e
          rw [hix'] at this; omega
        rw [Lib.splitK, if_neg n1, hj] at ih
        rw [Lib.splitK, if_neg n2, hix', splitL, if_neg h, ← ih]
        simp only [Int.toNat_natCast, Nat.add_zero, List.take_succ_cons, List.length_singleton, List.drop_succ_cons]

theorem cut_eq2 : ∀ s : List UInt8, Lib.cut s [58, 58] = match cutDD s with
    | some (h, t) => (h, t, true)
    | none => (s, [], false)
  | [] => rfl
  | a :: t => by
    have ih := cut_eq2 t
    unfold cutDD
    by_cases h : a = 58 ∧ t.head? = some 58
    · rw [if_pos h]
      obtain ⟨rfl, h2⟩ := h
      cases t with
      | nil => cases h2
      | cons b t =>
        cases h2
        have hix : Lib.index (58 :: 58 :: t) [58, 58] = 0 := by rw [Lib.index]; simp [List.isPrefixOf]
        unfold Lib.cut
        rw [hix]
        rfl
    · rw [if_neg h]
      have hp : ([58, 58] : List UInt8).isPrefixOf (a :: t) = false := by
        cases t with
        | nil => simp [List.isPrefixOf]
        | cons b t =>
          simp only [List.isPrefixOf, Bool.and_true]
          refine Bool.eq_false_iff.2 fun hh => h ?_
          simp only [Bool.and_eq_true, beq_iff_eq] at hh
          exact ⟨hh.1.symm, by rw [List.head?_cons, hh.2]⟩
      have hix : Lib.index (a :: t) [58, 58] = if Lib.index t [58, 58] == -1 then -1 else Lib.index t [58, 58] + 1 := by rw [Lib.index, hp]; simp
      have hge := Lib.index_ge t [58, 58]
      unfold Lib.cut at ih ⊢
      by_cases hm : Lib.index t [58, 58] = -1
      · rw [hix, if_pos (beq_iff_eq.2 hm)]
        rw [hm] at ih
        cases hc : cutDD t with
        | none => rfl
        | some x =>
          rw [hc] at ih
          have := congrArg (fun x => x.2.2) ih
          cases this
      · rw [hix, if_neg (fun e => hm (beq_iff_eq.1 e))]
        rw [if_pos (by omega)] at ih
        rw [if_pos (by omega)]
        cases hc : cutDD t with
        | none =>
          rw [hc] at ih
          have := congrArg (fun x => x.2.2) ih
          cases this
        | some x =>
          rw [hc] at ih
          have e : (Lib.index t [58, 58] + 1).toNat = (Lib.index t [58, 58]).toNat + 1 := by omega
          rw [e]
          have e1 := congrArg (fun x => x.1) ih
          have e2 := congrArg (fun x => x.2.1) ih
          show _ = (a :: x.1, x.2, true)
          simp only at e1 e2
          rw [← e1, ← e2]
          rw [List.take_succ_cons]
          congr 2

end Go.Pv

/-
  DERIVED: THE SHELF's CONTRACTS AT THIS DUMP, IN PLAIN WORDS (tools/lay-plain.mjs out of 'TrydShelf.lean', which tools/lay-shelf.mjs wrote): THE SAME DECLARATIONS UNDER THE SAME NAMES: 'import', 'namespace', 'open', 'def', 'theorem' AND NOTHING ELSE: no command of the shelf's: FOR A HAND-IN. Each laying: the table of numbers ('.._ren') and one theorem, a field a fact of the dump's own or the kernel's comparison; each contract: ONE APPLICATION.
-/
namespace Go.Proofs
open Go.Shelf
def Tryd.lays220_ren : Go.Shelf.Ren := ⟨fun | 220 => 48 | 219 => 60 | 217 => 49 | 225 => 74 | 224 => 75 | 267 => 76 | 266 => 61 | 314 => 80 | n => n, fun | 9 => 9 | 4 => 4 | 3 => 3 | 5 => 5 | 46 => 54 | 146 => 104 | 51 => 103 | n => n, fun | 1 => 0 | n => n⟩
theorem Tryd.lays220 : Go.Proofs.Lays.n220 Tryd.prog Tryd.lays220_ren := {
  mixed := by kernel_rfl
  f217 := Tryd.func49.trans (congrArg some (by kernel_rfl))
  f219 := Tryd.func60.trans (congrArg some (by kernel_rfl))
  f220 := Tryd.func48.trans (congrArg some (by kernel_rfl))
  f224 := Tryd.func75.trans (congrArg some (by kernel_rfl))
  f225 := Tryd.func74.trans (congrArg some (by kernel_rfl))
  f266 := Tryd.func61.trans (congrArg some (by kernel_rfl))
  f267 := Tryd.func76.trans (congrArg some (by kernel_rfl))
  f314 := Tryd.func80.trans (congrArg some (by kernel_rfl))
  t3 := Tryd.underlying3
  a3 := Tryd.isAgg3
  z3 := Tryd.sizeOf3
  v3 := Tryd.zeroValue3
  t4 := Tryd.underlying4
  a4 := Tryd.isAgg4
  z4 := Tryd.sizeOf4
  v4 := Tryd.zeroValue4
  t5 := Tryd.underlying5
  a5 := Tryd.isAgg5
  z5 := Tryd.sizeOf5
  v5 := Tryd.zeroValue5
  t9 := Tryd.underlying9
  a9 := Tryd.isAgg9
  z9 := Tryd.sizeOf9
  v9 := Tryd.zeroValue9
  t46 := Tryd.underlying54
  a46 := Tryd.isAgg54
  z46 := Tryd.sizeOf54
  v46 := Tryd.zeroValue54
  t51 := Tryd.underlying103
  a51 := Tryd.isAgg103
  z51 := Tryd.sizeOf103
  v51 := Tryd.zeroValue103
  t146 := Tryd.underlying104
  a146 := Tryd.isAgg104
  z146 := Tryd.sizeOf104
  v146 := Tryd.zeroValue104
  g1 := by kernel_rfl }
open Go.RowKit Go.Lib in
/-- internal/stringslite.Cut (what strings.Cut calls): IT RETURNS 'Lib.cut s sep'; the world is as it was but for the count of draws. (LAID: no walk: one application.) -/
theorem Tryd.stringslite_Cut (s sep : ByteArray) (m : Int) (w : World) (hs : s.size < 4294967281) (hm : w.cell? ⟨0, 0, none⟩ = some (.int .i64 m)) :
    Calls Tryd.prog 48 #[.string s, .string sep] w fun e w' => e = .returned (.tuple #[.string ⟨(Lib.cut s.data.toList sep.data.toList).1.toArray⟩, .string ⟨(Lib.cut s.data.toList sep.data.toList).2.1.toArray⟩, .bool (Lib.cut s.data.toList sep.data.toList).2.2]) ∧ ∃ n, w' = w.drewN n := Any.stringslite_Cut Tryd.lays220 s sep m w hs hm
def Tryd.lays145_ren : Go.Shelf.Ren := ⟨fun | 145 => 28 | 220 => 48 | 219 => 60 | 217 => 49 | 225 => 74 | 224 => 75 | 267 => 76 | 266 => 61 | 314 => 80 | n => n, fun | 9 => 9 | 4 => 4 | 59 => 51 | 3 => 3 | 5 => 5 | 46 => 54 | 146 => 104 | 51 => 103 | n => n, fun | 1 => 0 | n => n⟩
theorem Tryd.lays145 : Go.Proofs.Lays.n145 Tryd.prog Tryd.lays145_ren := {
  mixed := by kernel_rfl
  f145 := Tryd.func28.trans (congrArg some (by kernel_rfl))
  f217 := Tryd.func49.trans (congrArg some (by kernel_rfl))
  f219 := Tryd.func60.trans (congrArg some (by kernel_rfl))
  f220 := Tryd.func48.trans (congrArg some (by kernel_rfl))
  f224 := Tryd.func75.trans (congrArg some (by kernel_rfl))
  f225 := Tryd.func74.trans (congrArg some (by kernel_rfl))
  f266 := Tryd.func61.trans (congrArg some (by kernel_rfl))
  f267 := Tryd.func76.trans (congrArg some (by kernel_rfl))
  f314 := Tryd.func80.trans (congrArg some (by kernel_rfl))
  t3 := Tryd.underlying3
  a3 := Tryd.isAgg3
  z3 := Tryd.sizeOf3
  v3 := Tryd.zeroValue3
  t4 := Tryd.underlying4
  a4 := Tryd.isAgg4
  z4 := Tryd.sizeOf4
  v4 := Tryd.zeroValue4
  t5 := Tryd.underlying5
  a5 := Tryd.isAgg5
  z5 := Tryd.sizeOf5
  v5 := Tryd.zeroValue5
  t9 := Tryd.underlying9
  a9 := Tryd.isAgg9
  z9 := Tryd.sizeOf9
  v9 := Tryd.zeroValue9
  t46 := Tryd.underlying54
  a46 := Tryd.isAgg54
  z46 := Tryd.sizeOf54
  v46 := Tryd.zeroValue54
  t51 := Tryd.underlying103
  a51 := Tryd.isAgg103
  z51 := Tryd.sizeOf103
  v51 := Tryd.zeroValue103
  t59 := Tryd.underlying51
  a59 := Tryd.isAgg51
  z59 := Tryd.sizeOf51
  v59 := Tryd.zeroValue51
  t146 := Tryd.underlying104
  a146 := Tryd.isAgg104
  z146 := Tryd.sizeOf104
  v146 := Tryd.zeroValue104
  g1 := by kernel_rfl }
open Go.RowKit Go.Lib in
/-- strings.Cut: "Cut slices s around the first instance of sep, returning the text before and after sep. The found result reports whether sep appears in s. If sep does not appear in s, cut returns s, "", false.": IT RETURNS 'Lib.cut s sep'; the world is as it was but for the count of draws. (LAID: no walk: one application.) -/
theorem Tryd.strings_Cut (s sep : ByteArray) (m : Int) (w : World) (hs : s.size < 4294967281) (hm : w.cell? ⟨0, 0, none⟩ = some (.int .i64 m)) :
    Calls Tryd.prog 28 #[.string s, .string sep] w fun e w' => e = .returned (.tuple #[.string ⟨(Lib.cut s.data.toList sep.data.toList).1.toArray⟩, .string ⟨(Lib.cut s.data.toList sep.data.toList).2.1.toArray⟩, .bool (Lib.cut s.data.toList sep.data.toList).2.2]) ∧ ∃ n, w' = w.drewN n := Any.strings_Cut Tryd.lays145 s sep m w hs hm
def Tryd.lays138_ren : Go.Shelf.Ren := ⟨fun | 138 => 83 | 195 => 84 | 218 => 85 | 143 => 73 | 219 => 60 | 217 => 49 | 225 => 74 | 224 => 75 | 267 => 76 | 266 => 61 | 314 => 80 | n => n, fun | 9 => 9 | 3 => 3 | 4 => 4 | 5 => 5 | 0 => 0 | 46 => 54 | 146 => 104 | 51 => 103 | n => n, fun | 1 => 0 | n => n⟩
theorem Tryd.lays138 : Go.Proofs.Lays.n138 Tryd.prog Tryd.lays138_ren := {
  mixed := by kernel_rfl
  f138 := Tryd.func83.trans (congrArg some (by kernel_rfl))
  f143 := Tryd.func73.trans (congrArg some (by kernel_rfl))
  f195 := Tryd.func84.trans (congrArg some (by kernel_rfl))
  f217 := Tryd.func49.trans (congrArg some (by kernel_rfl))
  f218 := Tryd.func85.trans (congrArg some (by kernel_rfl))
  f219 := Tryd.func60.trans (congrArg some (by kernel_rfl))
  f224 := Tryd.func75.trans (congrArg some (by kernel_rfl))
  f225 := Tryd.func74.trans (congrArg some (by kernel_rfl))
  f266 := Tryd.func61.trans (congrArg some (by kernel_rfl))
  f267 := Tryd.func76.trans (congrArg some (by kernel_rfl))
  f314 := Tryd.func80.trans (congrArg some (by kernel_rfl))
  t0 := Tryd.underlying0
  a0 := Tryd.isAgg0
  z0 := Tryd.sizeOf0
  v0 := Tryd.zeroValue0
  t3 := Tryd.underlying3
  a3 := Tryd.isAgg3
  z3 := Tryd.sizeOf3
  v3 := Tryd.zeroValue3
  t4 := Tryd.underlying4
  a4 := Tryd.isAgg4
  z4 := Tryd.sizeOf4
  v4 := Tryd.zeroValue4
  t5 := Tryd.underlying5
  a5 := Tryd.isAgg5
  z5 := Tryd.sizeOf5
  v5 := Tryd.zeroValue5
  t9 := Tryd.underlying9
  a9 := Tryd.isAgg9
  z9 := Tryd.sizeOf9
  v9 := Tryd.zeroValue9
  t46 := Tryd.underlying54
  a46 := Tryd.isAgg54
  z46 := Tryd.sizeOf54
  v46 := Tryd.zeroValue54
  t51 := Tryd.underlying103
  a51 := Tryd.isAgg103
  z51 := Tryd.sizeOf103
  v51 := Tryd.zeroValue103
  t146 := Tryd.underlying104
  a146 := Tryd.isAgg104
  z146 := Tryd.sizeOf104
  v146 := Tryd.zeroValue104
  g1 := by kernel_rfl }
open Go.RowKit Go.Lib in
/-- strings.Count at whatever sep that is not empty: the two roads under one statement. (LAID: no walk: one application.) -/
theorem Tryd.strings_Count_any (s sep : ByteArray) (m : Int) (w : World) (hs : s.size < 4294967281) (hm : w.cell? ⟨0, 0, none⟩ = some (.int .i64 m)) (h1 : 1 ≤ sep.size) :
    Calls Tryd.prog 83 #[.string s, .string sep] w fun e w' => e = .returned (.int .i64 (Lib.countB s sep)) ∧ w' = w := Any.strings_Count_any Tryd.lays138 s sep m w hs hm h1
def Tryd.lays221_ren : Go.Shelf.Ren := ⟨fun | 221 => 79 | 268 => 82 | 138 => 83 | 143 => 73 | 195 => 84 | 197 => 68 | 218 => 85 | 219 => 60 | 260 => 78 | 217 => 49 | 225 => 74 | 224 => 75 | 267 => 76 | 266 => 61 | 314 => 80 | n => n, fun | 9 => 9 | 3 => 3 | 31 => 61 | 4 => 4 | 0 => 0 | 105 => 78 | 21 => 21 | 5 => 5 | 46 => 54 | 119 => 107 | 139 => 110 | 138 => 109 | 146 => 104 | 51 => 103 | n => n, fun | 1 => 0 | 3 => 1 | 4 => 2 | n => n⟩
theorem Tryd.lays221 : Go.Proofs.Lays.n221 Tryd.prog Tryd.lays221_ren := {
  mixed := by kernel_rfl
  f138 := Tryd.func83.trans (congrArg some (by kernel_rfl))
  f143 := Tryd.func73.trans (congrArg some (by kernel_rfl))
  f195 := Tryd.func84.trans (congrArg some (by kernel_rfl))
  f197 := Tryd.func68.trans (congrArg some (by kernel_rfl))
  f217 := Tryd.func49.trans (congrArg some (by kernel_rfl))
  f218 := Tryd.func85.trans (congrArg some (by kernel_rfl))
  f219 := Tryd.func60.trans (congrArg some (by kernel_rfl))
  f221 := Tryd.func79.trans (congrArg some (by kernel_rfl))
  f224 := Tryd.func75.trans (congrArg some (by kernel_rfl))
  f225 := Tryd.func74.trans (congrArg some (by kernel_rfl))
  f260 := Tryd.func78.trans (congrArg some (by kernel_rfl))
  f266 := Tryd.func61.trans (congrArg some (by kernel_rfl))
  f267 := Tryd.func76.trans (congrArg some (by kernel_rfl))
  f268 := Tryd.func82.trans (congrArg some (by kernel_rfl))
  f314 := Tryd.func80.trans (congrArg some (by kernel_rfl))
  t0 := Tryd.underlying0
  a0 := Tryd.isAgg0
  z0 := Tryd.sizeOf0
  v0 := Tryd.zeroValue0
  t3 := Tryd.underlying3
  a3 := Tryd.isAgg3
  z3 := Tryd.sizeOf3
  v3 := Tryd.zeroValue3
  t4 := Tryd.underlying4
  a4 := Tryd.isAgg4
  z4 := Tryd.sizeOf4
  v4 := Tryd.zeroValue4
  t5 := Tryd.underlying5
  a5 := Tryd.isAgg5
  z5 := Tryd.sizeOf5
  v5 := Tryd.zeroValue5
  t9 := Tryd.underlying9
  a9 := Tryd.isAgg9
  z9 := Tryd.sizeOf9
  v9 := Tryd.zeroValue9
  t21 := Tryd.underlying21
  a21 := Tryd.isAgg21
  z21 := Tryd.sizeOf21
  v21 := Tryd.zeroValue21
  t31 := Tryd.underlying61
  a31 := Tryd.isAgg61
  z31 := Tryd.sizeOf61
  v31 := Tryd.zeroValue61
  t46 := Tryd.underlying54
  a46 := Tryd.isAgg54
  z46 := Tryd.sizeOf54
  v46 := Tryd.zeroValue54
  t51 := Tryd.underlying103
  a51 := Tryd.isAgg103
  z51 := Tryd.sizeOf103
  v51 := Tryd.zeroValue103
  t105 := Tryd.underlying78
  a105 := Tryd.isAgg78
  z105 := Tryd.sizeOf78
  v105 := Tryd.zeroValue78
  t119 := Tryd.underlying107
  a119 := Tryd.isAgg107
  z119 := Tryd.sizeOf107
  t138 := Tryd.underlying109
  a138 := Tryd.isAgg109
  z138 := Tryd.sizeOf109
  v138 := Tryd.zeroValue109
  t139 := Tryd.underlying110
  a139 := Tryd.isAgg110
  z139 := Tryd.sizeOf110
  v139 := Tryd.zeroValue110
  t146 := Tryd.underlying104
  a146 := Tryd.isAgg104
  z146 := Tryd.sizeOf104
  v146 := Tryd.zeroValue104
  g1 := by kernel_rfl
  g3 := by kernel_rfl
  g4 := by kernel_rfl }
open Go.RowKit Go.Lib in
theorem Tryd.strings_genSplit (s sep : ByteArray) (sv : Nat) (n : Int) (N : Nat) (m : Int) (w : World) (hs : s.size < 4294967281) (hm : w.cell? ⟨0, 0, none⟩ = some (.int .i64 m)) (h1 : 1 ≤ sep.size) (hsv : sv ≤ sep.size) (hn0 : n ≠ 0) (hn63 : n ≤ 9223372036854775807) (hN : (N : Int) = min (if n < 0 then (Lib.countB s sep : Int) + 1 else n) ((s.size : Int) + 1)) :
    Calls Tryd.prog 79 #[.string s, .string sep, .int .i64 sv, .int .i64 n] w fun e w' =>
      e = .returned (.slice (some ⟨w.heap.size, 0, none⟩) (Lib.splitB sep sv (N - 1) s).length N) ∧ w' = w.alloc (.cells (Lib.cellsOf (Lib.splitB sep sv (N - 1) s) N) 9) := Any.strings_genSplit Tryd.lays221 (by kernel_rfl) s sep sv n N m w hs hm h1 hsv hn0 hn63 hN
def Tryd.lays146_ren : Go.Shelf.Ren := ⟨fun | 146 => 70 | 221 => 79 | 268 => 82 | 138 => 83 | 143 => 73 | 195 => 84 | 197 => 68 | 218 => 85 | 219 => 60 | 260 => 78 | 217 => 49 | 225 => 74 | 224 => 75 | 267 => 76 | 266 => 61 | 314 => 80 | n => n, fun | 9 => 9 | 31 => 61 | 3 => 3 | 4 => 4 | 0 => 0 | 105 => 78 | 21 => 21 | 5 => 5 | 46 => 54 | 119 => 107 | 139 => 110 | 138 => 109 | 146 => 104 | 51 => 103 | n => n, fun | 1 => 0 | 3 => 1 | 4 => 2 | n => n⟩
theorem Tryd.lays146 : Go.Proofs.Lays.n146 Tryd.prog Tryd.lays146_ren := {
  mixed := by kernel_rfl
  f138 := Tryd.func83.trans (congrArg some (by kernel_rfl))
  f143 := Tryd.func73.trans (congrArg some (by kernel_rfl))
  f146 := Tryd.func70.trans (congrArg some (by kernel_rfl))
  f195 := Tryd.func84.trans (congrArg some (by kernel_rfl))
  f197 := Tryd.func68.trans (congrArg some (by kernel_rfl))
  f217 := Tryd.func49.trans (congrArg some (by kernel_rfl))
  f218 := Tryd.func85.trans (congrArg some (by kernel_rfl))
  f219 := Tryd.func60.trans (congrArg some (by kernel_rfl))
  f221 := Tryd.func79.trans (congrArg some (by kernel_rfl))
  f224 := Tryd.func75.trans (congrArg some (by kernel_rfl))
  f225 := Tryd.func74.trans (congrArg some (by kernel_rfl))
  f260 := Tryd.func78.trans (congrArg some (by kernel_rfl))
  f266 := Tryd.func61.trans (congrArg some (by kernel_rfl))
  f267 := Tryd.func76.trans (congrArg some (by kernel_rfl))
  f268 := Tryd.func82.trans (congrArg some (by kernel_rfl))
  f314 := Tryd.func80.trans (congrArg some (by kernel_rfl))
  t0 := Tryd.underlying0
  a0 := Tryd.isAgg0
  z0 := Tryd.sizeOf0
  v0 := Tryd.zeroValue0
  t3 := Tryd.underlying3
  a3 := Tryd.isAgg3
  z3 := Tryd.sizeOf3
  v3 := Tryd.zeroValue3
  t4 := Tryd.underlying4
  a4 := Tryd.isAgg4
  z4 := Tryd.sizeOf4
  v4 := Tryd.zeroValue4
  t5 := Tryd.underlying5
  a5 := Tryd.isAgg5
  z5 := Tryd.sizeOf5
  v5 := Tryd.zeroValue5
  t9 := Tryd.underlying9
  a9 := Tryd.isAgg9
  z9 := Tryd.sizeOf9
  v9 := Tryd.zeroValue9
  t21 := Tryd.underlying21
  a21 := Tryd.isAgg21
  z21 := Tryd.sizeOf21
  v21 := Tryd.zeroValue21
  t31 := Tryd.underlying61
  a31 := Tryd.isAgg61
  z31 := Tryd.sizeOf61
  v31 := Tryd.zeroValue61
  t46 := Tryd.underlying54
  a46 := Tryd.isAgg54
  z46 := Tryd.sizeOf54
  v46 := Tryd.zeroValue54
  t51 := Tryd.underlying103
  a51 := Tryd.isAgg103
  z51 := Tryd.sizeOf103
  v51 := Tryd.zeroValue103
  t105 := Tryd.underlying78
  a105 := Tryd.isAgg78
  z105 := Tryd.sizeOf78
  v105 := Tryd.zeroValue78
  t119 := Tryd.underlying107
  a119 := Tryd.isAgg107
  z119 := Tryd.sizeOf107
  t138 := Tryd.underlying109
  a138 := Tryd.isAgg109
  z138 := Tryd.sizeOf109
  v138 := Tryd.zeroValue109
  t139 := Tryd.underlying110
  a139 := Tryd.isAgg110
  z139 := Tryd.sizeOf110
  v139 := Tryd.zeroValue110
  t146 := Tryd.underlying104
  a146 := Tryd.isAgg104
  z146 := Tryd.sizeOf104
  v146 := Tryd.zeroValue104
  g1 := by kernel_rfl
  g3 := by kernel_rfl
  g4 := by kernel_rfl }
open Go.RowKit Go.Lib in
/-- strings.Split. (LAID: no walk: one application.) -/
theorem Tryd.strings_Split (s sep : ByteArray) (m : Int) (w : World) (hs : s.size < 4294967281) (hm : w.cell? ⟨0, 0, none⟩ = some (.int .i64 m)) (h1 : 1 ≤ sep.size) :
    Calls Tryd.prog 70 #[.string s, .string sep] w fun e w' =>
      e = .returned (.slice (some ⟨w.heap.size, 0, none⟩) (Lib.countB s sep + 1) (Lib.countB s sep + 1)) ∧ w' = w.alloc (.cells ((Lib.splitB sep 0 (Lib.countB s sep) s).map Value.string).toArray 9) := Any.strings_Split Tryd.lays146 (by kernel_rfl) s sep m w hs hm h1
def Tryd.lays271_ren : Go.Shelf.Ren := ⟨fun | 271 => 52 | 120 => 67 | 197 => 68 | 260 => 78 | n => n, fun | 9 => 9 | 21 => 21 | 3 => 3 | 4 => 4 | 5 => 5 | 105 => 78 | 119 => 107 | 0 => 0 | 46 => 54 | 139 => 110 | 138 => 109 | n => n, fun | 3 => 1 | 4 => 2 | n => n⟩
theorem Tryd.lays271 : Go.Proofs.Lays.n271 Tryd.prog Tryd.lays271_ren := {
  mixed := by kernel_rfl
  f120 := Tryd.func67.trans (congrArg some (by kernel_rfl))
  f197 := Tryd.func68.trans (congrArg some (by kernel_rfl))
  f260 := Tryd.func78.trans (congrArg some (by kernel_rfl))
  f271 := Tryd.func52.trans (congrArg some (by kernel_rfl))
  t0 := Tryd.underlying0
  a0 := Tryd.isAgg0
  z0 := Tryd.sizeOf0
  v0 := Tryd.zeroValue0
  t3 := Tryd.underlying3
  a3 := Tryd.isAgg3
  z3 := Tryd.sizeOf3
  v3 := Tryd.zeroValue3
  t4 := Tryd.underlying4
  a4 := Tryd.isAgg4
  z4 := Tryd.sizeOf4
  v4 := Tryd.zeroValue4
  t5 := Tryd.underlying5
  a5 := Tryd.isAgg5
  z5 := Tryd.sizeOf5
  v5 := Tryd.zeroValue5
  t9 := Tryd.underlying9
  a9 := Tryd.isAgg9
  z9 := Tryd.sizeOf9
  v9 := Tryd.zeroValue9
  t21 := Tryd.underlying21
  a21 := Tryd.isAgg21
  z21 := Tryd.sizeOf21
  v21 := Tryd.zeroValue21
  t46 := Tryd.underlying54
  a46 := Tryd.isAgg54
  z46 := Tryd.sizeOf54
  v46 := Tryd.zeroValue54
  t105 := Tryd.underlying78
  a105 := Tryd.isAgg78
  z105 := Tryd.sizeOf78
  v105 := Tryd.zeroValue78
  t119 := Tryd.underlying107
  a119 := Tryd.isAgg107
  z119 := Tryd.sizeOf107
  t138 := Tryd.underlying109
  a138 := Tryd.isAgg109
  z138 := Tryd.sizeOf109
  v138 := Tryd.zeroValue109
  t139 := Tryd.underlying110
  a139 := Tryd.isAgg110
  z139 := Tryd.sizeOf110
  v139 := Tryd.zeroValue110
  g3 := by kernel_rfl
  g4 := by kernel_rfl }
open Go.RowKit Go.Lib in
/-- **unicode/utf8.DecodeLastRuneInString AT EVERY STRING.** (LAID: no walk: one application.) -/
theorem Tryd.utf8_DecodeLastRuneInString (s : ByteArray) (w : World) (hs : s.size ≤ 9223372036854775807) (hT : Lib.Utf8Tabs 1 2 w) :
    Calls Tryd.prog 52 #[.string s] w fun e w' => e = .returned (.tuple #[.int .i32 (Lib.decodeLastL s.data.toList).1, .int .i64 (Lib.decodeLastL s.data.toList).2]) ∧ Below w.heap.size w w' := Any.utf8_DecodeLastRuneInString Tryd.lays271 s w hs hT
end Go.Proofs

/- The shelf's three contracts. -/
namespace Go.Pv
set_option linter.unusedVariables false
set_option maxRecDepth 100000
open Go Go.Proofs

/-- What the package variables hold. -/
def gI (w : World) : Prop := (∃ m, w.cell? ⟨0, 0, none⟩ = some (.int .i64 m)) ∧ Lib.Utf8Tabs 1 2 w
theorem cell_heap {w w' : World} {b : Nat} (h : w'.heap[b]? = w.heap[b]?) (off : Nat) : w'.cell? ⟨b, off, none⟩ = w.cell? ⟨b, off, none⟩ := by
  unfold World.cell?
  rw [h]
theorem og : OnGlobals gI 3 := fun w w' h hI => by
  obtain ⟨⟨m, hm⟩, h1, h2⟩ := hI
  refine ⟨⟨m, ?_⟩, fun c hc => ?_, fun i hi => ?_⟩
  · rw [cell_heap (h 0 (by decide))]; exact hm
  · rw [cell_heap (h 1 (by decide))]; exact h1 c hc
  · rw [cell_heap (h 2 (by decide)), cell_heap (h 2 (by decide))]; exact h2 i hi
theorem str2 {S : St} {a b : ByteArray} {vals : Array Value} (h : All2 (Vc S) [.str a, .str b] vals.toList) : vals = #[.string a, .string b] := by
  obtain ⟨l⟩ := vals
  cases h with
  | cons h1 h2 =>
    cases h1
    cases h2 with
    | cons h3 h4 => cases h3; cases h4; rfl
theorem str1 {S : St} {a : ByteArray} {vals : Array Value} (h : All2 (Vc S) [.str a] vals.toList) : vals = #[.string a] := by
  obtain ⟨l⟩ := vals
  cases h with
  | cons h1 h2 => cases h1; cases h2; rfl
theorem fl1 (L : List ByteArray) : elemCells (L.map CV.str) = L.map CV.str := by
  induction L with
  | nil => rfl
  | cons a L ih =>
    show _ :: elemCells (L.map CV.str) = _
    rw [ih]
    rfl
theorem all_str (S : St) : ∀ L : List ByteArray, All2 (Vc S) (L.map CV.str) (L.map Value.string)
  | [] => .nil
  | a :: L => .cons (.str a) (all_str S L)
theorem h70 : Cw gI 3 70 L70 := contract_new og fun cargs rv outs h => by
  unfold L70 at h
  split at h <;> first | (cases h; done) | skip
  rename_i s c
  by_cases hs : s.size ≤ 10000
  · simp only [picked, pickAlt, decide_eq_true hs] at h
    cases h
    refine ⟨rfl, rfl, fun S vals ok hI hv => ?_⟩
    have hv' := str2 hv
    subst hv'
    obtain ⟨⟨m, hm⟩, hT⟩ := hI
    refine (Tryd.strings_Split s ⟨#[c]⟩ m S.w (by omega) hm (Nat.le_refl _)).mono ?_
    rintro e w' ⟨rfl, rfl⟩
    refine ⟨_, rfl, ?_, fun S' hw hι hF => ?_⟩
    · exact RowKit.Below.alloc (RowKit.Below.refl _ _) (Nat.le_refl _) _
    · have hl : (Lib.splitB ⟨#[c]⟩ 0 (Lib.countB s ⟨#[c]⟩) s).length = Lib.countB s ⟨#[c]⟩ + 1 := Lib.splitB_all _ (Nat.le_refl _) 0 _ _ rfl
      have hx : spS s c = (Lib.splitB ⟨#[c]⟩ 0 (Lib.countB s ⟨#[c]⟩) s).map CV.str := by
        unfold spS
        rw [← split_eq]
        have := Lib.splitB_data ⟨#[c]⟩ 0 (Lib.countB s ⟨#[c]⟩) s
        have e : Lib.splitK [c] 0 (Lib.count s.data.toList [c]) s.data.toList = (Lib.splitB ⟨#[c]⟩ 0 (Lib.countB s ⟨#[c]⟩) s).map (·.data.toList) := this.symm
        rw [e, List.map_map]
        refine List.map_congr_left fun b _ => ?_
        show CV.str (mkS b.data.toList) = CV.str b
        rw [mkS_bl]
      rw [hx]
      generalize Lib.splitB ⟨#[c]⟩ 0 (Lib.countB s ⟨#[c]⟩) s = L at hl hw ⊢
      rw [← hl]
      have hlen : L.length = (L.map CV.str).length := (List.length_map ..).symm
      refine .res (.val (.cell (.data ?_)))
      have key := Vc.sl (S := S') false 1 (L.map CV.str) ⟨S.w.heap.size, 0, none⟩ L.length (L.map Value.string) (fun e he => ?_) ?_ ?_ (by rw [List.length_map]; exact Nat.le_refl _) (fun h => by cases h)
      · rw [List.length_map] at key
        exact key
      · obtain ⟨b, _, rfl⟩ := List.mem_map.1 he
        rfl
      · rw [fl1]; exact all_str S' L
      · intro j v hj
        have hv1 : v.oneCell' = true := by
          rw [List.getElem?_map] at hj
          cases hL : L[j]? with
          | none => rw [hL] at hj; cases hj
          | some b => rw [hL] at hj; cases hj; rfl
        refine ⟨rfl, ⟨fun hf => Nat.lt_irrefl _ (hF _ _ hf), fun r hr => ?_⟩, ?_, hv1⟩
        · rw [hι r] at hr; cases hr
        · rw [hw]
          unfold World.cell? World.alloc
          simp
          simpa using hj
  · simp only [picked, pickAlt, decide_eq_false hs] at h; cases h
theorem h28 : Cw gI 3 28 L28d := contract_new og fun cargs rv outs h => by
  unfold L28d at h
  split at h <;> first | (cases h; done) | skip
  rename_i s
  by_cases hs : s.size ≤ 10000
  · simp only [picked, pickAlt, decide_eq_true hs] at h
    cases h
    refine ⟨rfl, rfl, fun S vals ok hI hv => ?_⟩
    have hv' := str2 hv
    subst hv'
    obtain ⟨⟨m, hm⟩, hT⟩ := hI
    refine (Tryd.strings_Cut s ⟨#[58, 58]⟩ m S.w (by omega) hm).mono ?_
    rintro e w' ⟨rfl, n, rfl⟩
    refine ⟨_, rfl, ⟨rfl, rfl, rfl, Nat.le_refl _, fun _ _ => rfl⟩, fun S' hw hι hF => ?_⟩
    have hc : Lib.cut s.data.toList [58, 58] = ((ddH s).data.toList, (ddT s).data.toList, ddG s) := by
      rw [cut_eq2]
      unfold ddH ddT ddG
      cases cutDD s.data.toList with
      | none => rfl
      | some x => rfl
    show AllR S' _ (.tuple #[.string ⟨(Lib.cut s.data.toList [58, 58]).1.toArray⟩, .string ⟨(Lib.cut s.data.toList [58, 58]).2.1.toArray⟩, .bool (Lib.cut s.data.toList [58, 58]).2.2]) []
    rw [hc]
    have e : ∀ x : ByteArray, (⟨x.data.toList.toArray⟩ : ByteArray) = x := fun x => by cases x; simp
    simp only [e]
    exact .tup (tup_data (.cons (.str _) (.cons (.str _) (.cons (.bool _) .nil))))
  · simp only [picked, pickAlt, decide_eq_false hs] at h; cases h
theorem h52 : Cw gI 3 52 L52 := contract_new og fun cargs rv outs h => by
  unfold L52 at h
  split at h <;> first | (cases h; done) | skip
  rename_i s
  by_cases hs : s.size ≤ 10000
  · simp only [picked, pickAlt, decide_eq_true hs] at h
    cases h
    refine ⟨rfl, rfl, fun S vals ok hI hv => ?_⟩
    have hv' := str1 hv
    subst hv'
    refine (Tryd.utf8_DecodeLastRuneInString s S.w (by omega) hI.2).mono ?_
    rintro e w' ⟨rfl, B⟩
    exact ⟨_, rfl, B, fun S' hw hι hF => .tup (tup_data (.cons (.int _ _) (.cons (.int _ _) .nil)))⟩
  · simp only [picked, pickAlt, decide_eq_false hs] at h; cases h

end Go.Pv
