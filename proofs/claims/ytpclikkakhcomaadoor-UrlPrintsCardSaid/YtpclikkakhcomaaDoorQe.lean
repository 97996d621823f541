/- Addresses: the document's Parse, walked. -/
import Derived.Test.YtpclikkakhcomaaDoorQd
import Derived.Test.YtpclikkakhcomaaDoorQc

namespace Go.Pv
set_option linter.unusedVariables false
set_option maxRecDepth 100000
set_option maxHeartbeats 400000
open Go Go.Proofs
variable {I : World → Prop} {ng : Nat}

theorem ei_get (x : Int) : (CV.int .i64 x).cl.getD 0 CV.nilptr = CV.int .i64 x := by cases x <;> rfl
theorem ei_len (x : Int) : (CV.int .i64 x).cl.length = 1 := by cases x <;> rfl
theorem ei_okc (z x : Int) : okc (CV.int .i64 z) (CV.int .i64 x) = true := by cases x <;> rfl
theorem ei_int (x : Int) : (CV.int .i64 x).toInt = x := by cases x <;> rfl
theorem gs_get (g : List Int) (k : Nat) (h : k < g.length) : (g.map intCV).getD k CV.nilptr = CV.int .i64 (g.getD k 0) := by
  simp [List.getD_eq_getElem?_getD, h, intCV]
theorem gs_drop {g : List Int} {k : Nat} (h : k < g.length) : g.drop k = g.getD k 0 :: g.drop (k + 1) := by
  rw [List.drop_eq_getElem_cons h]
  simp [List.getD_eq_getElem?_getD, h]
theorem gs_mem {g : List Int} {k : Nat} (h : k < g.length) : g.getD k 0 ∈ g := by
  simp [List.getD_eq_getElem?_getD, h]
def cntP (g : List Int) : Nat := g.foldr (fun x n => if x < 0 then n else n + 1) 0
def negP (g : List Int) : Bool := g.any fun x => decide (x < 0)
theorem cntP_le : ∀ g : List Int, cntP g ≤ g.length
  | [] => Nat.le_refl _
  | x :: g => by
    have := cntP_le g
    show (if x < 0 then cntP g else cntP g + 1) ≤ _
    simp only [List.length_cons]
    split <;> omega
noncomputable abbrev R51 (n j : Nat) (L : Env → Hp → Res) (env : Env) (H : Hp) : Res := rounds Tryd.prog (call' B65) (filt an51 0) n hL51a (bodyN 0 q51) j env H (restN Tryd.prog (call' B65) (filt an51 0) n 0 q51 (thenK (headK h51b L) (endOf Tryd.prog 51 [])))
theorem lo51 (n : Nat) (g : List Int) (hl : g.length ≤ 40000) (L : Env → Hp → Res) : ∀ (j k m : Nat) (gap : Bool), g.length < j + k → k ≤ g.length → m ≤ k →
    R51 n j L (mkEnv 97 [(2, .bptr 0 0), (5, .rw 1 0), (7, .c (.int .i64 (m : Int))), (8, .c (.bool gap)), (9, .c (.int .i64 (k : Int)))]) [zIp, .row (g.map intCV) 1 0 false] =
      L (mkEnv 97 [(2, .bptr 0 0), (5, .rw 1 0), (7, .c (.int .i64 ((m + cntP (g.drop k) : Nat) : Int))), (8, .c (.bool (gap || negP (g.drop k))))]) [zIp, .row (g.map intCV) 1 0 false]
  | 0, k, m, gap, hj, hk, hm => by omega
  | j + 1, k, m, gap, hj, hk, hm => by
    unfold R51
    rw [rounds_succ, ic51]
    simp only [natM, List.length_map]
    by_cases h1 : k < g.length
    · have hp := gs_get g k h1
      simp only [hp, ei_get, ei_len, ei_okc, ei_int]
      rw [decide_eq_true (show (k : Int) < ((g.length : Nat) : Int) by omega), decide_eq_true (show (0 : Int) ≤ (k : Int) by omega), decide_eq_true h1, decide_eq_true (show 0 < 1 by omega), wrp1 (i := k) (by omega), wrp1 (i := m) (by omega), gs_drop h1]
      simp only [bT]
      generalize g.getD k 0 = x
      have e1 : cntP (x :: g.drop (k + 1)) = if x < 0 then cntP (g.drop (k + 1)) else cntP (g.drop (k + 1)) + 1 := rfl
      have e2 : negP (x :: g.drop (k + 1)) = (decide (x < 0) || negP (g.drop (k + 1))) := rfl
      rw [e1, e2]
      by_cases hx : x < 0
      · rw [decide_eq_true hx, bT, if_pos hx]
        refine Eq.trans (lo51 n g hl L j (k + 1) m true (by omega) (by omega) (by omega)) ?_
        rw [Bool.true_or, Bool.or_true]
      · rw [decide_eq_false hx, bF, if_neg hx]
        refine Eq.trans (lo51 n g hl L j (k + 1) (m + 1) gap (by omega) (by omega) (by omega)) ?_
        rw [Bool.false_or, show m + 1 + cntP (g.drop (k + 1)) = m + (cntP (g.drop (k + 1)) + 1) by omega]
    · rw [decide_eq_false (show ¬ (k : Int) < ((g.length : Nat) : Int) by omega), bF, List.drop_of_length_le (by omega)]
      have e1 : cntP [] = 0 := rfl
      have e2 : negP [] = false := rfl
      rw [e1, e2, Bool.or_false, Nat.add_zero]
      rfl

/-! ### Its bytes -/
def gBy (m : Nat) (x : Int) : List Nat := if x < 0 then List.replicate (2 * (8 - m)) 0 else [x.toNat / 256, x.toNat % 256]
def refB (m : Nat) (g : List Int) : List Nat := g.flatMap (gBy m)
theorem refB_c (m : Nat) (x : Int) (g : List Int) : refB m (x :: g) = gBy m x ++ refB m g := by unfold refB; rw [List.flatMap_cons]
noncomputable abbrev S51 (n j : Nat) (env : Env) (H : Hp) : Res := rounds Tryd.prog (call' B65) (filt an51 0) n hL51b (bodyN 0 (tailC 9 c51)) j env H (restN Tryd.prog (call' B65) (filt an51 0) n 0 (tailC 9 c51) (endOf Tryd.prog 51 []))
theorem set_two (A : List CV) (m : Nat) (b z x y : CV) : setRange (setRange (b :: (A ++ List.replicate (m + 2) z)) (1 + A.length) [x]) (1 + (A.length + 1)) [y] = b :: (A ++ [x, y] ++ List.replicate m z) := by
  have e1 : b :: (A ++ List.replicate (m + 2) z) = (b :: A) ++ List.replicate (m + 1 + 1) z := rfl
  have e2 : 1 + A.length = (b :: A).length := by simp; omega
  rw [e1, e2, set_pad]
  have e3 : 1 + (A.length + 1) = (b :: A ++ [x]).length := by simp; omega
  rw [e3, set_pad]
  simp
def cs51 (dn : List Nat) : List CV := .bool true :: (dn.map byCV ++ List.replicate (16 - dn.length) (CV.int .u8 (Int.ofNat 0)))
theorem lo51b (n : Nat) (g : List Int) (m : Nat) (hm : m ≤ 8) (hl : g.length ≤ 40000) (hb : ∀ x ∈ g, x < 65536) : ∀ (j k : Nat) (dn : List Nat), g.length < j + k → k ≤ g.length → dn.length + (refB m (g.drop k)).length ≤ 16 →
    S51 n j (mkEnv 97 [(2, .bptr 0 0), (5, .rw 3 0), (7, .c (.int .i64 (m : Int))), (10, .bptr 2 0), (11, .c (.int .i64 ((dn.length : Nat) : Int))), (12, .c (.int .i64 (k : Int)))]) [zIp, .dead, .box (.c (.agg (cs51 dn))) kIp, .row (g.map intCV) 1 0 false] =
      some (.tup [.agg (cs51 (dn ++ refB m (g.drop k))), .bool true], [])
  | 0, k, dn, hj, hk, hd => by omega
  | j + 1, k, dn, hj, hk, hd => by
    have hcl : ∀ l : List CV, (CV.agg l).cl = l := fun _ => rfl
    have hcs : (cs51 dn).length = 17 := by unfold cs51; simp; omega
    unfold S51
    rw [rounds_succ, id51]
    simp only [natM, List.length_map, hcl, hcs]
    by_cases h1 : k < g.length
    · have hp := gs_get g k h1
      simp only [hp, ei_get, ei_len, ei_okc, ei_int]
      have hxb := hb _ (gs_mem h1)
      rw [decide_eq_true (show (k : Int) < ((g.length : Nat) : Int) by omega), decide_eq_true (show (0 : Int) ≤ (k : Int) by omega), decide_eq_true h1, decide_eq_true (show 0 < 1 by omega), wrp1 (i := k) (by omega), wrp1 (i := dn.length) (by omega)]
      rw [gs_drop h1, refB_c] at hd ⊢
      generalize g.getD k 0 = x at *
      by_cases hx : x < 0
      · have e1 : gBy m x = List.replicate (2 * (8 - m)) 0 := by unfold gBy; rw [if_pos hx]
        rw [e1, List.length_append, List.length_replicate] at hd
        simp only [bT]
        rw [decide_eq_true hx, bT, e1]
        have w1 : IntKind.i64.wrap (8 - (m : Int)) = ((8 - m : Nat) : Int) := by rw [wrap_id (by omega) (by omega)]; omega
        have w2 : IntKind.i64.wrap (2 * ((8 - m : Nat) : Int)) = ((2 * (8 - m) : Nat) : Int) := by rw [wrap_id (by omega) (by omega)]; omega
        have w3 : IntKind.i64.wrap (((dn.length : Nat) : Int) + ((2 * (8 - m) : Nat) : Int)) = ((dn.length + 2 * (8 - m) : Nat) : Int) := by rw [wrap_id (by omega) (by omega)]; omega
        rw [w1, w2, w3]
        have ih := lo51b n g m hm hl hb j (k + 1) (dn ++ List.replicate (2 * (8 - m)) 0) (by omega) (by omega) (by rw [List.length_append, List.length_replicate]; omega)
        have e2 : cs51 (dn ++ List.replicate (2 * (8 - m)) 0) = cs51 dn := by
          unfold cs51
          have e0 : byCV 0 = CV.int .u8 (Int.ofNat 0) := rfl
          rw [List.map_append, List.map_replicate, e0, List.append_assoc, List.replicate_append_replicate, List.length_append, List.length_replicate]
          congr 3; omega
        rw [e2, List.length_append, List.length_replicate, List.append_assoc] at ih
        exact ih
      · have e1 : gBy m x = [x.toNat / 256, x.toNat % 256] := by unfold gBy; rw [if_neg hx]
        rw [e1, List.length_append] at hd
        simp only [List.length_cons, List.length_nil] at hd
        rw [e1]
        simp only [natM]
        rw [decide_eq_true (show (0 : Int) ≤ ((dn.length : Nat) : Int) by omega), decide_eq_true (show ((dn.length : Nat) : Int) < (16 : Int) by omega), decide_eq_true (show 1 + dn.length * 1 + 1 ≤ 17 by omega), decide_eq_true (show (0 : Int) ≤ ((dn.length + 1 : Nat) : Int) by omega), decide_eq_true (show ((dn.length + 1 : Nat) : Int) < (16 : Int) by omega), decide_eq_true (show 1 + (dn.length + 1) * 1 + 1 ≤ 17 by omega)]
        simp only [bT]
        rw [decide_eq_false hx, bF]
        have w3 : IntKind.i64.wrap (((dn.length : Nat) : Int) + 2) = ((dn.length + 2 : Nat) : Int) := wrp (k := 2) (by omega) (by omega)
        have d1 : x.tdiv 256 = ((x.toNat / 256 : Nat) : Int) := by rw [Int.tdiv_eq_ediv_of_nonneg (by omega)]; omega
        have d2 : x.tmod 256 = ((x.toNat % 256 : Nat) : Int) := by rw [Int.tmod_eq_emod_of_nonneg (by omega)]; omega
        have w4 : IntKind.u8.wrap (IntKind.i64.wrap ((x.toNat / 256 : Nat) : Int)) = ((x.toNat / 256 : Nat) : Int) := by rw [wrap_id (by omega) (by omega), wrap8]; omega
        have w5 : IntKind.u8.wrap ((x.toNat % 256 : Nat) : Int) = ((x.toNat % 256 : Nat) : Int) := by rw [wrap8]; omega
        rw [w3, d1, d2, w4, w5]
        have e3 : ∀ y : Nat, (CV.int IntKind.u8 (y : Int)).cl = [byCV y] := fun _ => rfl
        have ih := lo51b n g m hm hl hb j (k + 1) (dn ++ [x.toNat / 256, x.toNat % 256]) (by omega) (by omega) (by rw [List.length_append]; simp only [List.length_cons, List.length_nil]; omega)
        have e2 : setRange (setRange (cs51 dn) (1 + dn.length * 1) (CV.int IntKind.u8 ((x.toNat / 256 : Nat) : Int)).cl) (1 + (dn.length + 1) * 1) (CV.int IntKind.u8 ((x.toNat % 256 : Nat) : Int)).cl = cs51 (dn ++ [x.toNat / 256, x.toNat % 256]) := by
          rw [e3, e3, Nat.mul_one, Nat.mul_one]
          unfold cs51
          have e4 : 16 - dn.length = (16 - (dn.length + 2)) + 2 := by omega
          have e5 : dn.length = (dn.map byCV).length := by simp
          rw [e4]
          conv => lhs; rw [e5]
          rw [set_two]
          simp
        rw [e2]
        have e6 : (dn ++ [x.toNat / 256, x.toNat % 256]).length = dn.length + 2 := by simp
        rw [e6, List.append_assoc] at ih
        exact ih
    · rw [decide_eq_false (show ¬ (k : Int) < ((g.length : Nat) : Int) by omega), bF, List.drop_of_length_le (by omega)]
      have e1 : refB m [] = [] := rfl
      rw [e1, List.append_nil]
      rfl

/-! ### All of it -/
theorem sp51a : spine 4 c51 = true := by kernel_rfl
theorem ha51a : headAt (filt an51 0) (tailC 4 c51) = some h51a := by kernel_rfl
theorem sp51b : spine 2 (tailC 4 c51) = true := by kernel_rfl
theorem ha51b : headAt (filt an51 0) (tailC 2 (tailC 4 c51)) = some h51b := by kernel_rfl
theorem fo51b : tailC 2 (tailC 4 c51) = tailC 6 c51 := eq_of_heq (heq_of_eq (by kernel_rfl))
theorem sp51c : spine 3 (tailC 6 c51) = true := by kernel_rfl
theorem ha51c : headAt (filt an51 0) (tailC 3 (tailC 6 c51)) = some h51c := by kernel_rfl
theorem fo51c : tailC 3 (tailC 6 c51) = tailC 9 c51 := eq_of_heq (heq_of_eq (by kernel_rfl))
theorem lp51a : startsR q51 = true := by kernel_rfl
theorem id51a : idsOk q51 = true := by kernel_rfl
theorem nl51a : nLoops q51 = 1 := by kernel_rfl
theorem hh51a : (firstRegion (bodyN 0 q51)).bind (filt an51 0) = some hL51a := by kernel_rfl
theorem lp51b : startsR (tailC 9 c51) = true := by kernel_rfl
theorem id51b : idsOk (tailC 9 c51) = true := by kernel_rfl
theorem nl51b : nLoops (tailC 9 c51) = 1 := by kernel_rfl
theorem hh51b : (firstRegion (bodyN 0 (tailC 9 c51))).bind (filt an51 0) = some hL51b := by kernel_rfl
def bad51 : Res := some (.tup [ipZero, .bool false], [])
def fin51 (g : List Int) : Res := if cntP g > 8 ∨ (negP g = false ∧ cntP g ≠ 8) then bad51 else some (.tup [.agg (cs51 (refB (cntP g) g)), .bool true], [])
theorem w51 (g : List Int) (n : Nat) (hn : 50000 ≤ n) (hl : g.length ≤ 40000) (hb : ∀ x ∈ g, x < 65536) (hsz : cntP g ≤ 8 → (refB (cntP g) g).length ≤ 16) :
    aexecB Tryd.prog (call' B65) (filt an51 0) n (tailC 4 c51) (mkEnv 97 [(2, .bptr 0 0), (5, .rw 1 0)]) [zIp, .row (g.map intCV) 1 0 false] (endOf Tryd.prog 51 []) = fin51 g := by
  rw [seg_b (k := 2) (by decide) sp51b ha51b]
  show aexecB Tryd.prog (call' B65) (filt an51 0) n q51 _ _ _ = _
  rw [loopB' lp51a id51a nl51a hh51a]
  refine (iq51 (g.map intCV) n _ (R51 n n _)).trans ?_
  refine (lo51 n g hl _ n 0 0 false (by omega) (by omega) (by omega)).trans ?_
  rw [List.drop_zero, Nat.zero_add, Bool.false_or, fo51b]
  rw [seg_b (k := 3) (by decide) sp51c ha51c]
  refine (ir51 (g.map intCV) ((cntP g : Nat) : Int) (negP g) n _).trans ?_
  rw [fo51c]
  have key : cntP g ≤ 8 → aexecB Tryd.prog (call' B65) (filt an51 0) n (tailC 9 c51) (mkEnv 97 [(2, .bptr 0 0), (5, .rw 3 0), (7, .c (.int .i64 ((cntP g : Nat) : Int))), (10, .bptr 2 0), (11, .c (.int .i64 (((0 : Nat)) : Int)))]) [zIp, .dead, .box (.c (.agg (cs51 []))) kIp, .row (g.map intCV) 1 0 false] (endOf Tryd.prog 51 []) = some (.tup [.agg (cs51 (refB (cntP g) g)), .bool true], []) := by
    intro h8
    rw [loopB' lp51b id51b nl51b hh51b]
    refine (is51 (g.map intCV) (cs51 []) ((cntP g : Nat) : Int) ((0 : Nat) : Int) n (S51 n n)).trans ?_
    refine (lo51b n g (cntP g) h8 hl hb n 0 [] (by omega) (by omega) (by have := hsz h8; simpa using this)).trans ?_
    rw [List.drop_zero, List.nil_append]
  unfold fin51
  by_cases h8 : cntP g > 8
  · rw [decide_eq_true (show ((cntP g : Nat) : Int) > 8 by omega), bT, if_pos (.inl h8)]; rfl
  · rw [decide_eq_false (show ¬ ((cntP g : Nat) : Int) > 8 by omega), bF]
    cases hg : negP g with
    | true =>
      have e1 : (!true) = false := rfl
      rw [e1, bF, if_neg (by rintro (h | h)
                             · exact h8 h
                             · cases h.1)]
      exact key (by omega)
    | false =>
      have e1 : (!false) = true := rfl
      rw [e1, bT]
      by_cases h9 : cntP g = 8
      · have c : (((cntP g : Nat) : Int) != 8) = false := by rw [h9]; rfl
        rw [c, bF, if_neg (by rintro (h | h)
                              · exact h8 h
                              · exact h.2 h9)]
        exact key (by omega)
      · have c : (((cntP g : Nat) : Int) != 8) = true := by rw [bne_iff_ne]; omega
        rw [c, bT, if_pos (.inr ⟨rfl, h9⟩)]; rfl

end Go.Pv

/- Addresses: both ways of reading one are one: plain laws. -/
namespace Go.Pv
set_option linter.unusedVariables false
set_option maxRecDepth 100000
set_option maxHeartbeats 400000
open Go Go.Proofs

abbrev okG (g : List Int) : Prop := ∀ x ∈ g, 0 ≤ x ∧ x < 65536
theorem gBy_pos (m : Nat) {x : Int} (h : 0 ≤ x) : gBy m x = [x.toNat / 256, x.toNat % 256] := by unfold gBy; rw [if_neg (by omega)]
theorem refB_app (m : Nat) (g h : List Int) : refB m (g ++ h) = refB m g ++ refB m h := by unfold refB; rw [List.flatMap_append]
theorem refB_len (m : Nat) : ∀ g : List Int, okG g → (refB m g).length = 2 * g.length
  | [], _ => rfl
  | x :: g, h => by
    rw [refB_c, gBy_pos m (h x (by simp)).1, List.length_append, refB_len m g fun y hy => h y (by simp [hy])]
    simp only [List.length_cons, List.length_nil]; omega
theorem refB_m (m k : Nat) : ∀ g : List Int, okG g → refB m g = refB k g
  | [], _ => rfl
  | x :: g, h => by
    rw [refB_c, refB_c, gBy_pos m (h x (by simp)).1, gBy_pos k (h x (by simp)).1, refB_m m k g fun y hy => h y (by simp [hy])]
theorem cnt_ok : ∀ g : List Int, okG g → cntP g = g.length ∧ negP g = false
  | [], _ => ⟨rfl, rfl⟩
  | x :: g, h => by
    obtain ⟨h1, h2⟩ := cnt_ok g fun y hy => h y (by simp [hy])
    have hx := (h x (by simp)).1
    constructor
    · show (if x < 0 then cntP g else cntP g + 1) = _
      rw [if_neg (by omega), h1]; rfl
    · show (decide (x < 0) || negP g) = false
      rw [h2, decide_eq_false (by omega)]; rfl
theorem cnt_app : ∀ g h : List Int, cntP (g ++ h) = cntP g + cntP h
  | [], h => by show cntP h = 0 + cntP h; omega
  | x :: g, h => by
    have := cnt_app g h
    show (if x < 0 then cntP (g ++ h) else cntP (g ++ h) + 1) = (if x < 0 then cntP g else cntP g + 1) + cntP h
    split <;> omega
theorem neg_app (g h : List Int) : negP (g ++ h) = (negP g || negP h) := by unfold negP; rw [List.any_append]

theorem four_val {p : List UInt8} (h : (fourP (splitL 46 p)).2 = true) (m : Nat) : refB m [f4r (mkS p) / 65536, f4r (mkS p) % 65536] = (fourP (splitL 46 p)).1 ∧ okG [f4r (mkS p) / 65536, f4r (mkS p) % 65536] := by
  have hb := f4r_b (mkS p)
  have e2 : f4 (mkS p) = (fourP (splitL 46 p)).2 := rfl
  rw [e2] at hb
  obtain ⟨v0, v1⟩ := hb.1 h
  have h0 := f4b_lt (mkS p) 0
  have h1 := f4b_lt (mkS p) 1
  have h2 := f4b_lt (mkS p) 2
  have h3 := f4b_lt (mkS p) 3
  have hv : f4r (mkS p) = ((f4b (mkS p) 0 * 256 + f4b (mkS p) 1) * 256 + f4b (mkS p) 2) * 256 + f4b (mkS p) 3 := by unfold f4r; rw [e2, h, if_pos rfl]
  have e4 : ∀ i, f4b (mkS p) i = (((fourP (splitL 46 p)).1.getD i 0 : Nat) : Int) := fun _ => rfl
  have hl := four4 h
  rw [e4] at h0 h1 h2 h3
  rw [e4, e4, e4, e4] at hv
  constructor
  · rw [refB_c, refB_c, gBy_pos m (by omega), gBy_pos m (by omega)]
    generalize (fourP (splitL 46 p)).1 = r at *
    match r, hl with
    | [a, b, c, d], _ =>
      simp only [List.getD_cons_zero, List.getD_cons_succ] at *
      have x1 : (f4r (mkS p) / 65536).toNat / 256 = a := by omega
      have x2 : (f4r (mkS p) / 65536).toNat % 256 = b := by omega
      have x3 : (f4r (mkS p) % 65536).toNat / 256 = c := by omega
      have x4 : (f4r (mkS p) % 65536).toNat % 256 = d := by omega
      rw [x1, x2, x3, x4]
      rfl
  · intro x hx
    simp only [List.mem_cons, List.not_mem_nil, or_false] at hx
    rcases hx with rfl | rfl <;> omega
theorem num_val {p : List UInt8} (h : numOk 16 p = true) (hl : p.length ≤ 4) : grpOk p = true := by
  unfold grpOk
  rw [h, decide_eq_true (num16 h hl), decide_eq_true hl]; rfl
theorem grp_num {p : List UInt8} (h : grpOk p = true) : numOk 16 p = true ∧ p.length ≤ 4 := by
  unfold grpOk at h
  simp only [Bool.and_eq_true, decide_eq_true_eq] at h
  exact ⟨h.1, h.2.2⟩

/-! ### The groups behind all gaps -/
theorem ref_tail (all : List (List UInt8)) : ∀ (qs : List (List UInt8)) (i : Nat) (gap : Bool), [] ∉ qs →
    (refG all i gap qs = none ∧ grL true qs = none) ∨ ∃ g, refG all i gap qs = some g ∧ okG g ∧ grL true qs = some (refB 0 g)
  | [], i, gap, h => .inr ⟨[], by unfold refG; rfl, (by intro x hx; cases hx), by unfold grL; rfl⟩
  | p :: ps, i, gap, h => by
    have hp : p ≠ [] := fun e => h (by simp [e])
    have ih := ref_tail all ps (i + 1) gap fun hm => h (by simp [hm])
    rw [refG_n _ _ _ _ hp]
    by_cases h4 : (fourP (splitL 46 p)).2 = true ∧ ps = []
    · rw [if_pos h4]
      obtain ⟨q1, q2⟩ := four_val h4.1 0
      refine .inr ⟨_, rfl, q2, ?_⟩
      rw [q1]
      unfold grL
      rw [h4.1, h4.2]; rfl
    · rw [if_neg h4]
      have e : grL true (p :: ps) = if grpOk p then (match grL true ps with
          | some r => some (numL 16 p / 256 :: numL 16 p % 256 :: r)
          | none => none) else none := by
        conv => lhs; unfold grL
        rw [if_neg]
        · cases grL true ps <;> rfl
        · intro hc
          simp only [Bool.and_eq_true, Bool.true_and] at hc
          exact h4 ⟨hc.2, List.isEmpty_iff.1 hc.1⟩
      rw [e]
      by_cases hn : numOk 16 p = true ∧ p.length ≤ 4
      · rw [if_pos hn, if_pos (num_val hn.1 hn.2)]
        rcases ih with ⟨i1, i2⟩ | ⟨g, i1, i2, i3⟩
        · rw [i1, i2]; exact .inl ⟨rfl, rfl⟩
        · rw [i1, i3]
          have hlt := num16 hn.1 hn.2
          refine .inr ⟨_, rfl, ?_, ?_⟩
          · intro x hx
            rcases List.mem_cons.1 hx with rfl | hx
            · omega
            · exact i2 x hx
          · rw [refB_c, gBy_pos 0 (by omega)]
            simp
      · rw [if_neg hn, if_neg (fun hg => hn (grp_num hg))]
        exact .inl ⟨rfl, rfl⟩
/-! ### The groups ahead of the gap -/
theorem ref_head (all : List (List UInt8)) (rest : List (List UInt8)) (hr : rest ≠ []) : ∀ (qs : List (List UInt8)) (i : Nat) (gap : Bool), [] ∉ qs →
    (refG all i gap (qs ++ rest) = none ∧ grL false qs = none) ∨ ∃ g, okG g ∧ grL false qs = some (refB 0 g) ∧ refG all i gap (qs ++ rest) = match refG all (i + qs.length) gap rest with
      | some r => some (g ++ r)
      | none => none
  | [], i, gap, h => .inr ⟨[], (by intro x hx; cases hx), by unfold grL; rfl, by
      show refG all i gap rest = match refG all i gap rest with
        | some r => some r
        | none => none
      cases refG all i gap rest <;> rfl⟩
  | p :: ps, i, gap, h => by
    have hp : p ≠ [] := fun e => h (by simp [e])
    have ih := ref_head all rest hr ps (i + 1) gap fun hm => h (by simp [hm])
    have e0 : (p :: ps) ++ rest = p :: (ps ++ rest) := rfl
    rw [e0, refG_n _ _ _ _ hp, if_neg (fun q => hr (List.append_eq_nil_iff.1 q.2).2)]
    have e : grL false (p :: ps) = if grpOk p then (match grL false ps with
        | some r => some (numL 16 p / 256 :: numL 16 p % 256 :: r)
        | none => none) else none := by
      conv => lhs; unfold grL
      rw [Bool.false_and, if_neg Bool.false_ne_true]
      cases grL false ps <;> rfl
    rw [e]
    by_cases hn : numOk 16 p = true ∧ p.length ≤ 4
    · rw [if_pos hn, if_pos (num_val hn.1 hn.2)]
      have hlt := num16 hn.1 hn.2
      have el : i + (p :: ps).length = i + 1 + ps.length := by simp only [List.length_cons]; omega
      rw [el]
      rcases ih with ⟨i1, i2⟩ | ⟨g, i1, i2, i3⟩
      · rw [i1, i2]; exact .inl ⟨rfl, rfl⟩
      · rw [i3, i2]
        refine .inr ⟨((numL 16 p : Nat) : Int) :: g, ?_, ?_, ?_⟩
        · intro x hx
          rcases List.mem_cons.1 hx with rfl | hx
          · omega
          · exact i1 x hx
        · rw [refB_c, gBy_pos 0 (by omega)]
          simp
        · cases refG all (i + 1 + ps.length) gap rest <;> rfl
    · rw [if_neg hn, if_neg (fun hg => hn (grp_num hg))]
      exact .inl ⟨rfl, rfl⟩
/-! ### Empty parts -/
theorem gr_emp (t : Bool) : ∀ qs : List (List UInt8), [] ∈ qs → grL t qs = none
  | [], h => by cases h
  | p :: ps, h => by
    unfold grL
    by_cases hp : p = []
    · subst hp
      have e1 : (fourP (splitL 46 [])).2 = false := rfl
      have e2 : grpOk [] = false := rfl
      rw [e1, e2, Bool.and_false, Bool.and_false, if_neg Bool.false_ne_true, if_neg Bool.false_ne_true]
    · have hm : [] ∈ ps := by
        rcases List.mem_cons.1 h with e | e
        · exact (hp e.symm).elim
        · exact e
      have hne : ps.isEmpty = false := by cases ps with | nil => cases hm | cons a l => rfl
      rw [hne, Bool.false_and, Bool.and_false, if_neg Bool.false_ne_true, gr_emp t ps hm]
      split <;> rfl
theorem ref_emp : ∀ (qs pre : List (List UInt8)) (gap : Bool), pre ≠ [] → [] ∈ qs → (∀ A B, qs = A ++ [] :: B → B ≠ [] → gap = true) → (qs = [[]] → pre.getD (pre.length - 1) [] ≠ []) → refG (pre ++ qs) pre.length gap qs = none
  | [], pre, gap, hpre, h, _, _ => by cases h
  | p :: ps, pre, gap, hpre, h, hmid, hlast => by
    have hpl : 0 < pre.length := by cases pre with | nil => exact (hpre rfl).elim | cons a l => simp
    by_cases hp : p = []
    · subst hp
      rw [refG_e]
      by_cases hps : ps = []
      · rw [if_pos (.inr hps), if_pos]
        subst hps
        refine .inr (.inr ⟨hpl, ?_⟩)
        have := hlast rfl
        have e : (pre ++ [[]]).length - 2 = pre.length - 1 := by simp
        rw [e]
        have e2 : (pre ++ [([] : List UInt8)]).getD (pre.length - 1) [] = pre.getD (pre.length - 1) [] := by
          rw [List.getD_eq_getElem?_getD, List.getD_eq_getElem?_getD, List.getElem?_append_left (by omega)]
        rw [e2]; exact this
      · rw [if_neg (by rintro (q | q)
                       · omega
                       · exact hps q), hmid [] ps rfl hps, if_pos rfl]
    · have hm : [] ∈ ps := by
        rcases List.mem_cons.1 h with e | e
        · exact (hp e.symm).elim
        · exact e
      have hne : ps ≠ [] := fun e => by rw [e] at hm; cases hm
      rw [refG_n _ _ _ _ hp, if_neg (fun q => hne q.2)]
      have ih := ref_emp ps (pre ++ [p]) gap (by simp) hm (fun A B e hB => hmid (p :: A) B (by rw [e]; rfl) hB) (fun _ => by simpa using hp)
      have e1 : pre ++ [p] ++ ps = pre ++ p :: ps := by simp
      have e2 : (pre ++ [p]).length = pre.length + 1 := by simp
      rw [e1, e2] at ih
      rw [ih]
      split <;> rfl

/-! ### Where '::' stands -/
theorem split_one {c : UInt8} : ∀ {l : List UInt8}, splitL c l = [[]] → l = []
  | [], _ => rfl
  | b :: t, h => by
    obtain ⟨q, qs, e⟩ := splitL_ne c t
    unfold splitL at h
    split at h
    · rw [e] at h; simp at h
    · rw [e] at h; simp at h
theorem split_e {c : UInt8} {l : List UInt8} {B : List (List UInt8)} (h : splitL c l = [] :: B) (hB : B ≠ []) : l.head? = some c := by
  cases l with
  | nil => simp [splitL] at h; exact (hB h).elim
  | cons b t =>
    obtain ⟨q, qs, e⟩ := splitL_ne c t
    unfold splitL at h
    split at h
    · rename_i hb; subst hb; rfl
    · rw [e] at h; simp at h
theorem dd1 : ∀ (l : List UInt8), cutDD l = none → ∀ A B, splitL 58 l = A ++ [] :: B → A ≠ [] → B ≠ [] → False
  | [], _, A, B, h, hA, hB => by
    cases A with
    | nil => exact hA rfl
    | cons a A => simp [splitL] at h
  | a :: t, hc, A, B, h, hA, hB => by
    obtain ⟨q, qs, e⟩ := splitL_ne 58 t
    unfold cutDD at hc
    split at hc
    · cases hc
    · rename_i hcond
      have hct : cutDD t = none := by
        cases hct : cutDD t with
        | none => rfl
        | some x => rw [hct] at hc; cases hc
      cases A with
      | nil => exact hA rfl
      | cons x A =>
        unfold splitL at h
        split at h
        · rename_i ha
          simp only [List.cons_append, List.cons.injEq] at h
          by_cases hA' : A = []
          · subst hA'
            have := split_e (B := B) (by simpa using h.2) hB
            exact hcond ⟨ha, this⟩
          · exact dd1 t hct A B h.2 hA' hB
        · rw [e] at h
          simp only [List.cons_append, List.cons.injEq] at h
          exact dd1 t hct (q :: A) B (by rw [e, h.2]; rfl) (by simp) hB
theorem split_y {c a : UInt8} (h : a = c) (t : List UInt8) : splitL c (a :: t) = [] :: splitL c t := by
  conv => lhs; unfold splitL
  rw [if_pos h]
theorem split_n {c a : UInt8} (h : ¬ a = c) (t : List UInt8) {q : List UInt8} {qs : List (List UInt8)} (e : splitL c t = q :: qs) : splitL c (a :: t) = (a :: q) :: qs := by
  conv => lhs; unfold splitL
  rw [if_neg h, e]
theorem dd2 : ∀ (l h t : List UInt8), cutDD l = some (h, t) → l = h ++ 58 :: 58 :: t ∧ splitL 58 l = splitL 58 h ++ [] :: splitL 58 t ∧ cutDD h = none ∧ ∀ A, splitL 58 h = A ++ [[]] → A = []
  | [], h, t, e => by cases e
  | a :: r, h, t, e => by
    unfold cutDD at e
    split at e
    · rename_i hc
      cases e
      obtain ⟨ha, hr⟩ := hc
      subst ha
      cases r with
      | nil => cases hr
      | cons b r =>
        simp at hr; subst hr
        refine ⟨rfl, ?_, rfl, ?_⟩
        · show splitL 58 (58 :: 58 :: r) = [[]] ++ [] :: splitL 58 r
          conv => lhs; unfold splitL
          rw [if_pos rfl]
          conv => lhs; unfold splitL
          rw [if_pos rfl]
          rfl
        · intro A hA
          cases A with
          | nil => rfl
          | cons x A => simp [splitL] at hA
    · rename_i hc
      split at e
      · rename_i h' r' hr
        cases e
        obtain ⟨i1, i2, i3, i4⟩ := dd2 r h' t hr
        obtain ⟨q, qs, eq⟩ := splitL_ne 58 h'
        refine ⟨by rw [i1]; rfl, ?_, ?_, ?_⟩
        · by_cases ha : a = 58
          · rw [split_y ha, split_y ha, i2]; rfl
          · rw [split_n ha _ (show splitL 58 r = q :: (qs ++ [] :: splitL 58 t) by rw [i2, eq]; rfl), split_n ha _ eq]; rfl
        · unfold cutDD
          rw [i3, if_neg]
          rintro ⟨h1, h2⟩
          cases h' with
          | nil => exact hc ⟨h1, by rw [i1]; rfl⟩
          | cons b u => exact hc ⟨h1, by rw [i1]; simpa using h2⟩
        · intro A hA
          exfalso
          unfold splitL at hA
          split at hA
          · rename_i ha
            cases A with
            | nil => rw [eq] at hA; simp at hA
            | cons x A =>
              simp only [List.cons_append, List.cons.injEq] at hA
              have := i4 A hA.2
              subst this
              have hn := split_one hA.2
              subst hn
              exact hc ⟨ha, by rw [i1]; rfl⟩
          · rw [eq] at hA
            cases A with
            | nil => simp at hA
            | cons x A =>
              simp only [List.cons_append, List.cons.injEq] at hA
              have := i4 (q :: A) (by rw [eq, hA.2]; rfl)
              simp at this
      · cases e

end Go.Pv

/- Addresses: the document's Parse answers as ip.Parse does. -/
namespace Go.Pv
set_option linter.unusedVariables false
set_option maxRecDepth 100000
set_option maxHeartbeats 400000
open Go Go.Proofs
variable {I : World → Prop} {ng : Nat}

/-! ### How long a text of an address is -/
def sumL (ps : List (List UInt8)) : Nat := ps.foldr (fun p n => p.length + 1 + n) 0
theorem sum_c (p : List UInt8) (ps : List (List UInt8)) : sumL (p :: ps) = p.length + 1 + sumL ps := rfl
theorem split_sum (c : UInt8) : ∀ l : List UInt8, sumL (splitL c l) = l.length + 1
  | [] => rfl
  | b :: t => by
    obtain ⟨q, qs, e⟩ := splitL_ne c t
    have ih := split_sum c t
    by_cases h : b = c
    · rw [split_y h, sum_c, ih]; simp only [List.length_cons, List.length_nil]; omega
    · rw [split_n h _ e, sum_c]
      rw [e, sum_c] at ih
      simp only [List.length_cons]; omega
theorem fold10 : ∀ (l : List UInt8) (v : Nat), v * 10 ^ l.length ≤ l.foldl (fun n c => n * 10 + hexv c) v
  | [], v => by simp
  | c :: t, v => by
    rw [List.foldl_cons]
    have ih := fold10 t (v * 10 + hexv c)
    have e : v * 10 ^ (c :: t).length = v * 10 * 10 ^ t.length := by rw [List.length_cons, Nat.pow_succ, Nat.mul_comm (10 ^ t.length), Nat.mul_assoc]
    rw [e]
    refine Nat.le_trans (Nat.mul_le_mul_right _ ?_) ih
    omega
theorem hx0 : ∀ n : Nat, n < 256 → hx (n : Int) = 0 → n = 48 := by decide +kernel
theorem oct_len {p : List UInt8} (h : octOk p = true) : p.length ≤ 3 := by
  have hlt := oct_lt h
  refine Classical.byContradiction fun hn => ?_
  unfold octOk at h
  simp only [Bool.and_eq_true, Bool.not_eq_true', Bool.and_eq_false_iff, decide_eq_false_iff_not] at h
  obtain ⟨h1, _, h3⟩ := h
  cases p with
  | nil => simp at hn
  | cons c t =>
    rcases h3 with h3 | h3
    · simp only [List.length_cons] at *; omega
    · have hc : c ≠ 48 := by
        intro e
        rw [e] at h3
        cases h3
      have h0 : 1 ≤ hexv c := by
        refine Classical.byContradiction fun hz => hc ?_
        unfold hexv at hz
        split at hz
        · have := hx0 c.toNat c.toNat_lt (by omega)
          exact UInt8.toNat.inj this
        · omega
      have hf := fold10 t (0 * 10 + hexv c)
      have hp : 10 ^ 3 ≤ 10 ^ t.length := Nat.pow_le_pow_right (by omega) (by simp only [List.length_cons] at hn; omega)
      have h2 : 1 * 10 ^ t.length ≤ (0 * 10 + hexv c) * 10 ^ t.length := Nat.mul_le_mul_right _ (by omega)
      unfold numL at hlt
      rw [List.foldl_cons] at hlt
      omega
theorem goF_oct : ∀ ps : List (List UInt8), (goF ps).2 = true → ∀ p ∈ ps, octOk p = true
  | [], _, p, hp => by cases hp
  | q :: ps, h, p, hp => by
    unfold goF at h
    split at h
    · rename_i ho
      rcases List.mem_cons.1 hp with rfl | hp
      · exact ho
      · exact goF_oct ps h p hp
    · cases h
theorem sum_le (k : Nat) : ∀ ps : List (List UInt8), (∀ p ∈ ps, p.length ≤ k) → sumL ps ≤ (k + 1) * ps.length
  | [], _ => by simp [sumL]
  | p :: ps, h => by
    have := sum_le k ps fun q hq => h q (by simp [hq])
    have h2 := h p (by simp)
    rw [sum_c, List.length_cons, Nat.mul_add]; omega
theorem four_sz {p : List UInt8} (h : (fourP (splitL 46 p)).2 = true) : p.length ≤ 15 := by
  have hs := split_sum 46 p
  unfold fourP at h
  split at h
  · rename_i h4
    have := sum_le 3 (splitL 46 p) fun q hq => oct_len (goF_oct _ h q hq)
    rw [h4] at this
    omega
  · cases h
theorem gr_sz (t : Bool) : ∀ (ps : List (List UInt8)) (r : List Nat), grL t ps = some r → 2 * sumL ps ≤ 5 * r.length + 12
  | [], r, h => by simp [sumL]
  | p :: ps, r, h => by
    unfold grL at h
    split at h
    · rename_i hc
      cases h
      simp only [Bool.and_eq_true] at hc
      have hps : ps = [] := List.isEmpty_iff.1 hc.2.1
      subst hps
      have h1 := four4 hc.2.2
      have h2 := four_sz hc.2.2
      rw [sum_c]
      simp only [sumL, List.foldr_nil]; omega
    · split at h
      · rename_i hg
        split at h
        · rename_i r' hr
          cases h
          have := gr_sz t ps r' hr
          have h2 := (grp_num hg).2
          rw [sum_c]
          simp only [List.length_cons]; omega
        · cases h
      · cases h
theorem grp_sz (t : Bool) (l : List UInt8) (r : List Nat) (h : grpL t l = some r) : 2 * l.length ≤ 5 * r.length + 12 := by
  unfold grpL at h
  split at h
  · rename_i he
    have : l = [] := List.isEmpty_iff.1 he
    subst this; simp
  · have := gr_sz t _ r h
    rw [split_sum] at this; omega
theorem no58 : ∀ l : List UInt8, (l.any fun b => decide (b = 58)) = false → splitL 58 l = [l]
  | [], _ => rfl
  | b :: t, h => by
    rw [List.any_cons, Bool.or_eq_false_iff, decide_eq_false_iff_not] at h
    rw [split_n h.1 t (no58 t h.2)]
theorem six_ok {l : List UInt8} {r : List Nat} (h : sixL l = some r) : l.length ≤ 64 ∧ (l.any fun b => decide (b = 58)) = true := by
  unfold sixL at h
  cases hc : cutDD l with
  | none =>
    rw [hc] at h
    dsimp only at h
    split at h
    · rename_i a ha
      split at h
      · rename_i h16
        have := grp_sz true l a ha
        refine ⟨by omega, ?_⟩
        cases hn : (l.any fun b => decide (b = 58)) with
        | true => rfl
        | false =>
          exfalso
          have hs := no58 l hn
          unfold grpL at ha
          split at ha
          · cases ha; simp at h16
          · rw [hs] at ha
            have := grL_len true _ _ ha
            simp only [List.length_cons, List.length_nil] at this; omega
      · cases h
    · cases h
  | some x =>
    obtain ⟨hd, tl⟩ := x
    rw [hc] at h
    dsimp only at h
    obtain ⟨e1, _⟩ := dd2 l hd tl hc
    split at h
    · rename_i a b ha hb
      split at h
      · have h1 := grp_sz false hd a ha
        have h2 := grp_sz true tl b hb
        refine ⟨?_, ?_⟩
        · rw [e1, List.length_append]; simp only [List.length_cons]; omega
        · rw [e1, List.any_append]; simp
      · cases h
    · cases h

/-! ### The law -/
def refP (all : List (List UInt8)) : Res := match refG all 0 false all with
  | some g => if all.length < 3 then bad51 else fin51 g
  | none => bad51
def six51 (l : List UInt8) : Res := match sixL l with
  | some r => some (.tup [.agg (.bool true :: r.map byCV), .bool true], [])
  | none => bad51
theorem cs_full (r : List Nat) (h : r.length = 16) : cs51 r = .bool true :: r.map byCV := by
  unfold cs51
  rw [h, Nat.sub_self, List.replicate_zero, List.append_nil]
theorem law_none (l : List UInt8) (hc : cutDD l = none) : refP (splitL 58 l) = six51 l := by
  have hs : six51 l = match grpL true l with
      | some a => if a.length = 16 then some (.tup [.agg (.bool true :: a.map byCV), .bool true], []) else bad51
      | none => bad51 := by
    unfold six51 sixL
    rw [hc]
    dsimp only
    cases grpL true l with
    | none => rfl
    | some a =>
      dsimp only
      by_cases h : a.length = 16
      · rw [if_pos h, if_pos h]
      · rw [if_neg h, if_neg h]
  rw [hs]
  by_cases hl : l = []
  · subst hl
    have e : refG [[]] 0 false [[]] = none := by rw [refG_e, if_pos (.inl rfl), if_pos (.inl (by simp))]
    have e0 : splitL 58 ([] : List UInt8) = [[]] := rfl
    unfold refP
    rw [e0, e]; rfl
  · have hle : l.isEmpty = false := by cases l with | nil => exact (hl rfl).elim | cons a t => rfl
    have hg : grpL true l = grL true (splitL 58 l) := by unfold grpL; rw [hle, if_neg Bool.false_ne_true]
    rw [hg]
    by_cases he : [] ∈ splitL 58 l
    · rw [gr_emp true _ he]
      have hn : refG (splitL 58 l) 0 false (splitL 58 l) = none := by
        obtain ⟨p, ps, e⟩ := splitL_ne 58 l
        have hd := dd1 l hc
        rw [e] at he hd ⊢
        by_cases hp : p = []
        · subst hp
          rw [refG_e, if_pos (.inl rfl), if_pos]
          by_cases h3 : ([] :: ps).length < 3
          · exact .inl h3
          · refine .inr (.inl ⟨rfl, fun h => ?_⟩)
            match ps, h, h3 with
            | [], _, h3 => simp at h3
            | q :: C, h, h3 =>
              have hq : q = [] := h
              subst hq
              refine hd [[]] C rfl (by simp) (fun hC => ?_)
              subst hC; simp at h3
        · have hm : [] ∈ ps := by
            rcases List.mem_cons.1 he with e | e
            · exact (hp e.symm).elim
            · exact e
          have hne : ps ≠ [] := fun e => by rw [e] at hm; cases hm
          rw [refG_n _ _ _ _ hp, if_neg (fun q => hne q.2)]
          have ih := ref_emp ps [p] false (by simp) hm (fun A B e hB => (hd (p :: A) B (by rw [e]; rfl) (by simp) hB).elim) (fun _ => hp)
          have e1 : refG (p :: ps) (0 + 1) false ps = none := ih
          rw [e1]
          split <;> rfl
      unfold refP
      rw [hn]
    · rcases ref_tail (splitL 58 l) (splitL 58 l) 0 false he with ⟨i1, i2⟩ | ⟨g, i1, i2, i3⟩
      · unfold refP; rw [i1, i2]
      · unfold refP
        rw [i1, i3]
        dsimp only
        obtain ⟨c1, c2⟩ := cnt_ok g i2
        have hlen := refB_len 0 g i2
        unfold fin51
        rw [c1, c2]
        by_cases h8 : g.length = 8
        · have := grL_len true _ _ i3
          rw [hlen] at this
          rw [if_neg (by omega), if_neg (by rintro (h | h)
                                            · omega
                                            · exact h.2 h8), if_pos (by omega), refB_m _ 0 g i2, cs_full _ (by omega)]
        · rw [if_neg (show ¬ (refB 0 g).length = 16 by omega)]
          by_cases h3 : (splitL 58 l).length < 3
          · rw [if_pos h3]
          · rw [if_neg h3, if_pos (.inr ⟨rfl, h8⟩)]
theorem law_some (l h t : List UInt8) (hc : cutDD l = some (h, t)) : refP (splitL 58 l) = six51 l := by
  obtain ⟨d1, d2, d3, d4⟩ := dd2 l h t hc
  obtain ⟨hp, hps, eH⟩ := splitL_ne 58 h
  obtain ⟨tp, tps, eT⟩ := splitL_ne 58 t
  have hHne : splitL 58 h ≠ [] := by rw [eH]; simp
  have hTne : splitL 58 t ≠ [] := by rw [eT]; simp
  have hHl : 0 < (splitL 58 h).length := by rw [eH]; simp
  have hTl : 0 < (splitL 58 t).length := by rw [eT]; simp
  have hall : (splitL 58 l).length = (splitL 58 h).length + 1 + (splitL 58 t).length := by rw [d2, List.length_append, List.length_cons]; omega
  -- the gap
  have hgap : refG (splitL 58 l) (splitL 58 h).length false ([] :: splitL 58 t) = match refG (splitL 58 l) ((splitL 58 h).length + 1) true (splitL 58 t) with
      | some r => some (-1 :: r)
      | none => none := by
    rw [refG_e, if_neg (by rintro (q | q)
                           · omega
                           · exact hTne q), if_neg Bool.false_ne_true]
    cases refG (splitL 58 l) ((splitL 58 h).length + 1) true (splitL 58 t) <;> rfl
  -- behind it
  have hT : (grpL true t = none ∧ refG (splitL 58 l) ((splitL 58 h).length + 1) true (splitL 58 t) = none) ∨ ∃ g, okG g ∧ grpL true t = some (refB 0 g) ∧ refG (splitL 58 l) ((splitL 58 h).length + 1) true (splitL 58 t) = some g := by
    by_cases ht : t = []
    · subst ht
      refine .inr ⟨[], (by intro x hx; cases hx), rfl, ?_⟩
      have e1 : splitL 58 ([] : List UInt8) = [[]] := rfl
      rw [e1, refG_e, if_pos (.inr rfl), if_neg]
      · unfold refG; rfl
      · rw [hall, e1]
        rintro (q | q | q)
        · simp only [List.length_cons, List.length_nil] at q; omega
        · omega
        · refine q.2 ?_
          rw [d2, e1]
          have : (splitL 58 h).length + 1 + ([[]] : List (List UInt8)).length - 2 = (splitL 58 h).length := by simp only [List.length_cons, List.length_nil]; omega
          rw [this, List.getD_eq_getElem?_getD, List.getElem?_append_right (Nat.le_refl _), Nat.sub_self]; rfl
    · have hte : t.isEmpty = false := by cases t with | nil => exact (ht rfl).elim | cons a u => rfl
      have hg : grpL true t = grL true (splitL 58 t) := by unfold grpL; rw [hte, if_neg Bool.false_ne_true]
      rw [hg]
      by_cases he : [] ∈ splitL 58 t
      · refine .inl ⟨gr_emp true _ he, ?_⟩
        have ih := ref_emp (splitL 58 t) (splitL 58 h ++ [[]]) true (by simp) he (fun _ _ _ _ => rfl) (fun e => (ht (split_one e)).elim)
        have e1 : splitL 58 h ++ [[]] ++ splitL 58 t = splitL 58 l := by rw [d2]; simp
        have e2 : (splitL 58 h ++ [([] : List UInt8)]).length = (splitL 58 h).length + 1 := by simp
        rw [e1, e2] at ih
        exact ih
      · rcases ref_tail (splitL 58 l) (splitL 58 t) ((splitL 58 h).length + 1) true he with ⟨i1, i2⟩ | ⟨g, i1, i2, i3⟩
        · exact .inl ⟨i2, i1⟩
        · exact .inr ⟨g, i2, i3, i1⟩
  -- ahead of it
  have hH : (grpL false h = none ∧ refG (splitL 58 l) 0 false (splitL 58 l) = none) ∨ ∃ g, okG g ∧ grpL false h = some (refB 0 g) ∧ refG (splitL 58 l) 0 false (splitL 58 l) = match refG (splitL 58 l) (splitL 58 h).length false ([] :: splitL 58 t) with
      | some r => some (g ++ r)
      | none => none := by
    by_cases hh : h = []
    · subst hh
      refine .inr ⟨[], (by intro x hx; cases hx), rfl, ?_⟩
      have e1 : splitL 58 ([] : List UInt8) = [[]] := rfl
      rw [e1] at d2 hall ⊢
      have e2 : splitL 58 l = [] :: [] :: splitL 58 t := d2
      have e3 : refG (splitL 58 l) 0 false (splitL 58 l) = refG (splitL 58 l) 1 false ([] :: splitL 58 t) := by
        have e4 : refG (splitL 58 l) 0 false ([] :: [] :: splitL 58 t) = refG (splitL 58 l) 1 false ([] :: splitL 58 t) := by
          rw [refG_e, if_pos (.inl rfl), if_neg]
          rw [hall]
          rintro (q | q | q)
          · simp only [List.length_cons, List.length_nil] at q; omega
          · refine q.2 ?_
            rw [e2]; rfl
          · omega
        conv => lhs; rw [show refG (splitL 58 l) 0 false (splitL 58 l) = refG (splitL 58 l) 0 false ([] :: [] :: splitL 58 t) from congrArg (refG (splitL 58 l) 0 false) e2]
        exact e4
      rw [e3]
      show _ = match refG (splitL 58 l) 1 false ([] :: splitL 58 t) with
        | some r => some r
        | none => none
      cases refG (splitL 58 l) 1 false ([] :: splitL 58 t) <;> rfl
    · have hhe : h.isEmpty = false := by cases h with | nil => exact (hh rfl).elim | cons a u => rfl
      have hg : grpL false h = grL false (splitL 58 h) := by unfold grpL; rw [hhe, if_neg Bool.false_ne_true]
      rw [hg]
      have e0 : refG (splitL 58 l) 0 false (splitL 58 l) = refG (splitL 58 l) 0 false (splitL 58 h ++ [] :: splitL 58 t) := congrArg (refG (splitL 58 l) 0 false) d2
      by_cases he : [] ∈ splitL 58 h
      · refine .inl ⟨gr_emp false _ he, ?_⟩
        rw [e0]
        rw [eH] at he
        by_cases hpe : hp = []
        · subst hpe
          have e1 : splitL 58 h ++ [] :: splitL 58 t = [] :: (hps ++ [] :: splitL 58 t) := by rw [eH]; rfl
          rw [e1, refG_e, if_pos (.inl rfl), if_pos]
          refine .inr (.inl ⟨rfl, fun hq => ?_⟩)
          rw [d2, e1] at hq
          cases hps with
          | nil => exact hh (split_one eH)
          | cons q C =>
            have hq' : q = [] := hq
            subst hq'
            by_cases hC : C = []
            · subst hC
              have := d4 [[]] (by rw [eH]; rfl)
              simp at this
            · exact dd1 h d3 [[]] C (by rw [eH]; rfl) (by simp) hC
        · exfalso
          have hm : [] ∈ hps := by
            rcases List.mem_cons.1 he with e | e
            · exact (hpe e.symm).elim
            · exact e
          obtain ⟨A, B, e⟩ := List.append_of_mem hm
          by_cases hB : B = []
          · subst hB
            have := d4 (hp :: A) (by rw [eH, e]; rfl)
            simp at this
          · exact dd1 h d3 (hp :: A) B (by rw [eH, e]; rfl) (by simp) hB
      · rw [e0]
        rcases ref_head (splitL 58 l) ([] :: splitL 58 t) (by simp) (splitL 58 h) 0 false he with ⟨i1, i2⟩ | ⟨g, i1, i2, i3⟩
        · exact .inl ⟨i2, i1⟩
        · refine .inr ⟨g, i1, i2, ?_⟩
          rw [Nat.zero_add] at i3
          rw [i3]
          all_goals (cases refG (splitL 58 l) (splitL 58 h).length false ([] :: splitL 58 t) <;> rfl)
  have hs : six51 l = match grpL false h, grpL true t with
      | some a, some b => if a.length + b.length ≤ 16 then some (.tup [.agg (.bool true :: (a ++ List.replicate (16 - a.length - b.length) 0 ++ b).map byCV), .bool true], []) else bad51
      | _, _ => bad51 := by
    unfold six51 sixL
    rw [hc]
    dsimp only
    cases grpL false h with
    | none => rfl
    | some a =>
      cases grpL true t with
      | none => rfl
      | some b =>
        dsimp only
        by_cases h : a.length + b.length ≤ 16
        · rw [if_pos h, if_pos h]
        · rw [if_neg h, if_neg h]
  rw [hs]
  unfold refP
  rcases hH with ⟨q1, q2⟩ | ⟨gh, q1, q2, q3⟩
  · rw [q1, q2]
  · rw [q3, hgap]
    rcases hT with ⟨p1, p2⟩ | ⟨gt, p1, p2, p3⟩
    · rw [p1, p2, q2]
    · rw [p3, p2, q2]
      dsimp only
      rw [if_neg (by omega)]
      obtain ⟨c1, c2⟩ := cnt_ok gh q1
      obtain ⟨c3, c4⟩ := cnt_ok gt p1
      have hcnt : cntP (gh ++ -1 :: gt) = gh.length + gt.length := by
        rw [cnt_app, c1]
        show gh.length + (if (-1 : Int) < 0 then cntP gt else cntP gt + 1) = _
        rw [if_pos (by decide), c3]
      have hneg : negP (gh ++ -1 :: gt) = true := by
        rw [neg_app]
        show (negP gh || (decide ((-1 : Int) < 0) || negP gt)) = true
        rw [decide_eq_true (by decide), Bool.true_or, Bool.or_true]
      have l1 := refB_len 0 gh q1
      have l2 := refB_len 0 gt p1
      unfold fin51
      rw [hcnt, hneg]
      by_cases h8 : gh.length + gt.length > 8
      · rw [if_pos (.inl h8), if_neg (by omega)]
      · rw [if_neg (by rintro (q | q)
                       · exact h8 q
                       · cases q.1), if_pos (by omega)]
        have e1 : refB (gh.length + gt.length) (gh ++ -1 :: gt) = refB 0 gh ++ List.replicate (16 - (refB 0 gh).length - (refB 0 gt).length) 0 ++ refB 0 gt := by
          rw [refB_app, refB_c, refB_m _ 0 gh q1, refB_m _ 0 gt p1]
          have e2 : gBy (gh.length + gt.length) (-1) = List.replicate (2 * (8 - (gh.length + gt.length))) 0 := by unfold gBy; rw [if_pos (by decide)]
          rw [e2, List.append_assoc]
          congr 3; omega
        rw [e1, cs_full _ (by simp only [List.length_append, List.length_replicate]; omega)]
theorem law51 (l : List UInt8) : refP (splitL 58 l) = six51 l := by
  cases hc : cutDD l with
  | none => exact law_none l hc
  | some x => exact law_some l x.1 x.2 hc

end Go.Pv

/- Addresses: the document's Parse: its contract. -/
namespace Go.Pv
set_option linter.unusedVariables false
set_option maxRecDepth 100000
set_option maxHeartbeats 400000
open Go Go.Proofs
variable {I : World → Prop} {ng : Nat}

theorem refB_len2 (m : Nat) : ∀ g : List Int, (refB m g).length + 2 * (8 - m) * cntP g = 2 * cntP g + 2 * (8 - m) * g.length
  | [] => rfl
  | x :: g => by
    have ih := refB_len2 m g
    rw [refB_c, List.length_append]
    have e : cntP (x :: g) = if x < 0 then cntP g else cntP g + 1 := rfl
    have m1 : 2 * (8 - m) * (g.length + 1) = 2 * (8 - m) * g.length + 2 * (8 - m) := Nat.mul_succ _ _
    have m2 : 2 * (8 - m) * (cntP g + 1) = 2 * (8 - m) * cntP g + 2 * (8 - m) := Nat.mul_succ _ _
    by_cases hx : x < 0
    · have e2 : gBy m x = List.replicate (2 * (8 - m)) 0 := by unfold gBy; rw [if_pos hx]
      rw [if_pos hx] at e
      rw [e, e2, List.length_cons, List.length_replicate, m1]; omega
    · rw [if_neg hx] at e
      rw [e, gBy_pos m (by omega)]
      simp only [List.length_cons, List.length_nil]
      rw [m1, m2]; omega
theorem refG_b (all : List (List UInt8)) (hsz : ∀ p ∈ all, p.length ≤ 10000) : ∀ (qs : List (List UInt8)) (i : Nat) (gap : Bool) (g : List Int), (∀ p ∈ qs, p ∈ all) → refG all i gap qs = some g →
    (∀ x ∈ g, x < 65536) ∧ g.length ≤ 2 * qs.length ∧ g.length ≤ cntP g + (if gap = true then 0 else 1)
  | [], i, gap, g, hm, h => by
    have e : refG all i gap [] = some [] := by unfold refG; rfl
    rw [e] at h; cases h
    refine ⟨(by intro x hx; cases hx), by simp, by simp⟩
  | p :: ps, i, gap, g, hm, h => by
    have hm' : ∀ q ∈ ps, q ∈ all := fun q hq => hm q (by simp [hq])
    by_cases hp : p = []
    · subst hp
      rw [refG_e] at h
      split at h
      · split at h
        · cases h
        · obtain ⟨h1, h2, h3⟩ := refG_b all hsz ps (i + 1) gap g hm' h
          exact ⟨h1, by simp only [List.length_cons]; omega, h3⟩
      · split at h
        · cases h
        · rename_i hg
          have hg' : gap = false := by simpa using hg
          subst hg'
          cases hr : refG all (i + 1) true ps with
          | none => rw [hr] at h; cases h
          | some r =>
            rw [hr] at h; cases h
            obtain ⟨h1, h2, h3⟩ := refG_b all hsz ps (i + 1) true r hm' hr
            refine ⟨?_, by simp only [List.length_cons]; omega, ?_⟩
            · intro x hx
              rcases List.mem_cons.1 hx with rfl | hx
              · decide
              · exact h1 x hx
            · have e : cntP (-1 :: r) = cntP r := by
                show (if (-1 : Int) < 0 then cntP r else cntP r + 1) = _
                rw [if_pos (by decide)]
              rw [e]
              simp only [List.length_cons, Bool.false_eq_true, if_false, if_true] at *; omega
    · rw [refG_n _ _ _ _ hp] at h
      split at h
      · rename_i h4
        cases h
        obtain ⟨q1, q2⟩ := four_val h4.1 0
        obtain ⟨c1, c2⟩ := cnt_ok _ q2
        refine ⟨fun x hx => (q2 x hx).2, by simp only [List.length_cons, List.length_nil]; omega, by rw [c1]; omega⟩
      · split at h
        · rename_i hn
          cases hr : refG all (i + 1) gap ps with
          | none => rw [hr] at h; cases h
          | some r =>
            rw [hr] at h; cases h
            obtain ⟨h1, h2, h3⟩ := refG_b all hsz ps (i + 1) gap r hm' hr
            have hlt := num16 hn.1 hn.2
            refine ⟨?_, by simp only [List.length_cons]; omega, ?_⟩
            · intro x hx
              rcases List.mem_cons.1 hx with rfl | hx
              · omega
              · exact h1 x hx
            · have e : cntP (((numL 16 p : Nat) : Int) :: r) = cntP r + 1 := by
                show (if ((numL 16 p : Nat) : Int) < 0 then cntP r else cntP r + 1) = _
                rw [if_neg (by omega)]
              rw [e]
              simp only [List.length_cons]; omega
        · cases h
theorem fin51_c (v : CV) : bad51 = some (.tup [ipZero, .bool false], []) := rfl
theorem h51 (hg : OnGlobals I ng) (h70 : Cw I ng 70 L70) (h28 : Cw I ng 28 L28d) : Cw I ng 51 L51 := contract_of an51 hg (hok_of (g65 hg h70 h28)) fun cargs rv outs h => by
  unfold L51 at h
  split at h <;> first | (cases h; done) | skip
  rename_i s
  by_cases hs : s.size ≤ 3000
  · obtain ⟨l, rfl⟩ : ∃ l, s = mkS l := ⟨_, (mkS_bl s).symm⟩
    rw [sizeM] at hs
    refine ⟨50000, ?_⟩
    rw [abody_eq rfl (by kernel_rfl)]
    show aexec Tryd.prog (call' B65) (filt an51 0) 50000 c51 (envOf Tryd.prog 51 [.c (.str (mkS l))]) [] (endOf Tryd.prog 51 []) = _
    rw [seg_a (k := 4) (by decide) sp51a ha51a, ip51, sizeM, decide_eq_true (show l.length ≤ 10000 by omega)]
    simp only [Bool.true_and, Bool.and_self, bT]
    simp only [picked, pickAlt, sizeM, decide_eq_true hs, Bool.true_and] at h
    have hb := f4r_b (mkS l)
    unfold ip6 ip4 at h
    rw [sizeM] at h
    cases hf : f4 (mkS l) with
    | true =>
      obtain ⟨v0, v1⟩ := hb.1 hf
      have h15 := four_sz (p := l) hf
      rw [hf, decide_eq_true (show l.length ≤ 64 by omega)] at h
      cases h
      rw [decide_eq_true (show f4r (mkS l) ≥ 0 from v0), bT, wrapU v0 (by omega), decide_eq_true v0, decide_eq_true (show f4r (mkS l) < 18446744073709551616 by omega)]
      simp only [Bool.and_self, bT]
      have b0 := f4b_lt (mkS l) 0
      have b1 := f4b_lt (mkS l) 1
      have b2 := f4b_lt (mkS l) 2
      have b3 := f4b_lt (mkS l) 3
      have hv : f4r (mkS l) = ((f4b (mkS l) 0 * 256 + f4b (mkS l) 1) * 256 + f4b (mkS l) 2) * 256 + f4b (mkS l) 3 := by unfold f4r; rw [hf, if_pos rfl]
      have x0 : f4r (mkS l) / 16777216 % 256 = f4b (mkS l) 0 := by omega
      have x1 : f4r (mkS l) / 65536 % 256 = f4b (mkS l) 1 := by omega
      have x2 : f4r (mkS l) / 256 % 256 = f4b (mkS l) 2 := by omega
      have x3 : f4r (mkS l) % 256 = f4b (mkS l) 3 := by omega
      rw [x0, x1, x2, x3]
      unfold ipAgg ipB
      simp only [hf, if_true]
      rfl
    | false =>
      have hv := hb.2 hf
      rw [hv, decide_eq_false (by decide), bF]
      have e1 : (spS (mkS l) (Nat.toUInt8 58)).length = (splitL 58 l).length := by rw [sp_len]; rfl
      have e2 : gROk (mkS l) = (refG (splitL 58 l) 0 false (splitL 58 l)).isSome := rfl
      have e3 : rB (mkS l) = ((refG (splitL 58 l) 0 false (splitL 58 l)).getD []).map intCV := rfl
      rw [e1, e2, e3]
      have hl := split_len 58 l
      have hsz : ∀ p ∈ splitL 58 l, p.length ≤ 10000 := fun p hp => by
        have := split_sz 58 _ p hp; omega
      have hfin : six51 l = some (rv, outs) := by
        rw [hf] at h
        simp only [Bool.not_false, Bool.true_and, Bool.and_false] at h
        have e4 : s6 (mkS l) = (sixL l).isSome := rfl
        have e5 : hasB (mkS l) 58 = l.any fun b => decide (b = 58) := rfl
        rw [e4, e5] at h
        unfold six51
        cases h6 : sixL l with
        | none =>
          rw [h6] at h
          simp only [Option.isSome_none, Bool.false_and, Bool.and_false] at h
          cases h; rfl
        | some r =>
          obtain ⟨k1, k2⟩ := six_ok h6
          rw [h6, k2, decide_eq_true k1] at h
          simp only [Option.isSome_some, Bool.and_self] at h
          cases h
          have := list16 r (six_len h6)
          dsimp only
          rw [← this]
          unfold ipAgg ipB
          simp only [hf, Bool.false_eq_true, if_false]
          unfold s6b
          rw [mkS_data, h6]
          rfl
      rw [← law51] at hfin
      refine Eq.trans ?_ hfin
      unfold refP
      cases hr : refG (splitL 58 l) 0 false (splitL 58 l) with
      | none =>
        simp only [Option.isSome_none, bF]
        rfl
      | some g =>
        simp only [Option.isSome_some, bT, Option.getD_some]
        obtain ⟨k1, k2, k3⟩ := refG_b (splitL 58 l) hsz (splitL 58 l) 0 false g (fun _ h => h) hr
        by_cases h3 : (splitL 58 l).length < 3
        · rw [decide_eq_true (show (((splitL 58 l).length : Nat) : Int) < 3 by omega), bT, if_pos h3]; rfl
        · rw [decide_eq_false (show ¬ (((splitL 58 l).length : Nat) : Int) < 3 by omega), bF, if_neg h3]
          refine w51 g 50000 (by omega) (by omega) k1 (fun h8 => ?_)
          have := refB_len2 (cntP g) g
          simp only [Bool.false_eq_true, if_false] at k3
          have hc := cntP_le g
          rcases (show g.length = cntP g ∨ g.length = cntP g + 1 by omega) with e | e
          · rw [e] at this; omega
          · rw [e, Nat.mul_add] at this; omega
  · simp only [picked, pickAlt, decide_eq_false hs, Bool.false_and] at h; cases h

end Go.Pv

/- URLs: specs of what url.Parse is made of; cuts by one byte: trees. -/
namespace Go.Pv
set_option linter.unusedVariables false
set_option maxRecDepth 100000
open Go Go.Proofs

def brS (s : ByteArray) : Bool := s.data.toList.any fun b => decide (b = 91) || decide (b = 93)
def cutB (s : ByteArray) (c : UInt8) : ByteArray := mkS (s.data.toList.takeWhile fun b => !decide (b = c))
def cutA (s : ByteArray) (c : UInt8) : ByteArray := mkS ((s.data.toList.dropWhile fun b => !decide (b = c)).drop 1)
def cutF (s : ByteArray) (c : UInt8) : Bool := s.data.toList.any fun b => decide (b = c)
def auHU (s : ByteArray) : Bool := decide (0 ≤ lastI s 64)
def auUsr (s : ByteArray) : ByteArray := if auHU s then s.extract 0 (lastI s 64).toNat else ⟨#[]⟩
def auRest (s : ByteArray) : ByteArray := if auHU s then s.extract ((lastI s 64).toNat + 1) s.size else s
def auHP (s : ByteArray) : Bool := decide (0 ≤ lastI (auRest s) 58) && decide (lastI (auRest s) 93 < lastI (auRest s) 58)
def auPort (s : ByteArray) : ByteArray := if auHP s then (auRest s).extract ((lastI (auRest s) 58).toNat + 1) (auRest s).size else ⟨#[]⟩
def auHost (s : ByteArray) : ByteArray := if auHP s then (auRest s).extract 0 (lastI (auRest s) 58).toNat else auRest s
def hostS (s : ByteArray) : Bool := if decide (2 ≤ s.size) && (preS s ⟨#[91]⟩ && sufS s ⟨#[93]⟩) then ip6 (s.extract 1 (s.size - 1)) else !(s.data.toList.any fun b => inS ⟨#[58, 91, 93, 64]⟩ b.toNat)
def auOk (s : ByteArray) : Bool := hostS (auHost s) && (digS (auPort s) && !brS (auUsr s))
def L30 : Fn1 := fun x => match x with
  | [.str s] => some [(decide (s.size ≤ 10000), .bool (brS s), [])]
  | _ => none
def L60 : Fn1 := fun x => match x with
  | [.str s, .str ⟨⟨[c]⟩⟩] => some [(decide (s.size ≤ 10000), .int .i64 (Lib.indexByte s.data.toList c), [])]
  | _ => none
def L28 : Fn1 := fun x => match x with
  | [.str s, .str ⟨⟨[c]⟩⟩] => some [(decide (s.size ≤ 10000), .tup [.str (cutB s c), .str (cutA s c), .bool (cutF s c)], [])]
  | _ => none
def kU : Nat := 12 + 4294967296 * (30 + 1)
def L27 : Fn1 := fun x => match x with
  | [.boxv k (.agg [.str a, .str ⟨⟨[]⟩⟩, .bool false, .str ⟨⟨[]⟩⟩, .str ⟨⟨[]⟩⟩, .bool false, .bool true, .str ⟨⟨[]⟩⟩, .str ⟨⟨[]⟩⟩, .bool false, .str ⟨⟨[]⟩⟩, .bool false]), .str s] =>
    if Nat.beq k kU then some [(decide (s.size ≤ 2500), .bool (auOk s), [.agg [.str a, .str (auUsr s), .bool (auHU s), .str (auHost s), .str (auPort s), .bool (auHP s), .bool true, .str ⟨#[]⟩, .str ⟨#[]⟩, .bool false, .str ⟨#[]⟩, .bool false]])] else none
  | _ => none
def A30 : Table := fun g => if Nat.beq g 30 then L30 else A25 g
def A60 : Table := fun g => if Nat.beq g 60 then L60 else A30 g
def A48 : Table := fun g => if Nat.beq g 48 then L28 else A60 g
def A28 : Table := fun g => if Nat.beq g 28 then L28 else A48 g
def A47 : Table := fun g => if Nat.beq g 47 then L47 else A28 g
def A27 : Table := fun g => if Nat.beq g 27 then L27 else A47 g
def A51 : Table := fun g => if Nat.beq g 51 then L51 else A27 g
theorem ur30 (s : ByteArray) : abody Tryd.prog (call' A25) (fun _ => none) 1 30 [.str s] =
    bif' (decide (s.size ≤ 10000) && decide ((ByteArray.mk #[91, 93]).size ≤ 10000))
      (some (CV.bool !(s.extract (findI s 0 (ByteArray.mk #[91, 93])) s.size).toList == (ByteArray.mk #[]).toList, [])) none := by kernel_rfl
theorem ur60 (s : ByteArray) (c : UInt8) : abody Tryd.prog (call' A30) (fun _ => none) 1 60 [.str s, .str ⟨⟨[c]⟩⟩] =
    bif' ((ByteArray.mk (Array.mk [c])).toList == s.toList) (some (CV.int IntKind.i64 (Int.ofNat 0), []))
      (some
        (CV.int IntKind.i64
            (Lib.indexByte s.data.toList (byteAt (ByteArray.mk (Array.mk [c])) (Int.toNat 0)).toNat.toUInt8),
          [])) := by kernel_rfl
theorem ur48 (s : ByteArray) (c : UInt8) : abody Tryd.prog (call' A60) (fun _ => none) 1 48 [.str s, .str ⟨⟨[c]⟩⟩] =
    bif' (decide (s.size ≤ 10000))
      (bif' (decide (Lib.indexByte s.data.toList c ≥ 0))
        (bif' (decide (0 ≤ Lib.indexByte s.data.toList c))
          (bif' (decide (Lib.indexByte s.data.toList c ≤ (↑s.size : Int)))
            (bif'
              (decide (0 ≤ IntKind.i64.wrap (Lib.indexByte s.data.toList c + (↑(ByteArray.mk (Array.mk [c])).size : Int))))
              (bif'
                (decide
                  (IntKind.i64.wrap (Lib.indexByte s.data.toList c + (↑(ByteArray.mk (Array.mk [c])).size : Int)) ≤
                    (↑s.size : Int)))
                (bif' (decide ((↑s.size : Int) ≤ (↑s.size : Int)))
                  (some
                    (CV.tup
                        [CV.str (s.extract (Int.toNat 0) (Lib.indexByte s.data.toList c).toNat),
                          CV.str
                            (s.extract
                              (IntKind.i64.wrap
                                  (Lib.indexByte s.data.toList c + (↑(ByteArray.mk (Array.mk [c])).size : Int))).toNat
                              (↑s.size : Int).toNat),
                          CV.bool true],
                      []))
                  none)
                none)
              none)
            none)
          none)
        (some (CV.tup [CV.str s, CV.str (ByteArray.mk (Array.mk [])), CV.bool false], [])))
      none := by kernel_rfl
theorem ur28 (s : ByteArray) (c : UInt8) : abody Tryd.prog (call' A48) (fun _ => none) 1 28 [.str s, .str ⟨⟨[c]⟩⟩] =
    bif' (decide (s.size ≤ 10000)) (some (CV.tup [CV.str (cutB s c), CV.str (cutA s c), CV.bool (cutF s c)], [])) none := by kernel_rfl

end Go.Pv

/- URLs: authority and url.Parse in pieces: trees. -/
namespace Go.Pv
set_option linter.unusedVariables false
set_option maxRecDepth 100000
open Go Go.Proofs

def letC : ByteArray := mkS ([97, 98, 99, 100, 101, 102, 103, 104, 105, 106, 107, 108, 109, 110, 111, 112, 113, 114, 115, 116, 117, 118, 119, 120, 121, 122, 65, 66, 67, 68, 69, 70] ++ [71, 72, 73, 74, 75, 76, 77, 78, 79, 80, 81, 82, 83, 84, 85, 86, 87, 88, 89, 90])
def schC : ByteArray := mkS ([97, 98, 99, 100, 101, 102, 103, 104, 105, 106, 107, 108, 109, 110, 111, 112, 113, 114, 115, 116, 117, 118, 119, 120, 121, 122, 65, 66, 67, 68, 69, 70] ++ [71, 72, 73, 74, 75, 76, 77, 78, 79, 80, 81, 82, 83, 84, 85, 86, 87, 88, 89, 90, 48, 49, 50, 51, 52, 53, 54, 55, 56, 57, 43, 45, 46])
def h27 : Head := ⟨[0, 1], [], 1⟩
def an27 : Ann := fun i => if Nat.beq i 500004 then some h27 else if Nat.beq i 500007 then some h27 else none
noncomputable def c27 : Code := codeOf Tryd.prog 27
abbrev uV (a us : ByteArray) (hu : Bool) (ho po : ByteArray) (hp t : Bool) (pa qu : ByteArray) (hq : Bool) (fr : ByteArray) (hf : Bool) : CV := .agg [.str a, .str us, .bool hu, .str ho, .str po, .bool hp, .bool t, .str pa, .str qu, .bool hq, .str fr, .bool hf]
abbrev zU (a : ByteArray) (t : Bool) : CV := uV a ⟨⟨[]⟩⟩ false ⟨⟨[]⟩⟩ ⟨⟨[]⟩⟩ false t ⟨⟨[]⟩⟩ ⟨⟨[]⟩⟩ false ⟨⟨[]⟩⟩ false
noncomputable def c13 : Code := codeOf Tryd.prog 13
noncomputable def d27a : Code := tailC 2 c27
noncomputable def d27b : Code := tailC 1 d27a
noncomputable def d13a : Code := tailC 4 c13
noncomputable def d13b : Code := tailC 1 d13a
noncomputable def d13c : Code := tailC 1 d13b
noncomputable def d13d : Code := tailC 1 d13c
def h13a : Head := ⟨[0, 2, 4, 5], [], 2⟩
def h13b : Head := ⟨[2, 4, 5, 8], [], 2⟩
def an13 : Ann := fun i => if Nat.beq i 500005 then some h13a else if Nat.beq i 500010 then some h13a else if Nat.beq i 500011 then some h13b else if Nat.beq i 500017 then some h13b else none
abbrev z0 : AO := .box (.c (zU ⟨⟨[]⟩⟩ false)) kU
theorem up27 (s a : ByteArray) (n : Nat) (L : Env → Hp → Res) (K : KX) : aexec Tryd.prog (call' A47) (filt an27 1) n (prefC 2 c27) (envOf Tryd.prog 27 [.bptr 0 0, .c (.str s)]) [.box (.c (zU a true)) kU] (thenK (headK h27 L) K) =
    bif' (decide (s.size ≤ 10000))
      (bif' (decide (lastI s 64 ≥ 0))
        (bif' (decide (0 ≤ lastI s 64))
          (bif' (decide (lastI s 64 ≤ (↑s.size : Int)))
            (bif' (decide (0 ≤ IntKind.i64.wrap (lastI s 64 + 1)))
              (bif' (decide (IntKind.i64.wrap (lastI s 64 + 1) ≤ (↑s.size : Int)))
                (bif' (decide ((↑s.size : Int) ≤ (↑s.size : Int)))
                  (L
                    (mkEnv 122
                      [(0, PV.bptr 0 0),
                        (1, PV.c (CV.str (s.extract (IntKind.i64.wrap (lastI s 64 + 1)).toNat (↑s.size : Int).toNat)))])
                    [AO.box
                        (PV.c
                          (CV.agg
                            [CV.str a, CV.str (s.extract (Int.toNat 0) (lastI s 64).toNat), CV.bool true,
                              CV.str ⟨⟨[]⟩⟩, CV.str ⟨⟨[]⟩⟩, CV.bool false,
                              CV.bool true, CV.str ⟨⟨[]⟩⟩, CV.str ⟨⟨[]⟩⟩,
                              CV.bool false, CV.str ⟨⟨[]⟩⟩, CV.bool false]))
                        kU])
                  none)
                none)
              none)
            none)
          none)
        (L (mkEnv 122 [(0, PV.bptr 0 0), (1, PV.c (CV.str s))])
          [AO.box
              (PV.c
                (CV.agg
                  [CV.str a, CV.str ⟨⟨[]⟩⟩, CV.bool false, CV.str ⟨⟨[]⟩⟩,
                    CV.str ⟨⟨[]⟩⟩, CV.bool false, CV.bool true, CV.str ⟨⟨[]⟩⟩,
                    CV.str ⟨⟨[]⟩⟩, CV.bool false, CV.str ⟨⟨[]⟩⟩,
                    CV.bool false]))
              kU]))
      none := by kernel_rfl
theorem uq27 (s a us : ByteArray) (hu : Bool) (n : Nat) (L : Env → Hp → Res) (K : KX) : aexecB Tryd.prog (call' A47) (filt an27 1) n (prefC 1 d27a) (mkEnv 122 [(0, .bptr 0 0), (1, .c (.str s))]) [.box (.c (uV a us hu ⟨⟨[]⟩⟩ ⟨⟨[]⟩⟩ false true ⟨⟨[]⟩⟩ ⟨⟨[]⟩⟩ false ⟨⟨[]⟩⟩ false)) kU] (thenK (headK h27 L) K) =
    bif' (decide (s.size ≤ 10000))
      (bif' (decide (lastI s 58 ≥ 0))
        (bif' (decide (s.size ≤ 10000))
          (bif' (decide (lastI s 58 > lastI s 93))
            (bif' (decide (0 ≤ IntKind.i64.wrap (lastI s 58 + 1)))
              (bif' (decide (IntKind.i64.wrap (lastI s 58 + 1) ≤ (↑s.size : Int)))
                (bif' (decide ((↑s.size : Int) ≤ (↑s.size : Int)))
                  (bif' (decide (0 ≤ lastI s 58))
                    (bif' (decide (lastI s 58 ≤ (↑s.size : Int)))
                      (L (mkEnv 122 [(0, PV.bptr 0 0), (1, PV.c (CV.str (s.extract (Int.toNat 0) (lastI s 58).toNat)))])
                        [AO.box
                            (PV.c
                              (CV.agg
                                [CV.str a, CV.str us, CV.bool hu, CV.str ⟨⟨[]⟩⟩,
                                  CV.str (s.extract (IntKind.i64.wrap (lastI s 58 + 1)).toNat (↑s.size : Int).toNat),
                                  CV.bool true, CV.bool true, CV.str ⟨⟨[]⟩⟩,
                                  CV.str ⟨⟨[]⟩⟩, CV.bool false, CV.str ⟨⟨[]⟩⟩,
                                  CV.bool false]))
                            kU])
                      none)
                    none)
                  none)
                none)
              none)
            (L (mkEnv 122 [(0, PV.bptr 0 0), (1, PV.c (CV.str s))])
              [AO.box
                  (PV.c
                    (CV.agg
                      [CV.str a, CV.str us, CV.bool hu, CV.str ⟨⟨[]⟩⟩,
                        CV.str ⟨⟨[]⟩⟩, CV.bool false, CV.bool true,
                        CV.str ⟨⟨[]⟩⟩, CV.str ⟨⟨[]⟩⟩, CV.bool false,
                        CV.str ⟨⟨[]⟩⟩, CV.bool false]))
                  kU]))
          none)
        (L (mkEnv 122 [(0, PV.bptr 0 0), (1, PV.c (CV.str s))])
          [AO.box
              (PV.c
                (CV.agg
                  [CV.str a, CV.str us, CV.bool hu, CV.str ⟨⟨[]⟩⟩,
                    CV.str ⟨⟨[]⟩⟩, CV.bool false, CV.bool true, CV.str ⟨⟨[]⟩⟩,
                    CV.str ⟨⟨[]⟩⟩, CV.bool false, CV.str ⟨⟨[]⟩⟩,
                    CV.bool false]))
              kU]))
      none := by kernel_rfl
theorem us27 (s a us po : ByteArray) (hu hp : Bool) (n : Nat) : aexecB Tryd.prog (call' A47) (filt an27 1) n d27b (mkEnv 122 [(0, .bptr 0 0), (1, .c (.str s))]) [.box (.c (uV a us hu ⟨⟨[]⟩⟩ po hp true ⟨⟨[]⟩⟩ ⟨⟨[]⟩⟩ false ⟨⟨[]⟩⟩ false)) kU] (endOf Tryd.prog 27 [kU]) =
    bif' (preS s (ByteArray.mk #[91]))
      (bif'
        (decide ((s.extract (ByteArray.mk #[91]).size s.size).size ≤ 10000) &&
          sufS (s.extract (ByteArray.mk #[91]).size s.size) (ByteArray.mk #[93]))
        (bif'
          (decide
              (((s.extract (ByteArray.mk #[91]).size s.size).extract 0
                    ((s.extract (ByteArray.mk #[91]).size s.size).size - (ByteArray.mk #[93]).size)).size ≤
                3000) &&
            ip6
              ((s.extract (ByteArray.mk #[91]).size s.size).extract 0
                ((s.extract (ByteArray.mk #[91]).size s.size).size - (ByteArray.mk #[93]).size)))
          (bif'
            (decide (po.size ≤ 10000) &&
              (decide ((ByteArray.mk #[48, 49, 50, 51, 52, 53, 54, 55, 56, 57]).size ≤ 100) &&
                asciiS (ByteArray.mk #[48, 49, 50, 51, 52, 53, 54, 55, 56, 57])))
            (bif' (allS po (ByteArray.mk #[48, 49, 50, 51, 52, 53, 54, 55, 56, 57]))
              (bif' (decide (us.size ≤ 10000))
                (some
                  (CV.bool !brS us,
                    [CV.agg
                        [CV.str a, CV.str us, CV.bool hu, CV.str s, CV.str po, CV.bool hp, CV.bool true,
                          CV.str ⟨⟨[]⟩⟩, CV.str ⟨⟨[]⟩⟩, CV.bool false,
                          CV.str ⟨⟨[]⟩⟩, CV.bool false]]))
                none)
              (some
                (CV.bool false,
                  [CV.agg
                      [CV.str a, CV.str us, CV.bool hu, CV.str s, CV.str po, CV.bool hp, CV.bool true,
                        CV.str ⟨⟨[]⟩⟩, CV.str ⟨⟨[]⟩⟩, CV.bool false,
                        CV.str ⟨⟨[]⟩⟩, CV.bool false]])))
            none)
          (bif'
            (decide
                (((s.extract (ByteArray.mk #[91]).size s.size).extract 0
                      ((s.extract (ByteArray.mk #[91]).size s.size).size - (ByteArray.mk #[93]).size)).size ≤
                  3000) &&
              ip4
                ((s.extract (ByteArray.mk #[91]).size s.size).extract 0
                  ((s.extract (ByteArray.mk #[91]).size s.size).size - (ByteArray.mk #[93]).size)))
            (some
              (CV.bool false,
                [CV.agg
                    [CV.str a, CV.str us, CV.bool hu, CV.str s, CV.str po, CV.bool hp, CV.bool true,
                      CV.str ⟨⟨[]⟩⟩, CV.str ⟨⟨[]⟩⟩, CV.bool false,
                      CV.str ⟨⟨[]⟩⟩, CV.bool false]]))
            (bif'
              (decide
                (((s.extract (ByteArray.mk #[91]).size s.size).extract 0
                      ((s.extract (ByteArray.mk #[91]).size s.size).size - (ByteArray.mk #[93]).size)).size ≤
                  3000))
              (some
                (CV.bool false,
                  [CV.agg
                      [CV.str a, CV.str us, CV.bool hu, CV.str s, CV.str po, CV.bool hp, CV.bool true,
                        CV.str ⟨⟨[]⟩⟩, CV.str ⟨⟨[]⟩⟩, CV.bool false,
                        CV.str ⟨⟨[]⟩⟩, CV.bool false]]))
              none)))
        (bif' (decide ((s.extract (ByteArray.mk #[91]).size s.size).size ≤ 10000))
          (bif' (decide (s.size ≤ 10000) && decide ((ByteArray.mk #[58, 91, 93, 64]).size ≤ 10000))
            (bif' ((s.extract 0 (findI s 0 (ByteArray.mk #[58, 91, 93, 64]))).toList == s.toList)
              (bif'
                (decide (po.size ≤ 10000) &&
                  (decide ((ByteArray.mk #[48, 49, 50, 51, 52, 53, 54, 55, 56, 57]).size ≤ 100) &&
                    asciiS (ByteArray.mk #[48, 49, 50, 51, 52, 53, 54, 55, 56, 57])))
                (bif' (allS po (ByteArray.mk #[48, 49, 50, 51, 52, 53, 54, 55, 56, 57]))
                  (bif' (decide (us.size ≤ 10000))
                    (some
                      (CV.bool !brS us,
                        [CV.agg
                            [CV.str a, CV.str us, CV.bool hu, CV.str s, CV.str po, CV.bool hp, CV.bool true,
                              CV.str ⟨⟨[]⟩⟩, CV.str ⟨⟨[]⟩⟩, CV.bool false,
                              CV.str ⟨⟨[]⟩⟩, CV.bool false]]))
                    none)
                  (some
                    (CV.bool false,
                      [CV.agg
                          [CV.str a, CV.str us, CV.bool hu, CV.str s, CV.str po, CV.bool hp, CV.bool true,
                            CV.str ⟨⟨[]⟩⟩, CV.str ⟨⟨[]⟩⟩, CV.bool false,
                            CV.str ⟨⟨[]⟩⟩, CV.bool false]])))
                none)
              (some
                (CV.bool false,
                  [CV.agg
                      [CV.str a, CV.str us, CV.bool hu, CV.str s, CV.str po, CV.bool hp, CV.bool true,
                        CV.str ⟨⟨[]⟩⟩, CV.str ⟨⟨[]⟩⟩, CV.bool false,
                        CV.str ⟨⟨[]⟩⟩, CV.bool false]])))
            none)
          none))
      (bif' (decide (s.size ≤ 10000) && sufS s (ByteArray.mk #[93]))
        (bif' (decide (s.size ≤ 10000) && decide ((ByteArray.mk #[58, 91, 93, 64]).size ≤ 10000))
          (bif' ((s.extract 0 (findI s 0 (ByteArray.mk #[58, 91, 93, 64]))).toList == s.toList)
            (bif'
              (decide (po.size ≤ 10000) &&
                (decide ((ByteArray.mk #[48, 49, 50, 51, 52, 53, 54, 55, 56, 57]).size ≤ 100) &&
                  asciiS (ByteArray.mk #[48, 49, 50, 51, 52, 53, 54, 55, 56, 57])))
              (bif' (allS po (ByteArray.mk #[48, 49, 50, 51, 52, 53, 54, 55, 56, 57]))
                (bif' (decide (us.size ≤ 10000))
                  (some
                    (CV.bool !brS us,
                      [CV.agg
                          [CV.str a, CV.str us, CV.bool hu, CV.str s, CV.str po, CV.bool hp, CV.bool true,
                            CV.str ⟨⟨[]⟩⟩, CV.str ⟨⟨[]⟩⟩, CV.bool false,
                            CV.str ⟨⟨[]⟩⟩, CV.bool false]]))
                  none)
                (some
                  (CV.bool false,
                    [CV.agg
                        [CV.str a, CV.str us, CV.bool hu, CV.str s, CV.str po, CV.bool hp, CV.bool true,
                          CV.str ⟨⟨[]⟩⟩, CV.str ⟨⟨[]⟩⟩, CV.bool false,
                          CV.str ⟨⟨[]⟩⟩, CV.bool false]])))
              none)
            (some
              (CV.bool false,
                [CV.agg
                    [CV.str a, CV.str us, CV.bool hu, CV.str s, CV.str po, CV.bool hp, CV.bool true,
                      CV.str ⟨⟨[]⟩⟩, CV.str ⟨⟨[]⟩⟩, CV.bool false,
                      CV.str ⟨⟨[]⟩⟩, CV.bool false]])))
          none)
        (bif' (decide (s.size ≤ 10000))
          (bif' (decide (s.size ≤ 10000) && decide ((ByteArray.mk #[58, 91, 93, 64]).size ≤ 10000))
            (bif' ((s.extract 0 (findI s 0 (ByteArray.mk #[58, 91, 93, 64]))).toList == s.toList)
              (bif'
                (decide (po.size ≤ 10000) &&
                  (decide ((ByteArray.mk #[48, 49, 50, 51, 52, 53, 54, 55, 56, 57]).size ≤ 100) &&
                    asciiS (ByteArray.mk #[48, 49, 50, 51, 52, 53, 54, 55, 56, 57])))
                (bif' (allS po (ByteArray.mk #[48, 49, 50, 51, 52, 53, 54, 55, 56, 57]))
                  (bif' (decide (us.size ≤ 10000))
                    (some
                      (CV.bool !brS us,
                        [CV.agg
                            [CV.str a, CV.str us, CV.bool hu, CV.str s, CV.str po, CV.bool hp, CV.bool true,
                              CV.str ⟨⟨[]⟩⟩, CV.str ⟨⟨[]⟩⟩, CV.bool false,
                              CV.str ⟨⟨[]⟩⟩, CV.bool false]]))
                    none)
                  (some
                    (CV.bool false,
                      [CV.agg
                          [CV.str a, CV.str us, CV.bool hu, CV.str s, CV.str po, CV.bool hp, CV.bool true,
                            CV.str ⟨⟨[]⟩⟩, CV.str ⟨⟨[]⟩⟩, CV.bool false,
                            CV.str ⟨⟨[]⟩⟩, CV.bool false]])))
                none)
              (some
                (CV.bool false,
                  [CV.agg
                      [CV.str a, CV.str us, CV.bool hu, CV.str s, CV.str po, CV.bool hp, CV.bool true,
                        CV.str ⟨⟨[]⟩⟩, CV.str ⟨⟨[]⟩⟩, CV.bool false,
                        CV.str ⟨⟨[]⟩⟩, CV.bool false]])))
            none)
          none)) := by kernel_rfl
theorem up13 (s : ByteArray) (n : Nat) (L : Env → Hp → Res) : aexec Tryd.prog (call' A27) (filt an13 0) n (prefC 4 c13) (envOf Tryd.prog 13 [.c (.str s)]) [] (thenK (headK h13a L) (endOf Tryd.prog 13 [])) =
    bif' (decide ((↑s.size : Int) > 2048))
      (some
        (CV.tup
            [CV.agg
                [CV.str ⟨⟨[]⟩⟩, CV.str ⟨⟨[]⟩⟩, CV.bool false,
                  CV.str ⟨⟨[]⟩⟩, CV.str ⟨⟨[]⟩⟩, CV.bool false, CV.bool false,
                  CV.str ⟨⟨[]⟩⟩, CV.str ⟨⟨[]⟩⟩, CV.bool false,
                  CV.str ⟨⟨[]⟩⟩, CV.bool false],
              CV.int IntKind.i64 (Int.ofNat 3)],
          []))
      (L (mkEnv 104 [(0, PV.c (CV.str s)), (2, PV.bptr 0 0), (4, PV.bptr 1 0), (5, PV.c (CV.str s))])
        [AO.box
            (PV.c
              (CV.agg
                [CV.str ⟨⟨[]⟩⟩, CV.str ⟨⟨[]⟩⟩, CV.bool false,
                  CV.str ⟨⟨[]⟩⟩, CV.str ⟨⟨[]⟩⟩, CV.bool false, CV.bool false,
                  CV.str ⟨⟨[]⟩⟩, CV.str ⟨⟨[]⟩⟩, CV.bool false,
                  CV.str ⟨⟨[]⟩⟩, CV.bool false]))
            kU,
          AO.box
            (PV.c
              (CV.agg
                [CV.str ⟨⟨[]⟩⟩, CV.str ⟨⟨[]⟩⟩, CV.bool false,
                  CV.str ⟨⟨[]⟩⟩, CV.str ⟨⟨[]⟩⟩, CV.bool false, CV.bool false,
                  CV.str ⟨⟨[]⟩⟩, CV.str ⟨⟨[]⟩⟩, CV.bool false,
                  CV.str ⟨⟨[]⟩⟩, CV.bool false]))
            kU]) := by kernel_rfl
theorem uq13 (s : ByteArray) (n : Nat) (L : Env → Hp → Res) : aexecB Tryd.prog (call' A27) (filt an13 0) n (prefC 1 d13a) (mkEnv 104 [(0, .c (.str s)), (2, .bptr 0 0), (4, .bptr 1 0), (5, .c (.str s))]) [z0, z0] (thenK (headK h13a L) (endOf Tryd.prog 13 [])) =
    bif' (decide (s.size ≤ 10000) && decide ((ByteArray.mk #[58, 47, 63, 35]).size ≤ 10000))
      (bif' (!(s.extract (findI s 0 (ByteArray.mk #[58, 47, 63, 35])) s.size).toList == (ByteArray.mk #[]).toList)
        (bif' (decide (0 < (↑(s.extract (findI s 0 (ByteArray.mk #[58, 47, 63, 35])) s.size).size : Int)))
          (bif' (byteAt (s.extract (findI s 0 (ByteArray.mk #[58, 47, 63, 35])) s.size) (Int.toNat 0) == 58)
            (bif' ((s.extract 0 (findI s 0 (ByteArray.mk #[58, 47, 63, 35]))).toList == (ByteArray.mk #[]).toList)
              (some
                (CV.tup
                    [CV.agg
                        [CV.str ⟨⟨[]⟩⟩, CV.str ⟨⟨[]⟩⟩, CV.bool false,
                          CV.str ⟨⟨[]⟩⟩, CV.str ⟨⟨[]⟩⟩, CV.bool false,
                          CV.bool false, CV.str ⟨⟨[]⟩⟩, CV.str ⟨⟨[]⟩⟩,
                          CV.bool false, CV.str ⟨⟨[]⟩⟩, CV.bool false],
                      CV.int IntKind.i64 (Int.ofNat 5)],
                  []))
              (bif'
                (decide ((s.extract 0 (findI s 0 (ByteArray.mk #[58, 47, 63, 35]))).size ≤ 10000) &&
                  (decide
                      (schC.size ≤
                        100) &&
                    asciiS
                      schC))
                (bif'
                  (!allS (s.extract 0 (findI s 0 (ByteArray.mk #[58, 47, 63, 35])))
                      schC)
                  (some
                    (CV.tup
                        [CV.agg
                            [CV.str ⟨⟨[]⟩⟩, CV.str ⟨⟨[]⟩⟩, CV.bool false,
                              CV.str ⟨⟨[]⟩⟩, CV.str ⟨⟨[]⟩⟩, CV.bool false,
                              CV.bool false, CV.str ⟨⟨[]⟩⟩, CV.str ⟨⟨[]⟩⟩,
                              CV.bool false, CV.str ⟨⟨[]⟩⟩, CV.bool false],
                          CV.int IntKind.i64 (Int.ofNat 5)],
                      []))
                  (bif' (decide (1 ≤ (↑(s.extract 0 (findI s 0 (ByteArray.mk #[58, 47, 63, 35]))).size : Int)))
                    (bif'
                      (decide
                          (((s.extract 0 (findI s 0 (ByteArray.mk #[58, 47, 63, 35]))).extract (Int.toNat 0)
                                (Int.toNat 1)).size ≤
                            10000) &&
                        (decide
                            (letC.size ≤
                              100) &&
                          asciiS
                            letC))
                      (bif'
                        (!allS
                            ((s.extract 0 (findI s 0 (ByteArray.mk #[58, 47, 63, 35]))).extract (Int.toNat 0) (Int.toNat 1))
                            letC)
                        (some
                          (CV.tup
                              [CV.agg
                                  [CV.str ⟨⟨[]⟩⟩, CV.str ⟨⟨[]⟩⟩, CV.bool false,
                                    CV.str ⟨⟨[]⟩⟩, CV.str ⟨⟨[]⟩⟩, CV.bool false,
                                    CV.bool false, CV.str ⟨⟨[]⟩⟩, CV.str ⟨⟨[]⟩⟩,
                                    CV.bool false, CV.str ⟨⟨[]⟩⟩, CV.bool false],
                                CV.int IntKind.i64 (Int.ofNat 5)],
                            []))
                        (bif' (decide (1 ≤ (↑(s.extract (findI s 0 (ByteArray.mk #[58, 47, 63, 35])) s.size).size : Int)))
                          (bif'
                            (decide
                              ((↑(s.extract (findI s 0 (ByteArray.mk #[58, 47, 63, 35])) s.size).size : Int) ≤
                                (↑(s.extract (findI s 0 (ByteArray.mk #[58, 47, 63, 35])) s.size).size : Int)))
                            (L
                              (mkEnv 104
                                [(0, PV.c (CV.str s)), (2, PV.bptr 0 0), (4, PV.bptr 1 0),
                                  (5,
                                    PV.c
                                      (CV.str
                                        ((s.extract (findI s 0 (ByteArray.mk #[58, 47, 63, 35])) s.size).extract
                                          (Int.toNat 1)
                                          (↑(s.extract (findI s 0 (ByteArray.mk #[58, 47, 63, 35])) s.size).size :
                                              Int).toNat)))])
                              [AO.box
                                  (PV.c
                                    (CV.agg
                                      [CV.str ⟨⟨[]⟩⟩, CV.str ⟨⟨[]⟩⟩,
                                        CV.bool false, CV.str ⟨⟨[]⟩⟩,
                                        CV.str ⟨⟨[]⟩⟩, CV.bool false, CV.bool false,
                                        CV.str ⟨⟨[]⟩⟩, CV.str ⟨⟨[]⟩⟩,
                                        CV.bool false, CV.str ⟨⟨[]⟩⟩, CV.bool false]))
                                  kU,
                                AO.box
                                  (PV.c
                                    (CV.agg
                                      [CV.str (s.extract 0 (findI s 0 (ByteArray.mk #[58, 47, 63, 35]))),
                                        CV.str ⟨⟨[]⟩⟩, CV.bool false,
                                        CV.str ⟨⟨[]⟩⟩, CV.str ⟨⟨[]⟩⟩,
                                        CV.bool false, CV.bool false, CV.str ⟨⟨[]⟩⟩,
                                        CV.str ⟨⟨[]⟩⟩, CV.bool false,
                                        CV.str ⟨⟨[]⟩⟩, CV.bool false]))
                                  kU])
                            none)
                          none))
                      none)
                    none))
                none))
            (L (mkEnv 104 [(0, PV.c (CV.str s)), (2, PV.bptr 0 0), (4, PV.bptr 1 0), (5, PV.c (CV.str s))])
              [AO.box
                  (PV.c
                    (CV.agg
                      [CV.str ⟨⟨[]⟩⟩, CV.str ⟨⟨[]⟩⟩, CV.bool false,
                        CV.str ⟨⟨[]⟩⟩, CV.str ⟨⟨[]⟩⟩, CV.bool false,
                        CV.bool false, CV.str ⟨⟨[]⟩⟩, CV.str ⟨⟨[]⟩⟩,
                        CV.bool false, CV.str ⟨⟨[]⟩⟩, CV.bool false]))
                  kU,
                AO.box
                  (PV.c
                    (CV.agg
                      [CV.str ⟨⟨[]⟩⟩, CV.str ⟨⟨[]⟩⟩, CV.bool false,
                        CV.str ⟨⟨[]⟩⟩, CV.str ⟨⟨[]⟩⟩, CV.bool false,
                        CV.bool false, CV.str ⟨⟨[]⟩⟩, CV.str ⟨⟨[]⟩⟩,
                        CV.bool false, CV.str ⟨⟨[]⟩⟩, CV.bool false]))
                  kU]))
          none)
        (L (mkEnv 104 [(0, PV.c (CV.str s)), (2, PV.bptr 0 0), (4, PV.bptr 1 0), (5, PV.c (CV.str s))])
          [AO.box
              (PV.c
                (CV.agg
                  [CV.str ⟨⟨[]⟩⟩, CV.str ⟨⟨[]⟩⟩, CV.bool false,
                    CV.str ⟨⟨[]⟩⟩, CV.str ⟨⟨[]⟩⟩, CV.bool false, CV.bool false,
                    CV.str ⟨⟨[]⟩⟩, CV.str ⟨⟨[]⟩⟩, CV.bool false,
                    CV.str ⟨⟨[]⟩⟩, CV.bool false]))
              kU,
            AO.box
              (PV.c
                (CV.agg
                  [CV.str ⟨⟨[]⟩⟩, CV.str ⟨⟨[]⟩⟩, CV.bool false,
                    CV.str ⟨⟨[]⟩⟩, CV.str ⟨⟨[]⟩⟩, CV.bool false, CV.bool false,
                    CV.str ⟨⟨[]⟩⟩, CV.str ⟨⟨[]⟩⟩, CV.bool false,
                    CV.str ⟨⟨[]⟩⟩, CV.bool false]))
              kU]))
      none := by kernel_rfl
theorem ur13 (s r a : ByteArray) (n : Nat) (L : Env → Hp → Res) : aexecB Tryd.prog (call' A27) (filt an13 0) n (prefC 1 d13b) (mkEnv 104 [(0, .c (.str s)), (2, .bptr 0 0), (4, .bptr 1 0), (5, .c (.str r))]) [z0, .box (.c (zU a false)) kU] (thenK (headK h13b L) (endOf Tryd.prog 13 [])) =
    bif' (decide (s.size ≤ 10000))
      (L (mkEnv 104 [(2, PV.bptr 0 0), (4, PV.bptr 1 0), (5, PV.c (CV.str r)), (8, PV.c (CV.bool (stS s)))])
        [AO.box
            (PV.c
              (CV.agg
                [CV.str ⟨⟨[]⟩⟩, CV.str ⟨⟨[]⟩⟩, CV.bool false,
                  CV.str ⟨⟨[]⟩⟩, CV.str ⟨⟨[]⟩⟩, CV.bool false, CV.bool false,
                  CV.str ⟨⟨[]⟩⟩, CV.str ⟨⟨[]⟩⟩, CV.bool false,
                  CV.str ⟨⟨[]⟩⟩, CV.bool false]))
            kU,
          AO.box
            (PV.c
              (CV.agg
                [CV.str a, CV.str ⟨⟨[]⟩⟩, CV.bool false, CV.str ⟨⟨[]⟩⟩,
                  CV.str ⟨⟨[]⟩⟩, CV.bool false, CV.bool false, CV.str ⟨⟨[]⟩⟩,
                  CV.str ⟨⟨[]⟩⟩, CV.bool false, CV.str ⟨⟨[]⟩⟩, CV.bool false]))
            kU])
      none := by kernel_rfl
theorem us13 (r a : ByteArray) (ok : Bool) (n : Nat) (L : Env → Hp → Res) : aexecB Tryd.prog (call' A27) (filt an13 0) n (prefC 1 d13c) (mkEnv 104 [(2, .bptr 0 0), (4, .bptr 1 0), (5, .c (.str r)), (8, .c (.bool ok))]) [z0, .box (.c (zU a false)) kU] (thenK (headK h13b L) (endOf Tryd.prog 13 [])) =
    bif' (preS r (ByteArray.mk #[47, 47]))
      (bif'
        (decide ((r.extract (ByteArray.mk #[47, 47]).size r.size).size ≤ 10000) &&
          decide ((ByteArray.mk #[47, 63, 35]).size ≤ 10000))
        (bif' ok
          (bif'
            (decide
              (((r.extract (ByteArray.mk #[47, 47]).size r.size).extract 0
                    (findI (r.extract (ByteArray.mk #[47, 47]).size r.size) 0 (ByteArray.mk #[47, 63, 35]))).size ≤
                2500))
            (L
              (mkEnv 104
                [(2, PV.bptr 0 0), (4, PV.bptr 1 0),
                  (5,
                    PV.c
                      (CV.str
                        ((r.extract (ByteArray.mk #[47, 47]).size r.size).extract
                          (findI (r.extract (ByteArray.mk #[47, 47]).size r.size) 0 (ByteArray.mk #[47, 63, 35]))
                          (r.extract (ByteArray.mk #[47, 47]).size r.size).size))),
                  (8,
                    PV.c
                      (CV.bool
                        (auOk
                          ((r.extract (ByteArray.mk #[47, 47]).size r.size).extract 0
                            (findI (r.extract (ByteArray.mk #[47, 47]).size r.size) 0 (ByteArray.mk #[47, 63, 35]))))))])
              [AO.box
                  (PV.c
                    (CV.agg
                      [CV.str ⟨⟨[]⟩⟩, CV.str ⟨⟨[]⟩⟩, CV.bool false,
                        CV.str ⟨⟨[]⟩⟩, CV.str ⟨⟨[]⟩⟩, CV.bool false,
                        CV.bool false, CV.str ⟨⟨[]⟩⟩, CV.str ⟨⟨[]⟩⟩,
                        CV.bool false, CV.str ⟨⟨[]⟩⟩, CV.bool false]))
                  kU,
                AO.box
                  (PV.c
                    (CV.agg
                      [CV.str a,
                        CV.str
                          (auUsr
                            ((r.extract (ByteArray.mk #[47, 47]).size r.size).extract 0
                              (findI (r.extract (ByteArray.mk #[47, 47]).size r.size) 0 (ByteArray.mk #[47, 63, 35])))),
                        CV.bool
                          (auHU
                            ((r.extract (ByteArray.mk #[47, 47]).size r.size).extract 0
                              (findI (r.extract (ByteArray.mk #[47, 47]).size r.size) 0 (ByteArray.mk #[47, 63, 35])))),
                        CV.str
                          (auHost
                            ((r.extract (ByteArray.mk #[47, 47]).size r.size).extract 0
                              (findI (r.extract (ByteArray.mk #[47, 47]).size r.size) 0 (ByteArray.mk #[47, 63, 35])))),
                        CV.str
                          (auPort
                            ((r.extract (ByteArray.mk #[47, 47]).size r.size).extract 0
                              (findI (r.extract (ByteArray.mk #[47, 47]).size r.size) 0 (ByteArray.mk #[47, 63, 35])))),
                        CV.bool
                          (auHP
                            ((r.extract (ByteArray.mk #[47, 47]).size r.size).extract 0
                              (findI (r.extract (ByteArray.mk #[47, 47]).size r.size) 0 (ByteArray.mk #[47, 63, 35])))),
                        CV.bool true, CV.str ⟨⟨[]⟩⟩, CV.str ⟨⟨[]⟩⟩,
                        CV.bool false, CV.str ⟨⟨[]⟩⟩, CV.bool false]))
                  kU])
            none)
          (L
            (mkEnv 104
              [(2, PV.bptr 0 0), (4, PV.bptr 1 0),
                (5,
                  PV.c
                    (CV.str
                      ((r.extract (ByteArray.mk #[47, 47]).size r.size).extract
                        (findI (r.extract (ByteArray.mk #[47, 47]).size r.size) 0 (ByteArray.mk #[47, 63, 35]))
                        (r.extract (ByteArray.mk #[47, 47]).size r.size).size))),
                (8, PV.c (CV.bool false))])
            [AO.box
                (PV.c
                  (CV.agg
                    [CV.str ⟨⟨[]⟩⟩, CV.str ⟨⟨[]⟩⟩, CV.bool false,
                      CV.str ⟨⟨[]⟩⟩, CV.str ⟨⟨[]⟩⟩, CV.bool false,
                      CV.bool false, CV.str ⟨⟨[]⟩⟩, CV.str ⟨⟨[]⟩⟩,
                      CV.bool false, CV.str ⟨⟨[]⟩⟩, CV.bool false]))
                kU,
              AO.box
                (PV.c
                  (CV.agg
                    [CV.str a, CV.str ⟨⟨[]⟩⟩, CV.bool false, CV.str ⟨⟨[]⟩⟩,
                      CV.str ⟨⟨[]⟩⟩, CV.bool false, CV.bool true, CV.str ⟨⟨[]⟩⟩,
                      CV.str ⟨⟨[]⟩⟩, CV.bool false, CV.str ⟨⟨[]⟩⟩,
                      CV.bool false]))
                kU]))
        none)
      (L (mkEnv 104 [(2, PV.bptr 0 0), (4, PV.bptr 1 0), (5, PV.c (CV.str r)), (8, PV.c (CV.bool ok))])
        [AO.box
            (PV.c
              (CV.agg
                [CV.str ⟨⟨[]⟩⟩, CV.str ⟨⟨[]⟩⟩, CV.bool false,
                  CV.str ⟨⟨[]⟩⟩, CV.str ⟨⟨[]⟩⟩, CV.bool false, CV.bool false,
                  CV.str ⟨⟨[]⟩⟩, CV.str ⟨⟨[]⟩⟩, CV.bool false,
                  CV.str ⟨⟨[]⟩⟩, CV.bool false]))
            kU,
          AO.box
            (PV.c
              (CV.agg
                [CV.str a, CV.str ⟨⟨[]⟩⟩, CV.bool false, CV.str ⟨⟨[]⟩⟩,
                  CV.str ⟨⟨[]⟩⟩, CV.bool false, CV.bool false, CV.str ⟨⟨[]⟩⟩,
                  CV.str ⟨⟨[]⟩⟩, CV.bool false, CV.str ⟨⟨[]⟩⟩, CV.bool false]))
            kU]) := by kernel_rfl
theorem ut13 (r a us ho po : ByteArray) (hu hp t ok : Bool) (n : Nat) : aexecB Tryd.prog (call' A27) (filt an13 0) n d13d (mkEnv 104 [(2, .bptr 0 0), (4, .bptr 1 0), (5, .c (.str r)), (8, .c (.bool ok))]) [z0, .box (.c (uV a us hu ho po hp t ⟨⟨[]⟩⟩ ⟨⟨[]⟩⟩ false ⟨⟨[]⟩⟩ false)) kU] (endOf Tryd.prog 13 []) =
    bif' (decide (r.size ≤ 10000))
      (bif' (decide ((cutB r 35).size ≤ 10000))
        (bif' (!ok)
          (some
            (CV.tup
                [CV.agg
                    [CV.str ⟨⟨[]⟩⟩, CV.str ⟨⟨[]⟩⟩, CV.bool false,
                      CV.str ⟨⟨[]⟩⟩, CV.str ⟨⟨[]⟩⟩, CV.bool false,
                      CV.bool false, CV.str ⟨⟨[]⟩⟩, CV.str ⟨⟨[]⟩⟩,
                      CV.bool false, CV.str ⟨⟨[]⟩⟩, CV.bool false],
                  CV.int IntKind.i64 (Int.ofNat 5)],
              []))
          (bif' (decide (Lib.indexByte (cutA r 35).data.toList (Int.toNat 35).toUInt8 ≥ 0))
            (some
              (CV.tup
                  [CV.agg
                      [CV.str ⟨⟨[]⟩⟩, CV.str ⟨⟨[]⟩⟩, CV.bool false,
                        CV.str ⟨⟨[]⟩⟩, CV.str ⟨⟨[]⟩⟩, CV.bool false,
                        CV.bool false, CV.str ⟨⟨[]⟩⟩, CV.str ⟨⟨[]⟩⟩,
                        CV.bool false, CV.str ⟨⟨[]⟩⟩, CV.bool false],
                    CV.int IntKind.i64 (Int.ofNat 5)],
                []))
            (bif' (fitsS ((cutB (cutB r 35) 63).size + (cutA (cutB r 35) 63).size))
              (bif' (fitsS ((cutB (cutB r 35) 63 ++ cutA (cutB r 35) 63).size + (cutA r 35).size))
                (bif' (decide ((cutB (cutB r 35) 63 ++ cutA (cutB r 35) 63 ++ cutA r 35).size ≤ 10000))
                  (bif' (brS (cutB (cutB r 35) 63 ++ cutA (cutB r 35) 63 ++ cutA r 35))
                    (some
                      (CV.tup
                          [CV.agg
                              [CV.str ⟨⟨[]⟩⟩, CV.str ⟨⟨[]⟩⟩, CV.bool false,
                                CV.str ⟨⟨[]⟩⟩, CV.str ⟨⟨[]⟩⟩, CV.bool false,
                                CV.bool false, CV.str ⟨⟨[]⟩⟩, CV.str ⟨⟨[]⟩⟩,
                                CV.bool false, CV.str ⟨⟨[]⟩⟩, CV.bool false],
                            CV.int IntKind.i64 (Int.ofNat 5)],
                        []))
                    (some
                      (CV.tup
                          [CV.agg
                              [CV.str a, CV.str us, CV.bool hu, CV.str ho, CV.str po, CV.bool hp, CV.bool t,
                                CV.str (cutB (cutB r 35) 63), CV.str (cutA (cutB r 35) 63), CV.bool (cutF (cutB r 35) 63),
                                CV.str (cutA r 35), CV.bool (cutF r 35)],
                            CV.int IntKind.i64 (Int.ofNat 0)],
                        [])))
                  none)
                none)
              none)))
        none)
      none := by kernel_rfl

end Go.Pv

/- Parts of URLs: brackets; cuts at a byte. -/
namespace Go.Pv
set_option linter.unusedVariables false
set_option maxRecDepth 100000
open Go Go.Proofs
variable {I : World → Prop} {ng : Nat}

/-! ### Where the first byte of a set is -/
theorem findL_le (p : List UInt8) : ∀ l : List UInt8, findL p l ≤ l.length
  | [] => Nat.le_refl _
  | b :: t => by
    unfold findL
    split
    · omega
    · have := findL_le p t; simp only [List.length_cons]; omega
theorem take_findL (p : List UInt8) : ∀ l : List UInt8, l.take (findL p l) = l.takeWhile fun b => !inS (mkS p) b.toNat
  | [] => rfl
  | b :: t => by
    unfold findL
    cases h : inS (mkS p) b.toNat with
    | true => simp [List.takeWhile_cons, h]
    | false => simp [List.takeWhile_cons, h, take_findL p t]
theorem drop_findL (p : List UInt8) : ∀ l : List UInt8, l.drop (findL p l) = l.dropWhile fun b => !inS (mkS p) b.toNat
  | [] => rfl
  | b :: t => by
    unfold findL
    cases h : inS (mkS p) b.toNat with
    | true => simp [List.dropWhile_cons, h]
    | false => simp [List.dropWhile_cons, h, drop_findL p t]
theorem in_lit (p : List UInt8) (b : UInt8) : inS (mkS p) b.toNat = p.contains b := by
  unfold inS
  rw [mkS_data, Bool.eq_iff_iff, List.any_eq_true, List.contains_iff_mem]
  constructor
  · rintro ⟨x, hx, h⟩
    rw [decide_eq_true_eq] at h
    have : x = b := u8_int.1 h
    subst this; exact hx
  · intro h
    exact ⟨b, h, by simp⟩
theorem dropWhile_nil {q : UInt8 → Bool} : ∀ {l : List UInt8}, l.dropWhile q = [] ↔ l.all q = true
  | [] => by simp
  | b :: t => by
    rw [List.dropWhile_cons, List.all_cons]
    cases h : q b with
    | true => simpa using dropWhile_nil
    | false => simp
theorem find0 (l p : List UInt8) : findI (mkS l) 0 (mkS p) = findL p l := by
  unfold findI
  rw [mkS_data, mkS_data, List.drop_zero, Nat.zero_add]
theorem brS_mk (l : List UInt8) : brS (mkS l) = !decide (l.drop (findL [91, 93] l) = []) := by
  unfold brS
  rw [mkS_data, drop_findL, Bool.eq_iff_iff, List.any_eq_true, Bool.not_eq_true', decide_eq_false_iff_not, dropWhile_nil, List.all_eq_true]
  constructor
  · rintro ⟨x, hx, h⟩ ha
    have := ha x hx
    rw [in_lit] at this
    simp at this h
    rcases h with rfl | rfl <;> simp at this
  · intro h
    refine Classical.byContradiction fun hn => h fun x hx => ?_
    rw [in_lit]
    refine Classical.byContradiction fun h2 => hn ⟨x, hx, ?_⟩
    simp at h2
    simp only [Bool.or_eq_true, decide_eq_true_eq]
    exact Decidable.or_iff_not_imp_left.2 h2
theorem size_lit : (decide ((mkS [91, 93]).size ≤ 10000)) = true := rfl
theorem g30 (hg : OnGlobals I ng) (h : Kw I ng A23) : Kw I ng A30 := known_add (g25 hg h) (contract_of (fun _ => none) hg (hok_of (g25 hg h)) fun cargs rv outs h => by
  unfold L30 at h
  split at h <;> first | (cases h; done) | skip
  rename_i s
  by_cases hs : s.size ≤ 10000
  · simp only [picked, pickAlt, decide_eq_true hs] at h
    cases h
    refine ⟨1, ?_⟩
    obtain ⟨l, rfl⟩ : ∃ l, s = mkS l := ⟨_, (mkS_bl s).symm⟩
    rw [ur30]
    have e : (ByteArray.mk #[91, 93]) = mkS [91, 93] := rfl
    have e0 : (ByteArray.mk #[]) = mkS [] := rfl
    rw [e, e0, size_lit, Bool.and_true, bif_t _ _ (decide_eq_true hs), find0, mkS_ext, toList_data, toList_data, mkS_data, mkS_data, sizeM]
    have hl : (l.drop (findL [91, 93] l)).take (l.length - findL [91, 93] l) = l.drop (findL [91, 93] l) := List.take_of_length_le (by simp)
    rw [hl, brS_mk]
    congr 3
    cases l.drop (findL [91, 93] l) <;> rfl
  · simp only [picked, pickAlt, decide_eq_false hs] at h; cases h)

/-! ### Cuts at a byte -/
theorem idx_cut (c : UInt8) : ∀ l : List UInt8, (0 ≤ Lib.indexByte l c → l.take (Lib.indexByte l c).toNat = (l.takeWhile fun b => !decide (b = c)) ∧ l.drop (Lib.indexByte l c).toNat = (l.dropWhile fun b => !decide (b = c)) ∧ (Lib.indexByte l c).toNat < l.length) ∧
    (Lib.indexByte l c < 0 → (l.takeWhile fun b => !decide (b = c)) = l ∧ (l.dropWhile fun b => !decide (b = c)) = [])
  | [] => ⟨fun h => by simp [Lib.indexByte] at h, fun _ => ⟨rfl, rfl⟩⟩
  | b :: t => by
    have ih := idx_cut c t
    have e : Lib.indexByte (b :: t) c = if b == c then (0 : Int) else if Lib.indexByte t c == -1 then -1 else Lib.indexByte t c + 1 := rfl
    rw [e]
    by_cases hb : b = c
    · subst hb
      simp
    · have h1 : (b == c) = false := by simpa using hb
      have := Lib.indexByte_ge t c
      rw [h1]
      simp only [Bool.false_eq_true, if_false, List.takeWhile_cons, List.dropWhile_cons, decide_eq_false hb, Bool.not_false, if_true]
      by_cases h2 : Lib.indexByte t c = -1
      · have h3 : (Lib.indexByte t c == -1) = true := by simpa using h2
        rw [h3]
        have := ih.2 (by omega)
        refine ⟨fun h => by simp at h, fun _ => ?_⟩
        rw [this.1, this.2]
        exact ⟨rfl, rfl⟩
      · have h3 : (Lib.indexByte t c == -1) = false := by simpa using h2
        rw [h3]
        simp only [Bool.false_eq_true, if_false]
        have ih1 := ih.1 (by omega)
        have e2 : (Lib.indexByte t c + 1).toNat = (Lib.indexByte t c).toNat + 1 := by omega
        rw [e2]
        refine ⟨fun _ => ⟨?_, ?_, ?_⟩, fun h => by omega⟩
        · rw [List.take_succ_cons, ih1.1]
        · rw [List.drop_succ_cons, ih1.2.1]
        · simp only [List.length_cons]; omega
theorem g60 (hg : OnGlobals I ng) (h : Kw I ng A23) : Kw I ng A60 := known_add (g30 hg h) (contract_of (fun _ => none) hg (hok_of (g30 hg h)) fun cargs rv outs h => by
  unfold L60 at h
  split at h <;> first | (cases h; done) | skip
  rename_i s c
  by_cases hs : s.size ≤ 10000
  · simp only [picked, pickAlt, decide_eq_true hs] at h
    cases h
    refine ⟨1, ?_⟩
    rw [ur60, toList_data, toList_data]
    have e : byteAt (ByteArray.mk (Array.mk [c])) (Int.toNat 0) = ((c.toNat : Nat) : Int) := rfl
    rw [e, natM, u8_cast', bif_b]
    split
    · rename_i h1
      have h1 : [c] = s.data.toList := by simpa using h1
      rw [← h1]
      simp [Lib.indexByte]
    · rfl
  · simp only [picked, pickAlt, decide_eq_false hs] at h; cases h)
theorem g48 (hg : OnGlobals I ng) (h : Kw I ng A23) : Kw I ng A48 := known_add (g60 hg h) (contract_of (fun _ => none) hg (hok_of (g60 hg h)) fun cargs rv outs h => by
  unfold L28 at h
  split at h <;> first | (cases h; done) | skip
  rename_i s c
  by_cases hs : s.size ≤ 10000
  · simp only [picked, pickAlt, decide_eq_true hs] at h
    cases h
    refine ⟨1, ?_⟩
    obtain ⟨l, rfl⟩ : ∃ l, s = mkS l := ⟨_, (mkS_bl s).symm⟩
    rw [ur48, bif_t _ _ (decide_eq_true hs), mkS_data]
    rw [sizeM] at *
    unfold cutB cutA cutF
    simp only [dataM]
    obtain ⟨q1, q2⟩ := idx_cut c l
    have hm := index_mem l c
    by_cases hi : 0 ≤ Lib.indexByte l c
    · obtain ⟨a1, a2, a3⟩ := q1 hi
      rw [bif_t _ _ (decide_eq_true hi), bif_t _ _ (decide_eq_true hi), bif_t _ _ (decide_eq_true (by omega))]
      have e : IntKind.i64.wrap (Lib.indexByte l c + (((ByteArray.mk (Array.mk [c])).size : Nat) : Int)) = Lib.indexByte l c + 1 := by
        show IntKind.i64.wrap (Lib.indexByte l c + 1) = _
        rw [wrap_id (by omega) (by omega)]
      rw [e, bif_t _ _ (decide_eq_true (by omega)), bif_t _ _ (decide_eq_true (by omega)), bif_t _ _ (decide_eq_true (by omega))]
      have e2 : (Lib.indexByte l c + 1).toNat = (Lib.indexByte l c).toNat + 1 := by omega
      have e3 : Int.toNat 0 = 0 := rfl
      rw [e2, e3, natM, mkS_ext, mkS_ext, List.drop_zero, Nat.sub_zero, a1, ← a2, List.drop_drop]
      rw [← hm, decide_eq_true hi]
      have e4 : (l.drop ((Lib.indexByte l c).toNat + 1)).take (l.length - ((Lib.indexByte l c).toNat + 1)) = l.drop ((Lib.indexByte l c).toNat + 1) := List.take_of_length_le (by simp)
      rw [e4]
    · obtain ⟨a1, a2⟩ := q2 (by omega)
      rw [bif_f _ _ (decide_eq_false hi), a1, a2, ← hm, decide_eq_false hi]
      rfl
  · simp only [picked, pickAlt, decide_eq_false hs] at h; cases h)
theorem g28 (hg : OnGlobals I ng) (h : Kw I ng A23) : Kw I ng A28 := known_add (g48 hg h) (contract_of (fun _ => none) hg (hok_of (g48 hg h)) fun cargs rv outs h => by
  unfold L28 at h
  split at h <;> first | (cases h; done) | skip
  rename_i s c
  by_cases hs : s.size ≤ 10000
  · simp only [picked, pickAlt, decide_eq_true hs] at h
    cases h
    exact ⟨1, by rw [ur28, bif_t _ _ (decide_eq_true hs)]⟩
  · simp only [picked, pickAlt, decide_eq_false hs] at h; cases h)

end Go.Pv

/- Parts of URLs: authority. -/
namespace Go.Pv
set_option linter.unusedVariables false
set_option maxRecDepth 100000
open Go Go.Proofs
variable {I : World → Prop} {ng : Nat}

theorem abody_eq2 {P : Program} {tb : Handler} {an : Ann} {n : Nat} {f : FuncId} {cargs : List CV} {ps : List PV} {H : Hp} (ho : openArgs cargs [] = (ps, H)) (hf : ((P.funcs[f]?).bind (·.body)).isSome = true) :
    abody P tb an n f cargs = aexec P tb (filt an H.length) n (codeOf P f) (envOf P f ps) H (endOf P f (lentOf H)) := by
  unfold abody codeOf envOf endOf
  cases h1 : P.funcs[f]? with
  | none => rw [h1] at hf; cases hf
  | some fn =>
    cases h2 : fn.body with
    | none => rw [h1] at hf; simp [h2] at hf
    | some c =>
      simp only [ho, h2]

theorem lastL_b (l : List UInt8) (c : Int) : ∀ k, -1 ≤ lastL k l c ∧ lastL k l c < k
  | 0 => by simp [lastL]
  | k + 1 => by
    unfold lastL
    have := lastL_b l c k
    split <;> omega
theorem lastI_b (s : ByteArray) (c : Int) : -1 ≤ lastI s c ∧ lastI s c < s.size := lastL_b _ _ _

theorem ten_in : ∀ n : Nat, n < 256 → inS (ByteArray.mk #[48, 49, 50, 51, 52, 53, 54, 55, 56, 57]) (n : Int) = (decide (48 ≤ n) && decide (n ≤ 57)) := by decide +kernel
theorem ten_all (s : ByteArray) : allS s (ByteArray.mk #[48, 49, 50, 51, 52, 53, 54, 55, 56, 57]) = digS s := by
  unfold allS digS
  congr 1
  funext b
  exact ten_in _ b.toNat_lt
theorem tw_id {q : UInt8 → Bool} : ∀ {l : List UInt8}, l.takeWhile q = l ↔ l.all q = true
  | [] => by simp
  | b :: t => by
    rw [List.takeWhile_cons, List.all_cons]
    cases h : q b with
    | true => simpa using tw_id
    | false => simp
theorem no_find (l p : List UInt8) : (((mkS l).extract 0 (findI (mkS l) 0 (mkS p))).toList == (mkS l).toList) = true ↔ (l.any fun b => inS (mkS p) b.toNat) = false := by
  rw [find0, mkS_ext, List.drop_zero, Nat.sub_zero, toList_data, toList_data, mkS_data, mkS_data, take_findL, beq_iff_eq]
  rw [tw_id, List.any_eq_false, List.all_eq_true]
  constructor
  · intro h x hx
    have := h x hx
    simpa using this
  · intro h x hx
    have := h x hx
    simpa using this
theorem hostS_eq (s : ByteArray) (h : s.size ≤ 10000) : hostS s = if preS s (ByteArray.mk #[91]) = true then if sufS (s.extract (ByteArray.mk #[91]).size s.size) (ByteArray.mk #[93]) = true then
    ip6 ((s.extract (ByteArray.mk #[91]).size s.size).extract 0 ((s.extract (ByteArray.mk #[91]).size s.size).size - (ByteArray.mk #[93]).size))
    else (s.extract 0 (findI s 0 (ByteArray.mk #[58, 91, 93, 64]))).toList == s.toList
  else (s.extract 0 (findI s 0 (ByteArray.mk #[58, 91, 93, 64]))).toList == s.toList := by
  obtain ⟨l, rfl⟩ : ∃ l, s = mkS l := ⟨_, (mkS_bl s).symm⟩
  have hF : (((mkS l).extract 0 (findI (mkS l) 0 (ByteArray.mk #[58, 91, 93, 64]))).toList == (mkS l).toList) = !(l.any fun b => inS ⟨#[58, 91, 93, 64]⟩ b.toNat) := by
    have := no_find l [58, 91, 93, 64]
    rw [Bool.eq_iff_iff, Bool.not_eq_true']
    exact this
  rw [hF]
  unfold hostS
  rw [mkS_data]
  have e1 : (ByteArray.mk #[91]).size = 1 := rfl
  have e3 : (ByteArray.mk #[93]).size = 1 := rfl
  have e2 : (ByteArray.mk (Array.mk [91] : Array UInt8)) = ByteArray.mk #[91] := rfl
  have hl : (l.drop 1).take (l.length - 1) = l.drop 1 := List.take_of_length_le (by simp)
  simp only [e1, e3, sizeM, mkS_ext, hl, List.drop_zero, Nat.sub_zero, List.length_drop]
  unfold preS sufS
  simp only [dataM]
  cases l with
  | nil => rfl
  | cons a t =>
    have e5 : (a :: t).drop 1 = t := rfl
    rw [e5]
    have p1 : ([91] : List UInt8).isPrefixOf (a :: t) = (91 == a) := by simp [List.isPrefixOf]
    rw [p1]
    by_cases ha : (91 == a) = true
    · rw [ha, if_pos rfl]
      have ha' : a = 91 := by simpa using (eq_of_beq ha).symm
      subst ha'
      cases t with
      | nil =>
        have : decide (2 ≤ ([91] : List UInt8).length) = false := rfl
        rw [this]
        have s2 : ([93] : List UInt8).isSuffixOf [] = false := rfl
        rw [s2]
        rfl
      | cons b u =>
        have c1 : decide (2 ≤ (91 :: b :: u : List UInt8).length) = true := decide_eq_true (by simp)
        have s1 : ([93] : List UInt8).isSuffixOf (91 :: b :: u) = ([93] : List UInt8).isSuffixOf (b :: u) := by
          rw [Bool.eq_iff_iff, List.isSuffixOf_iff_suffix, List.isSuffixOf_iff_suffix, List.suffix_cons_iff]
          simp
        rw [c1, s1, Bool.true_and, Bool.true_and]
    · have ha' : (91 == a) = false := by simpa using ha
      rw [ha']
      simp
theorem us27' (s a us po : ByteArray) (hu hp : Bool) (n : Nat) (hs : s.size ≤ 2500) (h1 : us.size ≤ 2500) (h2 : po.size ≤ 2500) (R : Res)
    (hR : R = some (.bool (hostS s && (digS po && !brS us)), [uV a us hu s po hp true ⟨⟨[]⟩⟩ ⟨⟨[]⟩⟩ false ⟨⟨[]⟩⟩ false])) :
    aexecB Tryd.prog (call' A47) (filt an27 1) n d27b (mkEnv 122 [(0, .bptr 0 0), (1, .c (.str s))]) [.box (.c (uV a us hu ⟨⟨[]⟩⟩ po hp true ⟨⟨[]⟩⟩ ⟨⟨[]⟩⟩ false ⟨⟨[]⟩⟩ false)) kU] (endOf Tryd.prog 27 [kU]) = R := by
  rw [us27, hR, hostS_eq s (by omega), ten_all]
  have b1 : decide (s.size ≤ 10000) = true := decide_eq_true (by omega)
  have b2 : decide (us.size ≤ 10000) = true := decide_eq_true (by omega)
  have b3 : decide (po.size ≤ 10000) = true := decide_eq_true (by omega)
  have b4 : decide ((s.extract (ByteArray.mk #[91]).size s.size).size ≤ 10000) = true := decide_eq_true (by rw [ByteArray.size_extract]; omega)
  have b5 : decide (((s.extract (ByteArray.mk #[91]).size s.size).extract 0 ((s.extract (ByteArray.mk #[91]).size s.size).size - (ByteArray.mk #[93]).size)).size ≤ 3000) = true := decide_eq_true (by rw [ByteArray.size_extract, ByteArray.size_extract]; omega)
  have b6 : decide ((ByteArray.mk #[58, 91, 93, 64]).size ≤ 10000) = true := rfl
  have b7 : decide ((ByteArray.mk #[48, 49, 50, 51, 52, 53, 54, 55, 56, 57]).size ≤ 100) = true := rfl
  have b8 : asciiS (ByteArray.mk #[48, 49, 50, 51, 52, 53, 54, 55, 56, 57]) = true := by decide +kernel
  rw [b1, b2, b3, b4, b5, b6, b7, b8]
  generalize ((s.extract 0 (findI s 0 (ByteArray.mk #[58, 91, 93, 64]))).toList == s.toList) = F
  generalize ip6 ((s.extract (ByteArray.mk #[91]).size s.size).extract 0 ((s.extract (ByteArray.mk #[91]).size s.size).size - (ByteArray.mk #[93]).size)) = C
  generalize ip4 ((s.extract (ByteArray.mk #[91]).size s.size).extract 0 ((s.extract (ByteArray.mk #[91]).size s.size).size - (ByteArray.mk #[93]).size)) = C4
  generalize preS s (ByteArray.mk #[91]) = A
  generalize sufS (s.extract (ByteArray.mk #[91]).size s.size) (ByteArray.mk #[93]) = B
  generalize sufS s (ByteArray.mk #[93]) = B'
  generalize digS po = D
  generalize brS us = E
  cases A <;> cases B <;> cases B' <;> cases C <;> cases C4 <;> cases D <;> cases F <;> cases E <;> rfl

theorem ext0 (s : ByteArray) : (s.extract (Int.toNat 0) (0 : Int).toNat) = ⟨⟨[]⟩⟩ := by
  obtain ⟨l, rfl⟩ : ∃ l, s = mkS l := ⟨_, (mkS_bl s).symm⟩
  rw [mkS_ext]; rfl
theorem bif_tt {α : Type} (x y : Option α) : bif' true x y = x := bif_t x y (Eq.refl true)
theorem bif_ff {α : Type} (x y : Option α) : bif' false x y = y := bif_f x y (Eq.refl false)
theorem toNat0 : Int.toNat 0 = 0 := by simp
theorem fo27a : tailC 2 c27 = d27a := eq_of_heq (heq_of_eq (by kernel_rfl))
theorem fo27b : tailC 1 d27a = d27b := eq_of_heq (heq_of_eq (by kernel_rfl))
theorem sp27 : spine 2 c27 = true := by kernel_rfl
theorem ha27 : headAt (filt an27 1) (tailC 2 c27) = some h27 := by kernel_rfl
theorem sp27b : spine 1 d27a = true := by kernel_rfl
theorem ha27b : headAt (filt an27 1) (tailC 1 d27a) = some h27 := by kernel_rfl
theorem uq27' (s a us : ByteArray) (hu : Bool) (n : Nat) (hs : s.size ≤ 2500) (h1 : us.size ≤ 2500) (R : Res)
    (hR : R = some (.bool (hostS (if decide (0 ≤ lastI s 58) && decide (lastI s 93 < lastI s 58) then s.extract 0 (lastI s 58).toNat else s) && (digS (if decide (0 ≤ lastI s 58) && decide (lastI s 93 < lastI s 58) then s.extract ((lastI s 58).toNat + 1) s.size else ⟨⟨[]⟩⟩) && !brS us)),
      [uV a us hu (if decide (0 ≤ lastI s 58) && decide (lastI s 93 < lastI s 58) then s.extract 0 (lastI s 58).toNat else s) (if decide (0 ≤ lastI s 58) && decide (lastI s 93 < lastI s 58) then s.extract ((lastI s 58).toNat + 1) s.size else ⟨⟨[]⟩⟩) (decide (0 ≤ lastI s 58) && decide (lastI s 93 < lastI s 58)) true ⟨⟨[]⟩⟩ ⟨⟨[]⟩⟩ false ⟨⟨[]⟩⟩ false])) :
    aexecB Tryd.prog (call' A47) (filt an27 1) n d27a (mkEnv 122 [(0, .bptr 0 0), (1, .c (.str s))]) [.box (.c (uV a us hu ⟨⟨[]⟩⟩ ⟨⟨[]⟩⟩ false true ⟨⟨[]⟩⟩ ⟨⟨[]⟩⟩ false ⟨⟨[]⟩⟩ false)) kU] (endOf Tryd.prog 27 [kU]) = R := by
  have b1 : decide (s.size ≤ 10000) = true := decide_eq_true (by omega)
  rw [seg_b (k := 1) (by decide) sp27b ha27b, uq27, b1]
  have hb := lastI_b s 58
  by_cases hp : 0 ≤ lastI s 58
  · have b2 : decide (lastI s 58 ≥ 0) = true := decide_eq_true hp
    have b2' : decide (0 ≤ lastI s 58) = true := decide_eq_true hp
    by_cases hq : lastI s 93 < lastI s 58
    · have b3 : decide (lastI s 58 > lastI s 93) = true := decide_eq_true hq
      have b3' : decide (lastI s 93 < lastI s 58) = true := decide_eq_true hq
      have e : IntKind.i64.wrap (lastI s 58 + 1) = lastI s 58 + 1 := wrap_id (by omega) (by omega)
      have e' : (lastI s 58 + 1).toNat = (lastI s 58).toNat + 1 := by omega
      have b4 : decide (0 ≤ lastI s 58 + 1) = true := decide_eq_true (by omega)
      have b5 : decide (lastI s 58 + 1 ≤ (s.size : Int)) = true := decide_eq_true (by omega)
      have b6 : decide ((s.size : Int) ≤ (s.size : Int)) = true := decide_eq_true (by omega)
      have b7 : decide (lastI s 58 ≤ (s.size : Int)) = true := decide_eq_true (by omega)
      rw [b2, b3, e, b4, b5, b6, b7, e', natM]
      simp only [bif_tt, fo27b, toNat0]
      rw [b2', b3'] at hR
      simp only [Bool.and_self, Bool.and_false, if_true, Bool.false_eq_true, if_false] at hR
      exact us27' _ _ _ _ _ _ n (by rw [ByteArray.size_extract]; omega) h1 (by rw [ByteArray.size_extract]; omega) R hR
    · have b3 : decide (lastI s 58 > lastI s 93) = false := decide_eq_false hq
      have b3' : decide (lastI s 93 < lastI s 58) = false := decide_eq_false hq
      rw [b2, b3]
      simp only [bif_tt, bif_ff, fo27b]
      rw [b2', b3'] at hR
      simp only [Bool.and_self, Bool.and_false, if_true, Bool.false_eq_true, if_false] at hR
      exact us27' _ _ _ _ _ _ n hs h1 (by decide) R hR
  · have b2 : decide (lastI s 58 ≥ 0) = false := decide_eq_false hp
    have b2' : decide (0 ≤ lastI s 58) = false := decide_eq_false hp
    rw [b2]
    simp only [bif_tt, bif_ff, fo27b]
    rw [b2'] at hR
    simp only [Bool.false_and, Bool.false_eq_true, if_false] at hR
    exact us27' _ _ _ _ _ _ n hs h1 (by decide) R hR
theorem g47 (hg : OnGlobals I ng) (h : Kw I ng A23) (h47 : Cw I ng 47 L47) : Kw I ng A47 := known_add (g28 hg h) h47
theorem g27 (hg : OnGlobals I ng) (h : Kw I ng A23) (h47 : Cw I ng 47 L47) : Kw I ng A27 := known_add (g47 hg h h47) (contract_of an27 hg (hok_of (g47 hg h h47)) fun cargs rv outs h => by
  unfold L27 at h
  split at h <;> first | (cases h; done) | skip
  rename_i k a s
  split at h <;> first | (cases h; done) | skip
  rename_i hk
  have hk := Nat.eq_of_beq_eq_true hk
  subst hk
  by_cases hs : s.size ≤ 2500
  · simp only [picked, pickAlt, decide_eq_true hs] at h
    cases h
    refine ⟨1, ?_⟩
    rw [abody_eq2 (ps := [.bptr 0 0, .c (.str s)]) (H := [.box (.c (zU a true)) kU]) rfl (by kernel_rfl)]
    show aexec Tryd.prog (call' A47) (filt an27 1) 1 c27 (envOf Tryd.prog 27 [.bptr 0 0, .c (.str s)]) [.box (.c (zU a true)) kU] (endOf Tryd.prog 27 [kU]) = _
    have b1 : decide (s.size ≤ 10000) = true := decide_eq_true (by omega)
    rw [seg_a (k := 2) (by decide) sp27 ha27, up27, b1]
    have hb := lastI_b s 64
    by_cases hp : 0 ≤ lastI s 64
    · have b2 : decide (lastI s 64 ≥ 0) = true := decide_eq_true hp
      have b2' : decide (0 ≤ lastI s 64) = true := decide_eq_true hp
      have e : IntKind.i64.wrap (lastI s 64 + 1) = lastI s 64 + 1 := wrap_id (by omega) (by omega)
      have e' : (lastI s 64 + 1).toNat = (lastI s 64).toNat + 1 := by omega
      have b4 : decide (0 ≤ lastI s 64 + 1) = true := decide_eq_true (by omega)
      have b5 : decide (lastI s 64 + 1 ≤ (s.size : Int)) = true := decide_eq_true (by omega)
      have b6 : decide ((s.size : Int) ≤ (s.size : Int)) = true := decide_eq_true (by omega)
      have b7 : decide (lastI s 64 ≤ (s.size : Int)) = true := decide_eq_true (by omega)
      rw [b2, e, b4, b5, b6, b7, e', natM]
      simp only [bif_tt, fo27a, toNat0]
      refine uq27' _ _ _ _ 1 (by rw [ByteArray.size_extract]; omega) (by rw [ByteArray.size_extract]; omega) _ ?_
      unfold auOk auHost auPort auHP auRest auUsr auHU
      rw [b2']
      first | rfl | (simp only [if_true, Bool.false_eq_true, if_false])
    · have b2 : decide (lastI s 64 ≥ 0) = false := decide_eq_false hp
      have b2' : decide (0 ≤ lastI s 64) = false := decide_eq_false hp
      rw [b2]
      simp only [bif_tt, bif_ff, fo27a]
      refine uq27' _ _ _ _ 1 hs (by decide) _ ?_
      unfold auOk auHost auPort auHP auRest auUsr auHU
      rw [b2']
      first | rfl | (simp only [if_true, Bool.false_eq_true, if_false])
  · simp only [picked, pickAlt, decide_eq_false hs] at h; cases h)

end Go.Pv

/- URLs: what url.Parse answers. -/
namespace Go.Pv
set_option linter.unusedVariables false
set_option maxRecDepth 100000
set_option maxHeartbeats 20000
open Go Go.Proofs
variable {I : World → Prop} {ng : Nat}

abbrev pC : ByteArray := ByteArray.mk #[58, 47, 63, 35]
abbrev pD : ByteArray := ByteArray.mk #[47, 63, 35]
abbrev nB : ByteArray := ⟨⟨[]⟩⟩
def uTl (s : ByteArray) : ByteArray := s.extract (findI s 0 pC) s.size
def uHd (s : ByteArray) : ByteArray := s.extract 0 (findI s 0 pC)
def uHS (s : ByteArray) : Bool := !((uTl s).toList == (ByteArray.mk #[]).toList) && (byteAt (uTl s) 0 == 58)
def uSch (s : ByteArray) : ByteArray := if uHS s then uHd s else nB
def uRst (s : ByteArray) : ByteArray := if uHS s then (uTl s).extract 1 (uTl s).size else s
def uSOk (s : ByteArray) : Bool := !uHS s || (!((uHd s).toList == (ByteArray.mk #[]).toList) && (allS (uHd s) schC && allS ((uHd s).extract 0 1) letC))
def rHA (r : ByteArray) : Bool := preS r (ByteArray.mk #[47, 47])
def rIn (r : ByteArray) : ByteArray := r.extract 2 r.size
def rAu (r : ByteArray) : ByteArray := (rIn r).extract 0 (findI (rIn r) 0 pD)
def rAf (r : ByteArray) : ByteArray := if rHA r then (rIn r).extract (findI (rIn r) 0 pD) (rIn r).size else r
def rUsr (r : ByteArray) : ByteArray := if rHA r then auUsr (rAu r) else nB
def rHU (r : ByteArray) : Bool := rHA r && auHU (rAu r)
def rHost (r : ByteArray) : ByteArray := if rHA r then auHost (rAu r) else nB
def rPort (r : ByteArray) : ByteArray := if rHA r then auPort (rAu r) else nB
def rHP (r : ByteArray) : Bool := rHA r && auHP (rAu r)
def rOkU (r : ByteArray) : Bool := !rHA r || auOk (rAu r)
def tPa (t : ByteArray) : ByteArray := cutB (cutB t 35) 63
def tQu (t : ByteArray) : ByteArray := cutA (cutB t 35) 63
def tHQ (t : ByteArray) : Bool := cutF (cutB t 35) 63
def tFr (t : ByteArray) : ByteArray := cutA t 35
def tHF (t : ByteArray) : Bool := cutF t 35
def tOk (t : ByteArray) : Bool := !((tFr t).data.toList.any fun b => decide (b = 35)) && !brS (tPa t ++ tQu t ++ tFr t)
def uV2 (a r t : ByteArray) : CV := uV a (rUsr r) (rHU r) (rHost r) (rPort r) (rHP r) (rHA r) (tPa t) (tQu t) (tHQ t) (tFr t) (tHF t)
def uOk (s : ByteArray) : Bool := uSOk s && (stS s && (rOkU (uRst s) && tOk (rAf (uRst s))))
def uR (s : ByteArray) : CV := uV2 (uSch s) (uRst s) (rAf (uRst s))
def L13 : Fn1 := fun x => match x with
  | [.str s] => some [(decide (2048 < s.size), .tup [zU nB false, .int .i64 3], []), (uOk s, .tup [uR s, .int .i64 0], []), (true, .tup [zU nB false, .int .i64 5], [])]
  | _ => none
def L22 : Fn1 := fun x => match x with
  | [.str s] => some [(decide (s.size ≤ 2500) && uOk s, .tup [uR s, .bool true], []), (decide (s.size ≤ 2500), .tup [zU nB false, .bool false], [])]
  | _ => none
def fin13 (ok : Bool) (v : CV) : Res := if ok = true then some (.tup [v, .int .i64 0], []) else some (.tup [zU nB false, .int .i64 5], [])

theorem fin_f (X : Bool) (v w : CV) : fin13 (false && X) v = fin13 (false && X) w := rfl
theorem cutB_sz (s : ByteArray) (c : UInt8) : (cutB s c).size ≤ s.size := by
  unfold cutB
  rw [sizeM]
  have := (List.takeWhile_sublist (fun b => !decide (b = c)) (l := s.data.toList)).length_le
  rw [data_len] at this
  exact this
theorem cutA_sz (s : ByteArray) (c : UInt8) : (cutA s c).size ≤ s.size := by
  unfold cutA
  rw [sizeM, List.length_drop]
  have := (List.dropWhile_sublist (fun b => !decide (b = c)) (l := s.data.toList)).length_le
  rw [data_len] at this
  omega
theorem u35 : (Int.toNat 35).toUInt8 = 35 := rfl
theorem ut13' (r a us ho po : ByteArray) (hu hp t ok : Bool) (n : Nat) (hr : r.size ≤ 2500) (R : Res)
    (hR : R = fin13 (ok && tOk r) (uV a us hu ho po hp t (tPa r) (tQu r) (tHQ r) (tFr r) (tHF r))) :
    aexecB Tryd.prog (call' A27) (filt an13 0) n d13d (mkEnv 104 [(2, .bptr 0 0), (4, .bptr 1 0), (5, .c (.str r)), (8, .c (.bool ok))]) [z0, .box (.c (uV a us hu ho po hp t ⟨⟨[]⟩⟩ ⟨⟨[]⟩⟩ false ⟨⟨[]⟩⟩ false)) kU] (endOf Tryd.prog 13 []) = R := by
  have z1 := cutB_sz r 35
  have z2 := cutA_sz r 35
  have z3 := cutB_sz (cutB r 35) 63
  have z4 := cutA_sz (cutB r 35) 63
  have b1 : decide (r.size ≤ 10000) = true := decide_eq_true (by omega)
  have b2 : decide ((cutB r 35).size ≤ 10000) = true := decide_eq_true (by omega)
  have b3 : fitsS ((cutB (cutB r 35) 63).size + (cutA (cutB r 35) 63).size) = true := fits_small (by omega)
  have b4 : fitsS ((cutB (cutB r 35) 63 ++ cutA (cutB r 35) 63).size + (cutA r 35).size) = true := fits_small (by rw [ByteArray.size_append]; omega)
  have b5 : decide ((cutB (cutB r 35) 63 ++ cutA (cutB r 35) 63 ++ cutA r 35).size ≤ 10000) = true := decide_eq_true (by rw [ByteArray.size_append, ByteArray.size_append]; omega)
  rw [ut13, hR, b1, b2, b3, b4, b5, u35, index_mem]
  unfold tOk tFr tPa tQu tHQ tHF fin13
  simp only [bif_tt]
  generalize ((cutA r 35).data.toList.any fun b => decide (b = 35)) = X
  generalize brS (cutB (cutB r 35) 63 ++ cutA (cutB r 35) 63 ++ cutA r 35) = Y
  cases ok <;> cases X <;> cases Y <;> rfl

theorem sp13c : spine 1 d13c = true := by kernel_rfl
theorem ha13c : headAt (filt an13 0) (tailC 1 d13c) = some h13b := by kernel_rfl
theorem fo13c : tailC 1 d13c = d13d := eq_of_heq (heq_of_eq (by kernel_rfl))
theorem us13' (r a : ByteArray) (ok : Bool) (n : Nat) (hr : r.size ≤ 2500) (R : Res) (hR : R = fin13 ((ok && rOkU r) && tOk (rAf r)) (uV2 a r (rAf r))) :
    aexecB Tryd.prog (call' A27) (filt an13 0) n d13c (mkEnv 104 [(2, .bptr 0 0), (4, .bptr 1 0), (5, .c (.str r)), (8, .c (.bool ok))]) [z0, .box (.c (zU a false)) kU] (endOf Tryd.prog 13 []) = R := by
  rw [seg_b (k := 1) (by decide) sp13c ha13c, us13]
  have e2 : (ByteArray.mk #[47, 47]).size = 2 := rfl
  have e3 : r.extract 2 r.size = rIn r := by unfold rIn; rfl
  have e4 : (rIn r).extract 0 (findI (rIn r) 0 pD) = rAu r := by unfold rAu; rfl
  have z1 : (rIn r).size ≤ 2500 := by unfold rIn; rw [ByteArray.size_extract]; omega
  have z2 : (rAu r).size ≤ 2500 := by unfold rAu; rw [ByteArray.size_extract]; omega
  have z3 : (rAf r).size ≤ 2500 := by
    unfold rAf
    split
    · rw [ByteArray.size_extract]; omega
    · exact hr
  have b1 : decide ((rIn r).size ≤ 10000) = true := decide_eq_true (by omega)
  have b2 : decide ((rAu r).size ≤ 2500) = true := decide_eq_true z2
  have b3 : decide ((ByteArray.mk #[47, 63, 35]).size ≤ 10000) = true := rfl
  have e5 : preS r (ByteArray.mk #[47, 47]) = rHA r := by unfold rHA; rfl
  rw [e2, e3, e4, e5, b1, b2, b3]
  cases hA : rHA r with
  | true =>
    have e6 : (rIn r).extract (findI (rIn r) 0 pD) (rIn r).size = rAf r := by unfold rAf; rw [hA, if_pos rfl]
    rw [e6]
    rw [Bool.true_and]
    rw [bif_tt]
    cases ok with
    | true =>
      rw [bif_tt, bif_tt, bif_tt, fo13c]
      refine ut13' _ _ _ _ _ _ _ _ _ n z3 R ?_
      rw [hR]
      unfold uV2 rUsr rHU rHost rPort rHP rOkU
      rw [hA]
      simp only [Bool.true_and, Bool.false_and, Bool.and_true, Bool.and_false, Bool.not_true, Bool.not_false, Bool.false_or, Bool.true_or, if_true, Bool.false_eq_true, if_false]
    | false =>
      rw [bif_ff, bif_tt, fo13c]
      refine ut13' _ _ _ _ _ _ _ _ _ n z3 R ?_
      rw [hR, Bool.false_and, Bool.false_and]
      unfold fin13
      simp only [Bool.true_and, Bool.false_and, Bool.and_true, Bool.and_false, Bool.not_true, Bool.not_false, Bool.false_or, Bool.true_or, if_true, Bool.false_eq_true, if_false]
  | false =>
    simp only [bif_ff, fo13c]
    have e6 : rAf r = r := by unfold rAf; rw [hA]; simp only [Bool.false_eq_true, if_false]
    rw [e6] at hR
    refine ut13' _ _ _ _ _ _ _ _ _ n hr R ?_
    rw [hR]
    unfold uV2 rUsr rHU rHost rPort rHP rOkU
    rw [hA]
    simp only [Bool.true_and, Bool.false_and, Bool.and_true, Bool.and_false, Bool.not_true, Bool.not_false, Bool.false_or, Bool.true_or, if_true, Bool.false_eq_true, if_false]

theorem sp13b : spine 1 d13b = true := by kernel_rfl
theorem ha13b : headAt (filt an13 0) (tailC 1 d13b) = some h13b := by kernel_rfl
theorem fo13b : tailC 1 d13b = d13c := eq_of_heq (heq_of_eq (by kernel_rfl))
theorem ur13' (s r a : ByteArray) (n : Nat) (hs : s.size ≤ 2500) (hr : r.size ≤ 2500) (R : Res) (hR : R = fin13 ((stS s && rOkU r) && tOk (rAf r)) (uV2 a r (rAf r))) :
    aexecB Tryd.prog (call' A27) (filt an13 0) n d13b (mkEnv 104 [(0, .c (.str s)), (2, .bptr 0 0), (4, .bptr 1 0), (5, .c (.str r))]) [z0, .box (.c (zU a false)) kU] (endOf Tryd.prog 13 []) = R := by
  have b1 : decide (s.size ≤ 10000) = true := decide_eq_true (by omega)
  rw [seg_b (k := 1) (by decide) sp13b ha13b, ur13, b1]
  simp only [bif_tt, fo13b]
  exact us13' r a (stS s) n hr R hR

theorem sp13a : spine 1 d13a = true := by kernel_rfl
theorem ha13a : headAt (filt an13 0) (tailC 1 d13a) = some h13a := by kernel_rfl
theorem fo13a : tailC 1 d13a = d13b := eq_of_heq (heq_of_eq (by kernel_rfl))
theorem sch_as : asciiS schC = true := by decide +kernel
theorem let_as : asciiS letC = true := by decide +kernel
theorem uq13' (s : ByteArray) (n : Nat) (hs : s.size ≤ 2500) (R : Res) (hR : R = fin13 (uOk s) (uR s)) :
    aexecB Tryd.prog (call' A27) (filt an13 0) n d13a (mkEnv 104 [(0, .c (.str s)), (2, .bptr 0 0), (4, .bptr 1 0), (5, .c (.str s))]) [z0, z0] (endOf Tryd.prog 13 []) = R := by
  rw [seg_b (k := 1) (by decide) sp13a ha13a, uq13]
  have e1 : s.extract (findI s 0 (ByteArray.mk #[58, 47, 63, 35])) s.size = uTl s := by unfold uTl; rfl
  have e2 : s.extract 0 (findI s 0 (ByteArray.mk #[58, 47, 63, 35])) = uHd s := by unfold uHd; rfl
  have z1 : (uTl s).size ≤ 2500 := by unfold uTl; rw [ByteArray.size_extract]; omega
  have z2 : (uHd s).size ≤ 2500 := by unfold uHd; rw [ByteArray.size_extract]; omega
  have z3 : ((uHd s).extract 0 1).size ≤ 2500 := by rw [ByteArray.size_extract]; omega
  have t0 : Int.toNat 1 = 1 := rfl
  rw [e1, e2]
  simp only [toNat0, t0, natM]
  have b1 : decide (s.size ≤ 10000) = true := decide_eq_true (by omega)
  have b2 : decide ((ByteArray.mk #[58, 47, 63, 35]).size ≤ 10000) = true := rfl
  have b3 : decide ((uHd s).size ≤ 10000) = true := decide_eq_true (by omega)
  have b4 : decide (((uHd s).extract 0 1).size ≤ 10000) = true := decide_eq_true (by omega)
  have b5 : decide (schC.size ≤ 100) = true := rfl
  have b6 : decide (letC.size ≤ 100) = true := rfl
  have b7 : decide (((uTl s).size : Int) ≤ ((uTl s).size : Int)) = true := decide_eq_true (by omega)
  rw [b1, b2, b3, b4, b5, b6, b7, sch_as, let_as]
  have ne : ∀ x : ByteArray, (x.toList == (ByteArray.mk #[]).toList) = decide (x.size = 0) := by
    intro x
    obtain ⟨l, rfl⟩ : ∃ l, x = mkS l := ⟨_, (mkS_bl x).symm⟩
    have e0 : (ByteArray.mk #[]) = mkS [] := rfl
    rw [e0, toList_data, toList_data, mkS_data, mkS_data, sizeM]
    cases l <;> rfl
  have hOk : uOk s = (uSOk s && ((stS s && rOkU (uRst s)) && tOk (rAf (uRst s)))) := by unfold uOk; simp only [Bool.and_assoc]
  rw [hOk] at hR
  by_cases h0 : (uTl s).size = 0
  · have b8 : ((uTl s).toList == (ByteArray.mk #[]).toList) = true := by rw [ne, decide_eq_true h0]
    have hS : uHS s = false := by unfold uHS; rw [b8]; simp only [Bool.true_and, Bool.false_and, Bool.and_true, Bool.and_false, Bool.not_true, Bool.not_false, Bool.false_or, Bool.true_or, if_true, Bool.false_eq_true, if_false]
    rw [b8]
    simp only [Bool.not_true, Bool.and_self, bif_tt, bif_ff, fo13a]
    refine ur13' s s nB n hs hs R ?_
    rw [hR]
    unfold uR uSOk uSch uRst
    rw [hS]
    simp only [Bool.true_and, Bool.false_and, Bool.and_true, Bool.and_false, Bool.not_true, Bool.not_false, Bool.false_or, Bool.true_or, if_true, Bool.false_eq_true, if_false]
  · have b8 : ((uTl s).toList == (ByteArray.mk #[]).toList) = false := by rw [ne, decide_eq_false h0]
    have b9 : decide (0 < ((uTl s).size : Int)) = true := decide_eq_true (by omega)
    have b10 : decide (1 ≤ ((uTl s).size : Int)) = true := decide_eq_true (by omega)
    rw [b8, b9, b10]
    simp only [Bool.not_false, Bool.and_self, bif_tt, bif_ff, fo13a]
    cases h58 : (byteAt (uTl s) 0 == 58) with
    | false =>
      have hS : uHS s = false := by unfold uHS; rw [h58, Bool.and_false]
      simp only [bif_ff, bif_tt]
      refine ur13' s s nB n hs hs R ?_
      rw [hR]
      unfold uR uSOk uSch uRst
      rw [hS]
      simp only [Bool.true_and, Bool.false_and, Bool.and_true, Bool.and_false, Bool.not_true, Bool.not_false, Bool.false_or, Bool.true_or, if_true, Bool.false_eq_true, if_false]
    | true =>
      have hS : uHS s = true := by unfold uHS; rw [h58, b8]; simp only [Bool.true_and, Bool.false_and, Bool.and_true, Bool.and_false, Bool.not_true, Bool.not_false, Bool.false_or, Bool.true_or, if_true, Bool.false_eq_true, if_false]
      simp only [bif_tt]
      have hSO : uSOk s = (!((uHd s).toList == (ByteArray.mk #[]).toList) && (allS (uHd s) schC && allS ((uHd s).extract 0 1) letC)) := by unfold uSOk; rw [hS]; simp only [Bool.true_and, Bool.false_and, Bool.and_true, Bool.and_false, Bool.not_true, Bool.not_false, Bool.false_or, Bool.true_or, if_true, Bool.false_eq_true, if_false]
      rw [hSO] at hR
      by_cases h1 : (uHd s).size = 0
      · have c1 : ((uHd s).toList == (ByteArray.mk #[]).toList) = true := by rw [ne, decide_eq_true h1]
        rw [c1] at hR ⊢
        rw [hR]
        simp only [bif_tt]
        unfold fin13
        simp only [Bool.true_and, Bool.false_and, Bool.and_true, Bool.and_false, Bool.not_true, Bool.not_false, Bool.false_or, Bool.true_or, if_true, Bool.false_eq_true, if_false]
        rfl
      · have c1 : ((uHd s).toList == (ByteArray.mk #[]).toList) = false := by rw [ne, decide_eq_false h1]
        have c2 : decide (1 ≤ ((uHd s).size : Int)) = true := decide_eq_true (by omega)
        rw [c1] at hR ⊢
        rw [c2]
        simp only [bif_ff, bif_tt]
        cases h2 : allS (uHd s) schC with
        | false =>
          rw [h2] at hR; rw [hR]
          simp only [Bool.not_false, bif_tt]
          unfold fin13
          simp only [Bool.true_and, Bool.false_and, Bool.and_true, Bool.and_false, Bool.not_true, Bool.not_false, Bool.false_or, Bool.true_or, if_true, Bool.false_eq_true, if_false]
          rfl
        | true =>
          cases h3 : allS ((uHd s).extract 0 1) letC with
          | false =>
            rw [h2, h3] at hR; rw [hR]
            simp only [Bool.not_true, Bool.not_false, bif_tt, bif_ff]
            unfold fin13
            simp only [Bool.true_and, Bool.false_and, Bool.and_true, Bool.and_false, Bool.not_true, Bool.not_false, Bool.false_or, Bool.true_or, if_true, Bool.false_eq_true, if_false]
            rfl
          | true =>
            simp only [Bool.not_true, bif_ff, bif_tt]
            refine ur13' s ((uTl s).extract 1 (uTl s).size) (uHd s) n hs (by rw [ByteArray.size_extract]; omega) R ?_
            rw [hR, h2, h3]
            unfold uR uSch uRst
            rw [hS]
            simp only [Bool.true_and, Bool.false_and, Bool.and_true, Bool.and_false, Bool.not_true, Bool.not_false, Bool.false_or, Bool.true_or, if_true, Bool.false_eq_true, if_false]

theorem sp13 : spine 4 c13 = true := by kernel_rfl
theorem ha13 : headAt (filt an13 0) (tailC 4 c13) = some h13a := by kernel_rfl
theorem fo13 : tailC 4 c13 = d13a := eq_of_heq (heq_of_eq (by kernel_rfl))
def A13 : Table := fun g => if Nat.beq g 13 then L13 else A27 g
theorem g13 (hg : OnGlobals I ng) (h : Kw I ng A23) (h47 : Cw I ng 47 L47) : Kw I ng A13 := known_add (g27 hg h h47) (contract_of an13 hg (hok_of (g27 hg h h47)) fun cargs rv outs h => by
  unfold L13 at h
  split at h <;> first | (cases h; done) | skip
  rename_i s
  refine ⟨1, ?_⟩
  rw [abody_eq2 (ps := [.c (.str s)]) (H := []) rfl (by kernel_rfl)]
  show aexec Tryd.prog (call' A27) (filt an13 0) 1 c13 (envOf Tryd.prog 13 [.c (.str s)]) [] (endOf Tryd.prog 13 []) = _
  rw [seg_a (k := 4) (by decide) sp13 ha13, up13]
  by_cases hs : 2048 < s.size
  · have b1 : decide ((s.size : Int) > 2048) = true := decide_eq_true (by omega)
    simp only [picked, pickAlt, decide_eq_true hs] at h
    cases h
    rw [b1]; rfl
  · have b1 : decide ((s.size : Int) > 2048) = false := decide_eq_false (by omega)
    simp only [picked, pickAlt, decide_eq_false hs] at h
    rw [b1]
    simp only [bif_ff, fo13]
    refine uq13' s 1 (by omega) _ ?_
    unfold fin13
    cases hk : uOk s with
    | true => rw [hk] at h; cases h; rfl
    | false => rw [hk] at h; cases h; rfl)

end Go.Pv

/- URLs: the document's Parse in pieces: trees. -/
namespace Go.Pv
set_option linter.unusedVariables false
set_option maxRecDepth 100000
open Go Go.Proofs

def L41 : Fn1 := fun x => match x with
  | [.str s] => some [(decide (s.size ≤ 2500), .bool (hostS s), [])]
  | _ => none
def A41 : Table := fun g => if Nat.beq g 41 then L41 else A51 g
noncomputable def c22 : Code := codeOf Tryd.prog 22
noncomputable def d22a : Code := tailC 5 c22
noncomputable def p22a : Code := prefC 1 d22a
noncomputable def r22a : Code := lastArm p22a
noncomputable def q22a : Code := prefC 1 (tailC 1 r22a)
noncomputable def d22b : Code := tailC 1 d22a
noncomputable def p22b : Code := prefC 1 d22b
noncomputable def r22b : Code := lastArm p22b
noncomputable def q22b : Code := prefC 1 (tailC 4 r22b)
noncomputable def q22c : Code := prefC 1 (tailC 1 (tailC 4 r22b))
noncomputable def e22c : Code := tailC 1 d22b
def h22a : Head := ⟨[0, 2, 4, 5, 6], [], 2⟩
def h22b : Head := ⟨[0, 2, 4, 6], [], 2⟩
def hl10 : Head := ⟨[0, 2, 4, 6, 7], [], 2⟩
def h22c : Head := ⟨[0, 2, 4, 5], [], 2⟩
def h22d : Head := ⟨[0, 2, 4, 5, 9], [], 2⟩
def hl22 : Head := ⟨[0, 2, 4, 5, 9, 10], [], 2⟩
def hl29 : Head := ⟨[0, 2, 4, 5, 9, 11], [], 2⟩
def h22e : Head := ⟨[0, 2, 4, 12], [], 2⟩
def h22f : Head := ⟨[2, 4], [], 2⟩
def an22 : Ann := fun i => if Nat.beq i 500006 then some h22a else if Nat.beq i 500007 then some h22b else if Nat.beq i 500009 then some h22b else if Nat.beq i 10 then some hl10 else if Nat.beq i 500014 then some h22b
  else if Nat.beq i 500016 then some h22c else if Nat.beq i 500017 then some h22c else if Nat.beq i 500021 then some h22d else if Nat.beq i 22 then some hl22 else if Nat.beq i 500028 then some h22d else if Nat.beq i 29 then some hl29
  else if Nat.beq i 500035 then some h22d else if Nat.beq i 500036 then some h22c else if Nat.beq i 500038 then some h22e else if Nat.beq i 500043 then some h22e else if Nat.beq i 500046 then some h22f else none
theorem ut41 (s : ByteArray) : abody Tryd.prog (call' A51) (fun _ => none) 1 41 [.str s] =
    bif' (decide ((↑s.size : Int) ≥ 2))
      (bif' (decide (0 < (↑s.size : Int)))
        (bif' (byteAt s (Int.toNat 0) == 91)
          (bif' (decide (0 ≤ IntKind.i64.wrap ((↑s.size : Int) - 1)))
            (bif' (decide (IntKind.i64.wrap ((↑s.size : Int) - 1) < (↑s.size : Int)))
              (bif' (byteAt s (IntKind.i64.wrap ((↑s.size : Int) - 1)).toNat == 93)
                (bif' (decide (1 ≤ IntKind.i64.wrap ((↑s.size : Int) - 1)))
                  (bif' (decide (IntKind.i64.wrap ((↑s.size : Int) - 1) ≤ (↑s.size : Int)))
                    (bif'
                      (decide ((s.extract (Int.toNat 1) (IntKind.i64.wrap ((↑s.size : Int) - 1)).toNat).size ≤ 3000) &&
                        ip6 (s.extract (Int.toNat 1) (IntKind.i64.wrap ((↑s.size : Int) - 1)).toNat))
                      (some (CV.bool true, []))
                      (bif'
                        (decide ((s.extract (Int.toNat 1) (IntKind.i64.wrap ((↑s.size : Int) - 1)).toNat).size ≤ 3000) &&
                          ip4 (s.extract (Int.toNat 1) (IntKind.i64.wrap ((↑s.size : Int) - 1)).toNat))
                        (some (CV.bool false, []))
                        (bif'
                          (decide ((s.extract (Int.toNat 1) (IntKind.i64.wrap ((↑s.size : Int) - 1)).toNat).size ≤ 3000))
                          (some (CV.bool false, [])) none)))
                    none)
                  none)
                (bif'
                  (decide (0 ≤ 0) &&
                    (decide (0 ≤ (↑s.size : Int)) &&
                      (decide (s.size ≤ 10000) && decide ((ByteArray.mk #[58, 91, 93, 64]).size ≤ 10000))))
                  (some
                    (CV.bool ((↑(findI s (Int.toNat 0) (ByteArray.mk #[58, 91, 93, 64])) : Int) == (↑s.size : Int)), []))
                  none))
              none)
            none)
          (bif'
            (decide (0 ≤ 0) &&
              (decide (0 ≤ (↑s.size : Int)) &&
                (decide (s.size ≤ 10000) && decide ((ByteArray.mk #[58, 91, 93, 64]).size ≤ 10000))))
            (some (CV.bool ((↑(findI s (Int.toNat 0) (ByteArray.mk #[58, 91, 93, 64])) : Int) == (↑s.size : Int)), []))
            none))
        none)
      (bif'
        (decide (0 ≤ 0) &&
          (decide (0 ≤ (↑s.size : Int)) &&
            (decide (s.size ≤ 10000) && decide ((ByteArray.mk #[58, 91, 93, 64]).size ≤ 10000))))
        (some (CV.bool ((↑(findI s (Int.toNat 0) (ByteArray.mk #[58, 91, 93, 64])) : Int) == (↑s.size : Int)), [])) none) := by kernel_rfl
theorem up22 (s : ByteArray) (n : Nat) (L : Env → Hp → Res) : aexec Tryd.prog (call' A41) (filt an22 0) n (prefC 5 c22) (envOf Tryd.prog 22 [.c (.str s)]) [] (thenK (headK h22a L) (endOf Tryd.prog 22 [])) =
    bif' (decide (s.size ≤ 10000))
      (bif' (!stS s)
        (some
          (CV.tup
              [CV.agg
                  [CV.str ⟨⟨[]⟩⟩, CV.str ⟨⟨[]⟩⟩, CV.bool false,
                    CV.str ⟨⟨[]⟩⟩, CV.str ⟨⟨[]⟩⟩, CV.bool false, CV.bool false,
                    CV.str ⟨⟨[]⟩⟩, CV.str ⟨⟨[]⟩⟩, CV.bool false,
                    CV.str ⟨⟨[]⟩⟩, CV.bool false],
                CV.bool false],
            []))
        (bif'
          (decide (0 ≤ 0) &&
            (decide (0 ≤ (↑s.size : Int)) &&
              (decide (s.size ≤ 10000) && decide ((ByteArray.mk #[58, 47, 63, 35]).size ≤ 10000))))
          (L
            (mkEnv 226
              [(0, PV.c (CV.str s)), (2, PV.bptr 0 0), (4, PV.bptr 1 0), (5, PV.c (CV.int IntKind.i64 (Int.ofNat 0))),
                (6, PV.c (CV.int IntKind.i64 (↑(findI s (Int.toNat 0) (ByteArray.mk #[58, 47, 63, 35])) : Int)))])
            [AO.box
                (PV.c
                  (CV.agg
                    [CV.str ⟨⟨[]⟩⟩, CV.str ⟨⟨[]⟩⟩, CV.bool false,
                      CV.str ⟨⟨[]⟩⟩, CV.str ⟨⟨[]⟩⟩, CV.bool false,
                      CV.bool false, CV.str ⟨⟨[]⟩⟩, CV.str ⟨⟨[]⟩⟩,
                      CV.bool false, CV.str ⟨⟨[]⟩⟩, CV.bool false]))
                kU,
              AO.box
                (PV.c
                  (CV.agg
                    [CV.str ⟨⟨[]⟩⟩, CV.str ⟨⟨[]⟩⟩, CV.bool false,
                      CV.str ⟨⟨[]⟩⟩, CV.str ⟨⟨[]⟩⟩, CV.bool false,
                      CV.bool false, CV.str ⟨⟨[]⟩⟩, CV.str ⟨⟨[]⟩⟩,
                      CV.bool false, CV.str ⟨⟨[]⟩⟩, CV.bool false]))
                kU])
          none))
      none := by kernel_rfl
theorem uq22 (s : ByteArray) (i : Int) (n : Nat) (L M : Env → Hp → Res) : aexecB Tryd.prog (call' A41) (filt an22 0) n (holeC p22a) (mkEnv 226 [(0, .c (.str s)), (2, .bptr 0 0), (4, .bptr 1 0), (5, .c (.int .i64 0)), (6, .c (.int .i64 i))]) [z0, .box (.c (zU ⟨⟨[]⟩⟩ false)) kU] (armK (headK h22b L) (thenK (headK h22c M) (endOf Tryd.prog 22 []))) =
    bif' (decide (i < (↑s.size : Int)))
      (bif' (decide (0 ≤ i))
        (bif' (decide (i < (↑s.size : Int)))
          (bif' (byteAt s i.toNat == 58)
            (L (mkEnv 226 [(0, PV.c (CV.str s)), (2, PV.bptr 0 0), (4, PV.bptr 1 0), (6, PV.c (CV.int IntKind.i64 i))])
              [AO.box
                  (PV.c
                    (CV.agg
                      [CV.str ⟨⟨[]⟩⟩, CV.str ⟨⟨[]⟩⟩, CV.bool false,
                        CV.str ⟨⟨[]⟩⟩, CV.str ⟨⟨[]⟩⟩, CV.bool false,
                        CV.bool false, CV.str ⟨⟨[]⟩⟩, CV.str ⟨⟨[]⟩⟩,
                        CV.bool false, CV.str ⟨⟨[]⟩⟩, CV.bool false]))
                  kU,
                AO.box
                  (PV.c
                    (CV.agg
                      [CV.str ⟨⟨[]⟩⟩, CV.str ⟨⟨[]⟩⟩, CV.bool false,
                        CV.str ⟨⟨[]⟩⟩, CV.str ⟨⟨[]⟩⟩, CV.bool false,
                        CV.bool false, CV.str ⟨⟨[]⟩⟩, CV.str ⟨⟨[]⟩⟩,
                        CV.bool false, CV.str ⟨⟨[]⟩⟩, CV.bool false]))
                  kU])
            (M
              (mkEnv 226
                [(0, PV.c (CV.str s)), (2, PV.bptr 0 0), (4, PV.bptr 1 0), (5, PV.c (CV.int IntKind.i64 (Int.ofNat 0)))])
              [AO.box
                  (PV.c
                    (CV.agg
                      [CV.str ⟨⟨[]⟩⟩, CV.str ⟨⟨[]⟩⟩, CV.bool false,
                        CV.str ⟨⟨[]⟩⟩, CV.str ⟨⟨[]⟩⟩, CV.bool false,
                        CV.bool false, CV.str ⟨⟨[]⟩⟩, CV.str ⟨⟨[]⟩⟩,
                        CV.bool false, CV.str ⟨⟨[]⟩⟩, CV.bool false]))
                  kU,
                AO.box
                  (PV.c
                    (CV.agg
                      [CV.str ⟨⟨[]⟩⟩, CV.str ⟨⟨[]⟩⟩, CV.bool false,
                        CV.str ⟨⟨[]⟩⟩, CV.str ⟨⟨[]⟩⟩, CV.bool false,
                        CV.bool false, CV.str ⟨⟨[]⟩⟩, CV.str ⟨⟨[]⟩⟩,
                        CV.bool false, CV.str ⟨⟨[]⟩⟩, CV.bool false]))
                  kU]))
          none)
        none)
      (M
        (mkEnv 226 [(0, PV.c (CV.str s)), (2, PV.bptr 0 0), (4, PV.bptr 1 0), (5, PV.c (CV.int IntKind.i64 (Int.ofNat 0)))])
        [AO.box
            (PV.c
              (CV.agg
                [CV.str ⟨⟨[]⟩⟩, CV.str ⟨⟨[]⟩⟩, CV.bool false,
                  CV.str ⟨⟨[]⟩⟩, CV.str ⟨⟨[]⟩⟩, CV.bool false, CV.bool false,
                  CV.str ⟨⟨[]⟩⟩, CV.str ⟨⟨[]⟩⟩, CV.bool false,
                  CV.str ⟨⟨[]⟩⟩, CV.bool false]))
            kU,
          AO.box
            (PV.c
              (CV.agg
                [CV.str ⟨⟨[]⟩⟩, CV.str ⟨⟨[]⟩⟩, CV.bool false,
                  CV.str ⟨⟨[]⟩⟩, CV.str ⟨⟨[]⟩⟩, CV.bool false, CV.bool false,
                  CV.str ⟨⟨[]⟩⟩, CV.str ⟨⟨[]⟩⟩, CV.bool false,
                  CV.str ⟨⟨[]⟩⟩, CV.bool false]))
            kU]) := by kernel_rfl
theorem ur22 (s : ByteArray) (i : Int) (n : Nat) (L M : Env → Hp → Res) : aexecB Tryd.prog (call' A41) (filt an22 0) n (prefC 1 r22a) (mkEnv 226 [(0, .c (.str s)), (2, .bptr 0 0), (4, .bptr 1 0), (6, .c (.int .i64 i))]) [z0, .box (.c (zU ⟨⟨[]⟩⟩ false)) kU] (thenK (headK h22b L) (thenK (headK h22c M) (endOf Tryd.prog 22 []))) =
    bif' (i == 0)
      (some
        (CV.tup
            [CV.agg
                [CV.str ⟨⟨[]⟩⟩, CV.str ⟨⟨[]⟩⟩, CV.bool false,
                  CV.str ⟨⟨[]⟩⟩, CV.str ⟨⟨[]⟩⟩, CV.bool false, CV.bool false,
                  CV.str ⟨⟨[]⟩⟩, CV.str ⟨⟨[]⟩⟩, CV.bool false,
                  CV.str ⟨⟨[]⟩⟩, CV.bool false],
              CV.bool false],
          []))
      (bif' (decide (0 < (↑s.size : Int)))
        (bif'
          (!decide
              (97 ≤ byteAt s (Int.toNat 0) ∧ byteAt s (Int.toNat 0) ≤ 122 ∨
                65 ≤ byteAt s (Int.toNat 0) ∧ byteAt s (Int.toNat 0) ≤ 90))
          (some
            (CV.tup
                [CV.agg
                    [CV.str ⟨⟨[]⟩⟩, CV.str ⟨⟨[]⟩⟩, CV.bool false,
                      CV.str ⟨⟨[]⟩⟩, CV.str ⟨⟨[]⟩⟩, CV.bool false,
                      CV.bool false, CV.str ⟨⟨[]⟩⟩, CV.str ⟨⟨[]⟩⟩,
                      CV.bool false, CV.str ⟨⟨[]⟩⟩, CV.bool false],
                  CV.bool false],
              []))
          (L (mkEnv 226 [(0, PV.c (CV.str s)), (2, PV.bptr 0 0), (4, PV.bptr 1 0), (6, PV.c (CV.int IntKind.i64 i))])
            [AO.box
                (PV.c
                  (CV.agg
                    [CV.str ⟨⟨[]⟩⟩, CV.str ⟨⟨[]⟩⟩, CV.bool false,
                      CV.str ⟨⟨[]⟩⟩, CV.str ⟨⟨[]⟩⟩, CV.bool false,
                      CV.bool false, CV.str ⟨⟨[]⟩⟩, CV.str ⟨⟨[]⟩⟩,
                      CV.bool false, CV.str ⟨⟨[]⟩⟩, CV.bool false]))
                kU,
              AO.box
                (PV.c
                  (CV.agg
                    [CV.str ⟨⟨[]⟩⟩, CV.str ⟨⟨[]⟩⟩, CV.bool false,
                      CV.str ⟨⟨[]⟩⟩, CV.str ⟨⟨[]⟩⟩, CV.bool false,
                      CV.bool false, CV.str ⟨⟨[]⟩⟩, CV.str ⟨⟨[]⟩⟩,
                      CV.bool false, CV.str ⟨⟨[]⟩⟩, CV.bool false]))
                kU]))
        none) := by kernel_rfl
theorem us22 (s : ByteArray) (i : Int) (n : Nat) (L M R : Env → Hp → Res) : partsB Tryd.prog (call' A41) (filt an22 0) n q22a (mkEnv 226 [(0, .c (.str s)), (2, .bptr 0 0), (4, .bptr 1 0), (6, .c (.int .i64 i))]) [z0, .box (.c (zU ⟨⟨[]⟩⟩ false)) kU] (fun _ => headK hl10 R) (thenK (headK h22b L) (thenK (headK h22c M) (endOf Tryd.prog 22 []))) =
    R
      (mkEnv 226
        [(0, PV.c (CV.str s)), (2, PV.bptr 0 0), (4, PV.bptr 1 0), (6, PV.c (CV.int IntKind.i64 i)),
          (7, PV.c (CV.int IntKind.i64 (Int.ofNat 0)))])
      [AO.box
          (PV.c
            (CV.agg
              [CV.str ⟨⟨[]⟩⟩, CV.str ⟨⟨[]⟩⟩, CV.bool false,
                CV.str ⟨⟨[]⟩⟩, CV.str ⟨⟨[]⟩⟩, CV.bool false, CV.bool false,
                CV.str ⟨⟨[]⟩⟩, CV.str ⟨⟨[]⟩⟩, CV.bool false,
                CV.str ⟨⟨[]⟩⟩, CV.bool false]))
          kU,
        AO.box
          (PV.c
            (CV.agg
              [CV.str ⟨⟨[]⟩⟩, CV.str ⟨⟨[]⟩⟩, CV.bool false,
                CV.str ⟨⟨[]⟩⟩, CV.str ⟨⟨[]⟩⟩, CV.bool false, CV.bool false,
                CV.str ⟨⟨[]⟩⟩, CV.str ⟨⟨[]⟩⟩, CV.bool false,
                CV.str ⟨⟨[]⟩⟩, CV.bool false]))
          kU] := by kernel_rfl
theorem uc22 (s : ByteArray) (i k : Int) (n : Nat) (L M R : Env → Hp → Res) : aexec Tryd.prog (call' A41) (filt an22 0) n (bodyN 0 q22a) (mkEnv 226 [(0, .c (.str s)), (2, .bptr 0 0), (4, .bptr 1 0), (6, .c (.int .i64 i)), (7, .c (.int .i64 k))]) [z0, .box (.c (zU ⟨⟨[]⟩⟩ false)) kU] (thenK (headK hl10 R) (restN Tryd.prog (call' A41) (filt an22 0) n 0 q22a (thenK (headK h22b L) (thenK (headK h22c M) (endOf Tryd.prog 22 []))))) =
    bif' (decide (k < i))
      (bif' (decide (0 ≤ k))
        (bif' (decide (k < (↑s.size : Int)))
          (bif' (!decide (97 ≤ byteAt s k.toNat ∧ byteAt s k.toNat ≤ 122 ∨ 65 ≤ byteAt s k.toNat ∧ byteAt s k.toNat ≤ 90))
            (bif' (decide (0 ≤ k))
              (bif' (decide (k < (↑s.size : Int)))
                (bif' (!decide (48 ≤ byteAt s k.toNat ∧ byteAt s k.toNat ≤ 57))
                  (bif' (decide (0 ≤ k))
                    (bif' (decide (k < (↑s.size : Int)))
                      (bif' (!inS (ByteArray.mk #[43, 45, 46]) (byteAt s k.toNat))
                        (some
                          (CV.tup
                              [CV.agg
                                  [CV.str ⟨⟨[]⟩⟩, CV.str ⟨⟨[]⟩⟩, CV.bool false,
                                    CV.str ⟨⟨[]⟩⟩, CV.str ⟨⟨[]⟩⟩, CV.bool false,
                                    CV.bool false, CV.str ⟨⟨[]⟩⟩, CV.str ⟨⟨[]⟩⟩,
                                    CV.bool false, CV.str ⟨⟨[]⟩⟩, CV.bool false],
                                CV.bool false],
                            []))
                        (R
                          (mkEnv 226
                            [(0, PV.c (CV.str s)), (2, PV.bptr 0 0), (4, PV.bptr 1 0), (6, PV.c (CV.int IntKind.i64 i)),
                              (7, PV.c (CV.int IntKind.i64 (IntKind.i64.wrap (k + 1))))])
                          [AO.box
                              (PV.c
                                (CV.agg
                                  [CV.str ⟨⟨[]⟩⟩, CV.str ⟨⟨[]⟩⟩, CV.bool false,
                                    CV.str ⟨⟨[]⟩⟩, CV.str ⟨⟨[]⟩⟩, CV.bool false,
                                    CV.bool false, CV.str ⟨⟨[]⟩⟩, CV.str ⟨⟨[]⟩⟩,
                                    CV.bool false, CV.str ⟨⟨[]⟩⟩, CV.bool false]))
                              kU,
                            AO.box
                              (PV.c
                                (CV.agg
                                  [CV.str ⟨⟨[]⟩⟩, CV.str ⟨⟨[]⟩⟩, CV.bool false,
                                    CV.str ⟨⟨[]⟩⟩, CV.str ⟨⟨[]⟩⟩, CV.bool false,
                                    CV.bool false, CV.str ⟨⟨[]⟩⟩, CV.str ⟨⟨[]⟩⟩,
                                    CV.bool false, CV.str ⟨⟨[]⟩⟩, CV.bool false]))
                              kU]))
                      none)
                    none)
                  (R
                    (mkEnv 226
                      [(0, PV.c (CV.str s)), (2, PV.bptr 0 0), (4, PV.bptr 1 0), (6, PV.c (CV.int IntKind.i64 i)),
                        (7, PV.c (CV.int IntKind.i64 (IntKind.i64.wrap (k + 1))))])
                    [AO.box
                        (PV.c
                          (CV.agg
                            [CV.str ⟨⟨[]⟩⟩, CV.str ⟨⟨[]⟩⟩, CV.bool false,
                              CV.str ⟨⟨[]⟩⟩, CV.str ⟨⟨[]⟩⟩, CV.bool false,
                              CV.bool false, CV.str ⟨⟨[]⟩⟩, CV.str ⟨⟨[]⟩⟩,
                              CV.bool false, CV.str ⟨⟨[]⟩⟩, CV.bool false]))
                        kU,
                      AO.box
                        (PV.c
                          (CV.agg
                            [CV.str ⟨⟨[]⟩⟩, CV.str ⟨⟨[]⟩⟩, CV.bool false,
                              CV.str ⟨⟨[]⟩⟩, CV.str ⟨⟨[]⟩⟩, CV.bool false,
                              CV.bool false, CV.str ⟨⟨[]⟩⟩, CV.str ⟨⟨[]⟩⟩,
                              CV.bool false, CV.str ⟨⟨[]⟩⟩, CV.bool false]))
                        kU]))
                none)
              none)
            (R
              (mkEnv 226
                [(0, PV.c (CV.str s)), (2, PV.bptr 0 0), (4, PV.bptr 1 0), (6, PV.c (CV.int IntKind.i64 i)),
                  (7, PV.c (CV.int IntKind.i64 (IntKind.i64.wrap (k + 1))))])
              [AO.box
                  (PV.c
                    (CV.agg
                      [CV.str ⟨⟨[]⟩⟩, CV.str ⟨⟨[]⟩⟩, CV.bool false,
                        CV.str ⟨⟨[]⟩⟩, CV.str ⟨⟨[]⟩⟩, CV.bool false,
                        CV.bool false, CV.str ⟨⟨[]⟩⟩, CV.str ⟨⟨[]⟩⟩,
                        CV.bool false, CV.str ⟨⟨[]⟩⟩, CV.bool false]))
                  kU,
                AO.box
                  (PV.c
                    (CV.agg
                      [CV.str ⟨⟨[]⟩⟩, CV.str ⟨⟨[]⟩⟩, CV.bool false,
                        CV.str ⟨⟨[]⟩⟩, CV.str ⟨⟨[]⟩⟩, CV.bool false,
                        CV.bool false, CV.str ⟨⟨[]⟩⟩, CV.str ⟨⟨[]⟩⟩,
                        CV.bool false, CV.str ⟨⟨[]⟩⟩, CV.bool false]))
                  kU]))
          none)
        none)
      (L (mkEnv 226 [(0, PV.c (CV.str s)), (2, PV.bptr 0 0), (4, PV.bptr 1 0), (6, PV.c (CV.int IntKind.i64 i))])
        [AO.box
            (PV.c
              (CV.agg
                [CV.str ⟨⟨[]⟩⟩, CV.str ⟨⟨[]⟩⟩, CV.bool false,
                  CV.str ⟨⟨[]⟩⟩, CV.str ⟨⟨[]⟩⟩, CV.bool false, CV.bool false,
                  CV.str ⟨⟨[]⟩⟩, CV.str ⟨⟨[]⟩⟩, CV.bool false,
                  CV.str ⟨⟨[]⟩⟩, CV.bool false]))
            kU,
          AO.box
            (PV.c
              (CV.agg
                [CV.str ⟨⟨[]⟩⟩, CV.str ⟨⟨[]⟩⟩, CV.bool false,
                  CV.str ⟨⟨[]⟩⟩, CV.str ⟨⟨[]⟩⟩, CV.bool false, CV.bool false,
                  CV.str ⟨⟨[]⟩⟩, CV.str ⟨⟨[]⟩⟩, CV.bool false,
                  CV.str ⟨⟨[]⟩⟩, CV.bool false]))
            kU]) := by kernel_rfl
theorem ut22 (s : ByteArray) (i : Int) (n : Nat) (M : Env → Hp → Res) : aexecB Tryd.prog (call' A41) (filt an22 0) n (tailC 2 r22a) (mkEnv 226 [(0, .c (.str s)), (2, .bptr 0 0), (4, .bptr 1 0), (6, .c (.int .i64 i))]) [z0, .box (.c (zU ⟨⟨[]⟩⟩ false)) kU] (thenK (headK h22c M) (endOf Tryd.prog 22 [])) =
    bif' (decide (0 ≤ i))
      (bif' (decide (i ≤ (↑s.size : Int)))
        (M
          (mkEnv 226
            [(0, PV.c (CV.str s)), (2, PV.bptr 0 0), (4, PV.bptr 1 0),
              (5, PV.c (CV.int IntKind.i64 (IntKind.i64.wrap (i + 1))))])
          [AO.box
              (PV.c
                (CV.agg
                  [CV.str ⟨⟨[]⟩⟩, CV.str ⟨⟨[]⟩⟩, CV.bool false,
                    CV.str ⟨⟨[]⟩⟩, CV.str ⟨⟨[]⟩⟩, CV.bool false, CV.bool false,
                    CV.str ⟨⟨[]⟩⟩, CV.str ⟨⟨[]⟩⟩, CV.bool false,
                    CV.str ⟨⟨[]⟩⟩, CV.bool false]))
              kU,
            AO.box
              (PV.c
                (CV.agg
                  [CV.str (s.extract (Int.toNat 0) i.toNat), CV.str ⟨⟨[]⟩⟩, CV.bool false,
                    CV.str ⟨⟨[]⟩⟩, CV.str ⟨⟨[]⟩⟩, CV.bool false, CV.bool false,
                    CV.str ⟨⟨[]⟩⟩, CV.str ⟨⟨[]⟩⟩, CV.bool false,
                    CV.str ⟨⟨[]⟩⟩, CV.bool false]))
              kU])
        none)
      none := by kernel_rfl
theorem uu22 (s a : ByteArray) (p : Int) (n : Nat) (L M : Env → Hp → Res) : aexecB Tryd.prog (call' A41) (filt an22 0) n (holeC p22b) (mkEnv 226 [(0, .c (.str s)), (2, .bptr 0 0), (4, .bptr 1 0), (5, .c (.int .i64 p))]) [z0, .box (.c (zU a false)) kU] (armK (headK h22c L) (thenK (headK h22c M) (endOf Tryd.prog 22 []))) =
    bif' (decide (IntKind.i64.wrap (p + 2) ≤ (↑s.size : Int)))
      (bif' (decide (0 ≤ p))
        (bif' (decide (p ≤ IntKind.i64.wrap (p + 2)))
          (bif' (decide (IntKind.i64.wrap (p + 2) ≤ (↑s.size : Int)))
            (bif' ((s.extract p.toNat (IntKind.i64.wrap (p + 2)).toNat).toList == (ByteArray.mk #[47, 47]).toList)
              (L (mkEnv 226 [(0, PV.c (CV.str s)), (2, PV.bptr 0 0), (4, PV.bptr 1 0), (5, PV.c (CV.int IntKind.i64 p))])
                [AO.box
                    (PV.c
                      (CV.agg
                        [CV.str ⟨⟨[]⟩⟩, CV.str ⟨⟨[]⟩⟩, CV.bool false,
                          CV.str ⟨⟨[]⟩⟩, CV.str ⟨⟨[]⟩⟩, CV.bool false,
                          CV.bool false, CV.str ⟨⟨[]⟩⟩, CV.str ⟨⟨[]⟩⟩,
                          CV.bool false, CV.str ⟨⟨[]⟩⟩, CV.bool false]))
                    kU,
                  AO.box
                    (PV.c
                      (CV.agg
                        [CV.str a, CV.str ⟨⟨[]⟩⟩, CV.bool false, CV.str ⟨⟨[]⟩⟩,
                          CV.str ⟨⟨[]⟩⟩, CV.bool false, CV.bool false,
                          CV.str ⟨⟨[]⟩⟩, CV.str ⟨⟨[]⟩⟩, CV.bool false,
                          CV.str ⟨⟨[]⟩⟩, CV.bool false]))
                    kU])
              (M (mkEnv 226 [(0, PV.c (CV.str s)), (2, PV.bptr 0 0), (4, PV.bptr 1 0), (5, PV.c (CV.int IntKind.i64 p))])
                [AO.box
                    (PV.c
                      (CV.agg
                        [CV.str ⟨⟨[]⟩⟩, CV.str ⟨⟨[]⟩⟩, CV.bool false,
                          CV.str ⟨⟨[]⟩⟩, CV.str ⟨⟨[]⟩⟩, CV.bool false,
                          CV.bool false, CV.str ⟨⟨[]⟩⟩, CV.str ⟨⟨[]⟩⟩,
                          CV.bool false, CV.str ⟨⟨[]⟩⟩, CV.bool false]))
                    kU,
                  AO.box
                    (PV.c
                      (CV.agg
                        [CV.str a, CV.str ⟨⟨[]⟩⟩, CV.bool false, CV.str ⟨⟨[]⟩⟩,
                          CV.str ⟨⟨[]⟩⟩, CV.bool false, CV.bool false,
                          CV.str ⟨⟨[]⟩⟩, CV.str ⟨⟨[]⟩⟩, CV.bool false,
                          CV.str ⟨⟨[]⟩⟩, CV.bool false]))
                    kU]))
            none)
          none)
        none)
      (M (mkEnv 226 [(0, PV.c (CV.str s)), (2, PV.bptr 0 0), (4, PV.bptr 1 0), (5, PV.c (CV.int IntKind.i64 p))])
        [AO.box
            (PV.c
              (CV.agg
                [CV.str ⟨⟨[]⟩⟩, CV.str ⟨⟨[]⟩⟩, CV.bool false,
                  CV.str ⟨⟨[]⟩⟩, CV.str ⟨⟨[]⟩⟩, CV.bool false, CV.bool false,
                  CV.str ⟨⟨[]⟩⟩, CV.str ⟨⟨[]⟩⟩, CV.bool false,
                  CV.str ⟨⟨[]⟩⟩, CV.bool false]))
            kU,
          AO.box
            (PV.c
              (CV.agg
                [CV.str a, CV.str ⟨⟨[]⟩⟩, CV.bool false, CV.str ⟨⟨[]⟩⟩,
                  CV.str ⟨⟨[]⟩⟩, CV.bool false, CV.bool false, CV.str ⟨⟨[]⟩⟩,
                  CV.str ⟨⟨[]⟩⟩, CV.bool false, CV.str ⟨⟨[]⟩⟩, CV.bool false]))
            kU]) := by kernel_rfl
theorem uv22 (s a : ByteArray) (p : Int) (n : Nat) (L M : Env → Hp → Res) : aexecB Tryd.prog (call' A41) (filt an22 0) n (prefC 4 r22b) (mkEnv 226 [(0, .c (.str s)), (2, .bptr 0 0), (4, .bptr 1 0), (5, .c (.int .i64 p))]) [z0, .box (.c (zU a false)) kU] (thenK (headK h22d L) (thenK (headK h22c M) (endOf Tryd.prog 22 []))) =
    bif'
      (decide (0 ≤ IntKind.i64.wrap (p + 2)) &&
        (decide (IntKind.i64.wrap (p + 2) ≤ (↑s.size : Int)) &&
          (decide (s.size ≤ 10000) && decide ((ByteArray.mk #[47, 63, 35]).size ≤ 10000))))
      (bif' (decide (0 ≤ IntKind.i64.wrap (p + 2)))
        (bif'
          (decide
            (IntKind.i64.wrap (p + 2) ≤ (↑(findI s (IntKind.i64.wrap (p + 2)).toNat (ByteArray.mk #[47, 63, 35])) : Int)))
          (bif'
            (decide ((↑(findI s (IntKind.i64.wrap (p + 2)).toNat (ByteArray.mk #[47, 63, 35])) : Int) ≤ (↑s.size : Int)))
            (L
              (mkEnv 226
                [(0, PV.c (CV.str s)), (2, PV.bptr 0 0), (4, PV.bptr 1 0),
                  (5,
                    PV.c
                      (CV.int IntKind.i64
                        (↑(findI s (IntKind.i64.wrap (p + 2)).toNat (ByteArray.mk #[47, 63, 35])) : Int))),
                  (9,
                    PV.c
                      (CV.str
                        (s.extract (IntKind.i64.wrap (p + 2)).toNat
                          (↑(findI s (IntKind.i64.wrap (p + 2)).toNat (ByteArray.mk #[47, 63, 35])) : Int).toNat)))])
              [AO.box
                  (PV.c
                    (CV.agg
                      [CV.str ⟨⟨[]⟩⟩, CV.str ⟨⟨[]⟩⟩, CV.bool false,
                        CV.str ⟨⟨[]⟩⟩, CV.str ⟨⟨[]⟩⟩, CV.bool false,
                        CV.bool false, CV.str ⟨⟨[]⟩⟩, CV.str ⟨⟨[]⟩⟩,
                        CV.bool false, CV.str ⟨⟨[]⟩⟩, CV.bool false]))
                  kU,
                AO.box
                  (PV.c
                    (CV.agg
                      [CV.str a, CV.str ⟨⟨[]⟩⟩, CV.bool false, CV.str ⟨⟨[]⟩⟩,
                        CV.str ⟨⟨[]⟩⟩, CV.bool false, CV.bool true,
                        CV.str ⟨⟨[]⟩⟩, CV.str ⟨⟨[]⟩⟩, CV.bool false,
                        CV.str ⟨⟨[]⟩⟩, CV.bool false]))
                  kU])
            none)
          none)
        none)
      none := by kernel_rfl
theorem uw22 (s a t : ByteArray) (p : Int) (n : Nat) (L M R : Env → Hp → Res) : partsB Tryd.prog (call' A41) (filt an22 0) n q22b (mkEnv 226 [(0, .c (.str s)), (2, .bptr 0 0), (4, .bptr 1 0), (5, .c (.int .i64 p)), (9, .c (.str t))]) [z0, .box (.c (zU a true)) kU] (fun _ => headK hl22 R) (thenK (headK h22d L) (thenK (headK h22c M) (endOf Tryd.prog 22 []))) =
    R
      (mkEnv 226
        [(0, PV.c (CV.str s)), (2, PV.bptr 0 0), (4, PV.bptr 1 0), (5, PV.c (CV.int IntKind.i64 p)), (9, PV.c (CV.str t)),
          (10, PV.c (CV.int IntKind.i64 (IntKind.i64.wrap ((↑t.size : Int) - 1))))])
      [AO.box
          (PV.c
            (CV.agg
              [CV.str ⟨⟨[]⟩⟩, CV.str ⟨⟨[]⟩⟩, CV.bool false,
                CV.str ⟨⟨[]⟩⟩, CV.str ⟨⟨[]⟩⟩, CV.bool false, CV.bool false,
                CV.str ⟨⟨[]⟩⟩, CV.str ⟨⟨[]⟩⟩, CV.bool false,
                CV.str ⟨⟨[]⟩⟩, CV.bool false]))
          kU,
        AO.box
          (PV.c
            (CV.agg
              [CV.str a, CV.str ⟨⟨[]⟩⟩, CV.bool false, CV.str ⟨⟨[]⟩⟩,
                CV.str ⟨⟨[]⟩⟩, CV.bool false, CV.bool true, CV.str ⟨⟨[]⟩⟩,
                CV.str ⟨⟨[]⟩⟩, CV.bool false, CV.str ⟨⟨[]⟩⟩, CV.bool false]))
          kU] := by kernel_rfl
theorem ud22 (s a t : ByteArray) (p k : Int) (n : Nat) (L M R : Env → Hp → Res) : aexec Tryd.prog (call' A41) (filt an22 0) n (bodyN 0 q22b) (mkEnv 226 [(0, .c (.str s)), (2, .bptr 0 0), (4, .bptr 1 0), (5, .c (.int .i64 p)), (9, .c (.str t)), (10, .c (.int .i64 k))]) [z0, .box (.c (zU a true)) kU] (thenK (headK hl22 R) (restN Tryd.prog (call' A41) (filt an22 0) n 0 q22b (thenK (headK h22d L) (thenK (headK h22c M) (endOf Tryd.prog 22 []))))) =
    bif' (decide (k ≥ 0))
      (bif' (decide (0 ≤ k))
        (bif' (decide (k < (↑t.size : Int)))
          (bif' (byteAt t k.toNat == 64)
            (bif' (decide (0 ≤ k))
              (bif' (decide (k ≤ (↑t.size : Int)))
                (bif' (decide (0 ≤ IntKind.i64.wrap (k + 1)))
                  (bif' (decide (IntKind.i64.wrap (k + 1) ≤ (↑t.size : Int)))
                    (bif' (decide ((↑t.size : Int) ≤ (↑t.size : Int)))
                      (L
                        (mkEnv 226
                          [(0, PV.c (CV.str s)), (2, PV.bptr 0 0), (4, PV.bptr 1 0), (5, PV.c (CV.int IntKind.i64 p)),
                            (9, PV.c (CV.str (t.extract (IntKind.i64.wrap (k + 1)).toNat (↑t.size : Int).toNat)))])
                        [AO.box
                            (PV.c
                              (CV.agg
                                [CV.str ⟨⟨[]⟩⟩, CV.str ⟨⟨[]⟩⟩, CV.bool false,
                                  CV.str ⟨⟨[]⟩⟩, CV.str ⟨⟨[]⟩⟩, CV.bool false,
                                  CV.bool false, CV.str ⟨⟨[]⟩⟩, CV.str ⟨⟨[]⟩⟩,
                                  CV.bool false, CV.str ⟨⟨[]⟩⟩, CV.bool false]))
                            kU,
                          AO.box
                            (PV.c
                              (CV.agg
                                [CV.str a, CV.str (t.extract (Int.toNat 0) k.toNat), CV.bool true,
                                  CV.str ⟨⟨[]⟩⟩, CV.str ⟨⟨[]⟩⟩, CV.bool false,
                                  CV.bool true, CV.str ⟨⟨[]⟩⟩, CV.str ⟨⟨[]⟩⟩,
                                  CV.bool false, CV.str ⟨⟨[]⟩⟩, CV.bool false]))
                            kU])
                      none)
                    none)
                  none)
                none)
              none)
            (R
              (mkEnv 226
                [(0, PV.c (CV.str s)), (2, PV.bptr 0 0), (4, PV.bptr 1 0), (5, PV.c (CV.int IntKind.i64 p)),
                  (9, PV.c (CV.str t)), (10, PV.c (CV.int IntKind.i64 (IntKind.i64.wrap (k - 1))))])
              [AO.box
                  (PV.c
                    (CV.agg
                      [CV.str ⟨⟨[]⟩⟩, CV.str ⟨⟨[]⟩⟩, CV.bool false,
                        CV.str ⟨⟨[]⟩⟩, CV.str ⟨⟨[]⟩⟩, CV.bool false,
                        CV.bool false, CV.str ⟨⟨[]⟩⟩, CV.str ⟨⟨[]⟩⟩,
                        CV.bool false, CV.str ⟨⟨[]⟩⟩, CV.bool false]))
                  kU,
                AO.box
                  (PV.c
                    (CV.agg
                      [CV.str a, CV.str ⟨⟨[]⟩⟩, CV.bool false, CV.str ⟨⟨[]⟩⟩,
                        CV.str ⟨⟨[]⟩⟩, CV.bool false, CV.bool true,
                        CV.str ⟨⟨[]⟩⟩, CV.str ⟨⟨[]⟩⟩, CV.bool false,
                        CV.str ⟨⟨[]⟩⟩, CV.bool false]))
                  kU]))
          none)
        none)
      (L
        (mkEnv 226
          [(0, PV.c (CV.str s)), (2, PV.bptr 0 0), (4, PV.bptr 1 0), (5, PV.c (CV.int IntKind.i64 p)),
            (9, PV.c (CV.str t))])
        [AO.box
            (PV.c
              (CV.agg
                [CV.str ⟨⟨[]⟩⟩, CV.str ⟨⟨[]⟩⟩, CV.bool false,
                  CV.str ⟨⟨[]⟩⟩, CV.str ⟨⟨[]⟩⟩, CV.bool false, CV.bool false,
                  CV.str ⟨⟨[]⟩⟩, CV.str ⟨⟨[]⟩⟩, CV.bool false,
                  CV.str ⟨⟨[]⟩⟩, CV.bool false]))
            kU,
          AO.box
            (PV.c
              (CV.agg
                [CV.str a, CV.str ⟨⟨[]⟩⟩, CV.bool false, CV.str ⟨⟨[]⟩⟩,
                  CV.str ⟨⟨[]⟩⟩, CV.bool false, CV.bool true, CV.str ⟨⟨[]⟩⟩,
                  CV.str ⟨⟨[]⟩⟩, CV.bool false, CV.str ⟨⟨[]⟩⟩, CV.bool false]))
            kU]) := by kernel_rfl
theorem ux22 (s a us t : ByteArray) (hu : Bool) (p : Int) (n : Nat) (L M R : Env → Hp → Res) : partsB Tryd.prog (call' A41) (filt an22 0) n q22c (mkEnv 226 [(0, .c (.str s)), (2, .bptr 0 0), (4, .bptr 1 0), (5, .c (.int .i64 p)), (9, .c (.str t))]) [z0, .box (.c (uV a us hu ⟨⟨[]⟩⟩ ⟨⟨[]⟩⟩ false true ⟨⟨[]⟩⟩ ⟨⟨[]⟩⟩ false ⟨⟨[]⟩⟩ false)) kU] (fun _ => headK hl29 R) (thenK (headK h22d L) (thenK (headK h22c M) (endOf Tryd.prog 22 []))) =
    R
      (mkEnv 226
        [(0, PV.c (CV.str s)), (2, PV.bptr 0 0), (4, PV.bptr 1 0), (5, PV.c (CV.int IntKind.i64 p)), (9, PV.c (CV.str t)),
          (11, PV.c (CV.int IntKind.i64 (IntKind.i64.wrap ((↑t.size : Int) - 1))))])
      [AO.box
          (PV.c
            (CV.agg
              [CV.str ⟨⟨[]⟩⟩, CV.str ⟨⟨[]⟩⟩, CV.bool false,
                CV.str ⟨⟨[]⟩⟩, CV.str ⟨⟨[]⟩⟩, CV.bool false, CV.bool false,
                CV.str ⟨⟨[]⟩⟩, CV.str ⟨⟨[]⟩⟩, CV.bool false,
                CV.str ⟨⟨[]⟩⟩, CV.bool false]))
          kU,
        AO.box
          (PV.c
            (CV.agg
              [CV.str a, CV.str us, CV.bool hu, CV.str ⟨⟨[]⟩⟩, CV.str ⟨⟨[]⟩⟩,
                CV.bool false, CV.bool true, CV.str ⟨⟨[]⟩⟩, CV.str ⟨⟨[]⟩⟩,
                CV.bool false, CV.str ⟨⟨[]⟩⟩, CV.bool false]))
          kU] := by kernel_rfl
theorem ue22 (s a us t : ByteArray) (hu : Bool) (p k : Int) (n : Nat) (L M R : Env → Hp → Res) : aexec Tryd.prog (call' A41) (filt an22 0) n (bodyN 0 q22c) (mkEnv 226 [(0, .c (.str s)), (2, .bptr 0 0), (4, .bptr 1 0), (5, .c (.int .i64 p)), (9, .c (.str t)), (11, .c (.int .i64 k))]) [z0, .box (.c (uV a us hu ⟨⟨[]⟩⟩ ⟨⟨[]⟩⟩ false true ⟨⟨[]⟩⟩ ⟨⟨[]⟩⟩ false ⟨⟨[]⟩⟩ false)) kU] (thenK (headK hl29 R) (restN Tryd.prog (call' A41) (filt an22 0) n 0 q22c (thenK (headK h22d L) (thenK (headK h22c M) (endOf Tryd.prog 22 []))))) =
    bif' (decide (k ≥ 0))
      (bif' (decide (0 ≤ k))
        (bif' (decide (k < (↑t.size : Int)))
          (bif' (byteAt t k.toNat != 93)
            (bif' (decide (0 ≤ k))
              (bif' (decide (k < (↑t.size : Int)))
                (bif' (byteAt t k.toNat == 58)
                  (bif' (decide (0 ≤ IntKind.i64.wrap (k + 1)))
                    (bif' (decide (IntKind.i64.wrap (k + 1) ≤ (↑t.size : Int)))
                      (bif' (decide ((↑t.size : Int) ≤ (↑t.size : Int)))
                        (bif' (decide (0 ≤ k))
                          (bif' (decide (k ≤ (↑t.size : Int)))
                            (L
                              (mkEnv 226
                                [(0, PV.c (CV.str s)), (2, PV.bptr 0 0), (4, PV.bptr 1 0), (5, PV.c (CV.int IntKind.i64 p)),
                                  (9, PV.c (CV.str (t.extract (Int.toNat 0) k.toNat)))])
                              [AO.box
                                  (PV.c
                                    (CV.agg
                                      [CV.str ⟨⟨[]⟩⟩, CV.str ⟨⟨[]⟩⟩,
                                        CV.bool false, CV.str ⟨⟨[]⟩⟩,
                                        CV.str ⟨⟨[]⟩⟩, CV.bool false, CV.bool false,
                                        CV.str ⟨⟨[]⟩⟩, CV.str ⟨⟨[]⟩⟩,
                                        CV.bool false, CV.str ⟨⟨[]⟩⟩, CV.bool false]))
                                  kU,
                                AO.box
                                  (PV.c
                                    (CV.agg
                                      [CV.str a, CV.str us, CV.bool hu, CV.str ⟨⟨[]⟩⟩,
                                        CV.str (t.extract (IntKind.i64.wrap (k + 1)).toNat (↑t.size : Int).toNat),
                                        CV.bool true, CV.bool true, CV.str ⟨⟨[]⟩⟩,
                                        CV.str ⟨⟨[]⟩⟩, CV.bool false,
                                        CV.str ⟨⟨[]⟩⟩, CV.bool false]))
                                  kU])
                            none)
                          none)
                        none)
                      none)
                    none)
                  (R
                    (mkEnv 226
                      [(0, PV.c (CV.str s)), (2, PV.bptr 0 0), (4, PV.bptr 1 0), (5, PV.c (CV.int IntKind.i64 p)),
                        (9, PV.c (CV.str t)), (11, PV.c (CV.int IntKind.i64 (IntKind.i64.wrap (k - 1))))])
                    [AO.box
                        (PV.c
                          (CV.agg
                            [CV.str ⟨⟨[]⟩⟩, CV.str ⟨⟨[]⟩⟩, CV.bool false,
                              CV.str ⟨⟨[]⟩⟩, CV.str ⟨⟨[]⟩⟩, CV.bool false,
                              CV.bool false, CV.str ⟨⟨[]⟩⟩, CV.str ⟨⟨[]⟩⟩,
                              CV.bool false, CV.str ⟨⟨[]⟩⟩, CV.bool false]))
                        kU,
                      AO.box
                        (PV.c
                          (CV.agg
                            [CV.str a, CV.str us, CV.bool hu, CV.str ⟨⟨[]⟩⟩,
                              CV.str ⟨⟨[]⟩⟩, CV.bool false, CV.bool true,
                              CV.str ⟨⟨[]⟩⟩, CV.str ⟨⟨[]⟩⟩, CV.bool false,
                              CV.str ⟨⟨[]⟩⟩, CV.bool false]))
                        kU]))
                none)
              none)
            (L
              (mkEnv 226
                [(0, PV.c (CV.str s)), (2, PV.bptr 0 0), (4, PV.bptr 1 0), (5, PV.c (CV.int IntKind.i64 p)),
                  (9, PV.c (CV.str t))])
              [AO.box
                  (PV.c
                    (CV.agg
                      [CV.str ⟨⟨[]⟩⟩, CV.str ⟨⟨[]⟩⟩, CV.bool false,
                        CV.str ⟨⟨[]⟩⟩, CV.str ⟨⟨[]⟩⟩, CV.bool false,
                        CV.bool false, CV.str ⟨⟨[]⟩⟩, CV.str ⟨⟨[]⟩⟩,
                        CV.bool false, CV.str ⟨⟨[]⟩⟩, CV.bool false]))
                  kU,
                AO.box
                  (PV.c
                    (CV.agg
                      [CV.str a, CV.str us, CV.bool hu, CV.str ⟨⟨[]⟩⟩,
                        CV.str ⟨⟨[]⟩⟩, CV.bool false, CV.bool true,
                        CV.str ⟨⟨[]⟩⟩, CV.str ⟨⟨[]⟩⟩, CV.bool false,
                        CV.str ⟨⟨[]⟩⟩, CV.bool false]))
                  kU]))
          none)
        none)
      (L
        (mkEnv 226
          [(0, PV.c (CV.str s)), (2, PV.bptr 0 0), (4, PV.bptr 1 0), (5, PV.c (CV.int IntKind.i64 p)),
            (9, PV.c (CV.str t))])
        [AO.box
            (PV.c
              (CV.agg
                [CV.str ⟨⟨[]⟩⟩, CV.str ⟨⟨[]⟩⟩, CV.bool false,
                  CV.str ⟨⟨[]⟩⟩, CV.str ⟨⟨[]⟩⟩, CV.bool false, CV.bool false,
                  CV.str ⟨⟨[]⟩⟩, CV.str ⟨⟨[]⟩⟩, CV.bool false,
                  CV.str ⟨⟨[]⟩⟩, CV.bool false]))
            kU,
          AO.box
            (PV.c
              (CV.agg
                [CV.str a, CV.str us, CV.bool hu, CV.str ⟨⟨[]⟩⟩, CV.str ⟨⟨[]⟩⟩,
                  CV.bool false, CV.bool true, CV.str ⟨⟨[]⟩⟩, CV.str ⟨⟨[]⟩⟩,
                  CV.bool false, CV.str ⟨⟨[]⟩⟩, CV.bool false]))
            kU]) := by kernel_rfl
theorem uy22 (s a us po t : ByteArray) (hu hp : Bool) (p : Int) (n : Nat) (M : Env → Hp → Res) : aexecB Tryd.prog (call' A41) (filt an22 0) n (tailC 6 r22b) (mkEnv 226 [(0, .c (.str s)), (2, .bptr 0 0), (4, .bptr 1 0), (5, .c (.int .i64 p)), (9, .c (.str t))]) [z0, .box (.c (uV a us hu ⟨⟨[]⟩⟩ po hp true ⟨⟨[]⟩⟩ ⟨⟨[]⟩⟩ false ⟨⟨[]⟩⟩ false)) kU] (thenK (headK h22c M) (endOf Tryd.prog 22 [])) =
    M (mkEnv 226 [(0, PV.c (CV.str s)), (2, PV.bptr 0 0), (4, PV.bptr 1 0), (5, PV.c (CV.int IntKind.i64 p))])
      [AO.box
          (PV.c
            (CV.agg
              [CV.str ⟨⟨[]⟩⟩, CV.str ⟨⟨[]⟩⟩, CV.bool false,
                CV.str ⟨⟨[]⟩⟩, CV.str ⟨⟨[]⟩⟩, CV.bool false, CV.bool false,
                CV.str ⟨⟨[]⟩⟩, CV.str ⟨⟨[]⟩⟩, CV.bool false,
                CV.str ⟨⟨[]⟩⟩, CV.bool false]))
          kU,
        AO.box
          (PV.c
            (CV.agg
              [CV.str a, CV.str us, CV.bool hu, CV.str t, CV.str po, CV.bool hp, CV.bool true,
                CV.str ⟨⟨[]⟩⟩, CV.str ⟨⟨[]⟩⟩, CV.bool false,
                CV.str ⟨⟨[]⟩⟩, CV.bool false]))
          kU] := by kernel_rfl
theorem va22 (s a us ho po : ByteArray) (hu hp t : Bool) (p : Int) (n : Nat) (M : Env → Hp → Res) : aexecB Tryd.prog (call' A41) (filt an22 0) n (prefC 2 e22c) (mkEnv 226 [(0, .c (.str s)), (2, .bptr 0 0), (4, .bptr 1 0), (5, .c (.int .i64 p))]) [z0, .box (.c (uV a us hu ho po hp t ⟨⟨[]⟩⟩ ⟨⟨[]⟩⟩ false ⟨⟨[]⟩⟩ false)) kU] (thenK (headK h22e M) (endOf Tryd.prog 22 [])) =
    bif'
      (decide (0 ≤ p) &&
        (decide (p ≤ (↑s.size : Int)) && (decide (s.size ≤ 10000) && decide ((ByteArray.mk #[63, 35]).size ≤ 10000))))
      (bif' (decide (0 ≤ p))
        (bif' (decide (p ≤ (↑(findI s p.toNat (ByteArray.mk #[63, 35])) : Int)))
          (bif' (decide ((↑(findI s p.toNat (ByteArray.mk #[63, 35])) : Int) ≤ (↑s.size : Int)))
            (M
              (mkEnv 226
                [(0, PV.c (CV.str s)), (2, PV.bptr 0 0), (4, PV.bptr 1 0),
                  (12, PV.c (CV.int IntKind.i64 (↑(findI s p.toNat (ByteArray.mk #[63, 35])) : Int)))])
              [AO.box
                  (PV.c
                    (CV.agg
                      [CV.str ⟨⟨[]⟩⟩, CV.str ⟨⟨[]⟩⟩, CV.bool false,
                        CV.str ⟨⟨[]⟩⟩, CV.str ⟨⟨[]⟩⟩, CV.bool false,
                        CV.bool false, CV.str ⟨⟨[]⟩⟩, CV.str ⟨⟨[]⟩⟩,
                        CV.bool false, CV.str ⟨⟨[]⟩⟩, CV.bool false]))
                  kU,
                AO.box
                  (PV.c
                    (CV.agg
                      [CV.str a, CV.str us, CV.bool hu, CV.str ho, CV.str po, CV.bool hp, CV.bool t,
                        CV.str (s.extract p.toNat (↑(findI s p.toNat (ByteArray.mk #[63, 35])) : Int).toNat),
                        CV.str ⟨⟨[]⟩⟩, CV.bool false, CV.str ⟨⟨[]⟩⟩,
                        CV.bool false]))
                  kU])
            none)
          none)
        none)
      none := by kernel_rfl
theorem vb22 (s a us ho po pa : ByteArray) (hu hp t : Bool) (e : Int) (n : Nat) (M : Env → Hp → Res) : aexecB Tryd.prog (call' A41) (filt an22 0) n (prefC 1 (tailC 2 e22c)) (mkEnv 226 [(0, .c (.str s)), (2, .bptr 0 0), (4, .bptr 1 0), (12, .c (.int .i64 e))]) [z0, .box (.c (uV a us hu ho po hp t pa ⟨⟨[]⟩⟩ false ⟨⟨[]⟩⟩ false)) kU] (thenK (headK h22e M) (endOf Tryd.prog 22 [])) =
    bif' (decide (e < (↑s.size : Int)))
      (bif' (decide (0 ≤ e))
        (bif' (decide (e < (↑s.size : Int)))
          (bif' (byteAt s e.toNat == 63)
            (bif'
              (decide (0 ≤ IntKind.i64.wrap (e + 1)) &&
                (decide (IntKind.i64.wrap (e + 1) ≤ (↑s.size : Int)) &&
                  (decide (s.size ≤ 10000) && decide ((ByteArray.mk #[35]).size ≤ 10000))))
              (bif' (decide (0 ≤ IntKind.i64.wrap (e + 1)))
                (bif'
                  (decide
                    (IntKind.i64.wrap (e + 1) ≤ (↑(findI s (IntKind.i64.wrap (e + 1)).toNat (ByteArray.mk #[35])) : Int)))
                  (bif'
                    (decide ((↑(findI s (IntKind.i64.wrap (e + 1)).toNat (ByteArray.mk #[35])) : Int) ≤ (↑s.size : Int)))
                    (M
                      (mkEnv 226
                        [(0, PV.c (CV.str s)), (2, PV.bptr 0 0), (4, PV.bptr 1 0),
                          (12,
                            PV.c
                              (CV.int IntKind.i64
                                (↑(findI s (IntKind.i64.wrap (e + 1)).toNat (ByteArray.mk #[35])) : Int)))])
                      [AO.box
                          (PV.c
                            (CV.agg
                              [CV.str ⟨⟨[]⟩⟩, CV.str ⟨⟨[]⟩⟩, CV.bool false,
                                CV.str ⟨⟨[]⟩⟩, CV.str ⟨⟨[]⟩⟩, CV.bool false,
                                CV.bool false, CV.str ⟨⟨[]⟩⟩, CV.str ⟨⟨[]⟩⟩,
                                CV.bool false, CV.str ⟨⟨[]⟩⟩, CV.bool false]))
                          kU,
                        AO.box
                          (PV.c
                            (CV.agg
                              [CV.str a, CV.str us, CV.bool hu, CV.str ho, CV.str po, CV.bool hp, CV.bool t, CV.str pa,
                                CV.str
                                  (s.extract (IntKind.i64.wrap (e + 1)).toNat
                                    (↑(findI s (IntKind.i64.wrap (e + 1)).toNat (ByteArray.mk #[35])) : Int).toNat),
                                CV.bool true, CV.str ⟨⟨[]⟩⟩, CV.bool false]))
                          kU])
                    none)
                  none)
                none)
              none)
            (M (mkEnv 226 [(0, PV.c (CV.str s)), (2, PV.bptr 0 0), (4, PV.bptr 1 0), (12, PV.c (CV.int IntKind.i64 e))])
              [AO.box
                  (PV.c
                    (CV.agg
                      [CV.str ⟨⟨[]⟩⟩, CV.str ⟨⟨[]⟩⟩, CV.bool false,
                        CV.str ⟨⟨[]⟩⟩, CV.str ⟨⟨[]⟩⟩, CV.bool false,
                        CV.bool false, CV.str ⟨⟨[]⟩⟩, CV.str ⟨⟨[]⟩⟩,
                        CV.bool false, CV.str ⟨⟨[]⟩⟩, CV.bool false]))
                  kU,
                AO.box
                  (PV.c
                    (CV.agg
                      [CV.str a, CV.str us, CV.bool hu, CV.str ho, CV.str po, CV.bool hp, CV.bool t, CV.str pa,
                        CV.str ⟨⟨[]⟩⟩, CV.bool false, CV.str ⟨⟨[]⟩⟩,
                        CV.bool false]))
                  kU]))
          none)
        none)
      (M (mkEnv 226 [(0, PV.c (CV.str s)), (2, PV.bptr 0 0), (4, PV.bptr 1 0), (12, PV.c (CV.int IntKind.i64 e))])
        [AO.box
            (PV.c
              (CV.agg
                [CV.str ⟨⟨[]⟩⟩, CV.str ⟨⟨[]⟩⟩, CV.bool false,
                  CV.str ⟨⟨[]⟩⟩, CV.str ⟨⟨[]⟩⟩, CV.bool false, CV.bool false,
                  CV.str ⟨⟨[]⟩⟩, CV.str ⟨⟨[]⟩⟩, CV.bool false,
                  CV.str ⟨⟨[]⟩⟩, CV.bool false]))
            kU,
          AO.box
            (PV.c
              (CV.agg
                [CV.str a, CV.str us, CV.bool hu, CV.str ho, CV.str po, CV.bool hp, CV.bool t, CV.str pa,
                  CV.str ⟨⟨[]⟩⟩, CV.bool false, CV.str ⟨⟨[]⟩⟩, CV.bool false]))
            kU]) := by kernel_rfl
theorem vc22 (s a us ho po pa qu : ByteArray) (hu hp t hq : Bool) (e : Int) (n : Nat) (M : Env → Hp → Res) : aexecB Tryd.prog (call' A41) (filt an22 0) n (prefC 1 (tailC 3 e22c)) (mkEnv 226 [(0, .c (.str s)), (2, .bptr 0 0), (4, .bptr 1 0), (12, .c (.int .i64 e))]) [z0, .box (.c (uV a us hu ho po hp t pa qu hq ⟨⟨[]⟩⟩ false)) kU] (thenK (headK h22f M) (endOf Tryd.prog 22 [])) =
    bif' (decide (e < (↑s.size : Int)))
      (bif' (decide (0 ≤ IntKind.i64.wrap (e + 1)))
        (bif' (decide (IntKind.i64.wrap (e + 1) ≤ (↑s.size : Int)))
          (bif' (decide ((↑s.size : Int) ≤ (↑s.size : Int)))
            (M (mkEnv 226 [(2, PV.bptr 0 0), (4, PV.bptr 1 0)])
              [AO.box
                  (PV.c
                    (CV.agg
                      [CV.str ⟨⟨[]⟩⟩, CV.str ⟨⟨[]⟩⟩, CV.bool false,
                        CV.str ⟨⟨[]⟩⟩, CV.str ⟨⟨[]⟩⟩, CV.bool false,
                        CV.bool false, CV.str ⟨⟨[]⟩⟩, CV.str ⟨⟨[]⟩⟩,
                        CV.bool false, CV.str ⟨⟨[]⟩⟩, CV.bool false]))
                  kU,
                AO.box
                  (PV.c
                    (CV.agg
                      [CV.str a, CV.str us, CV.bool hu, CV.str ho, CV.str po, CV.bool hp, CV.bool t, CV.str pa, CV.str qu,
                        CV.bool hq, CV.str (s.extract (IntKind.i64.wrap (e + 1)).toNat (↑s.size : Int).toNat),
                        CV.bool true]))
                  kU])
            none)
          none)
        none)
      (M (mkEnv 226 [(2, PV.bptr 0 0), (4, PV.bptr 1 0)])
        [AO.box
            (PV.c
              (CV.agg
                [CV.str ⟨⟨[]⟩⟩, CV.str ⟨⟨[]⟩⟩, CV.bool false,
                  CV.str ⟨⟨[]⟩⟩, CV.str ⟨⟨[]⟩⟩, CV.bool false, CV.bool false,
                  CV.str ⟨⟨[]⟩⟩, CV.str ⟨⟨[]⟩⟩, CV.bool false,
                  CV.str ⟨⟨[]⟩⟩, CV.bool false]))
            kU,
          AO.box
            (PV.c
              (CV.agg
                [CV.str a, CV.str us, CV.bool hu, CV.str ho, CV.str po, CV.bool hp, CV.bool t, CV.str pa, CV.str qu,
                  CV.bool hq, CV.str ⟨⟨[]⟩⟩, CV.bool false]))
            kU]) := by kernel_rfl
theorem vd22 (a us ho po pa qu fr : ByteArray) (hu hp t hq hf : Bool) (n : Nat) : aexecB Tryd.prog (call' A41) (filt an22 0) n (tailC 4 e22c) (mkEnv 226 [(2, .bptr 0 0), (4, .bptr 1 0)]) [z0, .box (.c (uV a us hu ho po hp t pa qu hq fr hf)) kU] (endOf Tryd.prog 22 []) =
    bif' (fitsS (us.size + pa.size))
      (bif' (fitsS ((us ++ pa).size + qu.size))
        (bif' (fitsS ((us ++ pa ++ qu).size + fr.size))
          (bif'
            (decide (0 ≤ 0) &&
              (decide (0 ≤ (↑fr.size : Int)) && (decide (fr.size ≤ 10000) && decide ((ByteArray.mk #[35]).size ≤ 10000))))
            (bif' (decide ((↑(findI fr (Int.toNat 0) (ByteArray.mk #[35])) : Int) < (↑fr.size : Int)))
              (some
                (CV.tup
                    [CV.agg
                        [CV.str ⟨⟨[]⟩⟩, CV.str ⟨⟨[]⟩⟩, CV.bool false,
                          CV.str ⟨⟨[]⟩⟩, CV.str ⟨⟨[]⟩⟩, CV.bool false,
                          CV.bool false, CV.str ⟨⟨[]⟩⟩, CV.str ⟨⟨[]⟩⟩,
                          CV.bool false, CV.str ⟨⟨[]⟩⟩, CV.bool false],
                      CV.bool false],
                  []))
              (bif'
                (decide (0 ≤ 0) &&
                  (decide (0 ≤ (↑(us ++ pa ++ qu ++ fr).size : Int)) &&
                    (decide ((us ++ pa ++ qu ++ fr).size ≤ 10000) && decide ((ByteArray.mk #[91, 93]).size ≤ 10000))))
                (bif'
                  (decide
                    ((↑(findI (us ++ pa ++ qu ++ fr) (Int.toNat 0) (ByteArray.mk #[91, 93])) : Int) <
                      (↑(us ++ pa ++ qu ++ fr).size : Int)))
                  (some
                    (CV.tup
                        [CV.agg
                            [CV.str ⟨⟨[]⟩⟩, CV.str ⟨⟨[]⟩⟩, CV.bool false,
                              CV.str ⟨⟨[]⟩⟩, CV.str ⟨⟨[]⟩⟩, CV.bool false,
                              CV.bool false, CV.str ⟨⟨[]⟩⟩, CV.str ⟨⟨[]⟩⟩,
                              CV.bool false, CV.str ⟨⟨[]⟩⟩, CV.bool false],
                          CV.bool false],
                      []))
                  (bif' (decide (po.size ≤ 10000))
                    (bif' (!digS po)
                      (some
                        (CV.tup
                            [CV.agg
                                [CV.str ⟨⟨[]⟩⟩, CV.str ⟨⟨[]⟩⟩, CV.bool false,
                                  CV.str ⟨⟨[]⟩⟩, CV.str ⟨⟨[]⟩⟩, CV.bool false,
                                  CV.bool false, CV.str ⟨⟨[]⟩⟩, CV.str ⟨⟨[]⟩⟩,
                                  CV.bool false, CV.str ⟨⟨[]⟩⟩, CV.bool false],
                              CV.bool false],
                          []))
                      (bif' t
                        (bif' (decide (ho.size ≤ 2500))
                          (bif' (!hostS ho)
                            (some
                              (CV.tup
                                  [CV.agg
                                      [CV.str ⟨⟨[]⟩⟩, CV.str ⟨⟨[]⟩⟩,
                                        CV.bool false, CV.str ⟨⟨[]⟩⟩,
                                        CV.str ⟨⟨[]⟩⟩, CV.bool false, CV.bool false,
                                        CV.str ⟨⟨[]⟩⟩, CV.str ⟨⟨[]⟩⟩,
                                        CV.bool false, CV.str ⟨⟨[]⟩⟩, CV.bool false],
                                    CV.bool false],
                                []))
                            (some
                              (CV.tup
                                  [CV.agg
                                      [CV.str a, CV.str us, CV.bool hu, CV.str ho, CV.str po, CV.bool hp, CV.bool t,
                                        CV.str pa, CV.str qu, CV.bool hq, CV.str fr, CV.bool hf],
                                    CV.bool true],
                                [])))
                          none)
                        (some
                          (CV.tup
                              [CV.agg
                                  [CV.str a, CV.str us, CV.bool hu, CV.str ho, CV.str po, CV.bool hp, CV.bool t, CV.str pa,
                                    CV.str qu, CV.bool hq, CV.str fr, CV.bool hf],
                                CV.bool true],
                            []))))
                    none))
                none))
            none)
          none)
        none)
      none := by kernel_rfl

end Go.Pv

/- URLs: the document's Parse, from its path on. -/
namespace Go.Pv
set_option linter.unusedVariables false
set_option maxRecDepth 100000
set_option maxHeartbeats 40000
open Go Go.Proofs
variable {I : World → Prop} {ng : Nat}

def fin22 (ok : Bool) (v : CV) : Res := if ok = true then some (.tup [v, .bool true], []) else some (.tup [zU nB false, .bool false], [])
theorem findL_lt (p : List UInt8) : ∀ l : List UInt8, decide (findL p l < l.length) = l.any fun b => inS (mkS p) b.toNat
  | [] => rfl
  | b :: t => by
    unfold findL
    have ih := findL_lt p t
    cases h : inS (mkS p) b.toNat with
    | true => simp [h]
    | false => simp [h, ← ih]
theorem find_lt (l p : List UInt8) : decide (((findI (mkS l) 0 (mkS p) : Nat) : Int) < (((mkS l).size : Nat) : Int)) = l.any fun b => inS (mkS p) b.toNat := by
  rw [find0, sizeM, ← findL_lt]
  rw [Bool.eq_iff_iff, decide_eq_true_eq, decide_eq_true_eq]
  omega
theorem in1 (c b : UInt8) : inS (mkS [c]) b.toNat = decide (b = c) := by
  rw [in_lit]
  simp [List.contains, List.elem]
  by_cases h : b = c
  · subst h; simp
  · have : (b == c) = false := by simpa using h
    rw [this]; simp [h]
theorem brS_any (l : List UInt8) : brS (mkS l) = l.any fun b => inS (mkS [91, 93]) b.toNat := by
  unfold brS
  rw [mkS_data]
  congr 1
  funext b
  rw [in_lit, Bool.eq_iff_iff]
  simp
theorem le00 : decide ((0 : Nat) ≤ 0) = true := by decide
theorem lez (n : Nat) : decide ((0 : Int) ≤ (n : Int)) = true := decide_eq_true (by omega)
theorem vd22' (a us ho po pa qu fr : ByteArray) (hu hp t hq hf : Bool) (n : Nat) (z1 : us.size ≤ 2500) (z2 : pa.size ≤ 2500) (z3 : qu.size ≤ 2500) (z4 : fr.size ≤ 2500) (z5 : po.size ≤ 2500) (z6 : ho.size ≤ 2500) (R : Res)
    (hR : R = fin22 (!(fr.data.toList.any fun b => decide (b = 35)) && (!brS (us ++ pa ++ qu ++ fr) && (digS po && (!t || hostS ho)))) (uV a us hu ho po hp t pa qu hq fr hf)) :
    aexecB Tryd.prog (call' A41) (filt an22 0) n (tailC 4 e22c) (mkEnv 226 [(2, .bptr 0 0), (4, .bptr 1 0)]) [z0, .box (.c (uV a us hu ho po hp t pa qu hq fr hf)) kU] (endOf Tryd.prog 22 []) = R := by
  have b1 : fitsS (us.size + pa.size) = true := fits_small (by omega)
  have b2 : fitsS ((us ++ pa).size + qu.size) = true := fits_small (by rw [ByteArray.size_append]; omega)
  have b3 : fitsS ((us ++ pa ++ qu).size + fr.size) = true := fits_small (by rw [ByteArray.size_append, ByteArray.size_append]; omega)
  have b4 : decide (fr.size ≤ 10000) = true := decide_eq_true (by omega)
  have b5 : decide ((us ++ pa ++ qu ++ fr).size ≤ 10000) = true := decide_eq_true (by rw [ByteArray.size_append, ByteArray.size_append, ByteArray.size_append]; omega)
  have b6 : decide (po.size ≤ 10000) = true := decide_eq_true (by omega)
  have b7 : decide (ho.size ≤ 2500) = true := decide_eq_true z6
  have b8 : decide ((ByteArray.mk #[35]).size ≤ 10000) = true := rfl
  have b9 : decide ((ByteArray.mk #[91, 93]).size ≤ 10000) = true := rfl
  have f1 : ∀ x : ByteArray, decide (((findI x 0 (ByteArray.mk #[35]) : Nat) : Int) < ((x.size : Nat) : Int)) = (x.data.toList.any fun b => decide (b = 35)) := by
    intro x
    obtain ⟨l, rfl⟩ : ∃ l, x = mkS l := ⟨_, (mkS_bl x).symm⟩
    have e : (ByteArray.mk #[35]) = mkS [35] := rfl
    rw [e, find_lt, mkS_data]
    simp only [in1]
  have f2 : ∀ x : ByteArray, decide (((findI x 0 (ByteArray.mk #[91, 93]) : Nat) : Int) < ((x.size : Nat) : Int)) = brS x := by
    intro x
    obtain ⟨l, rfl⟩ : ∃ l, x = mkS l := ⟨_, (mkS_bl x).symm⟩
    have e : (ByteArray.mk #[91, 93]) = mkS [91, 93] := rfl
    rw [e, find_lt, brS_any]
  rw [vd22, hR, toNat0, f1, f2, b1, b2, b3, b4, b5, b6, b7, b8, b9, le00, lez, lez]
  unfold fin22
  simp only [Bool.and_self, bif_tt]
  generalize (fr.data.toList.any fun b => decide (b = 35)) = X
  generalize brS (us ++ pa ++ qu ++ fr) = Y
  generalize digS po = D
  generalize hostS ho = G
  cases X <;> cases Y <;> cases D <;> cases t <;> cases G <;> rfl

theorem sp22d : spine 1 (tailC 3 e22c) = true := by kernel_rfl
theorem ha22d : headAt (filt an22 0) (tailC 1 (tailC 3 e22c)) = some h22f := by kernel_rfl
theorem fo22d : tailC 1 (tailC 3 e22c) = tailC 4 e22c := eq_of_heq (heq_of_eq (by kernel_rfl))
/-- The fragment, of what is behind. -/
theorem vc22' (l : List UInt8) (a us ho po pa qu : ByteArray) (hu hp t hq : Bool) (e n : Nat) (hl : l.length ≤ 2500) (he : e ≤ l.length) (z1 : us.size ≤ 2500) (z2 : pa.size ≤ 2500) (z3 : qu.size ≤ 2500) (z5 : po.size ≤ 2500) (z6 : ho.size ≤ 2500) (R : Res)
    (hR : R = fin22 (!(((l.drop e).drop 1).any fun b => decide (b = 35)) && (!brS (us ++ pa ++ qu ++ mkS ((l.drop e).drop 1)) && (digS po && (!t || hostS ho)))) (uV a us hu ho po hp t pa qu hq (mkS ((l.drop e).drop 1)) (!(l.drop e).isEmpty))) :
    aexecB Tryd.prog (call' A41) (filt an22 0) n (tailC 3 e22c) (mkEnv 226 [(0, .c (.str (mkS l))), (2, .bptr 0 0), (4, .bptr 1 0), (12, .c (.int .i64 (e : Int)))]) [z0, .box (.c (uV a us hu ho po hp t pa qu hq ⟨⟨[]⟩⟩ false)) kU] (endOf Tryd.prog 22 []) = R := by
  rw [seg_b (k := 1) (by decide) sp22d ha22d, vc22]
  simp only [sizeM]
  have hw : IntKind.i64.wrap ((e : Int) + 1) = ((e + 1 : Nat) : Int) := wrp1 (by omega)
  by_cases h : e < l.length
  · have b1 : decide ((e : Int) < ((l.length : Nat) : Int)) = true := decide_eq_true (by omega)
    have b2 : decide (((e + 1 : Nat) : Int) ≤ ((l.length : Nat) : Int)) = true := decide_eq_true (by omega)
    have b3 : decide (((l.length : Nat) : Int) ≤ ((l.length : Nat) : Int)) = true := decide_eq_true (by omega)
    rw [b1, hw, lez, b2, b3, natM, natM, mkS_ext]
    simp only [bif_tt, fo22d]
    have e1 : (l.drop (e + 1)).take (l.length - (e + 1)) = l.drop (e + 1) := List.take_of_length_le (by simp)
    have e2 : (l.drop e).drop 1 = l.drop (e + 1) := by rw [List.drop_drop]
    have e3 : (!(l.drop e).isEmpty) = true := by rw [drop_getD h]; rfl
    rw [e1]
    rw [e2, e3] at hR
    exact vd22' _ _ _ _ _ _ _ _ _ _ _ _ n z1 z2 z3 (by rw [sizeM, List.length_drop]; omega) z5 z6 R (by rw [mkS_data]; exact hR)
  · have b1 : decide ((e : Int) < ((l.length : Nat) : Int)) = false := decide_eq_false (by omega)
    rw [b1]
    simp only [bif_ff, fo22d]
    have e1 : l.drop e = [] := List.drop_of_length_le (by omega)
    rw [e1] at hR
    exact vd22' _ _ _ _ _ _ _ _ _ _ _ _ n z1 z2 z3 (by decide) z5 z6 R hR

theorem sp22c : spine 1 (tailC 2 e22c) = true := by kernel_rfl
theorem ha22c : headAt (filt an22 0) (tailC 1 (tailC 2 e22c)) = some h22e := by kernel_rfl
theorem fo22c : tailC 1 (tailC 2 e22c) = tailC 3 e22c := eq_of_heq (heq_of_eq (by kernel_rfl))
/-- What is behind the path: has it a query, which, and what is behind. -/
def hqL : List UInt8 → Bool
  | c :: _ => c == 63
  | [] => false
def quL (d : List UInt8) : List UInt8 := if hqL d then (d.drop 1).take (findL [35] (d.drop 1)) else []
def afL (d : List UInt8) : List UInt8 := if hqL d then (d.drop 1).drop (findL [35] (d.drop 1)) else d
theorem vb22' (l : List UInt8) (a us ho po pa : ByteArray) (hu hp t : Bool) (e n : Nat) (hl : l.length ≤ 2500) (he : e ≤ l.length) (z1 : us.size ≤ 2500) (z2 : pa.size ≤ 2500) (z5 : po.size ≤ 2500) (z6 : ho.size ≤ 2500) (R : Res)
    (hR : R = fin22 (!(((afL (l.drop e)).drop 1).any fun b => decide (b = 35)) && (!brS (us ++ pa ++ mkS (quL (l.drop e)) ++ mkS ((afL (l.drop e)).drop 1)) && (digS po && (!t || hostS ho)))) (uV a us hu ho po hp t pa (mkS (quL (l.drop e))) (hqL (l.drop e)) (mkS ((afL (l.drop e)).drop 1)) (!(afL (l.drop e)).isEmpty))) :
    aexecB Tryd.prog (call' A41) (filt an22 0) n (tailC 2 e22c) (mkEnv 226 [(0, .c (.str (mkS l))), (2, .bptr 0 0), (4, .bptr 1 0), (12, .c (.int .i64 (e : Int)))]) [z0, .box (.c (uV a us hu ho po hp t pa ⟨⟨[]⟩⟩ false ⟨⟨[]⟩⟩ false)) kU] (endOf Tryd.prog 22 []) = R := by
  rw [seg_b (k := 1) (by decide) sp22c ha22c, vb22]
  simp only [sizeM]
  have hw : IntKind.i64.wrap ((e : Int) + 1) = ((e + 1 : Nat) : Int) := wrp1 (by omega)
  have b9 : decide ((ByteArray.mk #[35]).size ≤ 10000) = true := rfl
  have ee : (ByteArray.mk #[35]) = mkS [35] := rfl
  by_cases h : e < l.length
  · have b1 : decide ((e : Int) < ((l.length : Nat) : Int)) = true := decide_eq_true (by omega)
    have hd : l.drop e = l.getD e 0 :: l.drop (e + 1) := drop_getD h
    rw [b1, lez, natM, atM]
    simp only [bif_tt]
    by_cases hc : l.getD e 0 = 63
    · have c1 : (((l.getD e 0).toNat : Int) == 63) = true := by rw [hc]; rfl
      have hq : hqL (l.drop e) = true := by rw [hd, hc]; rfl
      have b2 : decide (((e + 1 : Nat) : Int) ≤ ((l.length : Nat) : Int)) = true := decide_eq_true (by omega)
      have b3 : decide (l.length ≤ 10000) = true := decide_eq_true (by omega)
      have ef : findI (mkS l) (e + 1) (mkS [35]) = e + 1 + findL [35] (l.drop (e + 1)) := by unfold findI; rw [mkS_data, mkS_data]
      have hle := findL_le [35] (l.drop (e + 1))
      rw [List.length_drop] at hle
      rw [c1, hw, lez, b2, b3, b9, natM, ee, ef]
      have b4 : decide (((e + 1 : Nat) : Int) ≤ ((e + 1 + findL [35] (l.drop (e + 1)) : Nat) : Int)) = true := decide_eq_true (by omega)
      have b5 : decide (((e + 1 + findL [35] (l.drop (e + 1)) : Nat) : Int) ≤ ((l.length : Nat) : Int)) = true := decide_eq_true (by omega)
      rw [b4, b5, natM, mkS_ext]
      simp only [Bool.and_self, bif_tt, fo22c]
      have e1 : e + 1 + findL [35] (l.drop (e + 1)) - (e + 1) = findL [35] (l.drop (e + 1)) := by omega
      have e2 : (l.drop e).drop 1 = l.drop (e + 1) := by rw [List.drop_drop]
      have e3 : quL (l.drop e) = (l.drop (e + 1)).take (findL [35] (l.drop (e + 1))) := by unfold quL; rw [hq, e2, if_pos rfl]
      have e4 : afL (l.drop e) = l.drop (e + 1 + findL [35] (l.drop (e + 1))) := by unfold afL; rw [hq, e2, if_pos rfl, List.drop_drop]
      rw [e1]
      rw [e3, e4, hq] at hR
      exact vc22' l a us ho po pa _ hu hp t true _ n hl (by omega) z1 z2 (by rw [sizeM, List.length_take, List.length_drop]; omega) z5 z6 R hR
    · have c1 : (((l.getD e 0).toNat : Int) == 63) = false := by
        refine Bool.eq_false_iff.2 fun hh => hc ?_
        have := eq_of_beq hh
        have h2 : ((l.getD e 0).toNat : Int) = ((63 : UInt8).toNat : Int) := this
        exact u8_int.1 h2
      have hq : hqL (l.drop e) = false := by
        rw [hd]
        exact beq_eq_false_iff_ne.2 hc
      rw [c1]
      simp only [bif_ff, fo22c]
      have e3 : quL (l.drop e) = [] := by unfold quL; rw [hq]; simp only [Bool.false_eq_true, if_false]
      have e4 : afL (l.drop e) = l.drop e := by unfold afL; rw [hq]; simp only [Bool.false_eq_true, if_false]
      rw [e3, e4, hq] at hR
      exact vc22' l a us ho po pa _ hu hp t false _ n hl he z1 z2 (by decide) z5 z6 R hR
  · have b1 : decide ((e : Int) < ((l.length : Nat) : Int)) = false := decide_eq_false (by omega)
    rw [b1]
    simp only [bif_ff, fo22c]
    have e1 : l.drop e = [] := List.drop_of_length_le (by omega)
    have e3 : quL (l.drop e) = [] := by rw [e1]; rfl
    have e4 : afL (l.drop e) = l.drop e := by rw [e1]; rfl
    have hq : hqL (l.drop e) = false := by rw [e1]; rfl
    rw [e3, e4, hq] at hR
    exact vc22' l a us ho po pa _ hu hp t false _ n hl he z1 z2 (by decide) z5 z6 R hR

theorem sp22b : spine 2 e22c = true := by kernel_rfl
theorem ha22b : headAt (filt an22 0) (tailC 2 e22c) = some h22e := by kernel_rfl
def paL (t : List UInt8) : List UInt8 := t.take (findL [63, 35] t)
def deL (t : List UInt8) : List UInt8 := t.drop (findL [63, 35] t)
theorem va22' (l : List UInt8) (a us ho po : ByteArray) (hu hp t : Bool) (p n : Nat) (hl : l.length ≤ 2500) (he : p ≤ l.length) (z1 : us.size ≤ 2500) (z5 : po.size ≤ 2500) (z6 : ho.size ≤ 2500) (R : Res)
    (hR : R = fin22 (!(((afL (deL (l.drop p))).drop 1).any fun b => decide (b = 35)) && (!brS (us ++ mkS (paL (l.drop p)) ++ mkS (quL (deL (l.drop p))) ++ mkS ((afL (deL (l.drop p))).drop 1)) && (digS po && (!t || hostS ho)))) (uV a us hu ho po hp t (mkS (paL (l.drop p))) (mkS (quL (deL (l.drop p)))) (hqL (deL (l.drop p))) (mkS ((afL (deL (l.drop p))).drop 1)) (!(afL (deL (l.drop p))).isEmpty))) :
    aexecB Tryd.prog (call' A41) (filt an22 0) n e22c (mkEnv 226 [(0, .c (.str (mkS l))), (2, .bptr 0 0), (4, .bptr 1 0), (5, .c (.int .i64 (p : Int)))]) [z0, .box (.c (uV a us hu ho po hp t ⟨⟨[]⟩⟩ ⟨⟨[]⟩⟩ false ⟨⟨[]⟩⟩ false)) kU] (endOf Tryd.prog 22 []) = R := by
  have b9 : decide ((ByteArray.mk #[63, 35]).size ≤ 10000) = true := rfl
  have ee : (ByteArray.mk #[63, 35]) = mkS [63, 35] := rfl
  have ef : findI (mkS l) p (mkS [63, 35]) = p + findL [63, 35] (l.drop p) := by unfold findI; rw [mkS_data, mkS_data]
  have hle := findL_le [63, 35] (l.drop p)
  rw [List.length_drop] at hle
  have b2 : decide ((p : Int) ≤ ((l.length : Nat) : Int)) = true := decide_eq_true (by omega)
  have b3 : decide (l.length ≤ 10000) = true := decide_eq_true (by omega)
  have b4 : decide ((p : Int) ≤ ((p + findL [63, 35] (l.drop p) : Nat) : Int)) = true := decide_eq_true (by omega)
  have b5 : decide (((p + findL [63, 35] (l.drop p) : Nat) : Int) ≤ ((l.length : Nat) : Int)) = true := decide_eq_true (by omega)
  rw [seg_b (k := 2) (by decide) sp22b ha22b, va22]
  simp only [sizeM]
  rw [lez, b2, b3, b9, natM, ee, ef, b4, b5, natM, mkS_ext]
  simp only [Bool.and_self, bif_tt]
  have e1 : p + findL [63, 35] (l.drop p) - p = findL [63, 35] (l.drop p) := by omega
  have e2 : l.drop (p + findL [63, 35] (l.drop p)) = deL (l.drop p) := by unfold deL; rw [List.drop_drop]
  rw [e1]
  refine vb22' l a us ho po _ hu hp t _ n hl (by omega) z1 (by rw [sizeM, List.length_take, List.length_drop]; omega) z5 z6 R ?_
  rw [e2]
  exact hR

end Go.Pv

/- URLs: the document's Parse, its authority. -/
namespace Go.Pv
set_option linter.unusedVariables false
set_option maxRecDepth 100000
set_option maxHeartbeats 40000
open Go Go.Proofs
variable {I : World → Prop} {ng : Nat}

noncomputable abbrev K22 (L M : Env → Hp → Res) : KX := thenK (headK h22d L) (thenK (headK h22c M) (endOf Tryd.prog 22 []))
def E9 (l t : List UInt8) (p : Nat) : Env := mkEnv 226 [(0, .c (.str (mkS l))), (2, .bptr 0 0), (4, .bptr 1 0), (5, .c (.int .i64 (p : Int))), (9, .c (.str (mkS t)))]
def H9 (a us : ByteArray) (hu : Bool) (po : ByteArray) (hp : Bool) : Hp := [z0, .box (.c (uV a us hu ⟨⟨[]⟩⟩ po hp true ⟨⟨[]⟩⟩ ⟨⟨[]⟩⟩ false ⟨⟨[]⟩⟩ false)) kU]
noncomputable abbrev R22 (n j : Nat) (L M : Env → Hp → Res) (env : Env) (H : Hp) : Res := rounds Tryd.prog (call' A41) (filt an22 0) n hl22 (bodyN 0 q22b) j env H (restN Tryd.prog (call' A41) (filt an22 0) n 0 q22b (K22 L M))
theorem wrmI {i : Int} (h0 : 0 ≤ i) (h : i ≤ 100000) : IntKind.i64.wrap (i - 1) = i - 1 := by
  by_cases h1 : i = 0
  · subst h1; rfl
  · exact wrap_id (by omega) (by omega)
theorem lo22 (n : Nat) (l t : List UInt8) (a : ByteArray) (p : Nat) (L M : Env → Hp → Res) (ht : t.length ≤ 2500) : ∀ (j k : Nat), k < j → k ≤ t.length →
    R22 n j L M (mkEnv 226 [(0, .c (.str (mkS l))), (2, .bptr 0 0), (4, .bptr 1 0), (5, .c (.int .i64 (p : Int))), (9, .c (.str (mkS t))), (10, .c (.int .i64 ((k : Int) - 1)))]) (H9 a nB false nB false) =
      if 0 ≤ lastL k t 64 then L (E9 l (t.drop ((lastL k t 64).toNat + 1)) p) (H9 a (mkS (t.take (lastL k t 64).toNat)) true nB false) else L (E9 l t p) (H9 a nB false nB false)
  | 0, k, hj, hk => by omega
  | j + 1, 0, hj, hk => by
    show aexec Tryd.prog (call' A41) (filt an22 0) n (bodyN 0 q22b) _ _ (thenK (headK hl22 fun env H => R22 n j L M env H) _) = _
    rw [H9, ud22]
    have b1 : decide (((0 : Nat) : Int) - 1 ≥ 0) = false := by decide
    rw [b1, bif_ff]
    have : ¬ (0 : Int) ≤ lastL 0 t 64 := by unfold lastL; decide
    rw [if_neg this]
    rfl
  | j + 1, k + 1, hj, hk => by
    show aexec Tryd.prog (call' A41) (filt an22 0) n (bodyN 0 q22b) _ _ (thenK (headK hl22 fun env H => R22 n j L M env H) _) = _
    rw [H9, ud22]
    have e0 : ((k + 1 : Nat) : Int) - 1 = (k : Int) := by omega
    have b1 : decide ((k : Int) ≥ 0) = true := decide_eq_true (by omega)
    have b2 : decide ((k : Int) < ((t.length : Nat) : Int)) = true := decide_eq_true (by omega)
    have b3 : decide ((k : Int) ≤ ((t.length : Nat) : Int)) = true := decide_eq_true (by omega)
    have b4 : decide (((k + 1 : Nat) : Int) ≤ ((t.length : Nat) : Int)) = true := decide_eq_true (by omega)
    have b5 : decide (((t.length : Nat) : Int) ≤ ((t.length : Nat) : Int)) = true := decide_eq_true (by omega)
    have hw : IntKind.i64.wrap ((k : Int) + 1) = ((k + 1 : Nat) : Int) := wrp1 (by omega)
    have hw2 : IntKind.i64.wrap ((k : Int) - 1) = (k : Int) - 1 := wrmI (by omega) (by omega)
    simp only [sizeM, e0]
    rw [b1, b2, b3, hw, hw2, lez, b4, b5, natM, natM, natM, atM, toNat0, mkS_ext, mkS_ext]
    simp only [bif_tt, List.drop_zero, Nat.sub_zero]
    have el : lastL (k + 1) t 64 = if ((t.getD k 0).toNat : Int) = 64 then (k : Int) else lastL k t 64 := rfl
    rw [el]
    by_cases hc : ((t.getD k 0).toNat : Int) = 64
    · have c1 : (((t.getD k 0).toNat : Int) == 64) = true := beq_iff_eq.2 hc
      rw [c1, bif_tt, if_pos hc, if_pos (by omega), natM]
      have e1 : (t.drop (k + 1)).take (t.length - (k + 1)) = t.drop (k + 1) := List.take_of_length_le (by simp)
      rw [e1]
      rfl
    · have c1 : (((t.getD k 0).toNat : Int) == 64) = false := beq_eq_false_iff_ne.2 hc
      rw [c1, bif_ff, if_neg hc]
      exact lo22 n l t a p L M ht j k (by omega) (by omega)

noncomputable abbrev R29 (n j : Nat) (L M : Env → Hp → Res) (env : Env) (H : Hp) : Res := rounds Tryd.prog (call' A41) (filt an22 0) n hl29 (bodyN 0 q22c) j env H (restN Tryd.prog (call' A41) (filt an22 0) n 0 q22c (K22 L M))
theorem lastL_lt (l : List UInt8) (c : Int) (k : Nat) : lastL k l c < k := (lastL_b l c k).2
theorem lo29 (n : Nat) (l t : List UInt8) (a us : ByteArray) (hu : Bool) (p : Nat) (L M : Env → Hp → Res) (ht : t.length ≤ 2500) : ∀ (j k : Nat), k < j → k ≤ t.length →
    R29 n j L M (mkEnv 226 [(0, .c (.str (mkS l))), (2, .bptr 0 0), (4, .bptr 1 0), (5, .c (.int .i64 (p : Int))), (9, .c (.str (mkS t))), (11, .c (.int .i64 ((k : Int) - 1)))]) (H9 a us hu nB false) =
      if 0 ≤ lastL k t 58 ∧ lastL k t 93 < lastL k t 58 then L (E9 l (t.take (lastL k t 58).toNat) p) (H9 a us hu (mkS (t.drop ((lastL k t 58).toNat + 1))) true) else L (E9 l t p) (H9 a us hu nB false)
  | 0, k, hj, hk => by omega
  | j + 1, 0, hj, hk => by
    show aexec Tryd.prog (call' A41) (filt an22 0) n (bodyN 0 q22c) _ _ (thenK (headK hl29 fun env H => R29 n j L M env H) _) = _
    rw [H9, ue22]
    have b1 : decide (((0 : Nat) : Int) - 1 ≥ 0) = false := by decide
    rw [b1, bif_ff]
    have : ¬ ((0 : Int) ≤ lastL 0 t 58 ∧ lastL 0 t 93 < lastL 0 t 58) := by unfold lastL; decide
    rw [if_neg this]
    rfl
  | j + 1, k + 1, hj, hk => by
    show aexec Tryd.prog (call' A41) (filt an22 0) n (bodyN 0 q22c) _ _ (thenK (headK hl29 fun env H => R29 n j L M env H) _) = _
    rw [H9, ue22]
    have e0 : ((k + 1 : Nat) : Int) - 1 = (k : Int) := by omega
    have b1 : decide ((k : Int) ≥ 0) = true := decide_eq_true (by omega)
    have b2 : decide ((k : Int) < ((t.length : Nat) : Int)) = true := decide_eq_true (by omega)
    have b3 : decide ((k : Int) ≤ ((t.length : Nat) : Int)) = true := decide_eq_true (by omega)
    have b4 : decide (((k + 1 : Nat) : Int) ≤ ((t.length : Nat) : Int)) = true := decide_eq_true (by omega)
    have b5 : decide (((t.length : Nat) : Int) ≤ ((t.length : Nat) : Int)) = true := decide_eq_true (by omega)
    have hw : IntKind.i64.wrap ((k : Int) + 1) = ((k + 1 : Nat) : Int) := wrp1 (by omega)
    have hw2 : IntKind.i64.wrap ((k : Int) - 1) = (k : Int) - 1 := wrmI (by omega) (by omega)
    simp only [sizeM, e0]
    rw [b1, b2, b3, hw, hw2, lez, b4, b5, natM, natM, natM, atM, toNat0, mkS_ext, mkS_ext]
    simp only [bif_tt, List.drop_zero, Nat.sub_zero]
    have el : ∀ c, lastL (k + 1) t c = if ((t.getD k 0).toNat : Int) = c then (k : Int) else lastL k t c := fun _ => rfl
    rw [el, el]
    have k1 := lastL_lt t 58 k
    have k2 := lastL_lt t 93 k
    by_cases h93 : ((t.getD k 0).toNat : Int) = 93
    · have c1 : (((t.getD k 0).toNat : Int) != 93) = false := by rw [h93]; decide
      have h58 : ¬ ((t.getD k 0).toNat : Int) = 58 := by omega
      rw [c1, bif_ff, if_pos h93, if_neg h58, if_neg (by omega)]
      rfl
    · have c1 : (((t.getD k 0).toNat : Int) != 93) = true := by simpa using h93
      rw [c1, bif_tt, if_neg h93]
      by_cases h58 : ((t.getD k 0).toNat : Int) = 58
      · have c2 : (((t.getD k 0).toNat : Int) == 58) = true := beq_iff_eq.2 h58
        rw [c2, bif_tt, if_pos h58, if_pos (by omega), natM]
        have e1 : (t.drop (k + 1)).take (t.length - (k + 1)) = t.drop (k + 1) := List.take_of_length_le (by simp)
        rw [e1]
        rfl
      · have c2 : (((t.getD k 0).toNat : Int) == 58) = false := beq_eq_false_iff_ne.2 h58
        rw [c2, bif_ff, if_neg h58]
        exact lo29 n l t a us hu p L M ht j k (by omega) (by omega)

end Go.Pv

/- URLs: the document's Parse: its authority and its scheme put together. -/
namespace Go.Pv
set_option linter.unusedVariables false
set_option maxRecDepth 100000
set_option maxHeartbeats 40000
open Go Go.Proofs
variable {I : World → Prop} {ng : Nat}

def E5 (l : List UInt8) (p : Nat) : Env := mkEnv 226 [(0, .c (.str (mkS l))), (2, .bptr 0 0), (4, .bptr 1 0), (5, .c (.int .i64 (p : Int)))]
def HX (a us : ByteArray) (hu : Bool) (ho po : ByteArray) (hp t : Bool) : Hp := [z0, .box (.c (uV a us hu ho po hp t ⟨⟨[]⟩⟩ ⟨⟨[]⟩⟩ false ⟨⟨[]⟩⟩ false)) kU]
noncomputable abbrev KM (M : Env → Hp → Res) : KX := thenK (headK h22c M) (endOf Tryd.prog 22 [])

theorem sp22t : spine 1 (tailC 1 (tailC 4 r22b)) = true := by kernel_rfl
theorem ha22t : headAt (filt an22 0) (tailC 1 (tailC 1 (tailC 4 r22b))) = some h22d := by kernel_rfl
theorem fo22t : tailC 1 (tailC 1 (tailC 4 r22b)) = tailC 6 r22b := eq_of_heq (heq_of_eq (by kernel_rfl))
theorem lp22c : isLoopPiece q22c = true := by kernel_rfl
theorem id22c : idsOk q22c = true := by kernel_rfl
theorem nl22c : nLoops q22c = 1 := by kernel_rfl
theorem hh22c : (firstRegion (bodyN 0 q22c)).bind (filt an22 0) = some hl29 := by kernel_rfl
theorem lp22b : isLoopPiece q22b = true := by kernel_rfl
theorem id22b : idsOk q22b = true := by kernel_rfl
theorem nl22b : nLoops q22b = 1 := by kernel_rfl
theorem hh22b : (firstRegion (bodyN 0 q22b)).bind (filt an22 0) = some hl22 := by kernel_rfl
theorem wrm0 (n : Nat) (h : n ≤ 100000) : IntKind.i64.wrap ((n : Int) - 1) = (n : Int) - 1 := wrmI (by omega) (by omega)

/-- The port. -/
theorem vs22 (l t : List UInt8) (a us : ByteArray) (hu : Bool) (p n : Nat) (M : Env → Hp → Res) (ht : t.length ≤ 2500) (hn : 3000 ≤ n) :
    aexecB Tryd.prog (call' A41) (filt an22 0) n (tailC 1 (tailC 4 r22b)) (E9 l t p) (H9 a us hu nB false) (KM M) =
      if 0 ≤ lastL t.length t 58 ∧ lastL t.length t 93 < lastL t.length t 58 then M (E5 l p) (HX a us hu (mkS (t.take (lastL t.length t 58).toNat)) (mkS (t.drop ((lastL t.length t 58).toNat + 1))) true true)
      else M (E5 l p) (HX a us hu (mkS t) nB false true) := by
  rw [seg_b (k := 1) (by decide) sp22t ha22t]
  show aexecB Tryd.prog (call' A41) (filt an22 0) n q22c _ _ _ = _
  rw [loopB lp22c id22c nl22c hh22c]
  unfold E9 H9
  rw [ux22]
  simp only [sizeM]
  rw [wrm0 _ (by omega), fo22t]
  have h := lo29 n l t a us hu p (fun e H => aexecB Tryd.prog (call' A41) (filt an22 0) n (tailC 6 r22b) e H (KM M)) M ht n t.length (by omega) (Nat.le_refl _)
  refine Eq.trans h ?_
  split
  · unfold E9 H9
    exact uy22 ..
  · unfold E9 H9
    exact uy22 ..

theorem sp22s : spine 1 (tailC 4 r22b) = true := by kernel_rfl
theorem ha22s : headAt (filt an22 0) (tailC 1 (tailC 4 r22b)) = some h22d := by kernel_rfl
theorem sp22r : spine 4 r22b = true := by kernel_rfl
theorem ha22r : headAt (filt an22 0) (tailC 4 r22b) = some h22d := by kernel_rfl
theorem vr22 (l t : List UInt8) (a : ByteArray) (p n : Nat) (M : Env → Hp → Res) (ht : t.length ≤ 2500) (hn : 3000 ≤ n) :
    aexecB Tryd.prog (call' A41) (filt an22 0) n (tailC 4 r22b) (E9 l t p) (H9 a nB false nB false) (KM M) =
      M (E5 l p) (HX a (auUsr (mkS t)) (auHU (mkS t)) (auHost (mkS t)) (auPort (mkS t)) (auHP (mkS t)) true) := by
  rw [seg_b (k := 1) (by decide) sp22s ha22s]
  show aexecB Tryd.prog (call' A41) (filt an22 0) n q22b _ _ _ = _
  rw [loopB lp22b id22b nl22b hh22b]
  unfold E9 H9
  rw [uw22]
  simp only [sizeM]
  rw [wrm0 _ (by omega)]
  have h := lo22 n l t a p (fun e H => aexecB Tryd.prog (call' A41) (filt an22 0) n (tailC 1 (tailC 4 r22b)) e H (KM M)) M ht n t.length (by omega) (Nat.le_refl _)
  refine Eq.trans h ?_
  have e64 : lastI (mkS t) 64 = lastL t.length t 64 := by unfold lastI; rw [mkS_data, sizeM]
  unfold auUsr auHost auPort auHP auRest auHU
  rw [e64]
  have hb := lastL_b t 64 t.length
  generalize lastL t.length t 64 = x at *
  by_cases hx : 0 ≤ x
  · simp only [hx, if_true, decide_true]
    rw [vs22 _ _ _ _ _ _ _ _ (by rw [List.length_drop]; omega) hn]
    have e1 : (mkS t).extract (x.toNat + 1) (mkS t).size = mkS (t.drop (x.toNat + 1)) := by
      rw [mkS_ext, sizeM, List.take_of_length_le (by simp)]
    have e2 : (mkS t).extract 0 x.toNat = mkS (t.take x.toNat) := by rw [mkS_ext, List.drop_zero, Nat.sub_zero]
    rw [e1, e2]
    have e3 : ∀ c, lastI (mkS (t.drop (x.toNat + 1))) c = lastL (t.drop (x.toNat + 1)).length (t.drop (x.toNat + 1)) c := fun c => by unfold lastI; rw [mkS_data, sizeM]
    rw [e3, e3]
    generalize t.drop (x.toNat + 1) = u
    generalize lastL u.length u 58 = y
    generalize lastL u.length u 93 = z
    have e4 : (mkS u).extract 0 y.toNat = mkS (u.take y.toNat) := by rw [mkS_ext, List.drop_zero, Nat.sub_zero]
    have e5 : (mkS u).extract (y.toNat + 1) (mkS u).size = mkS (u.drop (y.toNat + 1)) := by
      rw [mkS_ext, sizeM, List.take_of_length_le (by simp)]
    rw [e4, e5]
    by_cases hy : 0 ≤ y ∧ z < y
    · have b : (decide (0 ≤ y) && decide (z < y)) = true := by rw [decide_eq_true hy.1, decide_eq_true hy.2]; rfl
      rw [if_pos hy, b]; rfl
    · have b : (decide (0 ≤ y) && decide (z < y)) = false := by
        rw [Bool.and_eq_false_iff]
        by_cases h0 : 0 ≤ y
        · exact .inr (decide_eq_false fun h => hy ⟨h0, h⟩)
        · exact .inl (decide_eq_false h0)
      rw [if_neg hy, b]; rfl
  · simp only [hx, if_false, decide_false, Bool.false_eq_true]
    rw [vs22 _ _ _ _ _ _ _ _ ht hn]
    have e3 : ∀ c, lastI (mkS t) c = lastL t.length t c := fun c => by unfold lastI; rw [mkS_data, sizeM]
    rw [e3, e3]
    generalize lastL t.length t 58 = y
    generalize lastL t.length t 93 = z
    have e4 : (mkS t).extract 0 y.toNat = mkS (t.take y.toNat) := by rw [mkS_ext, List.drop_zero, Nat.sub_zero]
    have e5 : (mkS t).extract (y.toNat + 1) (mkS t).size = mkS (t.drop (y.toNat + 1)) := by
      rw [mkS_ext, sizeM, List.take_of_length_le (by simp)]
    rw [e4, e5]
    by_cases hy : 0 ≤ y ∧ z < y
    · have b : (decide (0 ≤ y) && decide (z < y)) = true := by rw [decide_eq_true hy.1, decide_eq_true hy.2]; rfl
      rw [if_pos hy, b]; rfl
    · have b : (decide (0 ≤ y) && decide (z < y)) = false := by
        rw [Bool.and_eq_false_iff]
        by_cases h0 : 0 ≤ y
        · exact .inr (decide_eq_false fun h => hy ⟨h0, h⟩)
        · exact .inl (decide_eq_false h0)
      rw [if_neg hy, b]; rfl

/-- The arm of an authority. -/
theorem vq22 (l : List UInt8) (a : ByteArray) (p n : Nat) (M : Env → Hp → Res) (hl : l.length ≤ 2500) (hp : p + 2 ≤ l.length) (hn : 3000 ≤ n) :
    aexecB Tryd.prog (call' A41) (filt an22 0) n r22b (E5 l p) (HX a nB false nB nB false false) (KM M) =
      M (E5 l (p + 2 + findL [47, 63, 35] (l.drop (p + 2)))) (HX a (auUsr (mkS ((l.drop (p + 2)).take (findL [47, 63, 35] (l.drop (p + 2)))))) (auHU (mkS ((l.drop (p + 2)).take (findL [47, 63, 35] (l.drop (p + 2)))))) (auHost (mkS ((l.drop (p + 2)).take (findL [47, 63, 35] (l.drop (p + 2)))))) (auPort (mkS ((l.drop (p + 2)).take (findL [47, 63, 35] (l.drop (p + 2)))))) (auHP (mkS ((l.drop (p + 2)).take (findL [47, 63, 35] (l.drop (p + 2)))))) true) := by
  have hw : IntKind.i64.wrap ((p : Int) + 2) = ((p + 2 : Nat) : Int) := wrp (k := 2) (by omega) (by omega)
  have ee : (ByteArray.mk #[47, 63, 35]) = mkS [47, 63, 35] := rfl
  have ef : findI (mkS l) (p + 2) (mkS [47, 63, 35]) = p + 2 + findL [47, 63, 35] (l.drop (p + 2)) := by unfold findI; rw [mkS_data, mkS_data]
  have hle := findL_le [47, 63, 35] (l.drop (p + 2))
  rw [List.length_drop] at hle
  have b2 : decide (((p + 2 : Nat) : Int) ≤ ((l.length : Nat) : Int)) = true := decide_eq_true (by omega)
  have b3 : decide (l.length ≤ 10000) = true := decide_eq_true (by omega)
  have b4 : decide (((p + 2 : Nat) : Int) ≤ ((p + 2 + findL [47, 63, 35] (l.drop (p + 2)) : Nat) : Int)) = true := decide_eq_true (by omega)
  have b5 : decide (((p + 2 + findL [47, 63, 35] (l.drop (p + 2)) : Nat) : Int) ≤ ((l.length : Nat) : Int)) = true := decide_eq_true (by omega)
  have b9 : decide ((ByteArray.mk #[47, 63, 35]).size ≤ 10000) = true := rfl
  rw [seg_b (k := 4) (by decide) sp22r ha22r]
  unfold E5 HX
  rw [uv22]
  simp only [sizeM]
  rw [hw, lez, b2, b3, b9, natM, ee, ef, b4, b5, natM, mkS_ext]
  simp only [Bool.and_self, bif_tt]
  have e1 : p + 2 + findL [47, 63, 35] (l.drop (p + 2)) - (p + 2) = findL [47, 63, 35] (l.drop (p + 2)) := by omega
  rw [e1]
  exact vr22 l _ a _ n M (by rw [List.length_take, List.length_drop]; omega) hn

/-! ### From the authority on -/
theorem sp22e : spine 1 d22b = true := by kernel_rfl
theorem ha22e : headAt (filt an22 0) (tailC 1 d22b) = some h22c := by kernel_rfl
theorem io22b : isHole p22b = true := by kernel_rfl
theorem hr22b : headAt (filt an22 0) (lastArm p22b) = some h22c := by kernel_rfl
def haL (r : List UInt8) : Bool := ([47, 47] : List UInt8).isPrefixOf r
def auL (r : List UInt8) : List UInt8 := (r.drop 2).take (findL [47, 63, 35] (r.drop 2))
def rsL (r : List UInt8) : List UInt8 := if haL r then (r.drop 2).drop (findL [47, 63, 35] (r.drop 2)) else r
def usB (r : List UInt8) : ByteArray := if haL r then auUsr (mkS (auL r)) else nB
def huB (r : List UInt8) : Bool := haL r && auHU (mkS (auL r))
def hoB (r : List UInt8) : ByteArray := if haL r then auHost (mkS (auL r)) else nB
def poB (r : List UInt8) : ByteArray := if haL r then auPort (mkS (auL r)) else nB
def hpB (r : List UInt8) : Bool := haL r && auHP (mkS (auL r))
def ok22 (us po ho : ByteArray) (ha : Bool) (t : List UInt8) : Bool := !(((afL (deL t)).drop 1).any fun b => decide (b = 35)) && (!brS (us ++ mkS (paL t) ++ mkS (quL (deL t)) ++ mkS ((afL (deL t)).drop 1)) && (digS po && (!ha || hostS ho)))
def v22 (a us : ByteArray) (hu : Bool) (ho po : ByteArray) (hp ha : Bool) (t : List UInt8) : CV := uV a us hu ho po hp ha (mkS (paL t)) (mkS (quL (deL t))) (hqL (deL t)) (mkS ((afL (deL t)).drop 1)) (!(afL (deL t)).isEmpty)
theorem ext_sz (s : ByteArray) (a b : Nat) : (s.extract a b).size ≤ s.size := by rw [ByteArray.size_extract]; omega
theorem auUsr_sz (s : ByteArray) : (auUsr s).size ≤ s.size := by
  unfold auUsr; split
  · exact ext_sz _ _ _
  · exact Nat.zero_le _
theorem auRest_sz (s : ByteArray) : (auRest s).size ≤ s.size := by
  unfold auRest; split
  · exact ext_sz _ _ _
  · exact Nat.le_refl _
theorem auHost_sz (s : ByteArray) : (auHost s).size ≤ s.size := by
  have := auRest_sz s
  unfold auHost; split
  · have := ext_sz (auRest s) 0 (lastI (auRest s) 58).toNat; omega
  · omega
theorem auPort_sz (s : ByteArray) : (auPort s).size ≤ s.size := by
  have := auRest_sz s
  unfold auPort; split
  · have := ext_sz (auRest s) ((lastI (auRest s) 58).toNat + 1) (auRest s).size; omega
  · exact Nat.zero_le _
theorem vp22 (l : List UInt8) (a : ByteArray) (p n : Nat) (hl : l.length ≤ 2500) (hp : p ≤ l.length) (hn : 3000 ≤ n) :
    aexecB Tryd.prog (call' A41) (filt an22 0) n d22b (E5 l p) (HX a nB false nB nB false false) (endOf Tryd.prog 22 []) =
      fin22 (ok22 (usB (l.drop p)) (poB (l.drop p)) (hoB (l.drop p)) (haL (l.drop p)) (rsL (l.drop p))) (v22 a (usB (l.drop p)) (huB (l.drop p)) (hoB (l.drop p)) (poB (l.drop p)) (hpB (l.drop p)) (haL (l.drop p)) (rsL (l.drop p))) := by
  have hw : IntKind.i64.wrap ((p : Int) + 2) = ((p + 2 : Nat) : Int) := wrp (k := 2) (by omega) (by omega)
  rw [seg_b (k := 1) (by decide) sp22e ha22e]
  show aexecB Tryd.prog (call' A41) (filt an22 0) n p22b _ _ (thenK (headK h22c fun e H => aexecB Tryd.prog (call' A41) (filt an22 0) n e22c e H (endOf Tryd.prog 22 [])) _) = _
  rw [hole_eq io22b hr22b]
  show aexecB Tryd.prog (call' A41) (filt an22 0) n (holeC p22b) _ _ (armK (headK h22c fun e H => aexecB Tryd.prog (call' A41) (filt an22 0) n r22b e H (KM fun e H => aexecB Tryd.prog (call' A41) (filt an22 0) n e22c e H (endOf Tryd.prog 22 []))) _) = _
  unfold E5 HX
  rw [uu22]
  simp only [sizeM]
  rw [hw, lez, natM, natM, mkS_ext]
  have e1 : p + 2 - p = 2 := by omega
  have e2 : (ByteArray.mk #[47, 47]) = mkS [47, 47] := rfl
  rw [e1, e2, toList_data, toList_data, mkS_data, mkS_data]
  have hno : haL (l.drop p) = false → (fun e H => aexecB Tryd.prog (call' A41) (filt an22 0) n e22c e H (endOf Tryd.prog 22 [])) (E5 l p) (HX a nB false nB nB false false) = fin22 (ok22 (usB (l.drop p)) (poB (l.drop p)) (hoB (l.drop p)) (haL (l.drop p)) (rsL (l.drop p))) (v22 a (usB (l.drop p)) (huB (l.drop p)) (hoB (l.drop p)) (poB (l.drop p)) (hpB (l.drop p)) (haL (l.drop p)) (rsL (l.drop p))) := by
    intro hA
    unfold E5 HX
    refine va22' l a nB nB nB false false false p n hl hp (by decide) (by decide) (by decide) _ ?_
    unfold ok22 v22 usB poB hoB huB hpB rsL
    rw [hA]
    simp only [Bool.false_eq_true, if_false, Bool.false_and]
  by_cases h2 : p + 2 ≤ l.length
  · have b1 : decide (((p + 2 : Nat) : Int) ≤ ((l.length : Nat) : Int)) = true := decide_eq_true (by omega)
    have b2 : decide ((p : Int) ≤ ((p + 2 : Nat) : Int)) = true := decide_eq_true (by omega)
    rw [b1, b2]
    simp only [bif_tt]
    have e3 : ((l.drop p).take 2 == ([47, 47] : List UInt8)) = haL (l.drop p) := by
      have hlen : 2 ≤ (l.drop p).length := by rw [List.length_drop]; omega
      unfold haL
      generalize l.drop p = r at hlen
      match r, hlen with
      | x :: y :: r, _ =>
        rw [Bool.eq_iff_iff]
        simp [List.isPrefixOf]
        constructor
        · rintro ⟨h1, h2⟩; exact ⟨h1.symm, h2.symm⟩
        · rintro ⟨h1, h2⟩; exact ⟨h1.symm, h2.symm⟩
    rw [e3]
    cases hA : haL (l.drop p) with
    | false =>
      rw [bif_ff]
      rw [hA] at hno
      exact hno rfl
    | true =>
      rw [bif_tt]
      refine (vq22 l a p n _ hl h2 hn).trans ?_
      have hle := findL_le [47, 63, 35] (l.drop (p + 2))
      rw [List.length_drop] at hle
      have e4 : (l.drop (p + 2)) = (l.drop p).drop 2 := by rw [List.drop_drop]
      have e5 : ((l.drop (p + 2)).take (findL [47, 63, 35] (l.drop (p + 2)))) = auL (l.drop p) := by unfold auL; rw [e4]
      have z : (mkS (auL (l.drop p))).size ≤ 2500 := by unfold auL; rw [sizeM, List.length_take, List.length_drop, List.length_drop]; omega
      have z1 := auUsr_sz (mkS (auL (l.drop p)))
      have z2 := auPort_sz (mkS (auL (l.drop p)))
      have z3 := auHost_sz (mkS (auL (l.drop p)))
      rw [e5]
      unfold E5 HX
      refine va22' l a _ _ _ _ _ true _ n hl (by omega) (by omega) (by omega) (by omega) _ ?_
      have e6 : l.drop (p + 2 + findL [47, 63, 35] (l.drop (p + 2))) = rsL (l.drop p) := by
        unfold rsL
        rw [hA, if_pos rfl, ← e4, List.drop_drop]
      rw [e6]
      unfold ok22 v22 usB poB hoB huB hpB
      rw [hA]
      simp only [if_true, Bool.true_and]
  · have b1 : decide (((p + 2 : Nat) : Int) ≤ ((l.length : Nat) : Int)) = false := decide_eq_false (by omega)
    rw [b1]
    simp only [bif_ff]
    refine hno ?_
    have hlen : (l.drop p).length < 2 := by rw [List.length_drop]; omega
    unfold haL
    generalize l.drop p = r at hlen
    match r, hlen with
    | [], _ => rfl
    | [x], _ => simp [List.isPrefixOf]
    | x :: y :: r, h => simp at h; omega

end Go.Pv
