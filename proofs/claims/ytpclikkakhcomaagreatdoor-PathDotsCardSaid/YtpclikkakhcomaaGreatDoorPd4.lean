/- Paths without dots, by definition: its loops. -/
import Derived.Test.YtpclikkakhcomaaGreatDoorPd2
import Derived.Test.YtpclikkakhcomaaGreatDoorPd3
set_option linter.unusedVariables false
set_option maxRecDepth 100000
namespace Go.Pv
open Go Go.Proofs

def E8 (s t : List UInt8) (m : Nat) : Env := mkEnv 92 [(0, .c (.str (mkS s))), (3, .c (.str (mkS t))), (4, .c (.int .i64 (m : Int)))]
def E80 (s t : List UInt8) (m k : Nat) : Env := mkEnv 92 [(0, .c (.str (mkS s))), (3, .c (.str (mkS t))), (4, .c (.int .i64 (m : Int))), (5, .c (.int .i64 (k : Int)))]
def E81 (s t : List UInt8) (m k : Nat) : Env := mkEnv 92 [(0, .c (.str (mkS s))), (3, .c (.str (mkS t))), (4, .c (.int .i64 (m : Int))), (6, .c (.int .i64 (k : Int)))]

/-- Where a text is cut: ahead of its last slash below a place. -/
def cutAt : Nat → List UInt8 → Nat
  | 0, _ => 0
  | k + 1, t => if t.getD k 0 = 47 then k else cutAt k t

theorem byte47 (c : UInt8) : (((c.toNat : Nat) : Int) != 47) = !decide (c = 47) := by
  rw [Bool.eq_iff_iff]
  simp
  constructor
  · intro h e; subst e; exact h rfl
  · intro h e
    apply h
    have : c.toNat = 47 := by omega
    exact UInt8.toNat.inj this

noncomputable abbrev K80 (n : Nat) (R : Env → Hp → Res) : KX := restN Tryz.prog (call' V22) (filt an8 0) n 0 b8 (thenK (headK h8 R) (K8 n))
noncomputable abbrev K81 (n : Nat) (R : Env → Hp → Res) : KX := restN Tryz.prog (call' V22) (filt an8 0) n 1 b8 (thenK (headK h8 R) (K8 n))

theorem lo0 (n : Nat) (s t : List UInt8) (m : Nat) (R : Env → Hp → Res) (ht : t.length ≤ 10000) (hm : m ≤ 10000) : ∀ (j k : Nat), k < j → k ≤ t.length →
    rounds Tryz.prog (call' V22) (filt an8 0) n h80 (bodyN 0 b8) j (E80 s t m k) [] (K80 n R) = R (E8 s (t.take (cutAt k t)) (m + 1)) []
  | 0, k, hj, hk => by omega
  | j + 1, k, hj, hk => by
    have ih := lo0 n s t m R ht hm j
    rw [rounds_succ]
    unfold E80 at ih ⊢
    unfold E8 at ih ⊢
    rw [inner0]
    simp only [bif_dec]
    simp only [mkS_at, byte47, bif_b, mkS_size, mkS_ext, t0, List.drop_zero, Nat.sub_zero, Bool.not_eq_true', decide_eq_false_iff_not, wrp (i := m) (k := 1) (by omega) (by omega)]
    have hm1 : IntKind.i64.wrap ((m : Int) + 1) = ((m + 1 : Nat) : Int) := wrp (i := m) (k := 1) (by omega) (by omega)
    cases k with
    | zero =>
      rw [if_neg (by omega), if_neg (by omega), if_pos (by omega), if_pos (by omega), hm1]
      rfl
    | succ k =>
      rw [wrm (by omega)]
      simp only [Int.toNat_natCast]
      have p0 : ((k + 1 : Nat) : Int) > 0 := by omega
      rw [if_pos p0, if_pos (by omega), if_pos (by omega)]
      by_cases hc : t.getD k 0 = 47
      · rw [if_neg (by simpa using hc), if_pos p0, if_pos (by omega), if_pos (by omega), hm1]
        have : cutAt (k + 1) t = k := by unfold cutAt; rw [if_pos hc]
        rw [this]
      · rw [if_pos hc]
        have : cutAt (k + 1) t = cutAt k t := by rw [cutAt, if_neg hc]
        rw [this]
        exact ih k (by omega) (by omega)

/-- The next slash from a place on. -/
def nextS (s : List UInt8) (k : Nat) : Nat := k + ((s.drop k).takeWhile (· != 47)).length
theorem lo1 (n : Nat) (s t : List UInt8) (m : Nat) (R : Env → Hp → Res) (hs : s.length ≤ 10000) (ht : t.length ≤ 10000) (hm : m ≤ 10000) : ∀ (j k : Nat), s.length < j + k → k ≤ s.length →
    rounds Tryz.prog (call' V22) (filt an8 0) n h81 (bodyN 1 b8) j (E81 s t m k) [] (K81 n R) = R (E8 (s.drop (nextS s k)) (t ++ s.take (nextS s k)) (m + 1)) []
  | 0, k, hj, hk => by omega
  | j + 1, k, hj, hk => by
    have ih := lo1 n s t m R hs ht hm j
    rw [rounds_succ]
    unfold E81 at ih ⊢
    unfold E8 at ih ⊢
    rw [inner1]
    have hm1 : IntKind.i64.wrap ((m : Int) + 1) = ((m + 1 : Nat) : Int) := wrp (i := m) (k := 1) (by omega) (by omega)
    have hk1 : IntKind.i64.wrap ((k : Int) + 1) = ((k + 1 : Nat) : Int) := wrp (i := k) (k := 1) (by omega) (by omega)
    simp only [bif_dec]
    simp only [mkS_at, byte47, bif_b, mkS_size, mkS_ext, mkS_app, t0, List.drop_zero, Nat.sub_zero, Bool.not_eq_true', decide_eq_false_iff_not, Int.toNat_natCast, take_end, Int.le_refl, if_true, hm1, hk1]
    have hfit : fitsS (t.length + (s.take k).length) = true := fits_small (by simp; omega)
    by_cases h1 : k < s.length
    · rw [if_pos (by omega), if_pos (by omega), if_pos (by omega)]
      have hdrop : s.drop k = s.getD k 0 :: s.drop (k + 1) := by
        rw [List.drop_eq_getElem_cons h1]
        simp [List.getD_eq_getElem?_getD, h1]
      by_cases hc : s.getD k 0 = 47
      · have : nextS s k = k := by
          unfold nextS
          rw [hdrop, List.takeWhile_cons_of_neg (by rw [hc]; simp)]; simp
        rw [if_neg (by simpa using hc), if_pos (by omega), if_pos (by omega), if_pos hfit, if_pos (by omega), if_pos (by omega), this]
      · have : nextS s k = nextS s (k + 1) := by
          unfold nextS
          rw [hdrop, List.takeWhile_cons_of_pos (by simpa using hc), List.length_cons]; omega
        rw [if_pos hc, this]
        exact ih (k + 1) (by omega) (by omega)
    · have hk' : k = s.length := by omega
      have : nextS s k = k := by
        unfold nextS
        rw [List.drop_of_length_le (by omega)]; simp
      rw [if_neg (by omega), if_pos (by omega), if_pos (by omega), if_pos hfit, if_pos (by omega), if_pos (by omega), this]

def refD : Nat → List UInt8 → List UInt8 → List UInt8
  | 0, _, t => t
  | k + 1, s, t =>
    if s = [] then t
    else if [46, 46, 47].isPrefixOf s = true then refD k (s.drop 3) t
    else if [46, 47].isPrefixOf s = true then refD k (s.drop 2) t
    else if [47, 46, 47].isPrefixOf s = true then refD k (s.drop 2) t
    else if s = [47, 46] then refD k [47] t
    else if [47, 46, 46, 47].isPrefixOf s = true then refD k (s.drop 3) (t.take (cutAt t.length t))
    else if s = [47, 46, 46] then refD k [47] (t.take (cutAt t.length t))
    else if s = [46] ∨ s = [46, 46] then refD k [] t
    else refD k (s.drop (seg s)) (t ++ s.take (seg s))

theorem ids8 : idsOk b8 = true := by kernel_rfl
theorem n8 : nLoops b8 = 2 := by kernel_rfl
theorem fr80 : (firstRegion (bodyN 0 b8)).bind (filt an8 0) = some h80 := by kernel_rfl
theorem fr81 : (firstRegion (bodyN 1 b8)).bind (filt an8 0) = some h81 := by kernel_rfl
theorem ids8' : idsOk c8 = true := by kernel_rfl
theorem n8' : nLoops c8 = 1 := by kernel_rfl
theorem fr8 : (firstRegion (bodyN 0 c8)).bind (filt an8 0) = some h8 := by kernel_rfl

theorem step8 (n : Nat) (hn : 10001 ≤ n) (s t : List UInt8) (m : Nat) (R : Env → Hp → Res) (hs : s.length ≤ 10000) (ht : t.length ≤ 10000) (hm : m < 5000) :
    aexec Tryz.prog (call' V22) (filt an8 0) n b8 (E8 s t m) [] (thenK (headK h8 R) (K8 n)) =
    if s = [] then some (.str (mkS t), [])
    else if [46, 46, 47].isPrefixOf s = true then R (E8 (s.drop 3) t (m + 1)) []
    else if [46, 47].isPrefixOf s = true then R (E8 (s.drop 2) t (m + 1)) []
    else if [47, 46, 47].isPrefixOf s = true then R (E8 (s.drop 2) t (m + 1)) []
    else if s = [47, 46] then R (E8 [47] t (m + 1)) []
    else if [47, 46, 46, 47].isPrefixOf s = true then R (E8 (s.drop 3) (t.take (cutAt t.length t)) (m + 1)) []
    else if s = [47, 46, 46] then R (E8 [47] (t.take (cutAt t.length t)) (m + 1)) []
    else if s = [46] ∨ s = [46, 46] then R (E8 [] t (m + 1)) []
    else R (E8 (s.drop (seg s)) (t ++ s.take (seg s)) (m + 1)) [] := by
  have hcut := cut_eq (P := Tryz.prog) (tb := call' V22) (an := filt an8 0) (fuel := n) (L := LL (fun env H => rounds Tryz.prog (call' V22) (filt an8 0) n h80 (bodyN 0 b8) n env H (K80 n R)) (fun env H => rounds Tryz.prog (call' V22) (filt an8 0) n h81 (bodyN 1 b8) n env H (K81 n R))) b8 0 (thenK (headK h8 R) (K8 n)) (E8 s t m) [] ids8 (fun i env H hi => by
    rw [n8] at hi
    rcases (show i = 0 ∨ i = 1 by omega) with rfl | rfl
    · rw [loop_eq fr80]; rfl
    · rw [loop_eq fr81]; rfl)
  rw [hcut]
  have hr := round8 (mkS s) (mkS t) n m (fun env H => rounds Tryz.prog (call' V22) (filt an8 0) n h80 (bodyN 0 b8) n env H (K80 n R)) (fun env H => rounds Tryz.prog (call' V22) (filt an8 0) n h81 (bodyN 1 b8) n env H (K81 n R)) R
  unfold parts at hr
  unfold E8 at *
  rw [hr]
  clear hr hcut
  have hm1 : IntKind.i64.wrap ((m : Int) + 1) = ((m + 1 : Nat) : Int) := wrp (i := m) (k := 1) (by omega) (by omega)
  have L0 := fun s' => lo0 n s' t m R ht (by omega) n t.length (by omega) (Nat.le_refl _)
  unfold E80 E8 at L0
  simp only [bif_dec]
  simp only [mk_lit, pre_list, mkS_toList, bif_b, Bool.not_eq_true', beq_list, decide_eq_true_eq, decide_eq_false_iff_not, mkS_size, mkS_ext, mkS_data, mkS_app, t0, t1, t2, t3, Int.toNat_natCast, List.drop_zero, Nat.sub_zero, Int.le_refl, if_true, take_end, List.take_length, hm1]
  by_cases c0 : s = []
  · rw [if_neg (by simpa using c0), if_pos c0]
  rw [if_pos (by simpa using c0), if_neg c0, if_pos (show (m : Int) < 5000 by omega)]
  have hpos : 1 ≤ s.length := by cases s with | nil => exact absurd rfl c0 | cons _ _ => simp
  by_cases c1 : [46, 46, 47].isPrefixOf s = true
  · have := pre_len c1
    rw [if_pos c1, if_pos c1, if_pos (by simp at this; omega)]
  rw [if_neg c1, if_neg c1]
  by_cases c2 : [46, 47].isPrefixOf s = true
  · have := pre_len c2
    rw [if_pos c2, if_pos c2, if_pos (by simp at this; omega)]
  rw [if_neg c2, if_neg c2]
  by_cases c3 : [47, 46, 47].isPrefixOf s = true
  · have := pre_len c3
    rw [if_pos c3, if_pos c3, if_pos (by simp at this; omega)]
  rw [if_neg c3, if_neg c3]
  by_cases c4 : s = [47, 46]
  · rw [if_pos c4, if_pos c4]
  rw [if_neg c4, if_neg c4]
  by_cases c5 : [47, 46, 46, 47].isPrefixOf s = true
  · have := pre_len c5
    rw [if_pos c5, if_pos c5]
    have c6 : ¬ s = [47, 46, 46] := by intro e; subst e; simp at this
    rw [if_neg c6, if_pos (by simp at this; omega)]
    exact L0 _
  rw [if_neg c5, if_neg c5]
  by_cases c6 : s = [47, 46, 46]
  · rw [if_pos c6, if_pos c6, if_pos c6]
    exact L0 _
  rw [if_neg c6, if_neg c6]
  by_cases c7 : s = [46]
  · rw [if_pos c7, if_pos (.inl c7)]
  rw [if_neg c7]
  by_cases c8' : s = [46, 46]
  · rw [if_pos c8', if_pos (.inr c8')]
  rw [if_neg c8', if_neg (show ¬ (s = [46] ∨ s = [46, 46]) from fun h => h.elim c7 c8')]
  have L1 := lo1 n s t m R hs ht (by omega) n 1 (by omega) hpos
  exact L1

theorem loop8 (n : Nat) (hn : 10001 ≤ n) : ∀ (k : Nat) (s t : List UInt8) (m : Nat), s.length < k → m + s.length < 5000 → s.length + t.length ≤ 10000 →
    rounds Tryz.prog (call' V22) (filt an8 0) n h8 b8 k (E8 s t m) [] (K8 n) = some (.str (mkS (refD k s t)), [])
  | 0, s, t, m, hk, h1, h2 => by omega
  | k + 1, s, t, m, hk, h1, h2 => by
    have ih := loop8 n hn k
    have hcut : (t.take (cutAt t.length t)).length ≤ t.length := by rw [List.length_take]; omega
    rw [rounds_succ, step8 n hn s t m _ (by omega) (by omega) (by omega)]
    unfold refD
    by_cases c0 : s = []
    · rw [if_pos c0, if_pos c0]
    rw [if_neg c0, if_neg c0]
    by_cases c1 : [46, 46, 47].isPrefixOf s = true
    · have := pre_len c1
      simp only [List.length_cons, List.length_nil] at this
      rw [if_pos c1, if_pos c1]
      exact ih _ _ _ (by simp only [List.length_drop]; omega) (by simp only [List.length_drop]; omega) (by simp only [List.length_drop]; omega)
    rw [if_neg c1, if_neg c1]
    by_cases c2 : [46, 47].isPrefixOf s = true
    · have := pre_len c2
      simp only [List.length_cons, List.length_nil] at this
      rw [if_pos c2, if_pos c2]
      exact ih _ _ _ (by simp only [List.length_drop]; omega) (by simp only [List.length_drop]; omega) (by simp only [List.length_drop]; omega)
    rw [if_neg c2, if_neg c2]
    by_cases c3 : [47, 46, 47].isPrefixOf s = true
    · have := pre_len c3
      simp only [List.length_cons, List.length_nil] at this
      rw [if_pos c3, if_pos c3]
      exact ih _ _ _ (by simp only [List.length_drop]; omega) (by simp only [List.length_drop]; omega) (by simp only [List.length_drop]; omega)
    rw [if_neg c3, if_neg c3]
    by_cases c4 : s = [47, 46]
    · rw [if_pos c4, if_pos c4]
      subst c4
      simp only [List.length_cons, List.length_nil] at hk h1 h2
      exact ih _ _ _ (by simp only [List.length_cons, List.length_nil]; omega) (by simp only [List.length_cons, List.length_nil]; omega) (by simp only [List.length_cons, List.length_nil]; omega)
    rw [if_neg c4, if_neg c4]
    by_cases c5 : [47, 46, 46, 47].isPrefixOf s = true
    · have := pre_len c5
      simp only [List.length_cons, List.length_nil] at this
      rw [if_pos c5, if_pos c5]
      exact ih _ _ _ (by simp only [List.length_drop]; omega) (by simp only [List.length_drop]; omega) (by simp only [List.length_drop]; omega)
    rw [if_neg c5, if_neg c5]
    by_cases c6 : s = [47, 46, 46]
    · rw [if_pos c6, if_pos c6]
      subst c6
      simp only [List.length_cons, List.length_nil] at hk h1 h2
      exact ih _ _ _ (by simp only [List.length_cons, List.length_nil]; omega) (by simp only [List.length_cons, List.length_nil]; omega) (by simp only [List.length_cons, List.length_nil]; omega)
    rw [if_neg c6, if_neg c6]
    have hpos : 1 ≤ s.length := by cases s with | nil => exact absurd rfl c0 | cons _ _ => simp
    by_cases c7 : s = [46] ∨ s = [46, 46]
    · rw [if_pos c7, if_pos c7]
      exact ih _ _ _ (by simp only [List.length_nil]; omega) (by simp only [List.length_nil]; omega) (by simp only [List.length_nil]; omega)
    rw [if_neg c7, if_neg c7]
    have hsg : 1 ≤ seg s := by unfold seg; omega
    refine ih _ _ _ (by simp only [List.length_drop]; omega) (by simp only [List.length_drop]; omega) ?_
    simp only [List.length_drop, List.length_append, List.length_take]
    omega

/-- The definition. -/
theorem val8 (s : List UInt8) (hs : s.length ≤ 4000) : abody Tryz.prog (call' V22) an8 12000 8 [.str (mkS s)] = some (.str (mkS (refD 12000 s [])), []) := by
  have e1 : abody Tryz.prog (call' V22) an8 12000 8 [.str (mkS s)] = aexec Tryz.prog (call' V22) (filt an8 0) 12000 c8 (envOf Tryz.prog 8 [.c (.str (mkS s))]) [] (endOf Tryz.prog 8 []) := by kernel_rfl
  have hcut := cut_eq (P := Tryz.prog) (tb := call' V22) (an := filt an8 0) (fuel := 12000) (L := fun _ => headK h8 fun env H => rounds Tryz.prog (call' V22) (filt an8 0) 12000 h8 b8 12000 env H (K8 12000)) c8 0 (endOf Tryz.prog 8 []) (envOf Tryz.prog 8 [.c (.str (mkS s))]) [] ids8' (fun i env H hi => by
    rw [n8'] at hi
    obtain rfl : i = 0 := by omega
    rw [loop_eq fr8]; rfl)
  have hb := before8 (mkS s) 12000 (fun env H => rounds Tryz.prog (call' V22) (filt an8 0) 12000 h8 b8 12000 env H (K8 12000))
  unfold parts at hb
  rw [e1, hcut, hb, ← loop8 12000 (by omega) 12000 s [] 0 (by omega) (by omega) (by simp; omega)]
  rfl

end Go.Pv
