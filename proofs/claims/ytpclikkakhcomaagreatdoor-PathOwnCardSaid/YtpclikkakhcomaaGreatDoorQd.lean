/- Parts of URLs: runes of a set cut off at both ends; 'only'; 'plain'. -/
import Derived.Test.YtpclikkakhcomaaGreatDoorQc

namespace Go.Pv
set_option linter.unusedVariables false
set_option maxRecDepth 100000
open Go Go.Proofs
variable {I : World → Prop} {ng : Nat}

/-! ### Runes -/
theorem get_mkS (s : List UInt8) (i : Nat) (h : i < (mkS s).size) : (mkS s)[i]'h = s.getD i 0 := by
  have h' : i < s.length := h
  show s.toArray[i] = _
  simp [List.getD_eq_getElem?_getD, h']
theorem dec_low {s : List UInt8} {i : Nat} (h : i < s.length) (ha : (s.getD i 0).toNat < 128) : Utf8.decode (mkS s) i = ((s.getD i 0).toNat, 1) := by
  have h' : i < (mkS s).size := h
  have := decode_ascii (mkS s) i h' (by rw [get_mkS]; exact ha)
  rw [get_mkS] at this
  exact this
theorem dec_high {s : List UInt8} {i : Nat} (h : i < s.length) (ha : 128 ≤ (s.getD i 0).toNat) : 128 ≤ (Utf8.decode (mkS s) i).1 ∧ 1 ≤ (Utf8.decode (mkS s) i).2 := by
  have h' : i < (mkS s).size := h
  exact decode_high (mkS s) i h' (by rw [get_mkS]; exact ha)
theorem ascii_get {p : List UInt8} (h : asciiS (mkS p) = true) : ∀ b ∈ p, b.toNat < 128 := by
  intro b hb
  unfold asciiS at h
  rw [mkS_data] at h
  have := List.all_eq_true.1 h b hb
  simpa using this
theorem ascii_no {p : List UInt8} (h : asciiS (mkS p) = true) {c : Nat} (hc : 128 ≤ c) : inS (mkS p) (c : Int) = false := by
  unfold inS
  rw [mkS_data]
  refine List.any_eq_false.2 fun b hb => ?_
  have := ascii_get h b hb
  simp; omega
theorem lastR_low {s : List UInt8} (h : s ≠ []) (ha : (s.getD (s.length - 1) 0).toNat < 128) : lastR (mkS s) = ((s.getD (s.length - 1) 0).toNat : Int) ∧ lastN (mkS s) = 1 := by
  unfold lastR lastN Lib.decodeLastL
  rw [mkS_data, if_neg h, if_pos ha]
  exact ⟨rfl, rfl⟩
theorem lastR_high {s : List UInt8} (h : s ≠ []) (ha : 128 ≤ (s.getD (s.length - 1) 0).toNat) : 128 ≤ lastR (mkS s) := by
  unfold lastR Lib.decodeLastL
  rw [mkS_data, if_neg h, if_neg (by omega)]
  have hpos : 0 < s.length := by cases s with | nil => exact absurd rfl h | cons _ _ => simp
  dsimp only
  split
  · rename_i hd
    have hl : Lib.lastStart s < s.length := by
      unfold Lib.lastStart
      dsimp only
      split
      · omega
      · split
        · omega
        · split
          · omega
          · split
            · omega
            · split
              · omega
              · split
                · omega
                · split <;> omega
    -- the rune's first byte
    have hdec : Lib.decodeL (s.drop (Lib.lastStart s)) = Utf8.decode (mkS s) (Lib.lastStart s) := Lib.decodeL_drop (mkS s) (Lib.lastStart s)
    rw [hdec] at hd ⊢
    by_cases hb : (s.getD (Lib.lastStart s) 0).toNat < 128
    · rw [dec_low hl hb] at hd
      have e : Lib.lastStart s = s.length - 1 := by simp at hd; omega
      rw [e] at hb; omega
    · have := (dec_high hl (by omega)).1
      omega
  · show (128 : Int) ≤ ((Utf8.runeError : Nat) : Int)
    decide

/-! ### cutLeft -/
def E43 (s p : List UInt8) : Env := mkEnv 32 [(0, .c (.str (mkS s))), (1, .c (.str (mkS p))), (11, .iter 0)]
def EI43 (s p : List UInt8) (d c : Nat) (t : Bool) : Env := mkEnv 32 [(0, .c (.str (mkS s))), (1, .c (.str (mkS p))), (5, .c (.int .i64 (d : Int))), (6, .c (.int .i32 (c : Int))), (7, .c (.bool t)), (11, .iter 0), (17, .iter 1)]
noncomputable abbrev RI43 (n j : Nat) (R : Env → Hp → Res) (env : Env) (H : Hp) : Res := rounds Tryz.prog (call' A17) (filt aL43 0) n hI43 (bodyN 0 bL43) j env H (restN Tryz.prog (call' A17) (filt aL43 0) n 0 bL43 (thenK (headK hL43 R) (KL43 n)))
theorem li43 (n : Nat) (s p : List UInt8) (i d c : Nat) (R : Env → Hp → Res) (hp : asciiS (mkS p) = true) (hd : d ≤ s.length) : ∀ (j k : Nat) (t : Bool), p.length < j + k → k ≤ p.length →
    RI43 n j R (EI43 s p d c t) [.iter (mkS s) i, .iter (mkS p) k] = if (t || (p.drop k).any fun b => decide ((b.toNat : Int) = (c : Int))) = true then R (E43 s p) [.iter (mkS s) i] else some (.str (mkS (s.drop d)), [])
  | 0, k, t, hj, hk => by omega
  | j + 1, k, t, hj, hk => by
    unfold RI43
    rw [rounds_succ]
    unfold EI43
    rw [ud43]
    simp only [bif_dec]
    simp only [sizeM, natM]
    by_cases h1 : k < p.length
    · have hb := ascii_get hp (p.getD k 0) (by rw [List.getD_eq_getElem?_getD, List.getElem?_eq_getElem h1]; simp)
      have hdec := dec_low h1 hb
      rw [if_pos h1, hdec]
      have ih := li43 n s p i d c R hp hd j (k + 1)
      unfold RI43 EI43 at ih
      rw [drop_getD h1, List.any_cons]
      cases t with
      | true =>
        rw [bif_t _ _ rfl, ih true (by omega) (by omega)]
        simp
      | false =>
        rw [bif_f _ _ rfl, ih _ (by omega) (by omega)]
        have : ((c : Int) == ((p.getD k 0).toNat : Int)) = decide (((p.getD k 0).toNat : Int) = (c : Int)) := by
          rw [Bool.eq_iff_iff, beq_iff_eq, decide_eq_true_eq]; exact eq_comm
        rw [this]
        simp
    · rw [if_neg h1, List.drop_of_length_le (by omega), List.any_nil, Bool.or_false]
      cases t with
      | true =>
        rw [show (!true) = false from rfl, bif_f _ _ rfl, if_pos rfl]; rfl
      | false =>
        rw [show (!false) = true from rfl, bif_t _ _ rfl, if_pos (by omega), if_pos (by omega), if_pos (by omega), if_neg (by simp), mkS_ext, List.take_of_length_le (by simp)]

noncomputable abbrev R43 (n j : Nat) (env : Env) (H : Hp) : Res := rounds Tryz.prog (call' A17) (filt aL43 0) n hL43 bL43 j env H (KL43 n)
theorem ids43 : idsOk bL43 = true := by kernel_rfl
theorem n43 : nLoops bL43 = 1 := by kernel_rfl
theorem fr43 : (firstRegion (bodyN 0 bL43)).bind (filt aL43 0) = some hI43 := by kernel_rfl
theorem lo43 (n : Nat) (hn : 101 ≤ n) (s p : List UInt8) (hs : s.length ≤ 10000) (hp : asciiS (mkS p) = true) (hpl : p.length ≤ 100) : ∀ (j k : Nat), s.length < j + k → k ≤ s.length →
    R43 n j (E43 s p) [.iter (mkS s) k] = some (.str (mkS ((s.drop k).dropWhile fun b => inS (mkS p) b.toNat)), [])
  | 0, k, hj, hk => by omega
  | j + 1, k, hj, hk => by
    unfold R43
    rw [rounds_succ]
    have hcut := cut_eq (P := Tryz.prog) (tb := call' A17) (an := filt aL43 0) (fuel := n) (L := fun _ => headK hI43 (RI43 n n (fun env H => R43 n j env H))) bL43 0 (thenK (headK hL43 fun env H => R43 n j env H) (KL43 n)) (E43 s p) [.iter (mkS s) k] ids43 (fun i env H hi => by
      rw [n43] at hi
      obtain rfl : i = 0 := by omega
      exact (loop_eq fr43).symm)
    refine hcut.trans ?_
    have hr := uc43 (mkS s) (mkS p) k n (RI43 n n (fun env H => R43 n j env H)) (fun env H => R43 n j env H)
    unfold parts at hr
    unfold E43 at *
    refine hr.trans ?_
    rw [bif_dec]
    by_cases h1 : k < s.length
    · rw [if_pos (by rw [mkS_size]; exact h1)]
      have hin := fun c => li43 n s p (k + (Utf8.decode (mkS s) k).2) k c (fun env H => R43 n j env H) hp (by omega) n 0 false (by omega) (by omega)
      unfold EI43 E43 at hin
      rw [hin, Bool.false_or, List.drop_zero, drop_getD h1]
      by_cases hb : (s.getD k 0).toNat < 128
      · rw [dec_low h1 hb]
        have : (p.any fun b => decide ((b.toNat : Int) = ((s.getD k 0).toNat : Int))) = inS (mkS p) ((s.getD k 0).toNat : Int) := by
          unfold inS; rw [mkS_data]
        dsimp only
        rw [this]
        by_cases hc : inS (mkS p) ((s.getD k 0).toNat : Int) = true
        · rw [if_pos hc, List.dropWhile_cons_of_pos (p := fun b : UInt8 => inS (mkS p) (b.toNat : Int)) (a := s.getD k 0) hc]
          exact lo43 n hn s p hs hp hpl j (k + 1) (by omega) (by omega)
        · rw [if_neg hc, List.dropWhile_cons_of_neg (p := fun b : UInt8 => inS (mkS p) (b.toNat : Int)) (a := s.getD k 0) hc]
      · have hh := dec_high h1 (by omega)
        have h2 : (p.any fun b => decide ((b.toNat : Int) = (((Utf8.decode (mkS s) k).1 : Nat) : Int))) = false := by
          have := ascii_no hp hh.1
          unfold inS at this; rw [mkS_data] at this; exact this
        have h3 := ascii_no hp (show 128 ≤ (s.getD k 0).toNat by omega)
        rw [h2, if_neg (by simp), List.dropWhile_cons_of_neg (p := fun b : UInt8 => inS (mkS p) (b.toNat : Int)) (a := s.getD k 0) (by rw [h3]; simp)]
    · rw [if_neg (by rw [mkS_size]; exact h1), List.drop_of_length_le (by omega)]
      rfl
theorem drop_tw (l : List UInt8) (q : UInt8 → Bool) : l.drop (l.takeWhile q).length = l.dropWhile q := by
  have h := @List.drop_left _ (l.takeWhile q) (l.dropWhile q)
  rw [List.takeWhile_append_dropWhile] at h
  exact h
theorem g43 (hg : OnGlobals I ng) (h : Kw I ng A23) : Kw I ng A43 := known_add (g17 hg h) (contract_of aL43 hg (hok_of (g17 hg h)) fun cargs rv outs h => by
  unfold L43 at h
  split at h <;> first | (cases h; done) | skip
  rename_i s p
  by_cases hc : s.size ≤ 10000 ∧ p.size ≤ 100 ∧ asciiS p = true
  · obtain ⟨hs, hp, ha⟩ := hc
    simp only [picked, pickAlt, decide_eq_true hs, decide_eq_true hp, ha, Bool.and_self] at h
    cases h
    refine ⟨12000, loop1 rfl (by kernel_rfl) (by kernel_rfl) (by kernel_rfl) (hd := hL43) (by kernel_rfl) ?_⟩
    have hl := data_len s
    have hl' := data_len p
    refine (ub43 s p 12000 (fun env H => R43 12000 12000 env H)).trans ?_
    have hlo := lo43 12000 (by omega) s.data.toList p.data.toList (by omega) (by rw [mkS_bl]; exact ha) (by omega) 12000 0 (by omega) (by omega)
    unfold E43 at hlo
    rw [mkS_bl, mkS_bl, List.drop_zero, ← drop_tw] at hlo
    refine hlo.trans ?_
    unfold clS
    conv => rhs; rw [← mkS_bl s]
    rw [mkS_ext, mkS_data]
    congr 4
    rw [List.take_of_length_le]
    simp [mkS_size]
  · have : (decide (s.size ≤ 10000) && (decide (p.size ≤ 100) && asciiS p)) = false := Bool.eq_false_iff.2 fun hh => hc (by simpa using hh)
    simp only [picked, pickAlt, this] at h; cases h)

/-! ### cutRight -/
def E42 (s p : List UInt8) : Env := mkEnv 39 [(0, .c (.str (mkS s))), (1, .c (.str (mkS p)))]
def EI42 (s p : List UInt8) (c d : Int) (t : Bool) : Env := mkEnv 39 [(0, .c (.str (mkS s))), (1, .c (.str (mkS p))), (5, .c (.int .i32 c)), (6, .c (.int .i64 d)), (7, .c (.bool t)), (19, .iter 0)]
noncomputable abbrev RI42 (n j : Nat) (R : Env → Hp → Res) (env : Env) (H : Hp) : Res := rounds Tryz.prog (call' A43) (filt aL42 0) n hI42 (bodyN 0 bL42) j env H (restN Tryz.prog (call' A43) (filt aL42 0) n 0 bL42 (thenK (headK hL42 R) (KL42 n)))
theorem li42 (n : Nat) (s p : List UInt8) (c d : Int) (R : Env → Hp → Res) (X : Res) (hp : asciiS (mkS p) = true)
    (hX : bif' (decide (0 ≤ IntKind.i64.wrap ((s.length : Int) - d))) (bif' (decide (IntKind.i64.wrap ((s.length : Int) - d) ≤ (s.length : Int))) (R (mkEnv 39 [(0, .c (.str ((mkS s).extract (Int.toNat 0) (IntKind.i64.wrap ((s.length : Int) - d)).toNat))), (1, .c (.str (mkS p)))]) []) none) none = X) : ∀ (j k : Nat) (t : Bool), p.length < j + k → k ≤ p.length →
    RI42 n j R (EI42 s p c d t) [.iter (mkS p) k] = if (t || (p.drop k).any fun b => decide ((b.toNat : Int) = c)) = true then X else some (.str (mkS s), [])
  | 0, k, t, hj, hk => by omega
  | j + 1, k, t, hj, hk => by
    unfold RI42
    rw [rounds_succ]
    unfold EI42
    rw [ud42]
    by_cases h1 : k < p.length
    · have hb := ascii_get hp (p.getD k 0) (by rw [List.getD_eq_getElem?_getD, List.getElem?_eq_getElem h1]; simp)
      have hdec := dec_low h1 hb
      rw [bif_t _ _ (decide_eq_true (show k < (mkS p).size from h1)), hdec]
      have ih := li42 n s p c d R X hp hX j (k + 1)
      unfold RI42 EI42 at ih
      rw [drop_getD h1, List.any_cons]
      cases t with
      | true =>
        rw [bif_t _ _ rfl, ih true (by omega) (by omega)]
        simp
      | false =>
        rw [bif_f _ _ rfl, ih _ (by omega) (by omega)]
        have : (c == ((p.getD k 0).toNat : Int)) = decide (((p.getD k 0).toNat : Int) = c) := by
          rw [Bool.eq_iff_iff, beq_iff_eq, decide_eq_true_eq]; exact eq_comm
        rw [this]
        simp
    · rw [bif_f _ _ (decide_eq_false (show ¬ k < (mkS p).size from h1)), List.drop_of_length_le (by omega), List.any_nil, Bool.or_false]
      cases t with
      | true =>
        rw [show (!true) = false from rfl, bif_f _ _ rfl, if_pos rfl]
        exact hX
      | false =>
        rw [show (!false) = true from rfl, bif_t _ _ rfl, if_neg (by simp)]

noncomputable abbrev R42 (n j : Nat) (env : Env) (H : Hp) : Res := rounds Tryz.prog (call' A43) (filt aL42 0) n hL42 bL42 j env H (KL42 n)
theorem ids42 : idsOk bL42 = true := by kernel_rfl
theorem n42 : nLoops bL42 = 1 := by kernel_rfl
theorem fr42 : (firstRegion (bodyN 0 bL42)).bind (filt aL42 0) = some hI42 := by kernel_rfl
theorem lo42 (n : Nat) (hn : 101 ≤ n) (s p : List UInt8) (hs : s.length ≤ 10000) (hp : asciiS (mkS p) = true) (hpl : p.length ≤ 100) : ∀ (j k : Nat), k < j → k ≤ s.length →
    R42 n j (E42 (s.take k) p) [] = some (.str (mkS (s.take (crL (mkS p) k s))), [])
  | 0, k, hj, hk => by omega
  | j + 1, k, hj, hk => by
    unfold R42
    rw [rounds_succ]
    have hcut := cut_eq (P := Tryz.prog) (tb := call' A43) (an := filt aL42 0) (fuel := n) (L := fun _ => headK hI42 (RI42 n n (fun env H => R42 n j env H))) bL42 0 (thenK (headK hL42 fun env H => R42 n j env H) (KL42 n)) (E42 (s.take k) p) [] ids42 (fun i env H hi => by
      rw [n42] at hi
      obtain rfl : i = 0 := by omega
      exact (loop_eq fr42).symm)
    refine hcut.trans ?_
    have hr := uc42 (mkS (s.take k)) (mkS p) n (RI42 n n (fun env H => R42 n j env H)) (fun env H => R42 n j env H)
    unfold parts at hr
    unfold E42
    refine hr.trans ?_
    have hlen : (s.take k).length = k := by rw [List.length_take]; omega
    cases k with
    | zero =>
      rw [bif_f _ _ (decide_eq_false (by rw [mkS_size]; simp))]
      rfl
    | succ k =>
      have hlast : (s.take (k + 1)).getD ((s.take (k + 1)).length - 1) 0 = s.getD k 0 := by
        rw [hlen, List.getD_eq_getElem?_getD, List.getElem?_take, if_pos (by omega), ← List.getD_eq_getElem?_getD]; rfl
      have hne : s.take (k + 1) ≠ [] := by intro e; rw [e] at hlen; simp at hlen
      rw [bif_t _ _ (decide_eq_true (by rw [mkS_size, hlen]; omega)), bif_t _ _ (decide_eq_true (by rw [mkS_size, hlen]; omega))]
      by_cases hb : (s.getD k 0).toNat < 128
      · obtain ⟨r1, r2⟩ := lastR_low hne (by rw [hlast]; exact hb)
        rw [hlast] at r1
        have hin := li42 n (s.take (k + 1)) p (lastR (mkS (s.take (k + 1)))) (lastN (mkS (s.take (k + 1)))) (fun env H => R42 n j env H) (R42 n j (E42 (s.take k) p) []) hp (by
          have hw : IntKind.i64.wrap (((s.take (k + 1)).length : Int) - 1) = (k : Int) := by rw [hlen]; exact wrm (by omega)
          rw [r2, hw, bif_t _ _ (decide_eq_true (by omega)), bif_t _ _ (decide_eq_true (by omega))]
          have he : (mkS (s.take (k + 1))).extract (Int.toNat 0) (k : Int).toNat = mkS (s.take k) := by
            rw [natM, show Int.toNat 0 = 0 from rfl, mkS_ext, List.drop_zero, Nat.sub_zero, List.take_take]
            congr 2; omega
          rw [he]; rfl) n 0 false (by omega) (by omega)
        unfold EI42 at hin
        rw [hin, Bool.false_or, List.drop_zero, r1]
        have : (p.any fun b => decide ((b.toNat : Int) = ((s.getD k 0).toNat : Int))) = inS (mkS p) ((s.getD k 0).toNat : Int) := by
          unfold inS; rw [mkS_data]
        rw [this]
        unfold crL
        by_cases hc : inS (mkS p) ((s.getD k 0).toNat : Int) = true
        · rw [if_pos hc, if_pos hc]
          exact lo42 n hn s p hs hp hpl j k (by omega) (by omega)
        · rw [if_neg hc, if_neg hc]
      · have hh := lastR_high hne (by rw [hlast]; omega)
        have hin := li42 n (s.take (k + 1)) p (lastR (mkS (s.take (k + 1)))) (lastN (mkS (s.take (k + 1)))) (fun env H => R42 n j env H) _ hp rfl n 0 false (by omega) (by omega)
        unfold EI42 at hin
        rw [hin, Bool.false_or, List.drop_zero]
        have h2 : (p.any fun b => decide ((b.toNat : Int) = lastR (mkS (s.take (k + 1))))) = false := by
          refine List.any_eq_false.2 fun b hb' => ?_
          have := ascii_get hp b hb'
          simp; omega
        have h3 := ascii_no hp (show 128 ≤ (s.getD k 0).toNat by omega)
        rw [h2, if_neg (by simp)]
        unfold crL
        rw [h3, if_neg (by simp)]
theorem g42 (hg : OnGlobals I ng) (h : Kw I ng A23) : Kw I ng A42 := known_add (g43 hg h) (contract_of aL42 hg (hok_of (g43 hg h)) fun cargs rv outs h => by
  unfold L42 at h
  split at h <;> first | (cases h; done) | skip
  rename_i s p
  by_cases hc : s.size ≤ 10000 ∧ p.size ≤ 100 ∧ asciiS p = true
  · obtain ⟨hs, hp, ha⟩ := hc
    simp only [picked, pickAlt, decide_eq_true hs, decide_eq_true hp, ha, Bool.and_self] at h
    cases h
    refine ⟨12000, loop1 rfl (by kernel_rfl) (by kernel_rfl) (by kernel_rfl) (hd := hL42) (by kernel_rfl) ?_⟩
    have hl := data_len s
    have hl' := data_len p
    refine (ub42 s p 12000 (fun env H => R42 12000 12000 env H)).trans ?_
    have hlo := lo42 12000 (by omega) s.data.toList p.data.toList (by omega) (by rw [mkS_bl]; exact ha) (by omega) 12000 s.size (by omega) (by omega)
    unfold E42 at hlo
    rw [List.take_of_length_le (by omega), mkS_bl, mkS_bl] at hlo
    refine hlo.trans ?_
    unfold crS
    conv => rhs; rw [← mkS_bl s]
    rw [mkS_ext, mkS_data, mkS_size, List.drop_zero, Nat.sub_zero, hl]
  · have : (decide (s.size ≤ 10000) && (decide (p.size ≤ 100) && asciiS p)) = false := Bool.eq_false_iff.2 fun hh => hc (by simpa using hh)
    simp only [picked, pickAlt, this] at h; cases h)

/-! ### only -/
theorem crL_pos {p : ByteArray} {b : UInt8} {t : List UInt8} (h : inS p b.toNat = false) : ∀ k, k ≤ (b :: t).length → 0 < k → 0 < crL p k (b :: t)
  | 0, _, h0 => by omega
  | 1, _, _ => by
    unfold crL
    rw [show (b :: t).getD 0 0 = b from rfl, h]; simp
  | k + 2, hk, _ => by
    unfold crL
    split
    · exact crL_pos h (k + 1) (by omega) (by omega)
    · omega
theorem g24 (hg : OnGlobals I ng) (h : Kw I ng A23) : Kw I ng A24 := known_add (g42 hg h) (contract_of (fun _ => none) hg (hok_of (g42 hg h)) fun cargs rv outs h => by
  unfold L24 at h
  split at h <;> first | (cases h; done) | skip
  rename_i s p
  by_cases hc : s.size ≤ 10000 ∧ p.size ≤ 100 ∧ asciiS p = true
  · obtain ⟨hs, hp, ha⟩ := hc
    simp only [picked, pickAlt, decide_eq_true hs, decide_eq_true hp, ha, Bool.and_self] at h
    cases h
    refine ⟨1, ?_⟩
    have hl := data_len s
    have hd : s.extract (clS s p) s.size = mkS (s.data.toList.dropWhile fun b => inS p b.toNat) := by
      conv => lhs; rw [← mkS_bl s]
      rw [mkS_ext, mkS_size]
      unfold clS
      rw [mkS_data, drop_tw, List.take_of_length_le]
      rw [← drop_tw, List.length_drop]
      omega
    rw [ur24, hd, mkS_size]
    have hdl : (s.data.toList.dropWhile fun b => inS p b.toNat).length ≤ 10000 := by
      rw [← drop_tw, List.length_drop]; omega
    rw [decide_eq_true hs, decide_eq_true hp, ha, decide_eq_true hdl, show (true && (true && true)) = true from rfl, bif_t _ _ rfl, bif_t _ _ rfl]
    congr 3
    unfold allS crS
    rw [mkS_ext, mkS_toList, mk_lit, mkS_toList, mkS_data, mkS_size, List.drop_zero, Nat.sub_zero]
    have key : ∀ l : List UInt8, ((l.dropWhile fun b => inS p b.toNat).take (crL p (l.dropWhile fun b => inS p b.toNat).length (l.dropWhile fun b => inS p b.toNat)) == ([] : List UInt8)) = l.all fun b => inS p b.toNat := by
      intro l
      induction l with
      | nil => rfl
      | cons b t ih =>
        by_cases hb : inS p b.toNat = true
        · rw [List.dropWhile_cons_of_pos (p := fun b : UInt8 => inS p (b.toNat : Int)) (a := b) hb, ih, List.all_cons, hb, Bool.true_and]
        · have hb' := Bool.eq_false_iff.2 hb
          rw [List.dropWhile_cons_of_neg (p := fun b : UInt8 => inS p (b.toNat : Int)) (a := b) hb, List.all_cons, hb', Bool.false_and]
          have := crL_pos (t := t) hb' (b :: t).length (Nat.le_refl _) (by simp)
          obtain ⟨m, hm⟩ : ∃ m, crL p (b :: t).length (b :: t) = m + 1 := ⟨crL p (b :: t).length (b :: t) - 1, by omega⟩
          rw [hm]; rfl
    exact key _
  · have : (decide (s.size ≤ 10000) && (decide (p.size ≤ 100) && asciiS p)) = false := Bool.eq_false_iff.2 fun hh => hc (by simpa using hh)
    simp only [picked, pickAlt, this] at h; cases h)

/-! ### plain -/
def hexes : ByteArray := ByteArray.mk #[48, 49, 50, 51, 52, 53, 54, 55, 56, 57, 97, 98, 99, 100, 101, 102, 65, 66, 67, 68, 69, 70]
theorem hex_in : ∀ n : Nat, n < 256 → inS hexes (n : Int) = hexd (UInt8.ofNat n) := by decide +kernel
theorem hex_ascii : asciiS hexes = true := by decide +kernel
noncomputable abbrev R25 (n j : Nat) (env : Env) (H : Hp) : Res := rounds Tryz.prog (call' A24) (filt aL25 0) n hL25 (bodyN 0 (codeOf Tryz.prog 70)) j env H (restN Tryz.prog (call' A24) (filt aL25 0) n 0 (codeOf Tryz.prog 70) (endOf Tryz.prog 70 []))
theorem lo25 (n : Nat) (s : List UInt8) (hs : s.length ≤ 10000) : ∀ (j k : Nat), s.length < j + k → k ≤ s.length →
    R25 n j (mkEnv 46 [(0, .c (.str (mkS s))), (3, .c (.int .i64 (k : Int)))]) [] = some (.bool (stL (s.drop k)), [])
  | 0, k, hj, hk => by omega
  | j + 1, k, hj, hk => by
    unfold R25
    rw [rounds_succ, uc25]
    have w1 : IntKind.i64.wrap ((k : Int) + 1) = ((k + 1 : Nat) : Int) := wrp1 (by omega)
    have w2 : IntKind.i64.wrap ((k : Int) + 2) = ((k + 2 : Nat) : Int) := wrp (i := k) (k := 2) (by omega) (by omega)
    have w3 : IntKind.i64.wrap ((k : Int) + 3) = ((k + 3 : Nat) : Int) := wrp (i := k) (k := 3) (by omega) (by omega)
    have hha : asciiS (ByteArray.mk #[48, 49, 50, 51, 52, 53, 54, 55, 56, 57, 97, 98, 99, 100, 101, 102, 65, 66, 67, 68, 69, 70]) = true := hex_ascii
    simp only [bif_dec]
    simp only [atM, sizeM, bif_b, natM, w1, w2, w3, u8_cast', hha]
    by_cases h1 : k < s.length
    · rw [if_pos (by omega), if_pos (by omega), if_pos (by omega), stL_at h1]
      have hn := never9 (s.getD k 0).toNat (UInt8.toNat_lt _)
      rw [u8n] at hn
      unfold okAt okU
      generalize hc : s.getD k 0 = c at *
      have ih := lo25 n s hs j (k + 1) (by omega) (by omega)
      unfold R25 at ih
      by_cases a1 : (c.toNat : Int) ≤ 32
      · rw [if_pos a1, decide_eq_false (show ¬ 33 ≤ c.toNat by omega)]; rfl
      rw [if_neg a1, decide_eq_true (show 33 ≤ c.toNat by omega), Bool.true_and]
      by_cases a2 : (c.toNat : Int) > 126
      · rw [if_pos a2, decide_eq_false (show ¬ c.toNat ≤ 126 by omega)]; rfl
      rw [if_neg a2, decide_eq_true (show c.toNat ≤ 126 by omega), Bool.true_and, ← hn]
      by_cases a3 : Lib.indexByte (ByteArray.mk #[34, 60, 62, 92, 94, 96, 123, 124, 125]).data.toList c ≥ 0
      · rw [if_pos a3, decide_eq_true a3]; rfl
      rw [if_neg a3, decide_eq_false a3, Bool.not_false, Bool.true_and]
      by_cases a5 : c = 37
      · rw [if_pos (by rw [a5]; rfl), decide_eq_true a5, Bool.not_true, Bool.false_or]
        by_cases a6 : k + 3 ≤ s.length
        · rw [if_neg (by omega), if_pos (by omega), if_pos (by omega), if_pos (by omega), decide_eq_true a6, Bool.true_and, ext2 a6]
          simp only [sizeM]
          have e2 : ([s.getD (k + 1) 0, s.getD (k + 2) 0] : List UInt8).length = 2 := rfl
          have ha : allS (mkS [s.getD (k + 1) 0, s.getD (k + 2) 0]) hexes = (hexd (s.getD (k + 1) 0) && hexd (s.getD (k + 2) 0)) := by
            unfold allS
            rw [mkS_data]
            simp only [List.all_cons, List.all_nil, Bool.and_true]
            rw [hex_in _ (UInt8.toNat_lt _), hex_in _ (UInt8.toNat_lt _), u8n, u8n]
          have hb : allS (mkS [s.getD (k + 1) 0, s.getD (k + 2) 0]) (ByteArray.mk #[48, 49, 50, 51, 52, 53, 54, 55, 56, 57, 97, 98, 99, 100, 101, 102, 65, 66, 67, 68, 69, 70]) = (hexd (s.getD (k + 1) 0) && hexd (s.getD (k + 2) 0)) := ha
          rw [e2, hb, if_pos (by decide)]
          cases hh : (hexd (s.getD (k + 1) 0) && hexd (s.getD (k + 2) 0)) with
          | true => rw [if_neg (by simp), ih, Bool.true_and]
          | false => rw [show (!false) = true from rfl, if_pos rfl]; rfl
        · rw [if_pos (by omega), decide_eq_false a6]; rfl
      · have : ¬ (c.toNat : Int) = 37 := by
          intro e
          exact a5 (UInt8.toNat.inj (show c.toNat = (37 : UInt8).toNat by have : (37 : UInt8).toNat = 37 := rfl; omega))
        rw [if_neg (by simpa using this), ih, decide_eq_false a5]
        rfl
    · rw [if_neg (by omega), List.drop_of_length_le (by omega)]; rfl
theorem g25 (hg : OnGlobals I ng) (h : Kw I ng A23) : Kw I ng A25 := known_add (g24 hg h) (contract_of aL25 hg (hok_of (g24 hg h)) fun cargs rv outs h => by
  unfold L17 at h
  split at h <;> first | (cases h; done) | skip
  rename_i s
  by_cases hs : s.size ≤ 10000
  · simp only [picked, pickAlt, decide_eq_true hs] at h
    cases h
    refine ⟨12000, loop1 rfl (by kernel_rfl) (by kernel_rfl) (by kernel_rfl) (hd := hL25) (by kernel_rfl) ?_⟩
    have hl := data_len s
    refine (ub25 s 12000 (R25 12000 12000)).trans ?_
    have hlo := lo25 12000 s.data.toList (by omega) 12000 0 (by omega) (by omega)
    rw [mkS_bl] at hlo
    exact hlo
  · simp only [picked, pickAlt, decide_eq_false hs] at h; cases h)

end Go.Pv

/- Addresses: numbers, cuts at a byte: specs and trees. -/
namespace Go.Pv
set_option linter.unusedVariables false
set_option maxRecDepth 100000
open Go Go.Proofs

/-- A digit's value; 99: it is none. -/
def hexv (c : UInt8) : Nat := if 0 ≤ hx c.toNat then (hx c.toNat).toNat else 99
def numL (b : Nat) (l : List UInt8) : Nat := l.foldl (fun n c => n * b + hexv c) 0
def numOk (b : Nat) (l : List UInt8) : Bool := !l.isEmpty && l.all fun c => decide (hexv c < b)
def nOk (s : ByteArray) (b : Nat) : Bool := numOk b s.data.toList
def nV (s : ByteArray) (b : Nat) : Nat := numL b s.data.toList
def nR (s : ByteArray) (b : Nat) : Int := if nOk s b then ((min (nV s b) 4294967296 : Nat) : Int) else -1
def dR (c b : Int) : Int := if 0 ≤ hx c ∧ hx c < b then hx c else -1
/-- A text's parts between a byte. -/
def splitL (c : UInt8) : List UInt8 → List (List UInt8)
  | [] => [[]]
  | b :: t => if b = c then [] :: splitL c t else match splitL c t with
    | [] => [[b]]
    | p :: ps => (b :: p) :: ps
def strCV (p : List UInt8) : CV := .str (mkS p)
def spS (s : ByteArray) (c : UInt8) : List CV := (splitL c s.data.toList).map strCV
def L71 : Fn1 := fun x => match x with
  | [.str s, .int .u64 b, .int .u64 l] => some [
    (decide (s.size ≤ 10000) && (decide (2 ≤ b) && (decide (b ≤ 16) && (decide (0 < l) && (decide (l ≤ 4294967296) && (nOk s b.toNat && decide ((nV s b.toNat : Int) < l)))))), .tup [.int .u64 (nV s b.toNat), .bool true], []),
    (decide (s.size ≤ 10000) && (decide (2 ≤ b) && (decide (b ≤ 16) && (decide (0 < l) && decide (l ≤ 4294967296)))), .tup [.int .u64 0, .bool false], [])]
  | _ => none
def L81 : Fn1 := fun x => match x with
  | [.int .u8 c, .int .i64 b] => some [(decide (0 ≤ c) && (decide (c < 256) && (decide (2 ≤ b) && decide (b ≤ 16))), .int .i64 (dR c b), [])]
  | _ => none
def L77 : Fn1 := fun x => match x with
  | [.str s, .int .i64 b] => some [(decide (s.size ≤ 10000) && (decide (2 ≤ b) && decide (b ≤ 16)), .int .i64 (nR s b.toNat), [])]
  | _ => none
def L66 : Fn1 := fun x => match x with
  | [.str s, .int .u8 c] => some [(decide (s.size ≤ 10000) && (decide (0 ≤ c) && decide (c < 256)), .sl true false 1 (spS s c.toNat.toUInt8), [])]
  | _ => none
def L57 : Fn1 := fun x => match x with
  | [.int .u8 a, .int .u8 b, .int .u8 c, .int .u8 d] => some [(true, .agg [.bool false, .int .u8 0, .int .u8 0, .int .u8 0, .int .u8 0, .int .u8 0, .int .u8 0, .int .u8 0, .int .u8 0, .int .u8 0, .int .u8 0, .int .u8 0, .int .u8 0, .int .u8 a, .int .u8 b, .int .u8 c, .int .u8 d], [])]
  | _ => none
def L64 : Fn1 := fun x => match x with
  | [.int .u64 n] => some [(decide (0 ≤ n) && decide (n < 18446744073709551616), .agg [.bool false, .int .u8 0, .int .u8 0, .int .u8 0, .int .u8 0, .int .u8 0, .int .u8 0, .int .u8 0, .int .u8 0, .int .u8 0, .int .u8 0, .int .u8 0, .int .u8 0, .int .u8 (n / 16777216 % 256), .int .u8 (n / 65536 % 256), .int .u8 (n / 256 % 256), .int .u8 (n % 256)], [])]
  | _ => none
def B71 : Table := fun g => if Nat.beq g 133 then L71 else A29 g
def B81 : Table := fun g => if Nat.beq g 129 then L81 else B71 g
def B77 : Table := fun g => if Nat.beq g 111 then L77 else B81 g
def B66 : Table := fun g => if Nat.beq g 93 then L66 else B77 g
def B57 : Table := fun g => if Nat.beq g 115 then L57 else B66 g
def B64 : Table := fun g => if Nat.beq g 91 then L64 else B57 g
def hL71 : Head := ⟨[0, 1, 2, 8, 9], [], 0⟩
def aL71 : Ann := fun i => if Nat.beq i 3 then some hL71 else none
def hL77 : Head := ⟨[0, 1, 5, 6], [], 0⟩
def aL77 : Ann := fun i => if Nat.beq i 5 then some hL77 else none
def hL66 : Head := ⟨[0, 1, 5, 6, 7], [(5, 1)], 0⟩
def aL66 : Ann := fun i => if Nat.beq i 4 then some hL66 else none
theorem ib71 (s : ByteArray) (b l : Int) (n : Nat) (R : Env → Hp → Res) : parts Tryz.prog (call' A29) (filt aL71 0) n (codeOf Tryz.prog 133) (envOf Tryz.prog 133 [.c (.str s), .c (.int .u64 b), .c (.int .u64 l)]) [] (fun _ => headK hL71 R) (endOf Tryz.prog 133 []) =
 R (mkEnv 60 [(0, PV.c (CV.str s)), (1, PV.c (CV.int IntKind.u64 b)), (2, PV.c (CV.int IntKind.u64 l)), (8, PV.c (CV.int IntKind.u64 (Int.ofNat 0))), (9, PV.c (CV.int IntKind.i64 (Int.ofNat 0)))]) [] := by kernel_rfl
theorem ic71 (s : ByteArray) (b l v i : Int) (n : Nat) (R : Env → Hp → Res) : aexec Tryz.prog (call' A29) (filt aL71 0) n (bodyN 0 (codeOf Tryz.prog 133)) (mkEnv 60 [(0, .c (.str s)), (1, .c (.int .u64 b)), (2, .c (.int .u64 l)), (8, .c (.int .u64 v)), (9, .c (.int .i64 i))]) [] (thenK (headK hL71 R) (restN Tryz.prog (call' A29) (filt aL71 0) n 0 (codeOf Tryz.prog 133) (endOf Tryz.prog 133 []))) =
 bif' (decide (i < (↑s.size : Int))) (bif' (decide (0 ≤ i)) (bif' (decide (i < (↑s.size : Int))) (bif' (decide (0 ≤ i)) (bif' (decide (i < (↑s.size : Int))) (bif' (decide (byteAt s i.toNat < 48)) (some (CV.tup [CV.int IntKind.u64 (Int.ofNat 0), CV.bool false], [])) (bif' (decide (0 ≤ i)) (bif' (decide (i < (↑s.size : Int))) (bif' (decide (byteAt s i.toNat > 57)) (bif' (decide (0 ≤ i)) (bif' (decide (i < (↑s.size : Int))) (bif' (decide (byteAt s i.toNat < 65)) (some (CV.tup [CV.int IntKind.u64 (Int.ofNat 0), CV.bool false], [])) (bif' (decide (Lib.indexByte (ByteArray.mk #[48, 49, 50, 51, 52, 53, 54, 55, 56, 57, 97, 98, 99, 100, 101, 102]).data.toList (IntKind.u8.wrap (↑(BitVec.ofInt IntKind.u8.bits (byteAt s i.toNat) ||| BitVec.ofInt IntKind.u8.bits 32).toNat : Int)).toNat.toUInt8 < 0)) (some (CV.tup [CV.int IntKind.u64 (Int.ofNat 0), CV.bool false], [])) (bif' (decide (IntKind.u64.wrap (Lib.indexByte (ByteArray.mk #[48, 49, 50, 51, 52, 53, 54, 55, 56, 57, 97, 98, 99, 100, 101, 102]).data.toList (IntKind.u8.wrap (↑(BitVec.ofInt IntKind.u8.bits (byteAt s i.toNat) ||| BitVec.ofInt IntKind.u8.bits 32).toNat : Int)).toNat.toUInt8) ≥ b)) (some (CV.tup [CV.int IntKind.u64 (Int.ofNat 0), CV.bool false], [])) (bif' (decide (IntKind.u64.wrap (IntKind.u64.wrap (v * b) + IntKind.u64.wrap (Lib.indexByte (ByteArray.mk #[48, 49, 50, 51, 52, 53, 54, 55, 56, 57, 97, 98, 99, 100, 101, 102]).data.toList (IntKind.u8.wrap (↑(BitVec.ofInt IntKind.u8.bits (byteAt s i.toNat) ||| BitVec.ofInt IntKind.u8.bits 32).toNat : Int)).toNat.toUInt8)) ≥ l)) (some (CV.tup [CV.int IntKind.u64 (Int.ofNat 0), CV.bool false], [])) (R (mkEnv 60 [(0, PV.c (CV.str s)), (1, PV.c (CV.int IntKind.u64 b)), (2, PV.c (CV.int IntKind.u64 l)), (8, PV.c (CV.int IntKind.u64 (IntKind.u64.wrap (IntKind.u64.wrap (v * b) + IntKind.u64.wrap (Lib.indexByte (ByteArray.mk #[48, 49, 50, 51, 52, 53, 54, 55, 56, 57, 97, 98, 99, 100, 101, 102]).data.toList (IntKind.u8.wrap (↑(BitVec.ofInt IntKind.u8.bits (byteAt s i.toNat) ||| BitVec.ofInt IntKind.u8.bits 32).toNat : Int)).toNat.toUInt8))))), (9, PV.c (CV.int IntKind.i64 (IntKind.i64.wrap (i + 1))))]) []))))) none) none) (bif' (decide (Lib.indexByte (ByteArray.mk #[48, 49, 50, 51, 52, 53, 54, 55, 56, 57, 97, 98, 99, 100, 101, 102]).data.toList (IntKind.u8.wrap (↑(BitVec.ofInt IntKind.u8.bits (byteAt s i.toNat) ||| BitVec.ofInt IntKind.u8.bits 32).toNat : Int)).toNat.toUInt8 < 0)) (some (CV.tup [CV.int IntKind.u64 (Int.ofNat 0), CV.bool false], [])) (bif' (decide (IntKind.u64.wrap (Lib.indexByte (ByteArray.mk #[48, 49, 50, 51, 52, 53, 54, 55, 56, 57, 97, 98, 99, 100, 101, 102]).data.toList (IntKind.u8.wrap (↑(BitVec.ofInt IntKind.u8.bits (byteAt s i.toNat) ||| BitVec.ofInt IntKind.u8.bits 32).toNat : Int)).toNat.toUInt8) ≥ b)) (some (CV.tup [CV.int IntKind.u64 (Int.ofNat 0), CV.bool false], [])) (bif' (decide (IntKind.u64.wrap (IntKind.u64.wrap (v * b) + IntKind.u64.wrap (Lib.indexByte (ByteArray.mk #[48, 49, 50, 51, 52, 53, 54, 55, 56, 57, 97, 98, 99, 100, 101, 102]).data.toList (IntKind.u8.wrap (↑(BitVec.ofInt IntKind.u8.bits (byteAt s i.toNat) ||| BitVec.ofInt IntKind.u8.bits 32).toNat : Int)).toNat.toUInt8)) ≥ l)) (some (CV.tup [CV.int IntKind.u64 (Int.ofNat 0), CV.bool false], [])) (R (mkEnv 60 [(0, PV.c (CV.str s)), (1, PV.c (CV.int IntKind.u64 b)), (2, PV.c (CV.int IntKind.u64 l)), (8, PV.c (CV.int IntKind.u64 (IntKind.u64.wrap (IntKind.u64.wrap (v * b) + IntKind.u64.wrap (Lib.indexByte (ByteArray.mk #[48, 49, 50, 51, 52, 53, 54, 55, 56, 57, 97, 98, 99, 100, 101, 102]).data.toList (IntKind.u8.wrap (↑(BitVec.ofInt IntKind.u8.bits (byteAt s i.toNat) ||| BitVec.ofInt IntKind.u8.bits 32).toNat : Int)).toNat.toUInt8))))), (9, PV.c (CV.int IntKind.i64 (IntKind.i64.wrap (i + 1))))]) []))))) none) none)) none) none) none) none) (some (CV.tup [CV.int IntKind.u64 v, CV.bool !s.toList == (ByteArray.mk #[]).toList], [])) := by kernel_rfl
theorem ir81 (c b : Int) : abody Tryz.prog (call' B71) (fun _ => none) 1 129 [.int .u8 c, .int .i64 b] =
 bif' (decide (c ≥ 48)) (bif' (decide (c ≤ 57)) (bif' (decide (c ≥ 97)) (bif' (decide (c ≤ 102)) (bif' (decide (c ≥ 65)) (bif' (decide (c ≤ 70)) (bif' (decide (IntKind.i64.wrap (IntKind.i64.wrap (IntKind.u8.wrap (c - 65)) + 10) ≥ b)) (some (CV.int IntKind.i64 (Int.negSucc 0), [])) (some (CV.int IntKind.i64 (IntKind.i64.wrap (IntKind.i64.wrap (IntKind.u8.wrap (c - 65)) + 10)), []))) (bif' (decide (IntKind.i64.wrap (IntKind.i64.wrap (IntKind.u8.wrap (c - 97)) + 10) ≥ b)) (some (CV.int IntKind.i64 (Int.negSucc 0), [])) (some (CV.int IntKind.i64 (IntKind.i64.wrap (IntKind.i64.wrap (IntKind.u8.wrap (c - 97)) + 10)), [])))) (bif' (decide (IntKind.i64.wrap (IntKind.i64.wrap (IntKind.u8.wrap (c - 97)) + 10) ≥ b)) (some (CV.int IntKind.i64 (Int.negSucc 0), [])) (some (CV.int IntKind.i64 (IntKind.i64.wrap (IntKind.i64.wrap (IntKind.u8.wrap (c - 97)) + 10)), [])))) (bif' (decide (c ≥ 65)) (bif' (decide (c ≤ 70)) (bif' (decide (IntKind.i64.wrap (IntKind.i64.wrap (IntKind.u8.wrap (c - 65)) + 10) ≥ b)) (some (CV.int IntKind.i64 (Int.negSucc 0), [])) (some (CV.int IntKind.i64 (IntKind.i64.wrap (IntKind.i64.wrap (IntKind.u8.wrap (c - 65)) + 10)), []))) (bif' (decide (IntKind.i64.wrap (IntKind.u8.wrap (c - 48)) ≥ b)) (some (CV.int IntKind.i64 (Int.negSucc 0), [])) (some (CV.int IntKind.i64 (IntKind.i64.wrap (IntKind.u8.wrap (c - 48))), [])))) (bif' (decide (IntKind.i64.wrap (IntKind.u8.wrap (c - 48)) ≥ b)) (some (CV.int IntKind.i64 (Int.negSucc 0), [])) (some (CV.int IntKind.i64 (IntKind.i64.wrap (IntKind.u8.wrap (c - 48))), []))))) (bif' (decide (c ≥ 65)) (bif' (decide (c ≤ 70)) (bif' (decide (IntKind.i64.wrap (IntKind.i64.wrap (IntKind.u8.wrap (c - 65)) + 10) ≥ b)) (some (CV.int IntKind.i64 (Int.negSucc 0), [])) (some (CV.int IntKind.i64 (IntKind.i64.wrap (IntKind.i64.wrap (IntKind.u8.wrap (c - 65)) + 10)), []))) (bif' (decide (IntKind.i64.wrap (IntKind.u8.wrap (c - 48)) ≥ b)) (some (CV.int IntKind.i64 (Int.negSucc 0), [])) (some (CV.int IntKind.i64 (IntKind.i64.wrap (IntKind.u8.wrap (c - 48))), [])))) (bif' (decide (IntKind.i64.wrap (IntKind.u8.wrap (c - 48)) ≥ b)) (some (CV.int IntKind.i64 (Int.negSucc 0), [])) (some (CV.int IntKind.i64 (IntKind.i64.wrap (IntKind.u8.wrap (c - 48))), []))))) (bif' (decide (c ≥ 97)) (bif' (decide (c ≤ 102)) (bif' (decide (c ≥ 65)) (bif' (decide (c ≤ 70)) (bif' (decide (IntKind.i64.wrap (IntKind.i64.wrap (IntKind.u8.wrap (c - 65)) + 10) ≥ b)) (some (CV.int IntKind.i64 (Int.negSucc 0), [])) (some (CV.int IntKind.i64 (IntKind.i64.wrap (IntKind.i64.wrap (IntKind.u8.wrap (c - 65)) + 10)), []))) (bif' (decide (IntKind.i64.wrap (IntKind.i64.wrap (IntKind.u8.wrap (c - 97)) + 10) ≥ b)) (some (CV.int IntKind.i64 (Int.negSucc 0), [])) (some (CV.int IntKind.i64 (IntKind.i64.wrap (IntKind.i64.wrap (IntKind.u8.wrap (c - 97)) + 10)), [])))) (bif' (decide (IntKind.i64.wrap (IntKind.i64.wrap (IntKind.u8.wrap (c - 97)) + 10) ≥ b)) (some (CV.int IntKind.i64 (Int.negSucc 0), [])) (some (CV.int IntKind.i64 (IntKind.i64.wrap (IntKind.i64.wrap (IntKind.u8.wrap (c - 97)) + 10)), [])))) (bif' (decide (c ≥ 65)) (bif' (decide (c ≤ 70)) (bif' (decide (IntKind.i64.wrap (IntKind.i64.wrap (IntKind.u8.wrap (c - 65)) + 10) ≥ b)) (some (CV.int IntKind.i64 (Int.negSucc 0), [])) (some (CV.int IntKind.i64 (IntKind.i64.wrap (IntKind.i64.wrap (IntKind.u8.wrap (c - 65)) + 10)), []))) (bif' (decide (-1 ≥ b)) (some (CV.int IntKind.i64 (Int.negSucc 0), [])) (some (CV.int IntKind.i64 (Int.negSucc 0), [])))) (bif' (decide (-1 ≥ b)) (some (CV.int IntKind.i64 (Int.negSucc 0), [])) (some (CV.int IntKind.i64 (Int.negSucc 0), []))))) (bif' (decide (c ≥ 65)) (bif' (decide (c ≤ 70)) (bif' (decide (IntKind.i64.wrap (IntKind.i64.wrap (IntKind.u8.wrap (c - 65)) + 10) ≥ b)) (some (CV.int IntKind.i64 (Int.negSucc 0), [])) (some (CV.int IntKind.i64 (IntKind.i64.wrap (IntKind.i64.wrap (IntKind.u8.wrap (c - 65)) + 10)), []))) (bif' (decide (-1 ≥ b)) (some (CV.int IntKind.i64 (Int.negSucc 0), [])) (some (CV.int IntKind.i64 (Int.negSucc 0), [])))) (bif' (decide (-1 ≥ b)) (some (CV.int IntKind.i64 (Int.negSucc 0), [])) (some (CV.int IntKind.i64 (Int.negSucc 0), [])))))) (bif' (decide (c ≥ 97)) (bif' (decide (c ≤ 102)) (bif' (decide (c ≥ 65)) (bif' (decide (c ≤ 70)) (bif' (decide (IntKind.i64.wrap (IntKind.i64.wrap (IntKind.u8.wrap (c - 65)) + 10) ≥ b)) (some (CV.int IntKind.i64 (Int.negSucc 0), [])) (some (CV.int IntKind.i64 (IntKind.i64.wrap (IntKind.i64.wrap (IntKind.u8.wrap (c - 65)) + 10)), []))) (bif' (decide (IntKind.i64.wrap (IntKind.i64.wrap (IntKind.u8.wrap (c - 97)) + 10) ≥ b)) (some (CV.int IntKind.i64 (Int.negSucc 0), [])) (some (CV.int IntKind.i64 (IntKind.i64.wrap (IntKind.i64.wrap (IntKind.u8.wrap (c - 97)) + 10)), [])))) (bif' (decide (IntKind.i64.wrap (IntKind.i64.wrap (IntKind.u8.wrap (c - 97)) + 10) ≥ b)) (some (CV.int IntKind.i64 (Int.negSucc 0), [])) (some (CV.int IntKind.i64 (IntKind.i64.wrap (IntKind.i64.wrap (IntKind.u8.wrap (c - 97)) + 10)), [])))) (bif' (decide (c ≥ 65)) (bif' (decide (c ≤ 70)) (bif' (decide (IntKind.i64.wrap (IntKind.i64.wrap (IntKind.u8.wrap (c - 65)) + 10) ≥ b)) (some (CV.int IntKind.i64 (Int.negSucc 0), [])) (some (CV.int IntKind.i64 (IntKind.i64.wrap (IntKind.i64.wrap (IntKind.u8.wrap (c - 65)) + 10)), []))) (bif' (decide (-1 ≥ b)) (some (CV.int IntKind.i64 (Int.negSucc 0), [])) (some (CV.int IntKind.i64 (Int.negSucc 0), [])))) (bif' (decide (-1 ≥ b)) (some (CV.int IntKind.i64 (Int.negSucc 0), [])) (some (CV.int IntKind.i64 (Int.negSucc 0), []))))) (bif' (decide (c ≥ 65)) (bif' (decide (c ≤ 70)) (bif' (decide (IntKind.i64.wrap (IntKind.i64.wrap (IntKind.u8.wrap (c - 65)) + 10) ≥ b)) (some (CV.int IntKind.i64 (Int.negSucc 0), [])) (some (CV.int IntKind.i64 (IntKind.i64.wrap (IntKind.i64.wrap (IntKind.u8.wrap (c - 65)) + 10)), []))) (bif' (decide (-1 ≥ b)) (some (CV.int IntKind.i64 (Int.negSucc 0), [])) (some (CV.int IntKind.i64 (Int.negSucc 0), [])))) (bif' (decide (-1 ≥ b)) (some (CV.int IntKind.i64 (Int.negSucc 0), [])) (some (CV.int IntKind.i64 (Int.negSucc 0), []))))) := by kernel_rfl
theorem ib77 (s : ByteArray) (b : Int) (n : Nat) (R : Env → Hp → Res) : parts Tryz.prog (call' B81) (filt aL77 0) n (codeOf Tryz.prog 111) (envOf Tryz.prog 111 [.c (.str s), .c (.int .i64 b)]) [] (fun _ => headK hL77 R) (endOf Tryz.prog 111 []) =
 bif' (s.toList == (ByteArray.mk #[]).toList) (some (CV.int IntKind.i64 (Int.negSucc 0), [])) (R (mkEnv 31 [(0, PV.c (CV.str s)), (1, PV.c (CV.int IntKind.i64 b)), (5, PV.c (CV.int IntKind.i64 (Int.ofNat 0))), (6, PV.c (CV.int IntKind.i64 (Int.ofNat 0)))]) []) := by kernel_rfl
theorem ic77 (s : ByteArray) (b v i : Int) (n : Nat) (R : Env → Hp → Res) : aexec Tryz.prog (call' B81) (filt aL77 0) n (bodyN 0 (codeOf Tryz.prog 111)) (mkEnv 31 [(0, .c (.str s)), (1, .c (.int .i64 b)), (5, .c (.int .i64 v)), (6, .c (.int .i64 i))]) [] (thenK (headK hL77 R) (restN Tryz.prog (call' B81) (filt aL77 0) n 0 (codeOf Tryz.prog 111) (endOf Tryz.prog 111 []))) =
 bif' (decide (i < (↑s.size : Int))) (bif' (decide (0 ≤ i)) (bif' (decide (i < (↑s.size : Int))) (bif' (decide (0 ≤ byteAt s i.toNat) && (decide (byteAt s i.toNat < 256) && (decide (2 ≤ b) && decide (b ≤ 16)))) (bif' (decide (dR (byteAt s i.toNat) b < 0)) (some (CV.int IntKind.i64 (Int.negSucc 0), [])) (bif' (decide (IntKind.i64.wrap (IntKind.i64.wrap (v * b) + dR (byteAt s i.toNat) b) > 4294967296)) (R (mkEnv 31 [(0, PV.c (CV.str s)), (1, PV.c (CV.int IntKind.i64 b)), (5, PV.c (CV.int IntKind.i64 (Int.ofNat 4294967296))), (6, PV.c (CV.int IntKind.i64 (IntKind.i64.wrap (i + 1))))]) []) (R (mkEnv 31 [(0, PV.c (CV.str s)), (1, PV.c (CV.int IntKind.i64 b)), (5, PV.c (CV.int IntKind.i64 (IntKind.i64.wrap (IntKind.i64.wrap (v * b) + dR (byteAt s i.toNat) b)))), (6, PV.c (CV.int IntKind.i64 (IntKind.i64.wrap (i + 1))))]) []))) none) none) none) (some (CV.int IntKind.i64 v, [])) := by kernel_rfl
theorem ib66 (s : ByteArray) (c : Int) (n : Nat) (R : Env → Hp → Res) : parts Tryz.prog (call' B77) (filt aL66 0) n (codeOf Tryz.prog 93) (envOf Tryz.prog 93 [.c (.str s), .c (.int .u8 c)]) [] (fun _ => headK hL66 R) (endOf Tryz.prog 93 []) =
 R (mkEnv 36 [(0, PV.c (CV.str s)), (1, PV.c (CV.int IntKind.u8 c)), (5, PV.rw 0 0), (6, PV.c (CV.int IntKind.i64 (Int.ofNat 0))), (7, PV.c (CV.int IntKind.i64 (Int.ofNat 0)))]) [AO.row [] 1 0 false] := by kernel_rfl
theorem ic66 (s : ByteArray) (c f i : Int) (xs : List CV) (n : Nat) (R : Env → Hp → Res) : aexec Tryz.prog (call' B77) (filt aL66 0) n (bodyN 0 (codeOf Tryz.prog 93)) (mkEnv 36 [(0, .c (.str s)), (1, .c (.int .u8 c)), (5, .rw 0 0), (6, .c (.int .i64 f)), (7, .c (.int .i64 i))]) [.row xs 1 0 false] (thenK (headK hL66 R) (restN Tryz.prog (call' B77) (filt aL66 0) n 0 (codeOf Tryz.prog 93) (endOf Tryz.prog 93 []))) =
 bif' (decide (i ≤ (↑s.size : Int))) (bif' (i == (↑s.size : Int)) (bif' (decide (0 ≤ f)) (bif' (decide (f ≤ i)) (bif' (decide (i ≤ (↑s.size : Int))) (bif' (decide ((xs.length + ((List.replicate 1 (CV.str (ByteArray.mk #[]))).set 0 (CV.str (s.extract f.toNat i.toNat))).length) * Tryz.prog.types[9].bytes ≤ 70368744177664)) (R (mkEnv 36 [(0, PV.c (CV.str s)), (1, PV.c (CV.int IntKind.u8 c)), (5, PV.rw 0 0), (6, PV.c (CV.int IntKind.i64 (IntKind.i64.wrap (i + 1)))), (7, PV.c (CV.int IntKind.i64 (IntKind.i64.wrap (i + 1))))]) [AO.row (xs ++ (List.replicate 1 (CV.str (ByteArray.mk #[]))).set 0 (CV.str (s.extract f.toNat i.toNat))) 1 0 false]) none) none) none) none) (bif' (decide (0 ≤ i)) (bif' (decide (i < (↑s.size : Int))) (bif' (byteAt s i.toNat == c) (bif' (decide (0 ≤ f)) (bif' (decide (f ≤ i)) (bif' (decide (i ≤ (↑s.size : Int))) (bif' (decide ((xs.length + ((List.replicate 1 (CV.str (ByteArray.mk #[]))).set 0 (CV.str (s.extract f.toNat i.toNat))).length) * Tryz.prog.types[9].bytes ≤ 70368744177664)) (R (mkEnv 36 [(0, PV.c (CV.str s)), (1, PV.c (CV.int IntKind.u8 c)), (5, PV.rw 0 0), (6, PV.c (CV.int IntKind.i64 (IntKind.i64.wrap (i + 1)))), (7, PV.c (CV.int IntKind.i64 (IntKind.i64.wrap (i + 1))))]) [AO.row (xs ++ (List.replicate 1 (CV.str (ByteArray.mk #[]))).set 0 (CV.str (s.extract f.toNat i.toNat))) 1 0 false]) none) none) none) none) (R (mkEnv 36 [(0, PV.c (CV.str s)), (1, PV.c (CV.int IntKind.u8 c)), (5, PV.rw 0 0), (6, PV.c (CV.int IntKind.i64 f)), (7, PV.c (CV.int IntKind.i64 (IntKind.i64.wrap (i + 1))))]) [AO.row xs 1 0 false])) none) none)) (some (CV.sl true false 1 xs, [])) := by kernel_rfl
theorem ir57 (a b c d : Int) : abody Tryz.prog (call' B66) (fun _ => none) 1 115 [.int .u8 a, .int .u8 b, .int .u8 c, .int .u8 d] =
 some (CV.agg [CV.bool false, CV.int IntKind.u8 (Int.ofNat 0), CV.int IntKind.u8 (Int.ofNat 0), CV.int IntKind.u8 (Int.ofNat 0), CV.int IntKind.u8 (Int.ofNat 0), CV.int IntKind.u8 (Int.ofNat 0), CV.int IntKind.u8 (Int.ofNat 0), CV.int IntKind.u8 (Int.ofNat 0), CV.int IntKind.u8 (Int.ofNat 0), CV.int IntKind.u8 (Int.ofNat 0), CV.int IntKind.u8 (Int.ofNat 0), CV.int IntKind.u8 (Int.ofNat 0), CV.int IntKind.u8 (Int.ofNat 0), CV.int IntKind.u8 a, CV.int IntKind.u8 b, CV.int IntKind.u8 c, CV.int IntKind.u8 d], []) := by kernel_rfl
theorem ir64 (m : Int) : abody Tryz.prog (call' B57) (fun _ => none) 6 91 [.int .u64 m] =
 some (CV.agg [CV.bool false, CV.int IntKind.u8 (Int.ofNat 0), CV.int IntKind.u8 (Int.ofNat 0), CV.int IntKind.u8 (Int.ofNat 0), CV.int IntKind.u8 (Int.ofNat 0), CV.int IntKind.u8 (Int.ofNat 0), CV.int IntKind.u8 (Int.ofNat 0), CV.int IntKind.u8 (Int.ofNat 0), CV.int IntKind.u8 (Int.ofNat 0), CV.int IntKind.u8 (Int.ofNat 0), CV.int IntKind.u8 (Int.ofNat 0), CV.int IntKind.u8 (Int.ofNat 0), CV.int IntKind.u8 (Int.ofNat 0), CV.int IntKind.u8 (IntKind.u8.wrap ((IntKind.u64.wrap ((IntKind.u64.wrap ((IntKind.u64.wrap (m.tdiv 256)).tdiv 256)).tdiv 256)).tmod 256)), CV.int IntKind.u8 (IntKind.u8.wrap ((IntKind.u64.wrap ((IntKind.u64.wrap (m.tdiv 256)).tdiv 256)).tmod 256)), CV.int IntKind.u8 (IntKind.u8.wrap ((IntKind.u64.wrap (m.tdiv 256)).tmod 256)), CV.int IntKind.u8 (IntKind.u8.wrap (m.tmod 256))], []) := by kernel_rfl

end Go.Pv

/- Addresses: numbers; cuts at a byte. -/
namespace Go.Pv
set_option linter.unusedVariables false
set_option maxRecDepth 100000
set_option maxHeartbeats 200000
open Go Go.Proofs
variable {I : World → Prop} {ng : Nat}

theorem wrapU {n : Int} (h0 : 0 ≤ n) (h1 : n < 18446744073709551616) : IntKind.u64.wrap n = n := by
  have e1 : (2 ^ IntKind.u64.bits : Int) = 18446744073709551616 := by decide
  have e2 : IntKind.u64.signed = false := rfl
  simp only [IntKind.wrap, e1, e2]
  rw [Int.emod_eq_of_lt h0 (by omega)]; simp
theorem wrap8 (n : Int) : IntKind.u8.wrap n = n % 256 := by
  have e1 : (2 ^ IntKind.u8.bits : Int) = 256 := by decide
  have e2 : IntKind.u8.signed = false := rfl
  simp only [IntKind.wrap, e1, e2]; simp

/-! ### number -/
theorem dg_facts : ∀ n : Nat, n < 256 → (n < 48 → hx n = -1) ∧ (57 < n → n < 65 → hx n = -1) ∧ (48 ≤ n → ¬ (57 < n ∧ n < 65) → Lib.indexByte (ByteArray.mk #[48, 49, 50, 51, 52, 53, 54, 55, 56, 57, 97, 98, 99, 100, 101, 102]).data.toList (IntKind.u8.wrap (↑(BitVec.ofInt IntKind.u8.bits (n : Int) ||| BitVec.ofInt IntKind.u8.bits 32).toNat : Int)).toNat.toUInt8 = hx n) ∧ -1 ≤ hx n ∧ hx n ≤ 15 := by decide +kernel
theorem hexv_no {c : UInt8} (h : hx c.toNat < 0) : hexv c = 99 := by unfold hexv; rw [if_neg (by omega)]
theorem hexv_is {c : UInt8} (h : 0 ≤ hx c.toNat) : ((hexv c : Nat) : Int) = hx c.toNat := by unfold hexv; rw [if_pos h]; omega
def num71 (b lim : Nat) : Nat → List UInt8 → Option Nat
  | v, [] => some v
  | v, c :: t => if hexv c < b ∧ v * b + hexv c < lim then num71 b lim (v * b + hexv c) t else none
def res71 (l : List UInt8) : Option Nat → Res
  | some w => some (.tup [.int .u64 (w : Int), .bool (!l.isEmpty)], [])
  | none => some (.tup [.int .u64 0, .bool false], [])
noncomputable abbrev R71 (n j : Nat) (env : Env) (H : Hp) : Res := rounds Tryz.prog (call' A29) (filt aL71 0) n hL71 (bodyN 0 (codeOf Tryz.prog 133)) j env H (restN Tryz.prog (call' A29) (filt aL71 0) n 0 (codeOf Tryz.prog 133) (endOf Tryz.prog 133 []))
theorem lo71 (n : Nat) (l : List UInt8) (b lim : Nat) (hl : l.length ≤ 10000) (hb : b ≤ 16) (hlim : lim ≤ 4294967296) : ∀ (j k v : Nat), l.length < j + k → k ≤ l.length → v < lim →
    R71 n j (mkEnv 60 [(0, .c (.str (mkS l))), (1, .c (.int .u64 (b : Int))), (2, .c (.int .u64 (lim : Int))), (8, .c (.int .u64 (v : Int))), (9, .c (.int .i64 (k : Int)))]) [] = res71 l (num71 b lim v (l.drop k))
  | 0, k, v, hj, hk, hv => by omega
  | j + 1, k, v, hj, hk, hv => by
    unfold R71
    rw [rounds_succ, ic71]
    simp only [bif_dec]
    simp only [atM, sizeM, bif_b, natM]
    by_cases h1 : k < l.length
    · rw [drop_getD h1]
      obtain ⟨f1, f2, f3, f4, f5⟩ := dg_facts _ (l.getD k 0).toNat_lt
      have hno : hx (l.getD k 0).toNat < 0 ∨ (b : Int) ≤ hx (l.getD k 0).toNat ∨ (lim : Int) ≤ (v : Int) * b + hx (l.getD k 0).toNat → num71 b lim v (l.getD k 0 :: l.drop (k + 1)) = none := by
        intro h
        unfold num71
        rw [if_neg]
        rintro ⟨q1, q2⟩
        by_cases h0 : hx (l.getD k 0).toNat < 0
        · rw [hexv_no h0] at q1; omega
        · have e := hexv_is (c := l.getD k 0) (by omega)
          rcases h with h | h | h
          · omega
          · omega
          · have q2' : ((v * b + hexv (l.getD k 0) : Nat) : Int) < (lim : Int) := by omega
            rw [Int.natCast_add, Int.natCast_mul, e] at q2'
            omega
      have cont : 48 ≤ (l.getD k 0).toNat → ¬ (57 < (l.getD k 0).toNat ∧ (l.getD k 0).toNat < 65) → ∀ d : Int, d = hx (l.getD k 0).toNat →
          (if d < 0 then some (CV.tup [CV.int IntKind.u64 (Int.ofNat 0), CV.bool false], []) else if IntKind.u64.wrap d ≥ (b : Int) then some (CV.tup [CV.int IntKind.u64 (Int.ofNat 0), CV.bool false], []) else
            if IntKind.u64.wrap (IntKind.u64.wrap ((v : Int) * b) + IntKind.u64.wrap d) ≥ (lim : Int) then some (CV.tup [CV.int IntKind.u64 (Int.ofNat 0), CV.bool false], []) else
            R71 n j (mkEnv 60 [(0, .c (.str (mkS l))), (1, .c (.int .u64 (b : Int))), (2, .c (.int .u64 (lim : Int))), (8, .c (.int .u64 (IntKind.u64.wrap (IntKind.u64.wrap ((v : Int) * b) + IntKind.u64.wrap d)))), (9, .c (.int .i64 (IntKind.i64.wrap ((k : Int) + 1))))]) []) = res71 l (num71 b lim v (l.getD k 0 :: l.drop (k + 1))) := by
        intro g1 g2 d hd
        subst hd
        by_cases h0 : hx (l.getD k 0).toNat < 0
        · rw [if_pos h0, hno (.inl h0)]; rfl
        · have hvb : (v : Int) * b ≤ 4294967296 * 16 := by
            have h2 : v * b ≤ 4294967296 * 16 := Nat.mul_le_mul (by omega) hb
            have : ((v * b : Nat) : Int) ≤ ((4294967296 * 16 : Nat) : Int) := by omega
            rw [Int.natCast_mul] at this; exact this
          have hvb0 : (0 : Int) ≤ (v : Int) * b := by
            have : (0 : Int) ≤ ((v * b : Nat) : Int) := by omega
            rw [Int.natCast_mul] at this; exact this
          have e := hexv_is (c := l.getD k 0) (by omega)
          rw [if_neg h0, wrapU (n := hx (l.getD k 0).toNat) (by omega) (by omega), wrapU (n := (v : Int) * b) hvb0 (by omega), wrapU (n := (v : Int) * b + hx (l.getD k 0).toNat) (by omega) (by omega)]
          by_cases h3 : hx (l.getD k 0).toNat ≥ (b : Int)
          · rw [if_pos h3, hno (.inr (.inl h3))]; rfl
          · rw [if_neg h3]
            by_cases h4 : (v : Int) * b + hx (l.getD k 0).toNat ≥ (lim : Int)
            · rw [if_pos h4, hno (.inr (.inr h4))]; rfl
            · rw [if_neg h4]
              have e2 : (v : Int) * b + hx (l.getD k 0).toNat = ((v * b + hexv (l.getD k 0) : Nat) : Int) := by
                rw [Int.natCast_add, Int.natCast_mul, e]
              rw [e2, wrp1 (i := k) (by omega)]
              have hlt : v * b + hexv (l.getD k 0) < lim := by omega
              rw [lo71 n l b lim hl hb hlim j (k + 1) _ (by omega) (by omega) hlt]
              congr 1
              conv => rhs; unfold num71
              rw [if_pos ⟨by omega, hlt⟩]
      rw [if_pos (by omega), if_pos (by omega), if_pos (by omega), if_pos (by omega), if_pos (by omega)]
      by_cases h48 : ((l.getD k 0).toNat : Int) < 48
      · rw [if_pos h48, hno (.inl (by rw [f1 (by omega)]; omega))]; rfl
      · rw [if_neg h48, if_pos (by omega), if_pos (by omega)]
        by_cases h57 : ((l.getD k 0).toNat : Int) > 57
        · rw [if_pos h57, if_pos (by omega), if_pos (by omega)]
          by_cases h65 : ((l.getD k 0).toNat : Int) < 65
          · rw [if_pos h65, hno (.inl (by rw [f2 (by omega) (by omega)]; omega))]; rfl
          · rw [if_neg h65]
            exact cont (by omega) (by omega) _ (f3 (by omega) (by omega))
        · rw [if_neg h57]
          exact cont (by omega) (by omega) _ (f3 (by omega) (by omega))
    · rw [if_neg (by omega), List.drop_of_length_le (by omega)]
      unfold num71 res71
      have e : ((mkS l).toList == (ByteArray.mk #[]).toList) = l.isEmpty := by
        rw [toList_data, toList_data, mkS_data]
        cases l <;> rfl
      rw [e]
theorem fold_ge (b : Nat) (hb : 1 ≤ b) : ∀ (l : List UInt8) (v : Nat), v ≤ l.foldl (fun n c => n * b + hexv c) v
  | [], v => Nat.le_refl _
  | c :: t, v => by
    rw [List.foldl_cons]
    have := fold_ge b hb t (v * b + hexv c)
    have h2 : v ≤ v * b := Nat.le_mul_of_pos_right _ hb
    omega
theorem num71_eq (b lim : Nat) (hb : 1 ≤ b) : ∀ (l : List UInt8) (v : Nat), v < lim → num71 b lim v l = if (l.all fun c => decide (hexv c < b)) = true ∧ l.foldl (fun n c => n * b + hexv c) v < lim then some (l.foldl (fun n c => n * b + hexv c) v) else none
  | [], v, h => by unfold num71; rw [if_pos ⟨rfl, h⟩]; rfl
  | c :: t, v, h => by
    unfold num71
    rw [List.all_cons, List.foldl_cons]
    by_cases h1 : hexv c < b
    · rw [decide_eq_true h1, Bool.true_and]
      by_cases h2 : v * b + hexv c < lim
      · rw [if_pos ⟨h1, h2⟩, num71_eq b lim hb t _ h2]
      · rw [if_neg (fun q => h2 q.2), if_neg]
        rintro ⟨_, q⟩
        have := fold_ge b hb t (v * b + hexv c)
        omega
    · rw [if_neg (fun q => h1 q.1), decide_eq_false h1, Bool.false_and, if_neg (fun q => Bool.false_ne_true q.1)]
theorem g71 (hg : OnGlobals I ng) : Kw I ng B71 := known_add (g29 hg) (contract_of aL71 hg (hok_of (g29 hg)) fun cargs rv outs h => by
  unfold L71 at h
  split at h <;> first | (cases h; done) | skip
  rename_i s b lim
  refine ⟨12000, loop1 rfl (by kernel_rfl) (by kernel_rfl) (by kernel_rfl) (hd := hL71) (by kernel_rfl) ?_⟩
  by_cases hs : s.size ≤ 10000 ∧ 2 ≤ b ∧ b ≤ 16 ∧ 0 < lim ∧ lim ≤ 4294967296
  · obtain ⟨hs, hb1, hb2, hl1, hl2⟩ := hs
    obtain ⟨B, rfl⟩ := Int.eq_ofNat_of_zero_le (show 0 ≤ b by omega)
    obtain ⟨L, rfl⟩ := Int.eq_ofNat_of_zero_le (show 0 ≤ lim by omega)
    obtain ⟨l, rfl⟩ : ∃ l, s = mkS l := ⟨_, (mkS_bl s).symm⟩
    simp only [picked, pickAlt, decide_eq_true hs, decide_eq_true hb1, decide_eq_true hb2, decide_eq_true hl1, decide_eq_true hl2, Bool.true_and, natM] at h
    rw [sizeM] at hs
    refine (ib71 (mkS l) B L 12000 (R71 12000 12000)).trans ?_
    refine (lo71 12000 l B L hs (by omega) (by omega) 12000 0 0 (by omega) (by omega) (by omega)).trans ?_
    rw [List.drop_zero, num71_eq B L (by omega) l 0 (by omega)]
    unfold nOk numOk nV numL at h
    simp only [dataM] at h
    cases hl : l.isEmpty with
    | true =>
      rw [hl] at h
      simp only [Bool.not_true, Bool.false_and] at h
      cases h
      cases l with
      | nil => split <;> rfl
      | cons a t => cases hl
    | false =>
      rw [hl] at h
      simp only [Bool.not_false, Bool.true_and] at h
      by_cases hq : (l.all fun c => decide (hexv c < B)) = true ∧ l.foldl (fun n c => n * B + hexv c) 0 < L
      · rw [if_pos hq]
        rw [hq.1, decide_eq_true (show ((l.foldl (fun n c => n * B + hexv c) 0 : Nat) : Int) < (L : Int) by have := hq.2; omega)] at h
        simp only [Bool.and_self] at h
        cases h
        unfold res71
        rw [hl]; rfl
      · rw [if_neg hq]
        have : ((l.all fun c => decide (hexv c < B)) && decide (((l.foldl (fun n c => n * B + hexv c) 0 : Nat) : Int) < (L : Int))) = false := by
          rw [Bool.and_eq_false_iff]
          by_cases h1 : (l.all fun c => decide (hexv c < B)) = true
          · exact .inr (decide_eq_false fun h2 => hq ⟨h1, by omega⟩)
          · exact .inl (by simpa using h1)
        rw [this] at h
        cases h
        rfl
  · exfalso
    have hc : (decide (s.size ≤ 10000) && (decide (2 ≤ b) && (decide (b ≤ 16) && (decide (0 < lim) && decide (lim ≤ 4294967296))))) = false := by
      refine Bool.eq_false_iff.2 fun hh => hs ?_
      simpa [Bool.and_eq_true] using hh
    have hc2 : ∀ x : Bool, (decide (s.size ≤ 10000) && (decide (2 ≤ b) && (decide (b ≤ 16) && (decide (0 < lim) && (decide (lim ≤ 4294967296) && x))))) = false := by
      intro x
      refine Bool.eq_false_iff.2 fun hh => hs ?_
      simp only [Bool.and_eq_true, decide_eq_true_eq] at hh
      exact ⟨hh.1, hh.2.1, hh.2.2.1, hh.2.2.2.1, hh.2.2.2.2.1⟩
    simp only [picked, pickAlt, hc, hc2] at h
    cases h)

end Go.Pv

/- Addresses: the document's numbers; cuts at a byte; an IPv4 of its bytes or number. -/
namespace Go.Pv
set_option linter.unusedVariables false
set_option maxRecDepth 100000
set_option maxHeartbeats 200000
open Go Go.Proofs
variable {I : World → Prop} {ng : Nat}

/-! ### digit -/
theorem g81 (hg : OnGlobals I ng) : Kw I ng B81 := known_add (g71 hg) (contract_of (fun _ => none) hg (hok_of (g71 hg)) fun cargs rv outs h => by
  unfold L81 at h
  split at h <;> first | (cases h; done) | skip
  rename_i c b
  by_cases hc : 0 ≤ c ∧ c < 256 ∧ 2 ≤ b ∧ b ≤ 16
  · obtain ⟨h0, h1, h2, h3⟩ := hc
    simp only [picked, pickAlt, decide_eq_true h0, decide_eq_true h1, decide_eq_true h2, decide_eq_true h3, Bool.true_and] at h
    cases h
    refine ⟨1, ?_⟩
    rw [ir81]
    have w1 : 48 ≤ c → IntKind.i64.wrap (IntKind.u8.wrap (c - 48)) = c - 48 := fun _ => by rw [wrap8, wrap_id (by omega) (by omega)]; omega
    have w2 : 97 ≤ c → IntKind.i64.wrap (IntKind.i64.wrap (IntKind.u8.wrap (c - 97)) + 10) = c - 87 := fun _ => by rw [wrap8, wrap_id (n := (c - 97) % 256) (by omega) (by omega), wrap_id (by omega) (by omega)]; omega
    have w3 : 65 ≤ c → IntKind.i64.wrap (IntKind.i64.wrap (IntKind.u8.wrap (c - 65)) + 10) = c - 55 := fun _ => by rw [wrap8, wrap_id (n := (c - 65) % 256) (by omega) (by omega), wrap_id (by omega) (by omega)]; omega
    have key : ∀ (d : Int) (x : Int), 0 ≤ d → x = d → hx c = d → (if x ≥ b then some (CV.int IntKind.i64 (Int.negSucc 0), ([] : List CV)) else some (CV.int IntKind.i64 x, [])) = some (CV.int IntKind.i64 (dR c b), []) := by
      intro d x hd0 hx1 hd
      subst hx1
      unfold dR
      rw [hd]
      by_cases hb : x ≥ b
      · rw [if_pos hb, if_neg (by omega)]; rfl
      · rw [if_neg hb, if_pos ⟨hd0, by omega⟩]
    have key2 : hx c = -1 → (if (-1 : Int) ≥ b then some (CV.int IntKind.i64 (Int.negSucc 0), ([] : List CV)) else some (CV.int IntKind.i64 (Int.negSucc 0), [])) = some (CV.int IntKind.i64 (dR c b), []) := by
      intro hd
      unfold dR
      rw [hd, if_neg (by omega), if_neg (by omega)]; rfl
    simp only [bif_dec]
    by_cases a1 : 48 ≤ c ∧ c ≤ 57
    · have e : hx c = c - 48 := by unfold hx; rw [if_pos a1]
      rw [if_pos (by omega), if_pos (by omega), if_neg (by omega), if_neg (by omega)]
      exact key _ _ (by omega) (w1 (by omega)) e
    · by_cases a2 : 97 ≤ c ∧ c ≤ 102
      · have e : hx c = c - 87 := by unfold hx; rw [if_neg a1, if_pos a2]
        rw [if_pos (by omega), if_neg (by omega), if_pos (by omega), if_pos (by omega), if_pos (by omega), if_neg (by omega)]
        exact key _ _ (by omega) (w2 (by omega)) e
      · by_cases a3 : 65 ≤ c ∧ c ≤ 70
        · have e : hx c = c - 55 := by unfold hx; rw [if_neg a1, if_neg a2, if_pos a3]
          rw [if_pos (by omega), if_neg (by omega), if_neg (by omega), if_pos (by omega), if_pos (by omega)]
          exact key _ _ (by omega) (w3 (by omega)) e
        · have e : hx c = -1 := by unfold hx; rw [if_neg a1, if_neg a2, if_neg a3]
          have key2 := key2 e
          by_cases b1 : c ≥ 48
          · rw [if_pos b1, if_neg (by omega)]
            by_cases b2 : c ≥ 97
            · rw [if_pos b2, if_neg (by omega)]
              rw [if_pos (by omega), if_neg (by omega)]
              exact key2
            · rw [if_neg b2]
              by_cases b3 : c ≥ 65
              · rw [if_pos b3, if_neg (by omega)]; exact key2
              · rw [if_neg b3]; exact key2
          · rw [if_neg b1, if_neg (by omega), if_neg (by omega)]; exact key2
  · exfalso
    have hc : (decide (0 ≤ c) && (decide (c < 256) && (decide (2 ≤ b) && decide (b ≤ 16)))) = false := by
      refine Bool.eq_false_iff.2 fun hh => hc ?_
      simpa [Bool.and_eq_true] using hh
    simp only [picked, pickAlt, hc] at h
    cases h)

/-! ### number -/
theorem fold_min (b : Nat) (hb : 1 ≤ b) (M : Nat) : ∀ (l : List UInt8) (x y : Nat), min x M = min y M → min (l.foldl (fun n c => n * b + hexv c) x) M = min (l.foldl (fun n c => n * b + hexv c) y) M
  | [], x, y, h => h
  | c :: t, x, y, h => by
    rw [List.foldl_cons, List.foldl_cons]
    refine fold_min b hb M t _ _ ?_
    by_cases hx : x < M
    · have : x = y := by omega
      rw [this]
    · have h1 : M ≤ x * b := Nat.le_trans (by omega : M ≤ x) (Nat.le_mul_of_pos_right _ hb)
      have h2 : M ≤ y * b := Nat.le_trans (by omega : M ≤ y) (Nat.le_mul_of_pos_right _ hb)
      omega
noncomputable abbrev R77 (n j : Nat) (env : Env) (H : Hp) : Res := rounds Tryz.prog (call' B81) (filt aL77 0) n hL77 (bodyN 0 (codeOf Tryz.prog 111)) j env H (restN Tryz.prog (call' B81) (filt aL77 0) n 0 (codeOf Tryz.prog 111) (endOf Tryz.prog 111 []))
theorem lo77 (n : Nat) (l : List UInt8) (b : Nat) (hl : l.length ≤ 10000) (hb1 : 2 ≤ b) (hb : b ≤ 16) : ∀ (j k v : Nat), l.length < j + k → k ≤ l.length → v ≤ 4294967296 →
    R77 n j (mkEnv 31 [(0, .c (.str (mkS l))), (1, .c (.int .i64 (b : Int))), (5, .c (.int .i64 (v : Int))), (6, .c (.int .i64 (k : Int)))]) [] = some (.int .i64 (if ((l.drop k).all fun c => decide (hexv c < b)) = true then ((min ((l.drop k).foldl (fun n c => n * b + hexv c) v) 4294967296 : Nat) : Int) else -1), [])
  | 0, k, v, hj, hk, hv => by omega
  | j + 1, k, v, hj, hk, hv => by
    unfold R77
    rw [rounds_succ, ic77]
    simp only [atM, sizeM, natM]
    by_cases h1 : k < l.length
    · rw [drop_getD h1, List.all_cons, List.foldl_cons]
      have hb2 := (l.getD k 0).toNat_lt
      obtain ⟨f1, f2, f3, f4, f5⟩ := dg_facts _ hb2
      have c0 : decide ((k : Int) < ((l.length : Nat) : Int)) = true := decide_eq_true (by omega)
      have c1 : decide ((0 : Int) ≤ (k : Int)) = true := decide_eq_true (by omega)
      have c2 : decide ((0 : Int) ≤ ((l.getD k 0).toNat : Int)) = true := decide_eq_true (by omega)
      have c3 : decide (((l.getD k 0).toNat : Int) < 256) = true := decide_eq_true (by omega)
      have c4 : decide ((2 : Int) ≤ (b : Int)) = true := decide_eq_true (by omega)
      have c5 : decide ((b : Int) ≤ 16) = true := decide_eq_true (by omega)
      rw [c0, c1, c2, c3, c4, c5]
      simp only [Bool.and_self]
      rw [bif_t _ _ rfl, bif_t _ _ rfl, bif_t _ _ rfl, bif_t _ _ rfl]
      have hvb : (v : Int) * b ≤ 4294967296 * 16 := by
        have h2 : v * b ≤ 4294967296 * 16 := Nat.mul_le_mul (by omega) hb
        have : ((v * b : Nat) : Int) ≤ ((4294967296 * 16 : Nat) : Int) := by omega
        rw [Int.natCast_mul] at this; exact this
      have hvb0 : (0 : Int) ≤ (v : Int) * b := by
        have : (0 : Int) ≤ ((v * b : Nat) : Int) := by omega
        rw [Int.natCast_mul] at this; exact this
      by_cases hd : hexv (l.getD k 0) < b
      · have hx0 : 0 ≤ hx (l.getD k 0).toNat := by
          refine Classical.byContradiction fun hn => ?_
          rw [hexv_no (by omega)] at hd; omega
        have e := hexv_is hx0
        have e1 : dR ((l.getD k 0).toNat : Int) (b : Int) = hx (l.getD k 0).toNat := by
          unfold dR; rw [if_pos ⟨hx0, by omega⟩]
        rw [e1, bif_f _ _ (decide_eq_false (by omega)), wrap_id (n := (v : Int) * b) hvb0 (by omega), wrap_id (n := (v : Int) * b + hx (l.getD k 0).toNat) (by omega) (by omega), wrp1 (i := k) (by omega), decide_eq_true hd, Bool.true_and]
        have e2 : (v : Int) * b + hx (l.getD k 0).toNat = ((v * b + hexv (l.getD k 0) : Nat) : Int) := by
          rw [Int.natCast_add, Int.natCast_mul, e]
        rw [e2]
        by_cases hm : (((v * b + hexv (l.getD k 0) : Nat) : Int) > 4294967296)
        · rw [bif_t _ _ (decide_eq_true hm)]
          have := lo77 n l b hl hb1 hb j (k + 1) 4294967296 (by omega) (by omega) (by omega)
          refine Eq.trans this ?_
          rw [fold_min b (by omega) 4294967296 (l.drop (k + 1)) 4294967296 (v * b + hexv (l.getD k 0)) (by omega)]
        · rw [bif_f _ _ (decide_eq_false hm)]
          exact lo77 n l b hl hb1 hb j (k + 1) _ (by omega) (by omega) (by omega)
      · have e1 : dR ((l.getD k 0).toNat : Int) (b : Int) = -1 := by
          unfold dR
          rw [if_neg]
          rintro ⟨q1, q2⟩
          have e := hexv_is q1
          omega
        rw [e1, bif_t _ _ (decide_eq_true (by omega)), decide_eq_false hd, Bool.false_and]
        rfl
    · rw [bif_f _ _ (decide_eq_false (by omega)), List.drop_of_length_le (by omega)]
      have : min v 4294967296 = v := by omega
      show some (CV.int IntKind.i64 (v : Int), ([] : List CV)) = some (.int .i64 ((min v 4294967296 : Nat) : Int), [])
      rw [this]
theorem g77 (hg : OnGlobals I ng) : Kw I ng B77 := known_add (g81 hg) (contract_of aL77 hg (hok_of (g81 hg)) fun cargs rv outs h => by
  unfold L77 at h
  split at h <;> first | (cases h; done) | skip
  rename_i s b
  refine ⟨12000, loop1 rfl (by kernel_rfl) (by kernel_rfl) (by kernel_rfl) (hd := hL77) (by kernel_rfl) ?_⟩
  by_cases hs : s.size ≤ 10000 ∧ 2 ≤ b ∧ b ≤ 16
  · obtain ⟨hs, hb1, hb2⟩ := hs
    obtain ⟨B, rfl⟩ := Int.eq_ofNat_of_zero_le (show 0 ≤ b by omega)
    obtain ⟨l, rfl⟩ : ∃ l, s = mkS l := ⟨_, (mkS_bl s).symm⟩
    simp only [picked, pickAlt, decide_eq_true hs, decide_eq_true hb1, decide_eq_true hb2, Bool.true_and, natM] at h
    cases h
    rw [sizeM] at hs
    refine (ib77 (mkS l) B 12000 (R77 12000 12000)).trans ?_
    have e : ((mkS l).toList == (ByteArray.mk #[]).toList) = l.isEmpty := by
      rw [toList_data, toList_data, mkS_data]
      cases l <;> rfl
    rw [e]
    unfold nR nOk nV numOk numL
    simp only [dataM]
    cases hl : l.isEmpty with
    | true => rfl
    | false =>
      rw [bif_f _ _ rfl]
      refine (lo77 12000 l B hs (by omega) (by omega) 12000 0 0 (by omega) (by omega) (by omega)).trans ?_
      rw [List.drop_zero]
      simp only [Bool.not_false, Bool.true_and]
  · exfalso
    have hc : (decide (s.size ≤ 10000) && (decide (2 ≤ b) && decide (b ≤ 16))) = false := by
      refine Bool.eq_false_iff.2 fun hh => hs ?_
      simpa [Bool.and_eq_true] using hh
    simp only [picked, pickAlt, hc] at h
    cases h)

/-! ### cut -/
def consH (pre : List UInt8) : List (List UInt8) → List (List UInt8)
  | [] => [pre]
  | p :: ps => (pre ++ p) :: ps
theorem splitL_ne (c : UInt8) : ∀ l : List UInt8, ∃ p ps, splitL c l = p :: ps
  | [] => ⟨[], [], rfl⟩
  | b :: t => by
    obtain ⟨p, ps, h⟩ := splitL_ne c t
    unfold splitL
    split
    · exact ⟨_, _, rfl⟩
    · rw [h]; exact ⟨_, _, rfl⟩
theorem consH_nil (c : UInt8) (l : List UInt8) : consH [] (splitL c l) = splitL c l := by
  obtain ⟨p, ps, h⟩ := splitL_ne c l
  rw [h]; rfl
theorem consH_eq (c : UInt8) (pre t : List UInt8) : consH pre (splitL c (c :: t)) = pre :: splitL c t := by
  have e : splitL c (c :: t) = [] :: splitL c t := by
    conv => lhs; unfold splitL
    rw [if_pos rfl]
  rw [e]
  show (pre ++ []) :: splitL c t = _
  rw [List.append_nil]
theorem consH_ne {c b : UInt8} (h : b ≠ c) (pre t : List UInt8) : consH pre (splitL c (b :: t)) = consH (pre ++ [b]) (splitL c t) := by
  obtain ⟨p, ps, e⟩ := splitL_ne c t
  conv => lhs; unfold splitL
  rw [if_neg h, e]
  show (pre ++ b :: p) :: ps = (pre ++ [b] ++ p) :: ps
  rw [List.append_assoc]; rfl
theorem by9 : Tryz.prog.types[9].bytes = 16 := by kernel_rfl
noncomputable abbrev R66 (n j : Nat) (env : Env) (H : Hp) : Res := rounds Tryz.prog (call' B77) (filt aL66 0) n hL66 (bodyN 0 (codeOf Tryz.prog 93)) j env H (restN Tryz.prog (call' B77) (filt aL66 0) n 0 (codeOf Tryz.prog 93) (endOf Tryz.prog 93 []))
theorem rep1 {α : Type} (a b : α) : (List.replicate 1 a).set 0 b = [b] := rfl
theorem lo66 (n : Nat) (l : List UInt8) (c : UInt8) (hl : l.length ≤ 10000) : ∀ (j k f : Nat) (xs : List CV), l.length + 1 < j + k → k ≤ l.length → f ≤ k → xs.length ≤ f →
    R66 n j (mkEnv 36 [(0, .c (.str (mkS l))), (1, .c (.int .u8 (c.toNat : Int))), (5, .rw 0 0), (6, .c (.int .i64 (f : Int))), (7, .c (.int .i64 (k : Int)))]) [.row xs 1 0 false] = some (.sl true false 1 (xs ++ (consH ((l.drop f).take (k - f)) (splitL c (l.drop k))).map strCV), [])
  | 0, k, f, xs, hj, hk, hf, hx => by omega
  | j + 1, k, f, xs, hj, hk, hf, hx => by
    unfold R66
    rw [rounds_succ, ic66]
    simp only [atM, sizeM, natM, mkS_ext, rep1, by9, List.length_cons, List.length_nil]
    have c0 : decide ((k : Int) ≤ ((l.length : Nat) : Int)) = true := decide_eq_true (by omega)
    have c1 : decide ((0 : Int) ≤ (k : Int)) = true := decide_eq_true (by omega)
    have c2 : decide ((0 : Int) ≤ (f : Int)) = true := decide_eq_true (by omega)
    have c3 : decide ((f : Int) ≤ (k : Int)) = true := decide_eq_true (by omega)
    have c4 : decide ((xs.length + (0 + 1)) * 16 ≤ 70368744177664) = true := decide_eq_true (by omega)
    rw [c0, c1, c2, c3, c4, wrp1 (i := k) (by omega)]
    simp only [bif_t _ _ (Eq.refl true)]
    by_cases h1 : k < l.length
    · have c5 : (((k : Nat) : Int) == ((l.length : Nat) : Int)) = false := by
        refine Bool.eq_false_iff.2 fun hh => ?_
        have := eq_of_beq hh; omega
      have c6 : decide ((k : Int) < ((l.length : Nat) : Int)) = true := decide_eq_true (by omega)
      rw [c5, c6, drop_getD h1]
      rw [bif_f _ _ rfl, bif_t _ _ rfl]
      by_cases hc : l.getD k 0 = c
      · have c7 : (((l.getD k 0).toNat : Int) == (c.toNat : Int)) = true := by rw [hc]; exact beq_iff_eq.2 rfl
        rw [c7, bif_t _ _ rfl, hc, consH_eq]
        have ih := lo66 n l c hl j (k + 1) (k + 1) (xs ++ [.str (mkS ((l.drop f).take (k - f)))]) (by omega) (by omega) (by omega) (by rw [List.length_append]; simp; omega)
        refine Eq.trans ih ?_
        rw [Nat.sub_self, List.take_zero, consH_nil, List.append_assoc]
        rfl
      · have c7 : (((l.getD k 0).toNat : Int) == (c.toNat : Int)) = false := by
          refine Bool.eq_false_iff.2 fun hh => hc ?_
          have := eq_of_beq hh
          exact u8_int.1 this
        rw [c7, bif_f _ _ rfl, consH_ne hc]
        have ih := lo66 n l c hl j (k + 1) f xs (by omega) (by omega) (by omega) hx
        refine Eq.trans ih ?_
        have e : (l.drop f).take (k + 1 - f) = (l.drop f).take (k - f) ++ [l.getD k 0] := by
          have e1 : k + 1 - f = (k - f) + 1 := by omega
          rw [e1, List.take_add_one]
          congr 1
          rw [List.getElem?_drop, show f + (k - f) = k by omega]
          simp [List.getD_eq_getElem?_getD, h1]
        rw [e]
    · have hk' : k = l.length := by omega
      have c5 : (((k : Nat) : Int) == ((l.length : Nat) : Int)) = true := by rw [hk']; exact beq_iff_eq.2 rfl
      rw [c5, bif_t _ _ rfl, List.drop_of_length_le (show l.length ≤ k by omega)]
      obtain ⟨j', rfl⟩ : ∃ j', j = j' + 1 := ⟨j - 1, by omega⟩
      show R66 n (j' + 1) _ _ = _
      unfold R66
      rw [rounds_succ, ic66]
      simp only [sizeM]
      rw [bif_f _ _ (decide_eq_false (by omega))]
      have e : consH ((l.drop f).take (k - f)) (splitL c []) = [(l.drop f).take (k - f)] := by
        show [(l.drop f).take (k - f) ++ []] = _
        rw [List.append_nil]
      rw [e]
      rfl
theorem g66 (hg : OnGlobals I ng) : Kw I ng B66 := known_add (g77 hg) (contract_of aL66 hg (hok_of (g77 hg)) fun cargs rv outs h => by
  unfold L66 at h
  split at h <;> first | (cases h; done) | skip
  rename_i s c
  refine ⟨12000, loop1 rfl (by kernel_rfl) (by kernel_rfl) (by kernel_rfl) (hd := hL66) (by kernel_rfl) ?_⟩
  by_cases hs : s.size ≤ 10000 ∧ 0 ≤ c ∧ c < 256
  · obtain ⟨hs, h0, h1⟩ := hs
    obtain ⟨C, rfl⟩ := Int.eq_ofNat_of_zero_le h0
    obtain ⟨l, rfl⟩ : ∃ l, s = mkS l := ⟨_, (mkS_bl s).symm⟩
    simp only [picked, pickAlt, decide_eq_true hs, decide_eq_true h0, decide_eq_true h1, Bool.true_and, natM] at h
    cases h
    rw [sizeM] at hs
    refine (ib66 (mkS l) C 12000 (R66 12000 12000)).trans ?_
    have e : (C : Int) = (C.toUInt8.toNat : Int) := by
      have : C.toUInt8.toNat = C := by simp; omega
      rw [this]
    rw [e]
    refine (lo66 12000 l C.toUInt8 hs 12000 0 0 [] (by omega) (by omega) (by omega) (by simp)).trans ?_
    rw [List.drop_zero, Nat.sub_self, List.take_zero, consH_nil, List.nil_append]
    have e2 : ((C.toUInt8.toNat : Int).toNat).toUInt8 = C.toUInt8 := u8_cast _
    unfold spS
    simp only [dataM]
    try rfl
  · exfalso
    have hc : (decide (s.size ≤ 10000) && (decide (0 ≤ c) && decide (c < 256))) = false := by
      refine Bool.eq_false_iff.2 fun hh => hs ?_
      simpa [Bool.and_eq_true] using hh
    simp only [picked, pickAlt, hc] at h
    cases h)

/-! ### An IPv4 -/
theorem g57 (hg : OnGlobals I ng) : Kw I ng B57 := known_add (g66 hg) (contract_of (fun _ => none) hg (hok_of (g66 hg)) fun cargs rv outs h => by
  unfold L57 at h
  split at h
  · cases h; exact ⟨1, ir57 _ _ _ _⟩
  · cases h)
theorem g64 (hg : OnGlobals I ng) : Kw I ng B64 := known_add (g57 hg) (contract_of (fun _ => none) hg (hok_of (g57 hg)) fun cargs rv outs h => by
  unfold L64 at h
  split at h <;> first | (cases h; done) | skip
  rename_i m
  by_cases hm : 0 ≤ m ∧ m < 18446744073709551616
  · simp only [picked, pickAlt, decide_eq_true hm.1, decide_eq_true hm.2, Bool.true_and] at h
    cases h
    refine ⟨6, ?_⟩
    obtain ⟨h0, h1⟩ := hm
    rw [ir64]
    have t : ∀ {x : Int}, 0 ≤ x → x.tdiv 256 = x / 256 := fun h => Int.tdiv_eq_ediv_of_nonneg h
    have t2 : ∀ {x : Int}, 0 ≤ x → x.tmod 256 = x % 256 := fun h => Int.tmod_eq_emod_of_nonneg h
    rw [t h0, wrapU (n := m / 256) (by omega) (by omega), t (x := m / 256) (by omega), wrapU (n := m / 256 / 256) (by omega) (by omega), t (x := m / 256 / 256) (by omega), wrapU (n := m / 256 / 256 / 256) (by omega) (by omega)]
    rw [t2 h0, t2 (x := m / 256) (by omega), t2 (x := m / 256 / 256) (by omega), t2 (x := m / 256 / 256 / 256) (by omega)]
    simp only [wrap8]
    have e1 : m / 256 / 256 / 256 % 256 % 256 = m / 16777216 % 256 := by omega
    have e2 : m / 256 / 256 % 256 % 256 = m / 65536 % 256 := by omega
    have e3 : m / 256 % 256 % 256 = m / 256 % 256 := by omega
    have e4 : m % 256 % 256 = m % 256 := by omega
    rw [e1, e2, e3, e4]
    rfl
  · exfalso
    have hc : (decide (0 ≤ m) && decide (m < 18446744073709551616)) = false := by
      refine Bool.eq_false_iff.2 fun hh => hm ?_
      simpa [Bool.and_eq_true] using hh
    simp only [picked, pickAlt, hc] at h
    cases h)

end Go.Pv

/- A function's text in pieces: between two pieces what is no longer needed is let go. -/
namespace Go.Pv
set_option linter.unusedVariables false
open Go

/-- As aexec, from behind the first region's head on. -/
def aexecB (P : Program) (tb : Handler) (an : Ann) (fuel : Nat) : Code → Env → Hp → KX → Res
  | .region _ ops draw, env, H, K => if draw && !drawOk P ops env then none else aops P tb ops (List.range ops.size) env H (K .normal)
  | .seq a b, env, H, K => aexecB P tb an fuel a env H (thenK (fun env H => aexec P tb an fuel b env H K) K)
  | .block id b, env, H, K => aexecB P tb an fuel b env H (blockK id K)
  | c, env, H, K => aexec P tb an fuel c env H K
/-- The first region's head. -/
def headAt (an : Ann) : Code → Option Head
  | .region id _ _ => an (id + 500000)
  | .seq a _ => headAt an a
  | .block _ b => headAt an b
  | _ => none
/-- The first k parts; what is behind them; are there so many? -/
def prefC : Nat → Code → Code
  | 0, c => .skip
  | 1, .seq a b => a
  | k + 1, .seq a b => .seq a (prefC k b)
  | _, c => c
def tailC : Nat → Code → Code
  | 0, c => c
  | k + 1, .seq a b => tailC k b
  | _, c => c
def spine : Nat → Code → Bool
  | 0, _ => true
  | k + 1, .seq a b => spine k b
  | _, _ => false
def armC (t : Bool) : Code → Code
  | .cond _ a b => bif t then a else b
  | c => c
/-- The first arm left by the number 2000000. -/
def holeC : Code → Code
  | .seq a (.cond c x y) => .seq a (.cond c (.exit 2000000) y)
  | c => c
def lastArm : Code → Code
  | .seq a (.cond c x y) => x
  | c => c
def armK (L : Env → Hp → Res) (K : KX) : KX := fun e env H => match e with
  | .exit id => if Nat.beq id 2000000 then L env H else K (.exit id) env H
  | e => K e env H
/-- As parts, from behind the first region's head on. -/
def partsB (P : Program) (tb : Handler) (an : Ann) (fuel : Nat) (c : Code) (env : Env) (H : Hp) (L : Nat → Env → Hp → Res) (K : KX) : Res := aexecB P tb an fuel (cutN 0 c) env H (cutNK L K)
--MKX

variable {P : Program} {tb : Handler} {an : Ann} {fuel : Nat}
theorem seq_eq {a b : Code} {env : Env} {H : Hp} {K : KX} : aexec P tb an fuel (.seq a b) env H K = aexec P tb an fuel a env H (thenK (fun env H => aexec P tb an fuel b env H K) K) := by
  show aexec P tb an fuel a env H _ = aexec P tb an fuel a env H _
  congr 1
theorem block_eq {id : Nat} {b : Code} {env : Env} {H : Hp} {K : KX} : aexec P tb an fuel (.block id b) env H K = aexec P tb an fuel b env H (blockK id K) := by
  show aexec P tb an fuel b env H _ = aexec P tb an fuel b env H _
  congr 1
theorem headed {hd : Head} : ∀ {c : Code} {env : Env} {H : Hp} {K : KX}, headAt an c = some hd → aexec P tb an fuel c env H K = headK hd (fun e H => aexecB P tb an fuel c e H K) env H := by
  intro c
  induction c with
  | region id ops draw =>
    intro env H K h
    have h' : an (id + 500000) = some hd := h
    unfold aexec atHead
    rw [h']
    rfl
  | seq a b iha ihb =>
    intro env H K h
    rw [seq_eq, iha h]
    rfl
  | block id b ih =>
    intro env H K h
    rw [block_eq, ih h]
    rfl
  | _ => intro env H K h; cases h
theorem thenK_thenK {T : Env → Hp → Res} {K : KX} {X : Env → Hp → Res} : thenK X (thenK T K) = thenK X K := by
  funext e env H
  cases e <;> rfl
theorem pref_eq : ∀ {k : Nat} {c : Code} {env : Env} {H : Hp} {K : KX}, 0 < k → spine k c = true →
    aexec P tb an fuel c env H K = aexec P tb an fuel (prefC k c) env H (thenK (fun e H => aexec P tb an fuel (tailC k c) e H K) K)
  | 0, _, _, _, _, h, _ => by omega
  | 1, .seq a b, env, H, K, _, h => seq_eq
  | k + 2, .seq a b, env, H, K, _, h => by
    have ih : ∀ env H, aexec P tb an fuel b env H K = _ := fun env H => pref_eq (k := k + 1) (by omega) h
    show aexec P tb an fuel (.seq a b) env H K = aexec P tb an fuel (.seq a (prefC (k + 1) b)) env H _
    rw [seq_eq, seq_eq, thenK_thenK]
    simp only [ih]
    rfl
  | _ + 1, .skip, _, _, _, _, h | _ + 1, .label _, _, _, _, _, h | _ + 1, .region _ _ _, _, _, _, _, h | _ + 1, .cond _ _ _, _, _, _, _, h
  | _ + 1, .block _ _, _, _, _, _, h | _ + 1, .loop _, _, _, _, _, h | _ + 1, .exit _, _, _, _, _, h | _ + 1, .ret, _, _, _, _, h => by cases h
theorem prefB_eq : ∀ {k : Nat} {c : Code} {env : Env} {H : Hp} {K : KX}, 0 < k → spine k c = true →
    aexecB P tb an fuel c env H K = aexecB P tb an fuel (prefC k c) env H (thenK (fun e H => aexec P tb an fuel (tailC k c) e H K) K)
  | 0, _, _, _, _, h, _ => by omega
  | 1, .seq a b, env, H, K, _, h => rfl
  | k + 2, .seq a b, env, H, K, _, h => by
    have ih : ∀ env H, aexec P tb an fuel b env H K = _ := fun env H => pref_eq (k := k + 1) (by omega) h
    show aexecB P tb an fuel (.seq a b) env H K = aexecB P tb an fuel (.seq a (prefC (k + 1) b)) env H _
    unfold aexecB
    rw [thenK_thenK]
    simp only [ih]
    rfl
  | _ + 1, .skip, _, _, _, _, h | _ + 1, .label _, _, _, _, _, h | _ + 1, .region _ _ _, _, _, _, _, h | _ + 1, .cond _ _ _, _, _, _, _, h
  | _ + 1, .block _ _, _, _, _, _, h | _ + 1, .loop _, _, _, _, _, h | _ + 1, .exit _, _, _, _, _, h | _ + 1, .ret, _, _, _, _, h => by cases h
/-- Cut behind the first k parts. -/
theorem seg_a {k : Nat} {c : Code} {hd : Head} {env : Env} {H : Hp} {K : KX} (hk : 0 < k) (hs : spine k c = true) (hh : headAt an (tailC k c) = some hd) :
    aexec P tb an fuel c env H K = aexec P tb an fuel (prefC k c) env H (thenK (headK hd fun e H => aexecB P tb an fuel (tailC k c) e H K) K) := by
  rw [pref_eq hk hs]
  have : (fun e H => aexec P tb an fuel (tailC k c) e H K) = headK hd fun e H => aexecB P tb an fuel (tailC k c) e H K := by
    funext e H
    exact headed hh
  rw [this]
theorem seg_b {k : Nat} {c : Code} {hd : Head} {env : Env} {H : Hp} {K : KX} (hk : 0 < k) (hs : spine k c = true) (hh : headAt an (tailC k c) = some hd) :
    aexecB P tb an fuel c env H K = aexecB P tb an fuel (prefC k c) env H (thenK (headK hd fun e H => aexecB P tb an fuel (tailC k c) e H K) K) := by
  rw [prefB_eq hk hs]
  have : (fun e H => aexec P tb an fuel (tailC k c) e H K) = headK hd fun e H => aexecB P tb an fuel (tailC k c) e H K := by
    funext e H
    exact headed hh
  rw [this]

/-- A statement 'if': its arm by itself. -/
def isHole : Code → Bool
  | .seq (.region _ _ _) (.cond _ _ .skip) => true
  | _ => false
theorem hole_eq {c : Code} {env : Env} {H : Hp} {K : KX} {hd : Head} (h : isHole c = true) (hh : headAt an (lastArm c) = some hd) :
    aexecB P tb an fuel c env H K = aexecB P tb an fuel (holeC c) env H (armK (headK hd fun e H => aexecB P tb an fuel (lastArm c) e H K) K) := by
  match c, h with
  | .seq (.region id ops draw) (.cond x a .skip), _ =>
    have hh' : ∀ env H, aexec P tb an fuel a env H K = headK hd (fun e H => aexecB P tb an fuel a e H K) env H := fun env H => headed hh
    show aexecB P tb an fuel (.region id ops draw) env H (thenK (fun env H => aexec P tb an fuel (.cond x a .skip) env H K) K) =
      aexecB P tb an fuel (.region id ops draw) env H (thenK (fun env H => aexec P tb an fuel (.cond x (.exit 2000000) .skip) env H _) _)
    unfold aexecB
    congr 2
    funext env H
    show aexec P tb an fuel (.cond x a .skip) env H K = aexec P tb an fuel (.cond x (.exit 2000000) .skip) env H _
    unfold aexec
    split
    · split
      · rw [hh']; rfl
      · rw [hh']; rfl
    · rfl
theorem segc_eq : ∀ (c : Code) (n : Nat) (L : Nat → Env → Hp → Res) (K : KX) (env : Env) (H : Hp), idsOk c = true → (firstRegion c).isSome = true → (match c with | .loop _ => false | .cond _ _ _ => false | _ => true) = true →
    (∀ i env H, i < nLoops c → L (n + i) env H = aexec P tb an fuel (.loop (bodyN i c)) env H (restN P tb an fuel i c K)) →
    (match c with | .seq (.region _ _ _) _ => true | _ => false) = true →
    aexecB P tb an fuel c env H K = aexecB P tb an fuel (cutN n c) env H (cutNK L K) := by
  intro c n L K env H ho _ _ hL hc
  match c, hc with
  | .seq (.region id ops draw) b, _ =>
    have ho' : idsOk b = true := by simpa [idsOk] using ho
    have hb : ∀ env H, aexec P tb an fuel b env H K = aexec P tb an fuel (cutN n b) env H (cutNK L K) := fun env H => cut_eq b n K env H ho' fun i env H hi => by
      have := hL i env H (by simpa [nLoops] using hi)
      rw [this]
      simp [bodyN, restN, nLoops]
    show aexecB P tb an fuel (.region id ops draw) env H (thenK (fun env H => aexec P tb an fuel b env H K) K) = aexecB P tb an fuel (.region id ops draw) env H (thenK (fun env H => aexec P tb an fuel (cutN (n + nLoops (.region id ops draw)) b) env H (cutNK L K)) (cutNK L K))
    unfold aexecB
    congr 2
    funext env H
    exact hb env H
/-- A piece that is one region and code with one loop. -/
def isLoopPiece : Code → Bool
  | .seq (.region _ _ _) b => true
  | _ => false
theorem loopB {c : Code} {env : Env} {H : Hp} {K : KX} {hd : Head} (h : isLoopPiece c = true) (hi : idsOk c = true) (hl : nLoops c = 1) (hh : (firstRegion (bodyN 0 c)).bind an = some hd) :
    aexecB P tb an fuel c env H K = partsB P tb an fuel c env H (fun _ => headK hd fun env H => rounds P tb an fuel hd (bodyN 0 c) fuel env H (restN P tb an fuel 0 c K)) K := by
  unfold partsB
  refine segc_eq c 0 _ K env H hi ?_ ?_ (fun i env H hlt => ?_) ?_
  · cases c with
    | seq a b => cases a <;> first | rfl | (cases h; done)
    | _ => cases h
  · cases c with
    | seq a b => rfl
    | _ => cases h
  · rw [hl] at hlt
    obtain rfl : i = 0 := by omega
    exact (loop_eq hh).symm
  · cases c with
    | seq a b => cases a <;> first | rfl | (cases h; done)
    | _ => cases h

end Go.Pv

/- Pieces that begin with a region, whatever stands behind it. -/
namespace Go.Pv
set_option linter.unusedVariables false
open Go

variable {P : Program} {tb : Handler} {an : Ann} {fuel : Nat}
def startsR : Code → Bool
  | .region _ _ _ => true
  | .seq a _ => startsR a
  | _ => false
theorem segc_eq' : ∀ (c : Code) (n : Nat) (L : Nat → Env → Hp → Res) (K : KX) (env : Env) (H : Hp), idsOk c = true → startsR c = true →
    (∀ i env H, i < nLoops c → L (n + i) env H = aexec P tb an fuel (.loop (bodyN i c)) env H (restN P tb an fuel i c K)) →
    aexecB P tb an fuel c env H K = aexecB P tb an fuel (cutN n c) env H (cutNK L K) := by
  intro c
  induction c with
  | region id ops draw =>
    intro n L K env H _ _ _
    show aexecB P tb an fuel (.region id ops draw) env H K = aexecB P tb an fuel (.region id ops draw) env H (cutNK L K)
    unfold aexecB
    rfl
  | seq a b iha ihb =>
    intro n L K env H ho hs hL
    simp only [idsOk, Bool.and_eq_true] at ho
    have hb : ∀ env H, aexec P tb an fuel b env H K = aexec P tb an fuel (cutN (n + nLoops a) b) env H (cutNK L K) := fun env H => cut_eq b (n + nLoops a) K env H ho.2 fun i env H hi => by
      rw [Nat.add_assoc, hL (nLoops a + i) env H (by simp only [nLoops]; omega)]
      simp only [bodyN, restN, if_neg (show ¬ nLoops a + i < nLoops a by omega), Nat.add_sub_cancel_left]
    have ha := iha n L (thenK (fun env H => aexec P tb an fuel b env H K) K) env H ho.1 hs fun i env H hi => by
      rw [hL i env H (by simp only [nLoops]; omega)]
      simp only [bodyN, restN, if_pos hi]
    show aexecB P tb an fuel a env H (thenK (fun env H => aexec P tb an fuel b env H K) K) = aexecB P tb an fuel (cutN n a) env H (thenK (fun env H => aexec P tb an fuel (cutN (n + nLoops a) b) env H (cutNK L K)) (cutNK L K))
    rw [ha]
    congr 1
    funext e env H
    cases e with
    | normal => exact hb env H
    | exit id =>
      simp only [cutNK, thenK]
    | ret => rfl
  | _ => intro n L K env H _ hs _; cases hs
theorem loopB' {c : Code} {env : Env} {H : Hp} {K : KX} {hd : Head} (h : startsR c = true) (hi : idsOk c = true) (hl : nLoops c = 1) (hh : (firstRegion (bodyN 0 c)).bind an = some hd) :
    aexecB P tb an fuel c env H K = partsB P tb an fuel c env H (fun _ => headK hd fun env H => rounds P tb an fuel hd (bodyN 0 c) fuel env H (restN P tb an fuel 0 c K)) K := by
  unfold partsB
  refine segc_eq' c 0 _ K env H hi h (fun i env H hlt => ?_)
  rw [hl] at hlt
  obtain rfl : i = 0 := by omega
  exact (loop_eq hh).symm

end Go.Pv

/- Addresses: four numbers, groups: specs and trees. -/
namespace Go.Pv
set_option linter.unusedVariables false
set_option maxRecDepth 100000
open Go Go.Proofs

def octOk (p : List UInt8) : Bool := numOk 10 p && (decide (numL 10 p < 256) && !(decide (1 < p.length) && (p.getD 0 0 == 48)))
def goF : List (List UInt8) → List Nat × Bool
  | [] => ([], true)
  | p :: ps => if octOk p then (numL 10 p :: (goF ps).1, (goF ps).2) else ([], false)
def fourP (ps : List (List UInt8)) : List Nat × Bool := if ps.length = 4 then goF ps else ([], false)
def f4 (s : ByteArray) : Bool := (fourP (splitL 46 s.data.toList)).2
def f4b (s : ByteArray) (i : Nat) : Int := (((fourP (splitL 46 s.data.toList)).1.getD i 0 : Nat) : Int)
def f4r (s : ByteArray) : Int := if f4 s then ((f4b s 0 * 256 + f4b s 1) * 256 + f4b s 2) * 256 + f4b s 3 else -1
def grpOk (p : List UInt8) : Bool := numOk 16 p && (decide (numL 16 p < 65536) && decide (p.length ≤ 4))
/-- The bytes of groups; the last may be an IPv4, if that is let. -/
def grL (tail : Bool) : List (List UInt8) → Option (List Nat)
  | [] => some []
  | p :: ps => if tail && (ps.isEmpty && (fourP (splitL 46 p)).2) then some (fourP (splitL 46 p)).1 else if grpOk p then (match grL tail ps with
    | some r => some (numL 16 p / 256 :: numL 16 p % 256 :: r)
    | none => none) else none
def byCV (n : Nat) : CV := .int .u8 (n : Int)
def gOk (s : ByteArray) (t : Bool) : Bool := (grL t (splitL 58 s.data.toList)).isSome
def gB (s : ByteArray) (t : Bool) : List CV := ((grL t (splitL 58 s.data.toList)).getD []).map byCV
def L70 : Fn1 := fun x => match x with
  | [.str s, .str ⟨⟨[c]⟩⟩] => some [(decide (s.size ≤ 10000), .sl false false 1 (spS s c), [])]
  | _ => none
def L56 : Fn1 := fun x => match x with
  | [.str s] => some [(decide (s.size ≤ 10000), .tup [.agg [.int .u8 (f4b s 0), .int .u8 (f4b s 1), .int .u8 (f4b s 2), .int .u8 (f4b s 3)], .bool (f4 s)], [])]
  | _ => none
def L63 : Fn1 := fun x => match x with
  | [.str s] => some [(decide (s.size ≤ 10000), .int .i64 (f4r s), [])]
  | _ => none
def L72 : Fn1 := fun x => match x with
  | [.str s, .bool t] => some [(decide (s.size ≤ 10000) && decide (s.size = 0), .tup [.nilsl, .bool true], []), (decide (s.size ≤ 10000) && gOk s t, .tup [.sl true false 1 (gB s t), .bool true], []), (decide (s.size ≤ 10000), .tup [.nilsl, .bool false], [])]
  | _ => none
def B70 : Table := fun g => if Nat.beq g 132 then L70 else B64 g
def B56 : Table := fun g => if Nat.beq g 114 then L56 else B70 g
def B63 : Table := fun g => if Nat.beq g 90 then L63 else B56 g
def B72 : Table := fun g => if Nat.beq g 134 then L72 else B63 g
def kA4 : Nat := 4 + 4294967296 * (128 + 1)
noncomputable def c56 : Code := codeOf Tryz.prog 114
noncomputable def c63 : Code := codeOf Tryz.prog 90
def h56 : Head := ⟨[2, 4, 5], [], 2⟩
def hL56 : Head := ⟨[2, 4, 16, 17, 18], [], 2⟩
def an56 : Ann := fun i => if Nat.beq i 500005 then some h56 else if Nat.beq i 6 then some hL56 else none
noncomputable def q56 : Code := prefC 1 (tailC 4 c56)
def h56b : Head := ⟨[2, 4], [], 2⟩
def h63 : Head := ⟨[3], [(3, 1)], 0⟩
def hL63 : Head := ⟨[3, 4, 5], [(3, 1)], 0⟩
def an63 : Ann := fun i => if Nat.beq i 500004 then some h63 else if Nat.beq i 6 then some hL63 else none
def hL72 : Head := ⟨[1, 6, 7, 18, 19, 20], [(6, 1)], 0⟩
def aL72 : Ann := fun i => if Nat.beq i 6 then some hL72 else none
abbrev zA4 : AO := .box (.c (.agg [.int .u8 0, .int .u8 0, .int .u8 0, .int .u8 0])) kA4
theorem ip56 (s : ByteArray) (n : Nat) (L : Env → Hp → Res) : aexec Tryz.prog (call' B70) (filt an56 0) n (prefC 4 c56) (envOf Tryz.prog 114 [.c (.str s)]) [] (thenK (headK h56 L) (endOf Tryz.prog 114 [])) =
 bif' (decide (s.size ≤ 10000)) (bif' ((↑(spS s 46).length : Int) != 4) (some (CV.tup [CV.agg [CV.int IntKind.u8 (Int.ofNat 0), CV.int IntKind.u8 (Int.ofNat 0), CV.int IntKind.u8 (Int.ofNat 0), CV.int IntKind.u8 (Int.ofNat 0)], CV.bool false], [])) (L (mkEnv 47 [(2, PV.bptr 0 0), (4, PV.bptr 1 0), (5, PV.c (CV.sl false false 1 (spS s 46)))]) [AO.box (PV.c (CV.agg [CV.int IntKind.u8 (Int.ofNat 0), CV.int IntKind.u8 (Int.ofNat 0), CV.int IntKind.u8 (Int.ofNat 0), CV.int IntKind.u8 (Int.ofNat 0)])) kA4, AO.box (PV.c (CV.agg [CV.int IntKind.u8 (Int.ofNat 0), CV.int IntKind.u8 (Int.ofNat 0), CV.int IntKind.u8 (Int.ofNat 0), CV.int IntKind.u8 (Int.ofNat 0)])) kA4])) none := by kernel_rfl
theorem iq56 (xs : List CV) (n : Nat) (R : Env → Hp → Res) : partsB Tryz.prog (call' B70) (filt an56 0) n (tailC 4 c56) (mkEnv 47 [(2, .bptr 0 0), (4, .bptr 1 0), (5, .c (.sl false false 1 xs))]) [zA4, zA4] (fun _ => headK hL56 R) (endOf Tryz.prog 114 []) =
 R (mkEnv 47 [(2, PV.bptr 0 0), (4, PV.bptr 1 0), (16, PV.c (CV.sl false false 1 xs)), (17, PV.c (CV.int IntKind.i64 (↑xs.length : Int))), (18, PV.c (CV.int IntKind.i64 (Int.ofNat 0)))]) [AO.box (PV.c (CV.agg [CV.int IntKind.u8 (Int.ofNat 0), CV.int IntKind.u8 (Int.ofNat 0), CV.int IntKind.u8 (Int.ofNat 0), CV.int IntKind.u8 (Int.ofNat 0)])) kA4, AO.box (PV.c (CV.agg [CV.int IntKind.u8 (Int.ofNat 0), CV.int IntKind.u8 (Int.ofNat 0), CV.int IntKind.u8 (Int.ofNat 0), CV.int IntKind.u8 (Int.ofNat 0)])) kA4] := by kernel_rfl
theorem ic56 (xs cs : List CV) (m i : Int) (n : Nat) (R : Env → Hp → Res) : aexec Tryz.prog (call' B70) (filt an56 0) n (bodyN 0 (tailC 4 c56)) (mkEnv 47 [(2, .bptr 0 0), (4, .bptr 1 0), (16, .c (.sl false false 1 xs)), (17, .c (.int .i64 m)), (18, .c (.int .i64 i))]) [zA4, .box (.c (.agg cs)) kA4] (thenK (headK hL56 R) (restN Tryz.prog (call' B70) (filt an56 0) n 0 (tailC 4 c56) (endOf Tryz.prog 114 []))) =
 bif' (decide (i < m)) (bif' (decide (0 ≤ i)) (bif' (decide (i < (↑xs.length : Int))) (bif' (decide (0 < (xs.getD i.toNat CV.nilptr).cl.length)) (bif' (okc (CV.str (ByteArray.mk #[])) ((xs.getD i.toNat CV.nilptr).cl.getD 0 CV.nilptr)) (bif' (decide (((xs.getD i.toNat CV.nilptr).cl.getD 0 CV.nilptr).toStr.size ≤ 10000) && (true && (true && (true && (true && (nOk ((xs.getD i.toNat CV.nilptr).cl.getD 0 CV.nilptr).toStr 10 && decide ((↑(nV ((xs.getD i.toNat CV.nilptr).cl.getD 0 CV.nilptr).toStr 10) : Int) < 256))))))) (bif' (decide ((↑((xs.getD i.toNat CV.nilptr).cl.getD 0 CV.nilptr).toStr.size : Int) > 1)) (bif' (decide (0 < (↑((xs.getD i.toNat CV.nilptr).cl.getD 0 CV.nilptr).toStr.size : Int))) (bif' (byteAt ((xs.getD i.toNat CV.nilptr).cl.getD 0 CV.nilptr).toStr 0 == 48) (bif' (4 == (CV.agg cs).cl.length) (some (CV.tup [CV.agg cs, CV.bool false], [])) none) (bif' (decide (0 ≤ i)) (bif' (decide (i < (↑4 : Int))) (bif' (decide (0 + i.toNat * 1 + 1 ≤ 4)) (R (mkEnv 47 [(2, PV.bptr 0 0), (4, PV.bptr 1 0), (16, PV.c (CV.sl false false 1 xs)), (17, PV.c (CV.int IntKind.i64 m)), (18, PV.c (CV.int IntKind.i64 (IntKind.i64.wrap (i + 1))))]) [AO.box (PV.c (CV.agg [CV.int IntKind.u8 (Int.ofNat 0), CV.int IntKind.u8 (Int.ofNat 0), CV.int IntKind.u8 (Int.ofNat 0), CV.int IntKind.u8 (Int.ofNat 0)])) kA4, AO.box (PV.c (CV.agg (setRange (CV.agg cs).cl (0 + i.toNat * 1) (CV.int IntKind.u8 (IntKind.u8.wrap (↑(nV ((xs.getD i.toNat CV.nilptr).cl.getD 0 CV.nilptr).toStr 10) : Int))).cl))) kA4]) none) none) none)) none) (bif' (decide (0 ≤ i)) (bif' (decide (i < (↑4 : Int))) (bif' (decide (0 + i.toNat * 1 + 1 ≤ 4)) (R (mkEnv 47 [(2, PV.bptr 0 0), (4, PV.bptr 1 0), (16, PV.c (CV.sl false false 1 xs)), (17, PV.c (CV.int IntKind.i64 m)), (18, PV.c (CV.int IntKind.i64 (IntKind.i64.wrap (i + 1))))]) [AO.box (PV.c (CV.agg [CV.int IntKind.u8 (Int.ofNat 0), CV.int IntKind.u8 (Int.ofNat 0), CV.int IntKind.u8 (Int.ofNat 0), CV.int IntKind.u8 (Int.ofNat 0)])) kA4, AO.box (PV.c (CV.agg (setRange (CV.agg cs).cl (0 + i.toNat * 1) (CV.int IntKind.u8 (IntKind.u8.wrap (↑(nV ((xs.getD i.toNat CV.nilptr).cl.getD 0 CV.nilptr).toStr 10) : Int))).cl))) kA4]) none) none) none)) (bif' (decide (((xs.getD i.toNat CV.nilptr).cl.getD 0 CV.nilptr).toStr.size ≤ 10000) && true) (bif' (4 == (CV.agg cs).cl.length) (some (CV.tup [CV.agg cs, CV.bool false], [])) none) none)) none) none) none) none) (bif' (4 == (CV.agg cs).cl.length) (some (CV.tup [CV.agg cs, CV.bool true], [])) none) := by kernel_rfl
theorem ip63 (s : ByteArray) (n : Nat) (L : Env → Hp → Res) : aexec Tryz.prog (call' B56) (filt an63 0) n (prefC 3 c63) (envOf Tryz.prog 90 [.c (.str s)]) [] (thenK (headK h63 L) (endOf Tryz.prog 90 [])) =
 bif' (decide (s.size ≤ 10000) && true) (bif' ((↑(spS s (Nat.toUInt8 46)).length : Int) != 4) (some (CV.int IntKind.i64 (Int.negSucc 0), [])) (L (mkEnv 48 [(3, PV.rw 0 0)]) [AO.row (spS s (Nat.toUInt8 46)) 1 0 false])) none := by kernel_rfl
theorem iq63 (xs : List CV) (n : Nat) (R : Env → Hp → Res) : partsB Tryz.prog (call' B56) (filt an63 0) n (tailC 3 c63) (mkEnv 48 [(3, .rw 0 0)]) [.row xs 1 0 false] (fun _ => headK hL63 R) (endOf Tryz.prog 90 []) =
 R (mkEnv 48 [(3, PV.rw 0 0), (4, PV.c (CV.int IntKind.i64 (Int.ofNat 0))), (5, PV.c (CV.int IntKind.i64 (Int.ofNat 0)))]) [AO.row xs 1 0 false] := by kernel_rfl
theorem ic63 (xs : List CV) (v i : Int) (n : Nat) (R : Env → Hp → Res) : aexec Tryz.prog (call' B56) (filt an63 0) n (bodyN 0 (tailC 3 c63)) (mkEnv 48 [(3, .rw 0 0), (4, .c (.int .i64 v)), (5, .c (.int .i64 i))]) [.row xs 1 0 false] (thenK (headK hL63 R) (restN Tryz.prog (call' B56) (filt an63 0) n 0 (tailC 3 c63) (endOf Tryz.prog 90 []))) =
 bif' (decide (i < 4)) (bif' (decide (0 ≤ i)) (bif' (decide (i < (↑xs.length : Int))) (bif' (decide (i.toNat < xs.length)) (bif' (decide (0 < (xs.getD i.toNat CV.nilptr).cl.length)) (bif' (okc (CV.str (ByteArray.mk #[])) ((xs.getD i.toNat CV.nilptr).cl.getD 0 CV.nilptr)) (bif' (decide (((xs.getD i.toNat CV.nilptr).cl.getD 0 CV.nilptr).toStr.size ≤ 10000) && true) (bif' (decide (nR ((xs.getD i.toNat CV.nilptr).cl.getD 0 CV.nilptr).toStr 10 < 0)) (some (CV.int IntKind.i64 (Int.negSucc 0), [])) (bif' (decide (nR ((xs.getD i.toNat CV.nilptr).cl.getD 0 CV.nilptr).toStr 10 > 255)) (some (CV.int IntKind.i64 (Int.negSucc 0), [])) (bif' (decide (0 ≤ i)) (bif' (decide (i < (↑xs.length : Int))) (bif' (decide (i.toNat < xs.length)) (bif' (decide (0 < (xs.getD i.toNat CV.nilptr).cl.length)) (bif' (okc (CV.str (ByteArray.mk #[])) ((xs.getD i.toNat CV.nilptr).cl.getD 0 CV.nilptr)) (bif' (decide ((↑((xs.getD i.toNat CV.nilptr).cl.getD 0 CV.nilptr).toStr.size : Int) > 1)) (bif' (decide (0 ≤ i)) (bif' (decide (i < (↑xs.length : Int))) (bif' (decide (i.toNat < xs.length)) (bif' (decide (0 < (xs.getD i.toNat CV.nilptr).cl.length)) (bif' (okc (CV.str (ByteArray.mk #[])) ((xs.getD i.toNat CV.nilptr).cl.getD 0 CV.nilptr)) (bif' (decide (0 < (↑((xs.getD i.toNat CV.nilptr).cl.getD 0 CV.nilptr).toStr.size : Int))) (bif' (byteAt ((xs.getD i.toNat CV.nilptr).cl.getD 0 CV.nilptr).toStr 0 == 48) (some (CV.int IntKind.i64 (Int.negSucc 0), [])) (R (mkEnv 48 [(3, PV.rw 0 0), (4, PV.c (CV.int IntKind.i64 (IntKind.i64.wrap (IntKind.i64.wrap (v * 256) + nR ((xs.getD i.toNat CV.nilptr).cl.getD 0 CV.nilptr).toStr 10)))), (5, PV.c (CV.int IntKind.i64 (IntKind.i64.wrap (i + 1))))]) [AO.row xs 1 0 false])) none) none) none) none) none) none) (R (mkEnv 48 [(3, PV.rw 0 0), (4, PV.c (CV.int IntKind.i64 (IntKind.i64.wrap (IntKind.i64.wrap (v * 256) + nR ((xs.getD i.toNat CV.nilptr).cl.getD 0 CV.nilptr).toStr 10)))), (5, PV.c (CV.int IntKind.i64 (IntKind.i64.wrap (i + 1))))]) [AO.row xs 1 0 false])) none) none) none) none) none))) none) none) none) none) none) none) (some (CV.int IntKind.i64 v, [])) := by kernel_rfl
theorem ib72 (s : ByteArray) (t : Bool) (n : Nat) (R : Env → Hp → Res) : parts Tryz.prog (call' B63) (filt aL72 0) n (codeOf Tryz.prog 134) (envOf Tryz.prog 134 [.c (.str s), .c (.bool t)]) [] (fun _ => headK hL72 R) (endOf Tryz.prog 134 []) =
 bif' (s.toList == (ByteArray.mk #[]).toList) (some (CV.tup [CV.nilsl, CV.bool true], [])) (bif' (decide (s.size ≤ 10000)) (R (mkEnv 66 [(1, PV.c (CV.bool t)), (6, PV.rw 0 0), (7, PV.c (CV.sl false false 1 (spS s 58))), (18, PV.c (CV.sl false false 1 (spS s 58))), (19, PV.c (CV.int IntKind.i64 (↑(spS s 58).length : Int))), (20, PV.c (CV.int IntKind.i64 (Int.ofNat 0)))]) [AO.row [] 1 0 false]) none) := by kernel_rfl
theorem ic72 (t : Bool) (xs ys : List CV) (m i : Int) (n : Nat) (R : Env → Hp → Res) : aexec Tryz.prog (call' B63) (filt aL72 0) n (bodyN 0 (codeOf Tryz.prog 134)) (mkEnv 66 [(1, .c (.bool t)), (6, .rw 0 0), (7, .c (.sl false false 1 xs)), (18, .c (.sl false false 1 xs)), (19, .c (.int .i64 m)), (20, .c (.int .i64 i))]) [.row ys 1 0 false] (thenK (headK hL72 R) (restN Tryz.prog (call' B63) (filt aL72 0) n 0 (codeOf Tryz.prog 134) (endOf Tryz.prog 134 []))) =
 bif' (decide (i < m)) (bif' (decide (0 ≤ i)) (bif' (decide (i < (↑xs.length : Int))) (bif' (decide (0 < (xs.getD i.toNat CV.nilptr).cl.length)) (bif' (okc (CV.str (ByteArray.mk #[])) ((xs.getD i.toNat CV.nilptr).cl.getD 0 CV.nilptr)) (bif' (decide (((xs.getD i.toNat CV.nilptr).cl.getD 0 CV.nilptr).toStr.size ≤ 10000)) (bif' (f4 ((xs.getD i.toNat CV.nilptr).cl.getD 0 CV.nilptr).toStr) (bif' t (bif' (i == IntKind.i64.wrap ((↑xs.length : Int) - 1)) (bif' (decide ((ys.length + (List.take 4 (List.drop 0 [CV.int IntKind.u8 (f4b ((xs.getD i.toNat CV.nilptr).cl.getD 0 CV.nilptr).toStr 0), CV.int IntKind.u8 (f4b ((xs.getD i.toNat CV.nilptr).cl.getD 0 CV.nilptr).toStr 1), CV.int IntKind.u8 (f4b ((xs.getD i.toNat CV.nilptr).cl.getD 0 CV.nilptr).toStr 2), CV.int IntKind.u8 (f4b ((xs.getD i.toNat CV.nilptr).cl.getD 0 CV.nilptr).toStr 3)])).length) * 1 ≤ 70368744177664)) (some (CV.tup [CV.sl true false 1 (ys ++ List.take 4 (List.drop 0 [CV.int IntKind.u8 (f4b ((xs.getD i.toNat CV.nilptr).cl.getD 0 CV.nilptr).toStr 0), CV.int IntKind.u8 (f4b ((xs.getD i.toNat CV.nilptr).cl.getD 0 CV.nilptr).toStr 1), CV.int IntKind.u8 (f4b ((xs.getD i.toNat CV.nilptr).cl.getD 0 CV.nilptr).toStr 2), CV.int IntKind.u8 (f4b ((xs.getD i.toNat CV.nilptr).cl.getD 0 CV.nilptr).toStr 3)])), CV.bool true], [])) none) (bif' (decide (((xs.getD i.toNat CV.nilptr).cl.getD 0 CV.nilptr).toStr.size ≤ 10000) && (true && (true && (true && (true && (nOk ((xs.getD i.toNat CV.nilptr).cl.getD 0 CV.nilptr).toStr 16 && decide ((↑(nV ((xs.getD i.toNat CV.nilptr).cl.getD 0 CV.nilptr).toStr 16) : Int) < 65536))))))) (bif' (decide ((↑((xs.getD i.toNat CV.nilptr).cl.getD 0 CV.nilptr).toStr.size : Int) > 4)) (some (CV.tup [CV.nilsl, CV.bool false], [])) (bif' (decide ((ys.length + (((List.replicate 2 (CV.int IntKind.u8 0)).set 0 (CV.int IntKind.u8 (IntKind.u8.wrap ((↑(nV ((xs.getD i.toNat CV.nilptr).cl.getD 0 CV.nilptr).toStr 16) : Int).fdiv (2 ^ 8))))).set 1 (CV.int IntKind.u8 (IntKind.u8.wrap (↑(nV ((xs.getD i.toNat CV.nilptr).cl.getD 0 CV.nilptr).toStr 16) : Int)))).length) * 1 ≤ 70368744177664)) (R (mkEnv 66 [(1, PV.c (CV.bool t)), (6, PV.rw 0 0), (7, PV.c (CV.sl false false 1 xs)), (18, PV.c (CV.sl false false 1 xs)), (19, PV.c (CV.int IntKind.i64 m)), (20, PV.c (CV.int IntKind.i64 (IntKind.i64.wrap (i + 1))))]) [AO.row (ys ++ ((List.replicate 2 (CV.int IntKind.u8 0)).set 0 (CV.int IntKind.u8 (IntKind.u8.wrap ((↑(nV ((xs.getD i.toNat CV.nilptr).cl.getD 0 CV.nilptr).toStr 16) : Int).fdiv (2 ^ 8))))).set 1 (CV.int IntKind.u8 (IntKind.u8.wrap (↑(nV ((xs.getD i.toNat CV.nilptr).cl.getD 0 CV.nilptr).toStr 16) : Int)))) 1 0 false]) none)) (bif' (decide (((xs.getD i.toNat CV.nilptr).cl.getD 0 CV.nilptr).toStr.size ≤ 10000) && true) (some (CV.tup [CV.nilsl, CV.bool false], [])) none))) (bif' (decide (((xs.getD i.toNat CV.nilptr).cl.getD 0 CV.nilptr).toStr.size ≤ 10000) && (true && (true && (true && (true && (nOk ((xs.getD i.toNat CV.nilptr).cl.getD 0 CV.nilptr).toStr 16 && decide ((↑(nV ((xs.getD i.toNat CV.nilptr).cl.getD 0 CV.nilptr).toStr 16) : Int) < 65536))))))) (bif' (decide ((↑((xs.getD i.toNat CV.nilptr).cl.getD 0 CV.nilptr).toStr.size : Int) > 4)) (some (CV.tup [CV.nilsl, CV.bool false], [])) (bif' (decide ((ys.length + (((List.replicate 2 (CV.int IntKind.u8 0)).set 0 (CV.int IntKind.u8 (IntKind.u8.wrap ((↑(nV ((xs.getD i.toNat CV.nilptr).cl.getD 0 CV.nilptr).toStr 16) : Int).fdiv (2 ^ 8))))).set 1 (CV.int IntKind.u8 (IntKind.u8.wrap (↑(nV ((xs.getD i.toNat CV.nilptr).cl.getD 0 CV.nilptr).toStr 16) : Int)))).length) * 1 ≤ 70368744177664)) (R (mkEnv 66 [(1, PV.c (CV.bool t)), (6, PV.rw 0 0), (7, PV.c (CV.sl false false 1 xs)), (18, PV.c (CV.sl false false 1 xs)), (19, PV.c (CV.int IntKind.i64 m)), (20, PV.c (CV.int IntKind.i64 (IntKind.i64.wrap (i + 1))))]) [AO.row (ys ++ ((List.replicate 2 (CV.int IntKind.u8 0)).set 0 (CV.int IntKind.u8 (IntKind.u8.wrap ((↑(nV ((xs.getD i.toNat CV.nilptr).cl.getD 0 CV.nilptr).toStr 16) : Int).fdiv (2 ^ 8))))).set 1 (CV.int IntKind.u8 (IntKind.u8.wrap (↑(nV ((xs.getD i.toNat CV.nilptr).cl.getD 0 CV.nilptr).toStr 16) : Int)))) 1 0 false]) none)) (bif' (decide (((xs.getD i.toNat CV.nilptr).cl.getD 0 CV.nilptr).toStr.size ≤ 10000) && true) (some (CV.tup [CV.nilsl, CV.bool false], [])) none))) (bif' (decide (((xs.getD i.toNat CV.nilptr).cl.getD 0 CV.nilptr).toStr.size ≤ 10000) && (true && (true && (true && (true && (nOk ((xs.getD i.toNat CV.nilptr).cl.getD 0 CV.nilptr).toStr 16 && decide ((↑(nV ((xs.getD i.toNat CV.nilptr).cl.getD 0 CV.nilptr).toStr 16) : Int) < 65536))))))) (bif' (decide ((↑((xs.getD i.toNat CV.nilptr).cl.getD 0 CV.nilptr).toStr.size : Int) > 4)) (some (CV.tup [CV.nilsl, CV.bool false], [])) (bif' (decide ((ys.length + (((List.replicate 2 (CV.int IntKind.u8 0)).set 0 (CV.int IntKind.u8 (IntKind.u8.wrap ((↑(nV ((xs.getD i.toNat CV.nilptr).cl.getD 0 CV.nilptr).toStr 16) : Int).fdiv (2 ^ 8))))).set 1 (CV.int IntKind.u8 (IntKind.u8.wrap (↑(nV ((xs.getD i.toNat CV.nilptr).cl.getD 0 CV.nilptr).toStr 16) : Int)))).length) * 1 ≤ 70368744177664)) (R (mkEnv 66 [(1, PV.c (CV.bool t)), (6, PV.rw 0 0), (7, PV.c (CV.sl false false 1 xs)), (18, PV.c (CV.sl false false 1 xs)), (19, PV.c (CV.int IntKind.i64 m)), (20, PV.c (CV.int IntKind.i64 (IntKind.i64.wrap (i + 1))))]) [AO.row (ys ++ ((List.replicate 2 (CV.int IntKind.u8 0)).set 0 (CV.int IntKind.u8 (IntKind.u8.wrap ((↑(nV ((xs.getD i.toNat CV.nilptr).cl.getD 0 CV.nilptr).toStr 16) : Int).fdiv (2 ^ 8))))).set 1 (CV.int IntKind.u8 (IntKind.u8.wrap (↑(nV ((xs.getD i.toNat CV.nilptr).cl.getD 0 CV.nilptr).toStr 16) : Int)))) 1 0 false]) none)) (bif' (decide (((xs.getD i.toNat CV.nilptr).cl.getD 0 CV.nilptr).toStr.size ≤ 10000) && true) (some (CV.tup [CV.nilsl, CV.bool false], [])) none))) none) none) none) none) none) (some (CV.tup [CV.sl true false 1 ys, CV.bool true], [])) := by kernel_rfl

end Go.Pv

/- Addresses: four numbers; groups. -/
namespace Go.Pv
set_option linter.unusedVariables false
set_option maxRecDepth 100000
set_option maxHeartbeats 200000
open Go Go.Proofs
variable {I : World → Prop} {ng : Nat}

theorem el_get (s : ByteArray) : (CV.str s).cl.getD 0 CV.nilptr = CV.str s := by cases s; rfl
theorem el_len (s : ByteArray) : (CV.str s).cl.length = 1 := by cases s; rfl
theorem el_okc (z s : ByteArray) : okc (CV.str z) (CV.str s) = true := by cases s; rfl
theorem el_str (s : ByteArray) : (CV.str s).toStr = s := by cases s; rfl
theorem xs_get (ps : List (List UInt8)) (k : Nat) (h : k < ps.length) : (ps.map strCV).getD k CV.nilptr = CV.str (mkS (ps.getD k [])) := by
  simp [List.getD_eq_getElem?_getD, h, strCV]
theorem ps_drop {ps : List (List UInt8)} {k : Nat} (h : k < ps.length) : ps.drop k = ps.getD k [] :: ps.drop (k + 1) := by
  rw [List.drop_eq_getElem_cons h]
  simp [List.getD_eq_getElem?_getD, h]
theorem ps_mem {ps : List (List UInt8)} {k : Nat} (h : k < ps.length) : ps.getD k [] ∈ ps := by
  simp [List.getD_eq_getElem?_getD, h]
theorem split_sz (c : UInt8) : ∀ (l : List UInt8), ∀ p ∈ splitL c l, p.length ≤ l.length
  | [], p, hp => by simp [splitL] at hp; subst hp; simp
  | b :: t, p, hp => by
    obtain ⟨q, qs, e⟩ := splitL_ne c t
    have ih := split_sz c t
    unfold splitL at hp
    split at hp
    · rcases List.mem_cons.1 hp with rfl | hp
      · simp
      · have := ih p hp; simp only [List.length_cons]; omega
    · rw [e] at hp ih
      simp only [List.mem_cons] at hp
      rcases hp with rfl | hp
      · have := ih q (by simp); simp only [List.length_cons]; omega
      · have := ih p (by simp [hp]); simp only [List.length_cons]; omega
theorem sp_len (s : ByteArray) (c : UInt8) : (spS s c).length = (splitL c s.data.toList).length := by unfold spS; rw [List.length_map]
theorem beq_by (c : UInt8) (d : UInt8) : (((c.toNat : Nat) : Int) == ((d.toNat : Nat) : Int)) = (c == d) := by
  rw [Bool.eq_iff_iff, beq_iff_eq, beq_iff_eq]
  exact u8_int
theorem beq48 (c : UInt8) : (((c.toNat : Nat) : Int) == 48) = (c == 48) := beq_by c 48

/-! ### four -/
theorem g70 (hg : OnGlobals I ng) (h70 : Cw I ng 132 L70) : Kw I ng B70 := known_add (g64 hg) h70
theorem set_pad (A : List CV) (m : Nat) (z x : CV) : setRange (A ++ List.replicate (m + 1) z) A.length [x] = A ++ [x] ++ List.replicate m z := by
  unfold setRange
  rw [List.take_left', List.drop_append]
  · simp
  try rfl
theorem goF_len : ∀ ps : List (List UInt8), (goF ps).1.length ≤ ps.length
  | [] => Nat.le_refl _
  | p :: ps => by
    unfold goF
    split
    · have := goF_len ps; simp only [List.length_cons]; omega
    · simp
theorem goF_all : ∀ ps : List (List UInt8), (goF ps).2 = true → (goF ps).1.length = ps.length
  | [], _ => rfl
  | p :: ps, h => by
    unfold goF at h ⊢
    split at h
    · rename_i ho
      rw [if_pos ho]
      have := goF_all ps h; simp only [List.length_cons]; omega
    · cases h
theorem oct_lt {p : List UInt8} (h : octOk p = true) : numL 10 p < 256 := by
  unfold octOk at h
  simp only [Bool.and_eq_true, decide_eq_true_eq] at h
  exact h.2.1
theorem pad4 : ∀ r : List Nat, r.length ≤ 4 → r.map byCV ++ List.replicate (4 - r.length) (CV.int .u8 (Int.ofNat 0)) = [.int .u8 ((r.getD 0 0 : Nat) : Int), .int .u8 ((r.getD 1 0 : Nat) : Int), .int .u8 ((r.getD 2 0 : Nat) : Int), .int .u8 ((r.getD 3 0 : Nat) : Int)]
  | [], _ => rfl
  | [_], _ => rfl
  | [_, _], _ => rfl
  | [_, _, _], _ => rfl
  | [_, _, _, _], _ => rfl
  | _ :: _ :: _ :: _ :: _ :: _, h => by simp at h
def E56 (ps : List (List UInt8)) (k : Nat) : Env := mkEnv 47 [(2, .bptr 0 0), (4, .bptr 1 0), (16, .c (.sl false false 1 (ps.map strCV))), (17, .c (.int .i64 ((ps.length : Nat) : Int))), (18, .c (.int .i64 (k : Int)))]
noncomputable abbrev R56 (n j : Nat) (env : Env) (H : Hp) : Res := rounds Tryz.prog (call' B70) (filt an56 0) n hL56 (bodyN 0 (tailC 4 c56)) j env H (restN Tryz.prog (call' B70) (filt an56 0) n 0 (tailC 4 c56) (endOf Tryz.prog 114 []))
theorem lo56 (n : Nat) (ps : List (List UInt8)) (h4 : ps.length = 4) (hsz : ∀ p ∈ ps, p.length ≤ 10000) : ∀ (j k : Nat) (dn : List Nat), 4 < j + k → k ≤ 4 → dn.length = k →
    R56 n j (E56 ps k) [zA4, .box (.c (.agg (dn.map byCV ++ List.replicate (4 - k) (CV.int .u8 (Int.ofNat 0))))) kA4] =
      some (.tup [.agg ((dn ++ (goF (ps.drop k)).1).map byCV ++ List.replicate (4 - (dn ++ (goF (ps.drop k)).1).length) (CV.int .u8 (Int.ofNat 0))), .bool (goF (ps.drop k)).2], [])
  | 0, k, dn, hj, hk, hd => by omega
  | j + 1, k, dn, hj, hk, hd => by
    have hcl : ∀ l : List CV, (CV.agg l).cl = l := fun _ => rfl
    have hlen : (dn.map byCV ++ List.replicate (4 - k) (CV.int .u8 (Int.ofNat 0))).length = 4 := by simp; omega
    unfold R56
    rw [E56, rounds_succ, ic56]
    simp only [natM, hcl, hlen, List.length_map]
    have c4 : ((4 : Nat) == 4) = true := rfl
    rw [c4]
    by_cases h1 : k < ps.length
    · have hp := xs_get ps k h1
      simp only [hp, el_get, el_len, el_okc, el_str, sizeM]
      have hsz1 := hsz _ (ps_mem h1)
      generalize hpe : ps.getD k [] = p at *
      have e1 : nOk (mkS p) 10 = numOk 10 p := rfl
      have e2 : nV (mkS p) 10 = numL 10 p := rfl
      rw [e1, e2, atM]
      have b1 : decide ((k : Int) < ((ps.length : Nat) : Int)) = true := decide_eq_true (by omega)
      have b2 : decide ((0 : Int) ≤ (k : Int)) = true := decide_eq_true (by omega)
      have b3 : decide (0 < 1) = true := rfl
      have b4 : decide (p.length ≤ 10000) = true := decide_eq_true hsz1
      have b5 : decide ((k : Int) < (4 : Int)) = true := decide_eq_true (by omega)
      have b6 : decide (0 + k * 1 + 1 ≤ 4) = true := decide_eq_true (by omega)
      rw [b1, b2, b3, b4, b5, b6, beq48, wrp1 (i := k) (by omega), ps_drop h1, hpe]
      simp only [Bool.true_and, Bool.and_self, bif_t _ _ (Eq.refl true)]
      have hbad : octOk p = false → some (CV.tup [CV.agg (dn.map byCV ++ List.replicate (4 - k) (CV.int .u8 (Int.ofNat 0))), CV.bool false], ([] : List CV)) =
          some (.tup [.agg ((dn ++ (goF (p :: ps.drop (k + 1))).1).map byCV ++ List.replicate (4 - (dn ++ (goF (p :: ps.drop (k + 1))).1).length) (CV.int .u8 (Int.ofNat 0))), .bool (goF (p :: ps.drop (k + 1))).2], []) := by
        intro ho
        unfold goF
        rw [ho, if_neg Bool.false_ne_true, List.append_nil, hd]
      have hgood : octOk p = true → R56 n j (E56 ps (k + 1)) [zA4, .box (.c (.agg (setRange (dn.map byCV ++ List.replicate (4 - k) (CV.int .u8 (Int.ofNat 0))) (0 + k * 1) (CV.int IntKind.u8 (IntKind.u8.wrap ((numL 10 p : Nat) : Int))).cl))) kA4] =
          some (.tup [.agg ((dn ++ (goF (p :: ps.drop (k + 1))).1).map byCV ++ List.replicate (4 - (dn ++ (goF (p :: ps.drop (k + 1))).1).length) (CV.int .u8 (Int.ofNat 0))), .bool (goF (p :: ps.drop (k + 1))).2], []) := by
        intro ho
        have hlt := oct_lt ho
        have e3 : (CV.int IntKind.u8 (IntKind.u8.wrap ((numL 10 p : Nat) : Int))).cl = [byCV (numL 10 p)] := by
          rw [wrap8, show ((numL 10 p : Nat) : Int) % 256 = ((numL 10 p : Nat) : Int) by omega]; rfl
        have e4 : 4 - k = (4 - (k + 1)) + 1 := by omega
        have e5 : 0 + k * 1 = (dn.map byCV).length := by simp; omega
        rw [e3, e4, e5, set_pad]
        have ih := lo56 n ps h4 hsz j (k + 1) (dn ++ [numL 10 p]) (by omega) (by omega) (by simp; omega)
        have e6 : (dn ++ [numL 10 p]).map byCV = dn.map byCV ++ [byCV (numL 10 p)] := by simp
        rw [e6] at ih
        refine Eq.trans ih ?_
        have e7 : (goF (p :: ps.drop (k + 1))) = (numL 10 p :: (goF (ps.drop (k + 1))).1, (goF (ps.drop (k + 1))).2) := by
          conv => lhs; unfold goF
          rw [if_pos ho]
        rw [e7]
        simp only [List.append_assoc, List.cons_append, List.nil_append]
      unfold octOk at hbad hgood
      cases hn : numOk 10 p with
      | false =>
        rw [hn] at hbad
        rw [Bool.false_and, bif_f _ _ rfl]
        exact hbad rfl
      | true =>
        rw [hn] at hbad hgood
        by_cases hv : numL 10 p < 256
        · have b7 : decide (((numL 10 p : Nat) : Int) < 256) = true := decide_eq_true (by omega)
          rw [b7]
          rw [decide_eq_true hv] at hbad hgood
          simp only [Bool.true_and, Bool.and_self, bif_t _ _ (Eq.refl true)] at hbad hgood ⊢
          by_cases hl : 1 < p.length
          · have b8 : decide (((p.length : Nat) : Int) > 1) = true := decide_eq_true (by omega)
            have b9 : decide ((0 : Int) < ((p.length : Nat) : Int)) = true := decide_eq_true (by omega)
            rw [b8, b9]
            rw [decide_eq_true hl] at hbad hgood
            simp only [Bool.true_and, bif_t _ _ (Eq.refl true)] at hbad hgood ⊢
            cases h48 : (p.getD 0 0 == 48) with
            | true => rw [h48] at hbad; rw [bif_t _ _ rfl]; exact hbad rfl
            | false => rw [h48] at hgood; rw [bif_f _ _ rfl]; exact hgood rfl
          · have b8 : decide (((p.length : Nat) : Int) > 1) = false := decide_eq_false (by omega)
            rw [b8, bif_f _ _ rfl]
            rw [decide_eq_false hl] at hgood
            exact hgood rfl
        · have b7 : decide (((numL 10 p : Nat) : Int) < 256) = false := decide_eq_false (by omega)
          rw [b7]
          rw [decide_eq_false hv] at hbad
          simp only [Bool.and_false, Bool.false_and] at hbad ⊢
          rw [bif_f _ _ rfl]
          exact hbad trivial
    · have b1 : decide ((k : Int) < ((ps.length : Nat) : Int)) = false := decide_eq_false (by omega)
      rw [b1, bif_f _ _ rfl, List.drop_of_length_le (by omega)]
      simp only [bif_t _ _ (Eq.refl true)]
      have e : goF [] = ([], true) := rfl
      rw [e, List.append_nil, hd]
theorem sp56 : spine 4 c56 = true := by kernel_rfl
theorem ha56 : headAt (filt an56 0) (tailC 4 c56) = some h56 := by kernel_rfl
theorem lp56 : startsR (tailC 4 c56) = true := by kernel_rfl
theorem id56 : idsOk (tailC 4 c56) = true := by kernel_rfl
theorem nl56 : nLoops (tailC 4 c56) = 1 := by kernel_rfl
theorem hh56 : (firstRegion (bodyN 0 (tailC 4 c56))).bind (filt an56 0) = some hL56 := by kernel_rfl
theorem g56 (hg : OnGlobals I ng) (h70 : Cw I ng 132 L70) : Kw I ng B56 := known_add (g70 hg h70) (contract_of an56 hg (hok_of (g70 hg h70)) fun cargs rv outs h => by
  unfold L56 at h
  split at h <;> first | (cases h; done) | skip
  rename_i s
  by_cases hs : s.size ≤ 10000
  · simp only [picked, pickAlt, decide_eq_true hs] at h
    cases h
    refine ⟨12000, ?_⟩
    rw [abody_eq rfl (by kernel_rfl)]
    show aexec Tryz.prog (call' B70) (filt an56 0) 12000 c56 (envOf Tryz.prog 114 [.c (.str s)]) [] (endOf Tryz.prog 114 []) = _
    rw [seg_a (k := 4) (by decide) sp56 ha56, ip56, decide_eq_true hs, bif_t _ _ rfl, sp_len]
    unfold f4 f4b fourP
    by_cases h4 : (splitL 46 s.data.toList).length = 4
    · have b : ((((splitL 46 s.data.toList).length : Nat) : Int) != 4) = false := by rw [h4]; rfl
      rw [b, bif_f _ _ rfl, if_pos h4]
      show aexecB Tryz.prog (call' B70) (filt an56 0) 12000 (tailC 4 c56) _ _ _ = _
      rw [loopB' lp56 id56 nl56 hh56]
      refine (iq56 (spS s 46) 12000 (R56 12000 12000)).trans ?_
      rw [sp_len]
      have hsz : ∀ p ∈ splitL 46 s.data.toList, p.length ≤ 10000 := fun p hp => by
        have := split_sz 46 _ p hp
        rw [data_len] at this; omega
      refine (lo56 12000 (splitL 46 s.data.toList) h4 hsz 12000 0 [] (by omega) (by omega) rfl).trans ?_
      rw [List.drop_zero, List.nil_append, pad4 _ (by have := goF_len (splitL 46 s.data.toList); omega)]
    · have b : ((((splitL 46 s.data.toList).length : Nat) : Int) != 4) = true := by
        rw [bne_iff_ne]; omega
      rw [b, bif_t _ _ rfl, if_neg h4]
      rfl
  · simp only [picked, pickAlt, decide_eq_false hs] at h; cases h)

end Go.Pv

/- Addresses: the document's four; groups. -/
namespace Go.Pv
set_option linter.unusedVariables false
set_option maxRecDepth 100000
set_option maxHeartbeats 200000
open Go Go.Proofs
variable {I : World → Prop} {ng : Nat}

/-! ### The document's four -/
def foldA (v : Nat) (r : List Nat) : Nat := r.foldl (fun a x => a * 256 + x) v
noncomputable abbrev R63 (n j : Nat) (env : Env) (H : Hp) : Res := rounds Tryz.prog (call' B56) (filt an63 0) n hL63 (bodyN 0 (tailC 3 c63)) j env H (restN Tryz.prog (call' B56) (filt an63 0) n 0 (tailC 3 c63) (endOf Tryz.prog 90 []))
theorem lo63 (n : Nat) (ps : List (List UInt8)) (h4 : ps.length = 4) (hsz : ∀ p ∈ ps, p.length ≤ 10000) : ∀ (j k v : Nat), 4 < j + k → k ≤ 4 → v < 256 ^ k →
    R63 n j (mkEnv 48 [(3, .rw 0 0), (4, .c (.int .i64 (v : Int))), (5, .c (.int .i64 (k : Int)))]) [.row (ps.map strCV) 1 0 false] =
      some (.int .i64 (if (goF (ps.drop k)).2 = true then ((foldA v (goF (ps.drop k)).1 : Nat) : Int) else -1), [])
  | 0, k, v, hj, hk, hd => by omega
  | j + 1, k, v, hj, hk, hd => by
    unfold R63
    rw [rounds_succ, ic63]
    simp only [natM, List.length_map]
    by_cases h1 : k < ps.length
    · have hp := xs_get ps k h1
      simp only [hp, el_get, el_len, el_okc, el_str, sizeM]
      have hsz1 := hsz _ (ps_mem h1)
      generalize hpe : ps.getD k [] = p at *
      have e1 : nR (mkS p) 10 = if numOk 10 p then ((min (numL 10 p) 4294967296 : Nat) : Int) else -1 := rfl
      rw [e1, atM]
      have b0 : decide ((k : Int) < 4) = true := decide_eq_true (by omega)
      have b1 : decide ((k : Int) < ((ps.length : Nat) : Int)) = true := decide_eq_true (by omega)
      have b2 : decide ((0 : Int) ≤ (k : Int)) = true := decide_eq_true (by omega)
      have b3 : decide (0 < 1) = true := rfl
      have b4 : decide (p.length ≤ 10000) = true := decide_eq_true hsz1
      have b5 : decide (k < ps.length) = true := decide_eq_true h1
      rw [b0, b1, b2, b3, b4, b5, beq48, wrp1 (i := k) (by omega), ps_drop h1, hpe]
      simp only [Bool.true_and, Bool.and_self, bif_t _ _ (Eq.refl true)]
      have hbad : octOk p = false → some (CV.int IntKind.i64 (Int.negSucc 0), ([] : List CV)) = some (.int .i64 (if (goF (p :: ps.drop (k + 1))).2 = true then ((foldA v (goF (p :: ps.drop (k + 1))).1 : Nat) : Int) else -1), []) := by
        intro ho
        unfold goF
        rw [ho, if_neg Bool.false_ne_true, if_neg Bool.false_ne_true]
        rfl
      have hpow : 256 ^ k ≤ 256 ^ 4 := Nat.pow_le_pow_right (by omega) hk
      have hpow1 : 256 ^ (k + 1) = 256 ^ k * 256 := Nat.pow_succ ..
      have hgood : octOk p = true → R63 n j (mkEnv 48 [(3, .rw 0 0), (4, .c (.int .i64 (IntKind.i64.wrap (IntKind.i64.wrap ((v : Int) * 256) + ((min (numL 10 p) 4294967296 : Nat) : Int))))), (5, .c (.int .i64 ((k + 1 : Nat) : Int)))]) [.row (ps.map strCV) 1 0 false] = some (.int .i64 (if (goF (p :: ps.drop (k + 1))).2 = true then ((foldA v (goF (p :: ps.drop (k + 1))).1 : Nat) : Int) else -1), []) := by
        intro ho
        have hlt := oct_lt ho
        have e2 : IntKind.i64.wrap (IntKind.i64.wrap ((v : Int) * 256) + ((min (numL 10 p) 4294967296 : Nat) : Int)) = ((v * 256 + numL 10 p : Nat) : Int) := by
          rw [wrap_id (n := (v : Int) * 256) (by omega) (by omega), wrap_id (by omega) (by omega)]; omega
        rw [e2]
        refine Eq.trans (lo63 n ps h4 hsz j (k + 1) (v * 256 + numL 10 p) (by omega) (by omega) (by rw [hpow1]; omega)) ?_
        have e7 : (goF (p :: ps.drop (k + 1))) = (numL 10 p :: (goF (ps.drop (k + 1))).1, (goF (ps.drop (k + 1))).2) := by
          conv => lhs; unfold goF
          rw [if_pos ho]
        rw [e7]
        rfl
      unfold octOk at hbad hgood
      cases hn : numOk 10 p with
      | false =>
        rw [hn] at hbad
        rw [if_neg Bool.false_ne_true, bif_t _ _ (decide_eq_true (by decide))]
        exact hbad rfl
      | true =>
        rw [hn] at hbad hgood
        rw [if_pos rfl, bif_f _ _ (decide_eq_false (by omega))]
        by_cases hv : numL 10 p < 256
        · rw [bif_f _ _ (decide_eq_false (by omega))]
          rw [decide_eq_true hv] at hbad hgood
          simp only [Bool.true_and, Bool.and_self] at hbad hgood
          by_cases hl : 1 < p.length
          · have b8 : decide (((p.length : Nat) : Int) > 1) = true := decide_eq_true (by omega)
            have b9 : decide ((0 : Int) < ((p.length : Nat) : Int)) = true := decide_eq_true (by omega)
            rw [b8, b9]
            rw [decide_eq_true hl] at hbad hgood
            simp only [Bool.true_and, bif_t _ _ (Eq.refl true)] at hbad hgood ⊢
            cases h48 : (p.getD 0 0 == 48) with
            | true => rw [h48] at hbad; rw [bif_t _ _ rfl]; exact hbad rfl
            | false => rw [h48] at hgood; rw [bif_f _ _ rfl]; exact hgood rfl
          · have b8 : decide (((p.length : Nat) : Int) > 1) = false := decide_eq_false (by omega)
            rw [b8, bif_f _ _ rfl]
            rw [decide_eq_false hl] at hgood
            exact hgood rfl
        · rw [bif_t _ _ (decide_eq_true (by omega))]
          rw [decide_eq_false hv] at hbad
          exact hbad rfl
    · have b0 : decide ((k : Int) < 4) = false := decide_eq_false (by omega)
      rw [b0, bif_f _ _ rfl, List.drop_of_length_le (by omega)]
      rfl
theorem sp63 : spine 3 c63 = true := by kernel_rfl
theorem ha63 : headAt (filt an63 0) (tailC 3 c63) = some h63 := by kernel_rfl
theorem lp63 : startsR (tailC 3 c63) = true := by kernel_rfl
theorem id63 : idsOk (tailC 3 c63) = true := by kernel_rfl
theorem nl63 : nLoops (tailC 3 c63) = 1 := by kernel_rfl
theorem hh63 : (firstRegion (bodyN 0 (tailC 3 c63))).bind (filt an63 0) = some hL63 := by kernel_rfl
theorem fold4 (r : List Nat) (h : r.length = 4) : ((foldA 0 r : Nat) : Int) = ((((r.getD 0 0 : Nat) : Int) * 256 + ((r.getD 1 0 : Nat) : Int)) * 256 + ((r.getD 2 0 : Nat) : Int)) * 256 + ((r.getD 3 0 : Nat) : Int) := by
  match r, h with
  | [a, b, c, d], _ =>
    show ((((( 0 * 256 + a) * 256 + b) * 256 + c) * 256 + d : Nat) : Int) = (((a : Int) * 256 + (b : Int)) * 256 + (c : Int)) * 256 + (d : Int)
    omega
theorem g63 (hg : OnGlobals I ng) (h70 : Cw I ng 132 L70) : Kw I ng B63 := known_add (g56 hg h70) (contract_of an63 hg (hok_of (g56 hg h70)) fun cargs rv outs h => by
  unfold L63 at h
  split at h <;> first | (cases h; done) | skip
  rename_i s
  by_cases hs : s.size ≤ 10000
  · simp only [picked, pickAlt, decide_eq_true hs] at h
    cases h
    refine ⟨12000, ?_⟩
    rw [abody_eq rfl (by kernel_rfl)]
    show aexec Tryz.prog (call' B56) (filt an63 0) 12000 c63 (envOf Tryz.prog 90 [.c (.str s)]) [] (endOf Tryz.prog 90 []) = _
    rw [seg_a (k := 3) (by decide) sp63 ha63, ip63, decide_eq_true hs, sp_len]
    simp only [Bool.true_and, bif_t _ _ (Eq.refl true)]
    have e46 : Nat.toUInt8 46 = (46 : UInt8) := rfl
    rw [e46]
    unfold f4r f4 f4b fourP
    by_cases h4 : (splitL 46 s.data.toList).length = 4
    · have b : ((((splitL 46 s.data.toList).length : Nat) : Int) != 4) = false := by rw [h4]; rfl
      rw [b, bif_f _ _ rfl, if_pos h4]
      show aexecB Tryz.prog (call' B56) (filt an63 0) 12000 (tailC 3 c63) _ _ _ = _
      rw [loopB' lp63 id63 nl63 hh63]
      refine (iq63 (spS s 46) 12000 (R63 12000 12000)).trans ?_
      have hsz : ∀ p ∈ splitL 46 s.data.toList, p.length ≤ 10000 := fun p hp => by
        have := split_sz 46 _ p hp
        rw [data_len] at this; omega
      refine (lo63 12000 (splitL 46 s.data.toList) h4 hsz 12000 0 0 (by omega) (by omega) (by decide)).trans ?_
      rw [List.drop_zero]
      cases hq : (goF (splitL 46 s.data.toList)).2 with
      | false => rfl
      | true =>
        rw [if_pos rfl, if_pos rfl, fold4 _ (by rw [goF_all _ hq, h4])]
    · have b : ((((splitL 46 s.data.toList).length : Nat) : Int) != 4) = true := by
        rw [bne_iff_ne]; omega
      rw [b, bif_t _ _ rfl, if_neg h4]
      rfl
  · simp only [picked, pickAlt, decide_eq_false hs] at h; cases h)

/-! ### groups -/
theorem four4 {p : List UInt8} (h : (fourP (splitL 46 p)).2 = true) : (fourP (splitL 46 p)).1.length = 4 := by
  unfold fourP at h ⊢
  split at h
  · rename_i h4
    rw [if_pos h4, goF_all _ h, h4]
  · cases h
theorem list4 (r : List Nat) (h : r.length = 4) : [CV.int .u8 ((r.getD 0 0 : Nat) : Int), CV.int .u8 ((r.getD 1 0 : Nat) : Int), CV.int .u8 ((r.getD 2 0 : Nat) : Int), CV.int .u8 ((r.getD 3 0 : Nat) : Int)] = r.map byCV := by
  match r, h with
  | [a, b, c, d], _ => rfl
theorem rep2 {α : Type} (a b c : α) : ((List.replicate 2 a).set 0 b).set 1 c = [b, c] := rfl
def E72 (t : Bool) (ps : List (List UInt8)) (k : Nat) : Env := mkEnv 66 [(1, .c (.bool t)), (6, .rw 0 0), (7, .c (.sl false false 1 (ps.map strCV))), (18, .c (.sl false false 1 (ps.map strCV))), (19, .c (.int .i64 ((ps.length : Nat) : Int))), (20, .c (.int .i64 (k : Int)))]
def res72 (ys : List CV) : Option (List Nat) → Res
  | some r => some (.tup [.sl true false 1 (ys ++ r.map byCV), .bool true], [])
  | none => some (.tup [.nilsl, .bool false], [])
noncomputable abbrev R72 (n j : Nat) (env : Env) (H : Hp) : Res := rounds Tryz.prog (call' B63) (filt aL72 0) n hL72 (bodyN 0 (codeOf Tryz.prog 134)) j env H (restN Tryz.prog (call' B63) (filt aL72 0) n 0 (codeOf Tryz.prog 134) (endOf Tryz.prog 134 []))
theorem lo72 (n : Nat) (t : Bool) (ps : List (List UInt8)) (hl : ps.length ≤ 20000) (hsz : ∀ p ∈ ps, p.length ≤ 10000) : ∀ (j k : Nat) (ys : List CV), ps.length < j + k → k ≤ ps.length → ys.length ≤ 2 * k →
    R72 n j (E72 t ps k) [.row ys 1 0 false] = res72 ys (grL t (ps.drop k))
  | 0, k, ys, hj, hk, hd => by omega
  | j + 1, k, ys, hj, hk, hd => by
    unfold R72
    rw [E72, rounds_succ, ic72]
    simp only [natM, List.length_map, rep2]
    by_cases h1 : k < ps.length
    · have hp := xs_get ps k h1
      simp only [hp, el_get, el_len, el_okc, el_str, sizeM]
      have hsz1 := hsz _ (ps_mem h1)
      generalize hpe : ps.getD k [] = p at *
      have e1 : nOk (mkS p) 16 = numOk 16 p := rfl
      have e2 : nV (mkS p) 16 = numL 16 p := rfl
      have e3 : f4 (mkS p) = (fourP (splitL 46 p)).2 := rfl
      have e4 : ∀ i, f4b (mkS p) i = (((fourP (splitL 46 p)).1.getD i 0 : Nat) : Int) := fun _ => rfl
      rw [e1, e2, e3, e4, e4, e4, e4]
      have b1 : decide ((k : Int) < ((ps.length : Nat) : Int)) = true := decide_eq_true (by omega)
      have b2 : decide ((0 : Int) ≤ (k : Int)) = true := decide_eq_true (by omega)
      have b3 : decide (0 < 1) = true := rfl
      have b4 : decide (p.length ≤ 10000) = true := decide_eq_true hsz1
      have hw : IntKind.i64.wrap (((ps.length : Nat) : Int) - 1) = ((ps.length - 1 : Nat) : Int) := by rw [wrap_id (by omega) (by omega)]; omega
      rw [b1, b2, b3, b4, hw, wrp1 (i := k) (by omega), ps_drop h1, hpe]
      simp only [Bool.true_and, Bool.and_self, bif_t _ _ (Eq.refl true)]
      -- what comes of a group
      have grp : (t && ((ps.drop (k + 1)).isEmpty && (fourP (splitL 46 p)).2)) = false →
          (bif' (numOk 16 p && decide (((numL 16 p : Nat) : Int) < 65536)) (bif' (decide (((p.length : Nat) : Int) > 4)) (some (CV.tup [CV.nilsl, CV.bool false], [])) (bif' (decide ((ys.length + [CV.int IntKind.u8 (IntKind.u8.wrap (((numL 16 p : Nat) : Int).fdiv (2 ^ 8))), CV.int IntKind.u8 (IntKind.u8.wrap ((numL 16 p : Nat) : Int))].length) * 1 ≤ 70368744177664)) (R72 n j (E72 t ps (k + 1)) [.row (ys ++ [CV.int IntKind.u8 (IntKind.u8.wrap (((numL 16 p : Nat) : Int).fdiv (2 ^ 8))), CV.int IntKind.u8 (IntKind.u8.wrap ((numL 16 p : Nat) : Int))]) 1 0 false]) none)) (some (CV.tup [CV.nilsl, CV.bool false], []))) = res72 ys (grL t (p :: ps.drop (k + 1))) := by
        intro hno
        have e5 : grL t (p :: ps.drop (k + 1)) = if grpOk p then (match grL t (ps.drop (k + 1)) with
            | some r => some (numL 16 p / 256 :: numL 16 p % 256 :: r)
            | none => none) else none := by
          conv => lhs; unfold grL
          rw [hno, if_neg Bool.false_ne_true]
          all_goals (cases grL t (ps.drop (k + 1)) <;> rfl)
        rw [e5]
        unfold grpOk
        cases hn : numOk 16 p with
        | false => rfl
        | true =>
          by_cases hv : numL 16 p < 65536
          · rw [decide_eq_true hv, decide_eq_true (show ((numL 16 p : Nat) : Int) < 65536 by omega)]
            by_cases hlen : p.length ≤ 4
            · rw [decide_eq_true hlen, decide_eq_false (show ¬ (((p.length : Nat) : Int) > 4) by omega)]
              have b5 : decide ((ys.length + [CV.int IntKind.u8 (IntKind.u8.wrap (((numL 16 p : Nat) : Int).fdiv (2 ^ 8))), CV.int IntKind.u8 (IntKind.u8.wrap ((numL 16 p : Nat) : Int))].length) * 1 ≤ 70368744177664) = true := decide_eq_true (by simp only [List.length_cons, List.length_nil]; omega)
              rw [b5]
              simp only [Bool.and_self, bif_t _ _ (Eq.refl true), bif_f _ _ (Eq.refl false), if_true]
              have e6 : (((numL 16 p : Nat) : Int).fdiv (2 ^ 8)) = ((numL 16 p / 256 : Nat) : Int) := by
                rw [Int.fdiv_eq_ediv_of_nonneg _ (by decide)]
                have : (2 ^ 8 : Int) = ((256 : Nat) : Int) := by decide
                rw [this, ← Int.natCast_ediv]
              have e7 : IntKind.u8.wrap ((numL 16 p / 256 : Nat) : Int) = ((numL 16 p / 256 : Nat) : Int) := by rw [wrap8]; omega
              have e8 : IntKind.u8.wrap ((numL 16 p : Nat) : Int) = ((numL 16 p % 256 : Nat) : Int) := by rw [wrap8]; omega
              rw [e6, e7, e8]
              refine Eq.trans (lo72 n t ps hl hsz j (k + 1) _ (by omega) (by omega) (by rw [List.length_append]; simp only [List.length_cons, List.length_nil]; omega)) ?_
              cases grL t (ps.drop (k + 1)) with
              | none => rfl
              | some r =>
                unfold res72
                simp only [List.append_assoc]
                rfl
            · rw [decide_eq_false hlen, decide_eq_true (show (((p.length : Nat) : Int) > 4) by omega)]
              rfl
          · rw [decide_eq_false hv, decide_eq_false (show ¬ ((numL 16 p : Nat) : Int) < 65536 by omega)]
            rfl
      have hlast : (((k : Nat) : Int) == ((ps.length - 1 : Nat) : Int)) = (ps.drop (k + 1)).isEmpty := by
        rw [Bool.eq_iff_iff, beq_iff_eq, List.isEmpty_iff, List.drop_eq_nil_iff]; omega
      rw [hlast]
      cases h4 : (fourP (splitL 46 p)).2 with
      | false =>
        rw [bif_f _ _ rfl]
        rw [h4] at grp
        exact grp (by simp)
      | true =>
        rw [h4] at grp
        rw [bif_t _ _ rfl]
        cases t with
        | false => rw [bif_f _ _ rfl]; exact grp rfl
        | true =>
          rw [bif_t _ _ rfl]
          cases he : (ps.drop (k + 1)).isEmpty with
          | false =>
            rw [bif_f _ _ rfl]
            exact grp (by rw [he]; rfl)
          | true =>
            have hl4 := four4 h4
            have e6 : grL true (p :: ps.drop (k + 1)) = some (fourP (splitL 46 p)).1 := by
              unfold grL
              rw [he, h4]; rfl
            rw [e6, list4 _ hl4, List.drop_zero, List.take_of_length_le (by simp; omega), bif_t _ _ rfl]
            rw [bif_t _ _ (decide_eq_true (by simp; omega))]
            rfl
    · have b1 : decide ((k : Int) < ((ps.length : Nat) : Int)) = false := decide_eq_false (by omega)
      rw [b1, bif_f _ _ rfl, List.drop_of_length_le (by omega)]
      have e : grL t [] = some [] := by unfold grL; rfl
      rw [e]
      show _ = some (CV.tup [CV.sl true false 1 (ys ++ ([] : List Nat).map byCV), .bool true], [])
      rw [List.map_nil, List.append_nil]
theorem split_len (c : UInt8) : ∀ l : List UInt8, (splitL c l).length ≤ l.length + 1
  | [] => Nat.le_refl _
  | b :: t => by
    obtain ⟨q, qs, e⟩ := splitL_ne c t
    have ih := split_len c t
    unfold splitL
    split
    · simp only [List.length_cons]; omega
    · rw [e] at ih ⊢
      simp only [List.length_cons] at *; omega
theorem g72 (hg : OnGlobals I ng) (h70 : Cw I ng 132 L70) : Kw I ng B72 := known_add (g63 hg h70) (contract_of aL72 hg (hok_of (g63 hg h70)) fun cargs rv outs h => by
  unfold L72 at h
  split at h <;> first | (cases h; done) | skip
  rename_i s t
  refine ⟨22000, loop1 rfl (by kernel_rfl) (by kernel_rfl) (by kernel_rfl) (hd := hL72) (by kernel_rfl) ?_⟩
  by_cases hs : s.size ≤ 10000
  · refine (ib72 s t 22000 (R72 22000 22000)).trans ?_
    obtain ⟨l, rfl⟩ : ∃ l, s = mkS l := ⟨_, (mkS_bl s).symm⟩
    rw [sizeM] at hs
    have e : ((mkS l).toList == (ByteArray.mk #[]).toList) = decide (l.length = 0) := by
      rw [toList_data, toList_data, mkS_data]
      cases l <;> rfl
    have e2 : (spS (mkS l) 58) = (splitL 58 l).map strCV := rfl
    rw [e, sizeM, decide_eq_true hs, e2, List.length_map]
    simp only [picked, pickAlt, sizeM, decide_eq_true hs, Bool.true_and] at h
    by_cases h0 : l.length = 0
    · rw [decide_eq_true h0] at h ⊢
      cases h
      rfl
    · rw [decide_eq_false h0] at h ⊢
      rw [bif_f _ _ rfl, bif_t _ _ rfl]
      have hsz : ∀ p ∈ splitL 58 l, p.length ≤ 10000 := fun p hp => by
        have := split_sz 58 _ p hp; omega
      have hl := split_len 58 l
      refine Eq.trans (lo72 22000 t (splitL 58 l) (by omega) hsz 22000 0 [] (by omega) (by omega) (by simp)) ?_
      rw [List.drop_zero]
      unfold gOk gB at h
      simp only [dataM] at h
      cases hq : grL t (splitL 58 l) with
      | none => rw [hq] at h; cases h; rfl
      | some r => rw [hq] at h; cases h; rfl
  · simp only [picked, pickAlt, decide_eq_false hs, Bool.false_and] at h; cases h)

end Go.Pv

/- Addresses: six, Parse, the document's groups: specs and trees. -/
namespace Go.Pv
set_option linter.unusedVariables false
set_option maxRecDepth 100000
open Go Go.Proofs

/-- A text ahead of the first '::', and behind it. -/
def cutDD : List UInt8 → Option (List UInt8 × List UInt8)
  | [] => none
  | a :: t => if a = 58 ∧ t.head? = some 58 then some ([], t.drop 1) else match cutDD t with
    | some (h, r) => some (a :: h, r)
    | none => none
def ddG (s : ByteArray) : Bool := (cutDD s.data.toList).isSome
def ddH (s : ByteArray) : ByteArray := match cutDD s.data.toList with
  | some (h, _) => mkS h
  | none => s
def ddT (s : ByteArray) : ByteArray := match cutDD s.data.toList with
  | some (_, t) => mkS t
  | none => mkS []
def hasB (s : ByteArray) (c : UInt8) : Bool := s.data.toList.any fun b => decide (b = c)
def grpL (tail : Bool) (l : List UInt8) : Option (List Nat) := if l.isEmpty then some [] else grL tail (splitL 58 l)
def sixL (l : List UInt8) : Option (List Nat) := match cutDD l with
  | none => match grpL true l with
    | some a => if a.length = 16 then some a else none
    | none => none
  | some (h, t) => match grpL false h, grpL true t with
    | some a, some b => if a.length + b.length ≤ 16 then some (a ++ List.replicate (16 - a.length - b.length) 0 ++ b) else none
    | _, _ => none
def s6 (s : ByteArray) : Bool := (sixL s.data.toList).isSome
def s6b (s : ByteArray) (i : Nat) : Int := ((((sixL s.data.toList).getD []).getD i 0 : Nat) : Int)
def ip4 (s : ByteArray) : Bool := decide (s.size ≤ 64) && f4 s
def ip6 (s : ByteArray) : Bool := decide (s.size ≤ 64) && (!f4 s && (s6 s && hasB s 58))
def ipB (s : ByteArray) (i : Nat) : Int := if f4 s then (if i < 12 then 0 else f4b s (i - 12)) else s6b s i
/-- The document's groups; -1 stands for the gap. -/
def refG (all : List (List UInt8)) : Nat → Bool → List (List UInt8) → Option (List Int)
  | _, _, [] => some []
  | i, gap, p :: ps => if p = [] then
      if i = 0 ∨ ps = [] then
        if all.length < 3 ∨ (i = 0 ∧ all.getD 1 [] ≠ []) ∨ (0 < i ∧ all.getD (all.length - 2) [] ≠ []) then none else refG all (i + 1) gap ps
      else if gap then none else match refG all (i + 1) true ps with
        | some r => some (-1 :: r)
        | none => none
    else if (fourP (splitL 46 p)).2 = true ∧ ps = [] then some [f4r (mkS p) / 65536, f4r (mkS p) % 65536]
    else if numOk 16 p = true ∧ p.length ≤ 4 then match refG all (i + 1) gap ps with
      | some r => some (((numL 16 p : Nat) : Int) :: r)
      | none => none
    else none
def intCV (n : Int) : CV := .int .i64 n
def gROk (s : ByteArray) : Bool := (refG (splitL 58 s.data.toList) 0 false (splitL 58 s.data.toList)).isSome
def rB (s : ByteArray) : List CV := ((refG (splitL 58 s.data.toList) 0 false (splitL 58 s.data.toList)).getD []).map intCV
def L28d : Fn1 := fun x => match x with
  | [.str s, .str ⟨⟨[58, 58]⟩⟩] => some [(decide (s.size ≤ 10000), .tup [.str (ddH s), .str (ddT s), .bool (ddG s)], [])]
  | _ => none
def L60d : Fn1 := fun x => match x with
  | [.str s, .str ⟨⟨[c]⟩⟩] => some [(decide (s.size ≤ 10000), .int .i64 (Lib.indexByte s.data.toList c), [])]
  | _ => none
def L59d : Fn1 := fun x => match x with
  | [.str s, .str ⟨⟨[c]⟩⟩] => some [(decide (s.size ≤ 10000), .bool (hasB s c), [])]
  | _ => none
def L58 : Fn1 := fun x => match x with
  | [.str s] => some [(decide (s.size ≤ 10000), .tup [.agg [.int .u8 (s6b s 0), .int .u8 (s6b s 1), .int .u8 (s6b s 2), .int .u8 (s6b s 3), .int .u8 (s6b s 4), .int .u8 (s6b s 5), .int .u8 (s6b s 6), .int .u8 (s6b s 7), .int .u8 (s6b s 8), .int .u8 (s6b s 9), .int .u8 (s6b s 10), .int .u8 (s6b s 11), .int .u8 (s6b s 12), .int .u8 (s6b s 13), .int .u8 (s6b s 14), .int .u8 (s6b s 15)], .bool (s6 s)], [])]
  | _ => none
def ipZero : CV := .agg [.bool false, .int .u8 0, .int .u8 0, .int .u8 0, .int .u8 0, .int .u8 0, .int .u8 0, .int .u8 0, .int .u8 0, .int .u8 0, .int .u8 0, .int .u8 0, .int .u8 0, .int .u8 0, .int .u8 0, .int .u8 0, .int .u8 0]
def ipAgg (v : Bool) (s : ByteArray) : CV := .agg [.bool v, .int .u8 (ipB s 0), .int .u8 (ipB s 1), .int .u8 (ipB s 2), .int .u8 (ipB s 3), .int .u8 (ipB s 4), .int .u8 (ipB s 5), .int .u8 (ipB s 6), .int .u8 (ipB s 7), .int .u8 (ipB s 8), .int .u8 (ipB s 9), .int .u8 (ipB s 10), .int .u8 (ipB s 11), .int .u8 (ipB s 12), .int .u8 (ipB s 13), .int .u8 (ipB s 14), .int .u8 (ipB s 15)]
def L47 : Fn1 := fun x => match x with
  | [.str s] => some [(decide (s.size ≤ 3000) && ip6 s, .tup [ipAgg true s, .int .i64 0], []), (decide (s.size ≤ 3000) && ip4 s, .tup [ipAgg false s, .int .i64 0], []), (decide (s.size ≤ 3000), .tup [ipZero, .int .i64 5], [])]
  | _ => none
def L65 : Fn1 := fun x => match x with
  | [.str s] => some [(decide (s.size ≤ 10000) && gROk s, .tup [.sl true false 1 (rB s), .bool true], []), (decide (s.size ≤ 10000), .tup [.nilsl, .bool false], [])]
  | _ => none
def B28 : Table := fun g => if Nat.beq g 73 then L28d else B72 g
def B60 : Table := fun g => if Nat.beq g 118 then L60d else B28 g
def B73 : Table := fun g => if Nat.beq g 135 then L60d else B60 g
def B59 : Table := fun g => if Nat.beq g 117 then L59d else B73 g
def B58 : Table := fun g => if Nat.beq g 116 then L58 else B59 g
def B65 : Table := fun g => if Nat.beq g 92 then L65 else B58 g
def kA16 : Nat := 16 + 4294967296 * (78 + 1)
noncomputable def c58 : Code := codeOf Tryz.prog 116
def h58a : Head := ⟨[2, 4, 5, 6, 7], [], 2⟩
def h58b : Head := ⟨[2, 4, 6, 7, 8, 9], [(8, 1)], 2⟩
def h58c : Head := ⟨[2, 4, 7, 8, 9, 10, 11], [(8, 1), (10, 1)], 2⟩
def h58d : Head := ⟨[2, 4, 8, 10], [(8, 1), (10, 1)], 2⟩
def an58 : Ann := fun i => if Nat.beq i 500003 then some h58a else if Nat.beq i 500004 then some h58b else if Nat.beq i 500005 then some h58c else if Nat.beq i 500007 then some h58d else none
abbrev zA16 : AO := .box (.c (.agg [.int .u8 0, .int .u8 0, .int .u8 0, .int .u8 0, .int .u8 0, .int .u8 0, .int .u8 0, .int .u8 0, .int .u8 0, .int .u8 0, .int .u8 0, .int .u8 0, .int .u8 0, .int .u8 0, .int .u8 0, .int .u8 0])) kA16
def hL65 : Head := ⟨[4, 5, 6, 7], [(5, 1), (4, 1)], 0⟩
def aL65 : Ann := fun i => if Nat.beq i 5 then some hL65 else none
theorem iq60 (s : ByteArray) (c : UInt8) : abody Tryz.prog (call' B28) (fun _ => none) 1 118 [.str s, .str ⟨⟨[c]⟩⟩] =
 bif' ((ByteArray.mk (Array.mk [c])).toList == s.toList) (some (CV.int IntKind.i64 (Int.ofNat 0), [])) (some (CV.int IntKind.i64 (Lib.indexByte s.data.toList (byteAt (ByteArray.mk (Array.mk [c])) 0).toNat.toUInt8), [])) := by kernel_rfl
theorem iq73 (s : ByteArray) (c : UInt8) : abody Tryz.prog (call' B60) (fun _ => none) 1 135 [.str s, .str ⟨⟨[c]⟩⟩] =
 bif' (decide (s.size ≤ 10000)) (some (CV.int IntKind.i64 (Lib.indexByte s.data.toList c), [])) none := by kernel_rfl
theorem iq59 (s : ByteArray) (c : UInt8) : abody Tryz.prog (call' B73) (fun _ => none) 1 117 [.str s, .str ⟨⟨[c]⟩⟩] =
 bif' (decide (s.size ≤ 10000)) (some (CV.bool (decide (Lib.indexByte s.data.toList c ≥ 0)), [])) none := by kernel_rfl
theorem ip58 (s : ByteArray) (n : Nat) (L : Env → Hp → Res) : aexec Tryz.prog (call' B59) (filt an58 0) n (prefC 3 c58) (envOf Tryz.prog 116 [.c (.str s)]) [] (thenK (headK h58a L) (endOf Tryz.prog 116 [])) =
 bif' (decide (s.size ≤ 10000)) (L (mkEnv 68 [(2, PV.bptr 0 0), (4, PV.bptr 1 0), (5, PV.c (CV.str (ddH s))), (6, PV.c (CV.str (ddT s))), (7, PV.c (CV.bool (ddG s)))]) [AO.box (PV.c (CV.agg [CV.int IntKind.u8 (Int.ofNat 0), CV.int IntKind.u8 (Int.ofNat 0), CV.int IntKind.u8 (Int.ofNat 0), CV.int IntKind.u8 (Int.ofNat 0), CV.int IntKind.u8 (Int.ofNat 0), CV.int IntKind.u8 (Int.ofNat 0), CV.int IntKind.u8 (Int.ofNat 0), CV.int IntKind.u8 (Int.ofNat 0), CV.int IntKind.u8 (Int.ofNat 0), CV.int IntKind.u8 (Int.ofNat 0), CV.int IntKind.u8 (Int.ofNat 0), CV.int IntKind.u8 (Int.ofNat 0), CV.int IntKind.u8 (Int.ofNat 0), CV.int IntKind.u8 (Int.ofNat 0), CV.int IntKind.u8 (Int.ofNat 0), CV.int IntKind.u8 (Int.ofNat 0)])) kA16, AO.box (PV.c (CV.agg [CV.int IntKind.u8 (Int.ofNat 0), CV.int IntKind.u8 (Int.ofNat 0), CV.int IntKind.u8 (Int.ofNat 0), CV.int IntKind.u8 (Int.ofNat 0), CV.int IntKind.u8 (Int.ofNat 0), CV.int IntKind.u8 (Int.ofNat 0), CV.int IntKind.u8 (Int.ofNat 0), CV.int IntKind.u8 (Int.ofNat 0), CV.int IntKind.u8 (Int.ofNat 0), CV.int IntKind.u8 (Int.ofNat 0), CV.int IntKind.u8 (Int.ofNat 0), CV.int IntKind.u8 (Int.ofNat 0), CV.int IntKind.u8 (Int.ofNat 0), CV.int IntKind.u8 (Int.ofNat 0), CV.int IntKind.u8 (Int.ofNat 0), CV.int IntKind.u8 (Int.ofNat 0)])) kA16]) none := by kernel_rfl
theorem iq58 (h t : ByteArray) (g : Bool) (n : Nat) (L : Env → Hp → Res) : aexecB Tryz.prog (call' B59) (filt an58 0) n (prefC 1 (tailC 3 c58)) (mkEnv 68 [(2, .bptr 0 0), (4, .bptr 1 0), (5, .c (.str h)), (6, .c (.str t)), (7, .c (.bool g))]) [zA16, zA16] (thenK (headK h58b L) (endOf Tryz.prog 116 [])) =
 bif' (decide (h.size ≤ 10000) && decide (h.size = 0)) (L (mkEnv 68 [(2, PV.bptr 0 0), (4, PV.bptr 1 0), (6, PV.c (CV.str t)), (7, PV.c (CV.bool g)), (8, PV.rw 2 0), (9, PV.c (CV.bool true))]) [AO.box (PV.c (CV.agg [CV.int IntKind.u8 (Int.ofNat 0), CV.int IntKind.u8 (Int.ofNat 0), CV.int IntKind.u8 (Int.ofNat 0), CV.int IntKind.u8 (Int.ofNat 0), CV.int IntKind.u8 (Int.ofNat 0), CV.int IntKind.u8 (Int.ofNat 0), CV.int IntKind.u8 (Int.ofNat 0), CV.int IntKind.u8 (Int.ofNat 0), CV.int IntKind.u8 (Int.ofNat 0), CV.int IntKind.u8 (Int.ofNat 0), CV.int IntKind.u8 (Int.ofNat 0), CV.int IntKind.u8 (Int.ofNat 0), CV.int IntKind.u8 (Int.ofNat 0), CV.int IntKind.u8 (Int.ofNat 0), CV.int IntKind.u8 (Int.ofNat 0), CV.int IntKind.u8 (Int.ofNat 0)])) kA16, AO.box (PV.c (CV.agg [CV.int IntKind.u8 (Int.ofNat 0), CV.int IntKind.u8 (Int.ofNat 0), CV.int IntKind.u8 (Int.ofNat 0), CV.int IntKind.u8 (Int.ofNat 0), CV.int IntKind.u8 (Int.ofNat 0), CV.int IntKind.u8 (Int.ofNat 0), CV.int IntKind.u8 (Int.ofNat 0), CV.int IntKind.u8 (Int.ofNat 0), CV.int IntKind.u8 (Int.ofNat 0), CV.int IntKind.u8 (Int.ofNat 0), CV.int IntKind.u8 (Int.ofNat 0), CV.int IntKind.u8 (Int.ofNat 0), CV.int IntKind.u8 (Int.ofNat 0), CV.int IntKind.u8 (Int.ofNat 0), CV.int IntKind.u8 (Int.ofNat 0), CV.int IntKind.u8 (Int.ofNat 0)])) kA16, AO.row [] 1 0 false]) (bif' (decide (h.size ≤ 10000) && gOk h !g) (L (mkEnv 68 [(2, PV.bptr 0 0), (4, PV.bptr 1 0), (6, PV.c (CV.str t)), (7, PV.c (CV.bool g)), (8, PV.rw 2 0), (9, PV.c (CV.bool true))]) [AO.box (PV.c (CV.agg [CV.int IntKind.u8 (Int.ofNat 0), CV.int IntKind.u8 (Int.ofNat 0), CV.int IntKind.u8 (Int.ofNat 0), CV.int IntKind.u8 (Int.ofNat 0), CV.int IntKind.u8 (Int.ofNat 0), CV.int IntKind.u8 (Int.ofNat 0), CV.int IntKind.u8 (Int.ofNat 0), CV.int IntKind.u8 (Int.ofNat 0), CV.int IntKind.u8 (Int.ofNat 0), CV.int IntKind.u8 (Int.ofNat 0), CV.int IntKind.u8 (Int.ofNat 0), CV.int IntKind.u8 (Int.ofNat 0), CV.int IntKind.u8 (Int.ofNat 0), CV.int IntKind.u8 (Int.ofNat 0), CV.int IntKind.u8 (Int.ofNat 0), CV.int IntKind.u8 (Int.ofNat 0)])) kA16, AO.box (PV.c (CV.agg [CV.int IntKind.u8 (Int.ofNat 0), CV.int IntKind.u8 (Int.ofNat 0), CV.int IntKind.u8 (Int.ofNat 0), CV.int IntKind.u8 (Int.ofNat 0), CV.int IntKind.u8 (Int.ofNat 0), CV.int IntKind.u8 (Int.ofNat 0), CV.int IntKind.u8 (Int.ofNat 0), CV.int IntKind.u8 (Int.ofNat 0), CV.int IntKind.u8 (Int.ofNat 0), CV.int IntKind.u8 (Int.ofNat 0), CV.int IntKind.u8 (Int.ofNat 0), CV.int IntKind.u8 (Int.ofNat 0), CV.int IntKind.u8 (Int.ofNat 0), CV.int IntKind.u8 (Int.ofNat 0), CV.int IntKind.u8 (Int.ofNat 0), CV.int IntKind.u8 (Int.ofNat 0)])) kA16, AO.row (gB h !g) 1 0 false]) (bif' (decide (h.size ≤ 10000)) (L (mkEnv 68 [(2, PV.bptr 0 0), (4, PV.bptr 1 0), (6, PV.c (CV.str t)), (7, PV.c (CV.bool g)), (8, PV.rw 2 0), (9, PV.c (CV.bool false))]) [AO.box (PV.c (CV.agg [CV.int IntKind.u8 (Int.ofNat 0), CV.int IntKind.u8 (Int.ofNat 0), CV.int IntKind.u8 (Int.ofNat 0), CV.int IntKind.u8 (Int.ofNat 0), CV.int IntKind.u8 (Int.ofNat 0), CV.int IntKind.u8 (Int.ofNat 0), CV.int IntKind.u8 (Int.ofNat 0), CV.int IntKind.u8 (Int.ofNat 0), CV.int IntKind.u8 (Int.ofNat 0), CV.int IntKind.u8 (Int.ofNat 0), CV.int IntKind.u8 (Int.ofNat 0), CV.int IntKind.u8 (Int.ofNat 0), CV.int IntKind.u8 (Int.ofNat 0), CV.int IntKind.u8 (Int.ofNat 0), CV.int IntKind.u8 (Int.ofNat 0), CV.int IntKind.u8 (Int.ofNat 0)])) kA16, AO.box (PV.c (CV.agg [CV.int IntKind.u8 (Int.ofNat 0), CV.int IntKind.u8 (Int.ofNat 0), CV.int IntKind.u8 (Int.ofNat 0), CV.int IntKind.u8 (Int.ofNat 0), CV.int IntKind.u8 (Int.ofNat 0), CV.int IntKind.u8 (Int.ofNat 0), CV.int IntKind.u8 (Int.ofNat 0), CV.int IntKind.u8 (Int.ofNat 0), CV.int IntKind.u8 (Int.ofNat 0), CV.int IntKind.u8 (Int.ofNat 0), CV.int IntKind.u8 (Int.ofNat 0), CV.int IntKind.u8 (Int.ofNat 0), CV.int IntKind.u8 (Int.ofNat 0), CV.int IntKind.u8 (Int.ofNat 0), CV.int IntKind.u8 (Int.ofNat 0), CV.int IntKind.u8 (Int.ofNat 0)])) kA16, AO.row [] 1 0 false]) none)) := by kernel_rfl
theorem ir58 (t : ByteArray) (g a : Bool) (xs : List CV) (n : Nat) (L : Env → Hp → Res) : aexecB Tryz.prog (call' B59) (filt an58 0) n (prefC 1 (tailC 4 c58)) (mkEnv 68 [(2, .bptr 0 0), (4, .bptr 1 0), (6, .c (.str t)), (7, .c (.bool g)), (8, .rw 2 0), (9, .c (.bool a))]) [zA16, zA16, .row xs 1 0 false] (thenK (headK h58c L) (endOf Tryz.prog 116 [])) =
 bif' (decide (t.size ≤ 10000) && decide (t.size = 0)) (L (mkEnv 68 [(2, PV.bptr 0 0), (4, PV.bptr 1 0), (7, PV.c (CV.bool g)), (8, PV.rw 2 0), (9, PV.c (CV.bool a)), (10, PV.rw 3 0), (11, PV.c (CV.bool true))]) [AO.box (PV.c (CV.agg [CV.int IntKind.u8 (Int.ofNat 0), CV.int IntKind.u8 (Int.ofNat 0), CV.int IntKind.u8 (Int.ofNat 0), CV.int IntKind.u8 (Int.ofNat 0), CV.int IntKind.u8 (Int.ofNat 0), CV.int IntKind.u8 (Int.ofNat 0), CV.int IntKind.u8 (Int.ofNat 0), CV.int IntKind.u8 (Int.ofNat 0), CV.int IntKind.u8 (Int.ofNat 0), CV.int IntKind.u8 (Int.ofNat 0), CV.int IntKind.u8 (Int.ofNat 0), CV.int IntKind.u8 (Int.ofNat 0), CV.int IntKind.u8 (Int.ofNat 0), CV.int IntKind.u8 (Int.ofNat 0), CV.int IntKind.u8 (Int.ofNat 0), CV.int IntKind.u8 (Int.ofNat 0)])) kA16, AO.box (PV.c (CV.agg [CV.int IntKind.u8 (Int.ofNat 0), CV.int IntKind.u8 (Int.ofNat 0), CV.int IntKind.u8 (Int.ofNat 0), CV.int IntKind.u8 (Int.ofNat 0), CV.int IntKind.u8 (Int.ofNat 0), CV.int IntKind.u8 (Int.ofNat 0), CV.int IntKind.u8 (Int.ofNat 0), CV.int IntKind.u8 (Int.ofNat 0), CV.int IntKind.u8 (Int.ofNat 0), CV.int IntKind.u8 (Int.ofNat 0), CV.int IntKind.u8 (Int.ofNat 0), CV.int IntKind.u8 (Int.ofNat 0), CV.int IntKind.u8 (Int.ofNat 0), CV.int IntKind.u8 (Int.ofNat 0), CV.int IntKind.u8 (Int.ofNat 0), CV.int IntKind.u8 (Int.ofNat 0)])) kA16, AO.row xs 1 0 false, AO.row [] 1 0 false]) (bif' (decide (t.size ≤ 10000) && gOk t true) (L (mkEnv 68 [(2, PV.bptr 0 0), (4, PV.bptr 1 0), (7, PV.c (CV.bool g)), (8, PV.rw 2 0), (9, PV.c (CV.bool a)), (10, PV.rw 3 0), (11, PV.c (CV.bool true))]) [AO.box (PV.c (CV.agg [CV.int IntKind.u8 (Int.ofNat 0), CV.int IntKind.u8 (Int.ofNat 0), CV.int IntKind.u8 (Int.ofNat 0), CV.int IntKind.u8 (Int.ofNat 0), CV.int IntKind.u8 (Int.ofNat 0), CV.int IntKind.u8 (Int.ofNat 0), CV.int IntKind.u8 (Int.ofNat 0), CV.int IntKind.u8 (Int.ofNat 0), CV.int IntKind.u8 (Int.ofNat 0), CV.int IntKind.u8 (Int.ofNat 0), CV.int IntKind.u8 (Int.ofNat 0), CV.int IntKind.u8 (Int.ofNat 0), CV.int IntKind.u8 (Int.ofNat 0), CV.int IntKind.u8 (Int.ofNat 0), CV.int IntKind.u8 (Int.ofNat 0), CV.int IntKind.u8 (Int.ofNat 0)])) kA16, AO.box (PV.c (CV.agg [CV.int IntKind.u8 (Int.ofNat 0), CV.int IntKind.u8 (Int.ofNat 0), CV.int IntKind.u8 (Int.ofNat 0), CV.int IntKind.u8 (Int.ofNat 0), CV.int IntKind.u8 (Int.ofNat 0), CV.int IntKind.u8 (Int.ofNat 0), CV.int IntKind.u8 (Int.ofNat 0), CV.int IntKind.u8 (Int.ofNat 0), CV.int IntKind.u8 (Int.ofNat 0), CV.int IntKind.u8 (Int.ofNat 0), CV.int IntKind.u8 (Int.ofNat 0), CV.int IntKind.u8 (Int.ofNat 0), CV.int IntKind.u8 (Int.ofNat 0), CV.int IntKind.u8 (Int.ofNat 0), CV.int IntKind.u8 (Int.ofNat 0), CV.int IntKind.u8 (Int.ofNat 0)])) kA16, AO.row xs 1 0 false, AO.row (gB t true) 1 0 false]) (bif' (decide (t.size ≤ 10000)) (L (mkEnv 68 [(2, PV.bptr 0 0), (4, PV.bptr 1 0), (7, PV.c (CV.bool g)), (8, PV.rw 2 0), (9, PV.c (CV.bool a)), (10, PV.rw 3 0), (11, PV.c (CV.bool false))]) [AO.box (PV.c (CV.agg [CV.int IntKind.u8 (Int.ofNat 0), CV.int IntKind.u8 (Int.ofNat 0), CV.int IntKind.u8 (Int.ofNat 0), CV.int IntKind.u8 (Int.ofNat 0), CV.int IntKind.u8 (Int.ofNat 0), CV.int IntKind.u8 (Int.ofNat 0), CV.int IntKind.u8 (Int.ofNat 0), CV.int IntKind.u8 (Int.ofNat 0), CV.int IntKind.u8 (Int.ofNat 0), CV.int IntKind.u8 (Int.ofNat 0), CV.int IntKind.u8 (Int.ofNat 0), CV.int IntKind.u8 (Int.ofNat 0), CV.int IntKind.u8 (Int.ofNat 0), CV.int IntKind.u8 (Int.ofNat 0), CV.int IntKind.u8 (Int.ofNat 0), CV.int IntKind.u8 (Int.ofNat 0)])) kA16, AO.box (PV.c (CV.agg [CV.int IntKind.u8 (Int.ofNat 0), CV.int IntKind.u8 (Int.ofNat 0), CV.int IntKind.u8 (Int.ofNat 0), CV.int IntKind.u8 (Int.ofNat 0), CV.int IntKind.u8 (Int.ofNat 0), CV.int IntKind.u8 (Int.ofNat 0), CV.int IntKind.u8 (Int.ofNat 0), CV.int IntKind.u8 (Int.ofNat 0), CV.int IntKind.u8 (Int.ofNat 0), CV.int IntKind.u8 (Int.ofNat 0), CV.int IntKind.u8 (Int.ofNat 0), CV.int IntKind.u8 (Int.ofNat 0), CV.int IntKind.u8 (Int.ofNat 0), CV.int IntKind.u8 (Int.ofNat 0), CV.int IntKind.u8 (Int.ofNat 0), CV.int IntKind.u8 (Int.ofNat 0)])) kA16, AO.row xs 1 0 false, AO.row [] 1 0 false]) none)) := by kernel_rfl
theorem is58 (g a b : Bool) (xs ys : List CV) (n : Nat) (L : Env → Hp → Res) : aexecB Tryz.prog (call' B59) (filt an58 0) n (prefC 1 (tailC 5 c58)) (mkEnv 68 [(2, .bptr 0 0), (4, .bptr 1 0), (7, .c (.bool g)), (8, .rw 2 0), (9, .c (.bool a)), (10, .rw 3 0), (11, .c (.bool b))]) [zA16, zA16, .row xs 1 0 false, .row ys 1 0 false] (thenK (headK h58d L) (endOf Tryz.prog 116 [])) =
 bif' (!a) (some (CV.tup [CV.agg [CV.int IntKind.u8 (Int.ofNat 0), CV.int IntKind.u8 (Int.ofNat 0), CV.int IntKind.u8 (Int.ofNat 0), CV.int IntKind.u8 (Int.ofNat 0), CV.int IntKind.u8 (Int.ofNat 0), CV.int IntKind.u8 (Int.ofNat 0), CV.int IntKind.u8 (Int.ofNat 0), CV.int IntKind.u8 (Int.ofNat 0), CV.int IntKind.u8 (Int.ofNat 0), CV.int IntKind.u8 (Int.ofNat 0), CV.int IntKind.u8 (Int.ofNat 0), CV.int IntKind.u8 (Int.ofNat 0), CV.int IntKind.u8 (Int.ofNat 0), CV.int IntKind.u8 (Int.ofNat 0), CV.int IntKind.u8 (Int.ofNat 0), CV.int IntKind.u8 (Int.ofNat 0)], CV.bool false], [])) (bif' (!b) (some (CV.tup [CV.agg [CV.int IntKind.u8 (Int.ofNat 0), CV.int IntKind.u8 (Int.ofNat 0), CV.int IntKind.u8 (Int.ofNat 0), CV.int IntKind.u8 (Int.ofNat 0), CV.int IntKind.u8 (Int.ofNat 0), CV.int IntKind.u8 (Int.ofNat 0), CV.int IntKind.u8 (Int.ofNat 0), CV.int IntKind.u8 (Int.ofNat 0), CV.int IntKind.u8 (Int.ofNat 0), CV.int IntKind.u8 (Int.ofNat 0), CV.int IntKind.u8 (Int.ofNat 0), CV.int IntKind.u8 (Int.ofNat 0), CV.int IntKind.u8 (Int.ofNat 0), CV.int IntKind.u8 (Int.ofNat 0), CV.int IntKind.u8 (Int.ofNat 0), CV.int IntKind.u8 (Int.ofNat 0)], CV.bool false], [])) (bif' (!g) (bif' ((↑xs.length : Int) != 16) (some (CV.tup [CV.agg [CV.int IntKind.u8 (Int.ofNat 0), CV.int IntKind.u8 (Int.ofNat 0), CV.int IntKind.u8 (Int.ofNat 0), CV.int IntKind.u8 (Int.ofNat 0), CV.int IntKind.u8 (Int.ofNat 0), CV.int IntKind.u8 (Int.ofNat 0), CV.int IntKind.u8 (Int.ofNat 0), CV.int IntKind.u8 (Int.ofNat 0), CV.int IntKind.u8 (Int.ofNat 0), CV.int IntKind.u8 (Int.ofNat 0), CV.int IntKind.u8 (Int.ofNat 0), CV.int IntKind.u8 (Int.ofNat 0), CV.int IntKind.u8 (Int.ofNat 0), CV.int IntKind.u8 (Int.ofNat 0), CV.int IntKind.u8 (Int.ofNat 0), CV.int IntKind.u8 (Int.ofNat 0)], CV.bool false], [])) (bif' g (bif' (decide (IntKind.i64.wrap ((↑xs.length : Int) + (↑ys.length : Int)) > 16)) (some (CV.tup [CV.agg [CV.int IntKind.u8 (Int.ofNat 0), CV.int IntKind.u8 (Int.ofNat 0), CV.int IntKind.u8 (Int.ofNat 0), CV.int IntKind.u8 (Int.ofNat 0), CV.int IntKind.u8 (Int.ofNat 0), CV.int IntKind.u8 (Int.ofNat 0), CV.int IntKind.u8 (Int.ofNat 0), CV.int IntKind.u8 (Int.ofNat 0), CV.int IntKind.u8 (Int.ofNat 0), CV.int IntKind.u8 (Int.ofNat 0), CV.int IntKind.u8 (Int.ofNat 0), CV.int IntKind.u8 (Int.ofNat 0), CV.int IntKind.u8 (Int.ofNat 0), CV.int IntKind.u8 (Int.ofNat 0), CV.int IntKind.u8 (Int.ofNat 0), CV.int IntKind.u8 (Int.ofNat 0)], CV.bool false], [])) (L (mkEnv 68 [(2, PV.bptr 0 0), (4, PV.bptr 1 0), (8, PV.rw 2 0), (10, PV.rw 3 0)]) [AO.box (PV.c (CV.agg [CV.int IntKind.u8 (Int.ofNat 0), CV.int IntKind.u8 (Int.ofNat 0), CV.int IntKind.u8 (Int.ofNat 0), CV.int IntKind.u8 (Int.ofNat 0), CV.int IntKind.u8 (Int.ofNat 0), CV.int IntKind.u8 (Int.ofNat 0), CV.int IntKind.u8 (Int.ofNat 0), CV.int IntKind.u8 (Int.ofNat 0), CV.int IntKind.u8 (Int.ofNat 0), CV.int IntKind.u8 (Int.ofNat 0), CV.int IntKind.u8 (Int.ofNat 0), CV.int IntKind.u8 (Int.ofNat 0), CV.int IntKind.u8 (Int.ofNat 0), CV.int IntKind.u8 (Int.ofNat 0), CV.int IntKind.u8 (Int.ofNat 0), CV.int IntKind.u8 (Int.ofNat 0)])) kA16, AO.box (PV.c (CV.agg [CV.int IntKind.u8 (Int.ofNat 0), CV.int IntKind.u8 (Int.ofNat 0), CV.int IntKind.u8 (Int.ofNat 0), CV.int IntKind.u8 (Int.ofNat 0), CV.int IntKind.u8 (Int.ofNat 0), CV.int IntKind.u8 (Int.ofNat 0), CV.int IntKind.u8 (Int.ofNat 0), CV.int IntKind.u8 (Int.ofNat 0), CV.int IntKind.u8 (Int.ofNat 0), CV.int IntKind.u8 (Int.ofNat 0), CV.int IntKind.u8 (Int.ofNat 0), CV.int IntKind.u8 (Int.ofNat 0), CV.int IntKind.u8 (Int.ofNat 0), CV.int IntKind.u8 (Int.ofNat 0), CV.int IntKind.u8 (Int.ofNat 0), CV.int IntKind.u8 (Int.ofNat 0)])) kA16, AO.row xs 1 0 false, AO.row ys 1 0 false])) (L (mkEnv 68 [(2, PV.bptr 0 0), (4, PV.bptr 1 0), (8, PV.rw 2 0), (10, PV.rw 3 0)]) [AO.box (PV.c (CV.agg [CV.int IntKind.u8 (Int.ofNat 0), CV.int IntKind.u8 (Int.ofNat 0), CV.int IntKind.u8 (Int.ofNat 0), CV.int IntKind.u8 (Int.ofNat 0), CV.int IntKind.u8 (Int.ofNat 0), CV.int IntKind.u8 (Int.ofNat 0), CV.int IntKind.u8 (Int.ofNat 0), CV.int IntKind.u8 (Int.ofNat 0), CV.int IntKind.u8 (Int.ofNat 0), CV.int IntKind.u8 (Int.ofNat 0), CV.int IntKind.u8 (Int.ofNat 0), CV.int IntKind.u8 (Int.ofNat 0), CV.int IntKind.u8 (Int.ofNat 0), CV.int IntKind.u8 (Int.ofNat 0), CV.int IntKind.u8 (Int.ofNat 0), CV.int IntKind.u8 (Int.ofNat 0)])) kA16, AO.box (PV.c (CV.agg [CV.int IntKind.u8 (Int.ofNat 0), CV.int IntKind.u8 (Int.ofNat 0), CV.int IntKind.u8 (Int.ofNat 0), CV.int IntKind.u8 (Int.ofNat 0), CV.int IntKind.u8 (Int.ofNat 0), CV.int IntKind.u8 (Int.ofNat 0), CV.int IntKind.u8 (Int.ofNat 0), CV.int IntKind.u8 (Int.ofNat 0), CV.int IntKind.u8 (Int.ofNat 0), CV.int IntKind.u8 (Int.ofNat 0), CV.int IntKind.u8 (Int.ofNat 0), CV.int IntKind.u8 (Int.ofNat 0), CV.int IntKind.u8 (Int.ofNat 0), CV.int IntKind.u8 (Int.ofNat 0), CV.int IntKind.u8 (Int.ofNat 0), CV.int IntKind.u8 (Int.ofNat 0)])) kA16, AO.row xs 1 0 false, AO.row ys 1 0 false]))) (bif' g (bif' (decide (IntKind.i64.wrap ((↑xs.length : Int) + (↑ys.length : Int)) > 16)) (some (CV.tup [CV.agg [CV.int IntKind.u8 (Int.ofNat 0), CV.int IntKind.u8 (Int.ofNat 0), CV.int IntKind.u8 (Int.ofNat 0), CV.int IntKind.u8 (Int.ofNat 0), CV.int IntKind.u8 (Int.ofNat 0), CV.int IntKind.u8 (Int.ofNat 0), CV.int IntKind.u8 (Int.ofNat 0), CV.int IntKind.u8 (Int.ofNat 0), CV.int IntKind.u8 (Int.ofNat 0), CV.int IntKind.u8 (Int.ofNat 0), CV.int IntKind.u8 (Int.ofNat 0), CV.int IntKind.u8 (Int.ofNat 0), CV.int IntKind.u8 (Int.ofNat 0), CV.int IntKind.u8 (Int.ofNat 0), CV.int IntKind.u8 (Int.ofNat 0), CV.int IntKind.u8 (Int.ofNat 0)], CV.bool false], [])) (L (mkEnv 68 [(2, PV.bptr 0 0), (4, PV.bptr 1 0), (8, PV.rw 2 0), (10, PV.rw 3 0)]) [AO.box (PV.c (CV.agg [CV.int IntKind.u8 (Int.ofNat 0), CV.int IntKind.u8 (Int.ofNat 0), CV.int IntKind.u8 (Int.ofNat 0), CV.int IntKind.u8 (Int.ofNat 0), CV.int IntKind.u8 (Int.ofNat 0), CV.int IntKind.u8 (Int.ofNat 0), CV.int IntKind.u8 (Int.ofNat 0), CV.int IntKind.u8 (Int.ofNat 0), CV.int IntKind.u8 (Int.ofNat 0), CV.int IntKind.u8 (Int.ofNat 0), CV.int IntKind.u8 (Int.ofNat 0), CV.int IntKind.u8 (Int.ofNat 0), CV.int IntKind.u8 (Int.ofNat 0), CV.int IntKind.u8 (Int.ofNat 0), CV.int IntKind.u8 (Int.ofNat 0), CV.int IntKind.u8 (Int.ofNat 0)])) kA16, AO.box (PV.c (CV.agg [CV.int IntKind.u8 (Int.ofNat 0), CV.int IntKind.u8 (Int.ofNat 0), CV.int IntKind.u8 (Int.ofNat 0), CV.int IntKind.u8 (Int.ofNat 0), CV.int IntKind.u8 (Int.ofNat 0), CV.int IntKind.u8 (Int.ofNat 0), CV.int IntKind.u8 (Int.ofNat 0), CV.int IntKind.u8 (Int.ofNat 0), CV.int IntKind.u8 (Int.ofNat 0), CV.int IntKind.u8 (Int.ofNat 0), CV.int IntKind.u8 (Int.ofNat 0), CV.int IntKind.u8 (Int.ofNat 0), CV.int IntKind.u8 (Int.ofNat 0), CV.int IntKind.u8 (Int.ofNat 0), CV.int IntKind.u8 (Int.ofNat 0), CV.int IntKind.u8 (Int.ofNat 0)])) kA16, AO.row xs 1 0 false, AO.row ys 1 0 false])) (L (mkEnv 68 [(2, PV.bptr 0 0), (4, PV.bptr 1 0), (8, PV.rw 2 0), (10, PV.rw 3 0)]) [AO.box (PV.c (CV.agg [CV.int IntKind.u8 (Int.ofNat 0), CV.int IntKind.u8 (Int.ofNat 0), CV.int IntKind.u8 (Int.ofNat 0), CV.int IntKind.u8 (Int.ofNat 0), CV.int IntKind.u8 (Int.ofNat 0), CV.int IntKind.u8 (Int.ofNat 0), CV.int IntKind.u8 (Int.ofNat 0), CV.int IntKind.u8 (Int.ofNat 0), CV.int IntKind.u8 (Int.ofNat 0), CV.int IntKind.u8 (Int.ofNat 0), CV.int IntKind.u8 (Int.ofNat 0), CV.int IntKind.u8 (Int.ofNat 0), CV.int IntKind.u8 (Int.ofNat 0), CV.int IntKind.u8 (Int.ofNat 0), CV.int IntKind.u8 (Int.ofNat 0), CV.int IntKind.u8 (Int.ofNat 0)])) kA16, AO.box (PV.c (CV.agg [CV.int IntKind.u8 (Int.ofNat 0), CV.int IntKind.u8 (Int.ofNat 0), CV.int IntKind.u8 (Int.ofNat 0), CV.int IntKind.u8 (Int.ofNat 0), CV.int IntKind.u8 (Int.ofNat 0), CV.int IntKind.u8 (Int.ofNat 0), CV.int IntKind.u8 (Int.ofNat 0), CV.int IntKind.u8 (Int.ofNat 0), CV.int IntKind.u8 (Int.ofNat 0), CV.int IntKind.u8 (Int.ofNat 0), CV.int IntKind.u8 (Int.ofNat 0), CV.int IntKind.u8 (Int.ofNat 0), CV.int IntKind.u8 (Int.ofNat 0), CV.int IntKind.u8 (Int.ofNat 0), CV.int IntKind.u8 (Int.ofNat 0), CV.int IntKind.u8 (Int.ofNat 0)])) kA16, AO.row xs 1 0 false, AO.row ys 1 0 false])))) := by kernel_rfl
theorem it58 (xs ys : List CV) (n : Nat) : aexecB Tryz.prog (call' B59) (filt an58 0) n (tailC 6 c58) (mkEnv 68 [(2, .bptr 0 0), (4, .bptr 1 0), (8, .rw 2 0), (10, .rw 3 0)]) [zA16, zA16, .row xs 1 0 false, .row ys 1 0 false] (endOf Tryz.prog 116 []) =
 bif' (decide (0 ≤ IntKind.i64.wrap (16 - (↑ys.length : Int)))) (bif' (decide (IntKind.i64.wrap (16 - (↑ys.length : Int)) ≤ (↑16 : Int))) (bif' (decide (0 + (IntKind.i64.wrap (16 - (↑ys.length : Int))).toNat + (16 - (IntKind.i64.wrap (16 - (↑ys.length : Int))).toNat) ≤ (setRange [CV.int IntKind.u8 0, CV.int IntKind.u8 0, CV.int IntKind.u8 0, CV.int IntKind.u8 0, CV.int IntKind.u8 0, CV.int IntKind.u8 0, CV.int IntKind.u8 0, CV.int IntKind.u8 0, CV.int IntKind.u8 0, CV.int IntKind.u8 0, CV.int IntKind.u8 0, CV.int IntKind.u8 0, CV.int IntKind.u8 0, CV.int IntKind.u8 0, CV.int IntKind.u8 0, CV.int IntKind.u8 0] 0 (elemCells' (List.take 16 xs))).length)) (bif' (16 == (CV.agg (setRange (setRange [CV.int IntKind.u8 0, CV.int IntKind.u8 0, CV.int IntKind.u8 0, CV.int IntKind.u8 0, CV.int IntKind.u8 0, CV.int IntKind.u8 0, CV.int IntKind.u8 0, CV.int IntKind.u8 0, CV.int IntKind.u8 0, CV.int IntKind.u8 0, CV.int IntKind.u8 0, CV.int IntKind.u8 0, CV.int IntKind.u8 0, CV.int IntKind.u8 0, CV.int IntKind.u8 0, CV.int IntKind.u8 0] 0 (elemCells' (List.take 16 xs))) (0 + (IntKind.i64.wrap (16 - (↑ys.length : Int))).toNat) (elemCells' (List.take (16 - (IntKind.i64.wrap (16 - (↑ys.length : Int))).toNat) ys)))).cl.length) (some (CV.tup [CV.agg (setRange (setRange [CV.int IntKind.u8 0, CV.int IntKind.u8 0, CV.int IntKind.u8 0, CV.int IntKind.u8 0, CV.int IntKind.u8 0, CV.int IntKind.u8 0, CV.int IntKind.u8 0, CV.int IntKind.u8 0, CV.int IntKind.u8 0, CV.int IntKind.u8 0, CV.int IntKind.u8 0, CV.int IntKind.u8 0, CV.int IntKind.u8 0, CV.int IntKind.u8 0, CV.int IntKind.u8 0, CV.int IntKind.u8 0] 0 (elemCells' (List.take 16 xs))) (0 + (IntKind.i64.wrap (16 - (↑ys.length : Int))).toNat) (elemCells' (List.take (16 - (IntKind.i64.wrap (16 - (↑ys.length : Int))).toNat) ys))), CV.bool true], [])) none) none) none) none := by kernel_rfl
theorem ir47 (s : ByteArray) : abody Tryz.prog (call' B58) (fun _ => none) 1 98 [.str s] =
 bif' (decide ((↑s.size : Int) > 64)) (some (CV.tup [CV.agg [CV.bool false, CV.int IntKind.u8 (Int.ofNat 0), CV.int IntKind.u8 (Int.ofNat 0), CV.int IntKind.u8 (Int.ofNat 0), CV.int IntKind.u8 (Int.ofNat 0), CV.int IntKind.u8 (Int.ofNat 0), CV.int IntKind.u8 (Int.ofNat 0), CV.int IntKind.u8 (Int.ofNat 0), CV.int IntKind.u8 (Int.ofNat 0), CV.int IntKind.u8 (Int.ofNat 0), CV.int IntKind.u8 (Int.ofNat 0), CV.int IntKind.u8 (Int.ofNat 0), CV.int IntKind.u8 (Int.ofNat 0), CV.int IntKind.u8 (Int.ofNat 0), CV.int IntKind.u8 (Int.ofNat 0), CV.int IntKind.u8 (Int.ofNat 0), CV.int IntKind.u8 (Int.ofNat 0)], CV.int IntKind.i64 (Int.ofNat 5)], [])) (bif' (decide (s.size ≤ 10000)) (bif' (f4 s) (some (CV.tup [CV.agg [CV.bool false, CV.int IntKind.u8 (Int.ofNat 0), CV.int IntKind.u8 (Int.ofNat 0), CV.int IntKind.u8 (Int.ofNat 0), CV.int IntKind.u8 (Int.ofNat 0), CV.int IntKind.u8 (Int.ofNat 0), CV.int IntKind.u8 (Int.ofNat 0), CV.int IntKind.u8 (Int.ofNat 0), CV.int IntKind.u8 (Int.ofNat 0), CV.int IntKind.u8 (Int.ofNat 0), CV.int IntKind.u8 (Int.ofNat 0), CV.int IntKind.u8 (Int.ofNat 0), CV.int IntKind.u8 (Int.ofNat 0), CV.int IntKind.u8 (f4b s 0), CV.int IntKind.u8 (f4b s 1), CV.int IntKind.u8 (f4b s 2), CV.int IntKind.u8 (f4b s 3)], CV.int IntKind.i64 (Int.ofNat 0)], [])) (bif' (decide (s.size ≤ 10000)) (bif' (s6 s) (bif' (decide (s.size ≤ 10000)) (bif' (hasB s 58) (some (CV.tup [CV.agg [CV.bool true, CV.int IntKind.u8 (s6b s 0), CV.int IntKind.u8 (s6b s 1), CV.int IntKind.u8 (s6b s 2), CV.int IntKind.u8 (s6b s 3), CV.int IntKind.u8 (s6b s 4), CV.int IntKind.u8 (s6b s 5), CV.int IntKind.u8 (s6b s 6), CV.int IntKind.u8 (s6b s 7), CV.int IntKind.u8 (s6b s 8), CV.int IntKind.u8 (s6b s 9), CV.int IntKind.u8 (s6b s 10), CV.int IntKind.u8 (s6b s 11), CV.int IntKind.u8 (s6b s 12), CV.int IntKind.u8 (s6b s 13), CV.int IntKind.u8 (s6b s 14), CV.int IntKind.u8 (s6b s 15)], CV.int IntKind.i64 (Int.ofNat 0)], [])) (some (CV.tup [CV.agg [CV.bool false, CV.int IntKind.u8 (Int.ofNat 0), CV.int IntKind.u8 (Int.ofNat 0), CV.int IntKind.u8 (Int.ofNat 0), CV.int IntKind.u8 (Int.ofNat 0), CV.int IntKind.u8 (Int.ofNat 0), CV.int IntKind.u8 (Int.ofNat 0), CV.int IntKind.u8 (Int.ofNat 0), CV.int IntKind.u8 (Int.ofNat 0), CV.int IntKind.u8 (Int.ofNat 0), CV.int IntKind.u8 (Int.ofNat 0), CV.int IntKind.u8 (Int.ofNat 0), CV.int IntKind.u8 (Int.ofNat 0), CV.int IntKind.u8 (Int.ofNat 0), CV.int IntKind.u8 (Int.ofNat 0), CV.int IntKind.u8 (Int.ofNat 0), CV.int IntKind.u8 (Int.ofNat 0)], CV.int IntKind.i64 (Int.ofNat 5)], []))) none) (some (CV.tup [CV.agg [CV.bool false, CV.int IntKind.u8 (Int.ofNat 0), CV.int IntKind.u8 (Int.ofNat 0), CV.int IntKind.u8 (Int.ofNat 0), CV.int IntKind.u8 (Int.ofNat 0), CV.int IntKind.u8 (Int.ofNat 0), CV.int IntKind.u8 (Int.ofNat 0), CV.int IntKind.u8 (Int.ofNat 0), CV.int IntKind.u8 (Int.ofNat 0), CV.int IntKind.u8 (Int.ofNat 0), CV.int IntKind.u8 (Int.ofNat 0), CV.int IntKind.u8 (Int.ofNat 0), CV.int IntKind.u8 (Int.ofNat 0), CV.int IntKind.u8 (Int.ofNat 0), CV.int IntKind.u8 (Int.ofNat 0), CV.int IntKind.u8 (Int.ofNat 0), CV.int IntKind.u8 (Int.ofNat 0)], CV.int IntKind.i64 (Int.ofNat 5)], []))) none)) none) := by kernel_rfl
theorem ib65 (s : ByteArray) (n : Nat) (R : Env → Hp → Res) : parts Tryz.prog (call' B58) (filt aL65 0) n (codeOf Tryz.prog 92) (envOf Tryz.prog 92 [.c (.str s)]) [] (fun _ => headK hL65 R) (endOf Tryz.prog 92 []) =
 bif' (decide (s.size ≤ 10000) && true) (R (mkEnv 107 [(4, PV.rw 1 0), (5, PV.rw 0 0), (6, PV.c (CV.bool false)), (7, PV.c (CV.int IntKind.i64 (Int.ofNat 0)))]) [AO.row [] 1 0 false, AO.row (spS s (Nat.toUInt8 58)) 1 0 false]) none := by kernel_rfl
theorem ic65 (xs ys : List CV) (gap : Bool) (i : Int) (n : Nat) (R : Env → Hp → Res) : aexec Tryz.prog (call' B58) (filt aL65 0) n (bodyN 0 (codeOf Tryz.prog 92)) (mkEnv 107 [(4, .rw 1 0), (5, .rw 0 0), (6, .c (.bool gap)), (7, .c (.int .i64 i))]) [.row ys 1 0 false, .row xs 1 0 false] (thenK (headK hL65 R) (restN Tryz.prog (call' B58) (filt aL65 0) n 0 (codeOf Tryz.prog 92) (endOf Tryz.prog 92 []))) =
 bif' (decide (i < (↑xs.length : Int))) (bif' (decide (0 ≤ i)) (bif' (decide (i < (↑xs.length : Int))) (bif' (decide (i.toNat < xs.length)) (bif' (decide (0 < (xs.getD i.toNat CV.nilptr).cl.length)) (bif' (okc (CV.str (ByteArray.mk #[])) ((xs.getD i.toNat CV.nilptr).cl.getD 0 CV.nilptr)) (bif' (((xs.getD i.toNat CV.nilptr).cl.getD 0 CV.nilptr).toStr.toList == (ByteArray.mk #[]).toList) (bif' (i == 0) (bif' (decide ((↑xs.length : Int) < 3)) (some (CV.tup [CV.nilsl, CV.bool false], [])) (bif' (i == 0) (bif' (decide (1 < (↑xs.length : Int))) (bif' (decide (1 < xs.length)) (bif' (decide (0 < (xs.getD 1 CV.nilptr).cl.length)) (bif' (okc (CV.str (ByteArray.mk #[])) ((xs.getD 1 CV.nilptr).cl.getD 0 CV.nilptr)) (bif' (!((xs.getD 1 CV.nilptr).cl.getD 0 CV.nilptr).toStr.toList == (ByteArray.mk #[]).toList) (some (CV.tup [CV.nilsl, CV.bool false], [])) (bif' (decide (i > 0)) (bif' (decide (0 ≤ IntKind.i64.wrap ((↑xs.length : Int) - 2))) (bif' (decide (IntKind.i64.wrap ((↑xs.length : Int) - 2) < (↑xs.length : Int))) (bif' (decide ((IntKind.i64.wrap ((↑xs.length : Int) - 2)).toNat < xs.length)) (bif' (decide (0 < (xs.getD (IntKind.i64.wrap ((↑xs.length : Int) - 2)).toNat CV.nilptr).cl.length)) (bif' (okc (CV.str (ByteArray.mk #[])) ((xs.getD (IntKind.i64.wrap ((↑xs.length : Int) - 2)).toNat CV.nilptr).cl.getD 0 CV.nilptr)) (bif' (!((xs.getD (IntKind.i64.wrap ((↑xs.length : Int) - 2)).toNat CV.nilptr).cl.getD 0 CV.nilptr).toStr.toList == (ByteArray.mk #[]).toList) (some (CV.tup [CV.nilsl, CV.bool false], [])) (R (mkEnv 107 [(4, PV.rw 1 0), (5, PV.rw 0 0), (6, PV.c (CV.bool gap)), (7, PV.c (CV.int IntKind.i64 (IntKind.i64.wrap (i + 1))))]) [AO.row ys 1 0 false, AO.row xs 1 0 false])) none) none) none) none) none) (R (mkEnv 107 [(4, PV.rw 1 0), (5, PV.rw 0 0), (6, PV.c (CV.bool gap)), (7, PV.c (CV.int IntKind.i64 (IntKind.i64.wrap (i + 1))))]) [AO.row ys 1 0 false, AO.row xs 1 0 false]))) none) none) none) none) (bif' (decide (i > 0)) (bif' (decide (0 ≤ IntKind.i64.wrap ((↑xs.length : Int) - 2))) (bif' (decide (IntKind.i64.wrap ((↑xs.length : Int) - 2) < (↑xs.length : Int))) (bif' (decide ((IntKind.i64.wrap ((↑xs.length : Int) - 2)).toNat < xs.length)) (bif' (decide (0 < (xs.getD (IntKind.i64.wrap ((↑xs.length : Int) - 2)).toNat CV.nilptr).cl.length)) (bif' (okc (CV.str (ByteArray.mk #[])) ((xs.getD (IntKind.i64.wrap ((↑xs.length : Int) - 2)).toNat CV.nilptr).cl.getD 0 CV.nilptr)) (bif' (!((xs.getD (IntKind.i64.wrap ((↑xs.length : Int) - 2)).toNat CV.nilptr).cl.getD 0 CV.nilptr).toStr.toList == (ByteArray.mk #[]).toList) (some (CV.tup [CV.nilsl, CV.bool false], [])) (R (mkEnv 107 [(4, PV.rw 1 0), (5, PV.rw 0 0), (6, PV.c (CV.bool gap)), (7, PV.c (CV.int IntKind.i64 (IntKind.i64.wrap (i + 1))))]) [AO.row ys 1 0 false, AO.row xs 1 0 false])) none) none) none) none) none) (R (mkEnv 107 [(4, PV.rw 1 0), (5, PV.rw 0 0), (6, PV.c (CV.bool gap)), (7, PV.c (CV.int IntKind.i64 (IntKind.i64.wrap (i + 1))))]) [AO.row ys 1 0 false, AO.row xs 1 0 false])))) (bif' (!i == IntKind.i64.wrap ((↑xs.length : Int) - 1)) (bif' gap (some (CV.tup [CV.nilsl, CV.bool false], [])) (bif' (decide ((ys.length + 1) * 8 ≤ 70368744177664)) (R (mkEnv 107 [(4, PV.rw 1 0), (5, PV.rw 0 0), (6, PV.c (CV.bool true)), (7, PV.c (CV.int IntKind.i64 (IntKind.i64.wrap (i + 1))))]) [AO.row (ys ++ (List.replicate 1 (CV.int IntKind.i64 0)).set 0 (CV.int IntKind.i64 (-1))) 1 0 false, AO.row xs 1 0 false]) none)) (bif' (decide ((↑xs.length : Int) < 3)) (some (CV.tup [CV.nilsl, CV.bool false], [])) (bif' (i == 0) (bif' (decide (1 < (↑xs.length : Int))) (bif' (decide (1 < xs.length)) (bif' (decide (0 < (xs.getD 1 CV.nilptr).cl.length)) (bif' (okc (CV.str (ByteArray.mk #[])) ((xs.getD 1 CV.nilptr).cl.getD 0 CV.nilptr)) (bif' (!((xs.getD 1 CV.nilptr).cl.getD 0 CV.nilptr).toStr.toList == (ByteArray.mk #[]).toList) (some (CV.tup [CV.nilsl, CV.bool false], [])) (bif' (decide (i > 0)) (bif' (decide (0 ≤ IntKind.i64.wrap ((↑xs.length : Int) - 2))) (bif' (decide (IntKind.i64.wrap ((↑xs.length : Int) - 2) < (↑xs.length : Int))) (bif' (decide ((IntKind.i64.wrap ((↑xs.length : Int) - 2)).toNat < xs.length)) (bif' (decide (0 < (xs.getD (IntKind.i64.wrap ((↑xs.length : Int) - 2)).toNat CV.nilptr).cl.length)) (bif' (okc (CV.str (ByteArray.mk #[])) ((xs.getD (IntKind.i64.wrap ((↑xs.length : Int) - 2)).toNat CV.nilptr).cl.getD 0 CV.nilptr)) (bif' (!((xs.getD (IntKind.i64.wrap ((↑xs.length : Int) - 2)).toNat CV.nilptr).cl.getD 0 CV.nilptr).toStr.toList == (ByteArray.mk #[]).toList) (some (CV.tup [CV.nilsl, CV.bool false], [])) (R (mkEnv 107 [(4, PV.rw 1 0), (5, PV.rw 0 0), (6, PV.c (CV.bool gap)), (7, PV.c (CV.int IntKind.i64 (IntKind.i64.wrap (i + 1))))]) [AO.row ys 1 0 false, AO.row xs 1 0 false])) none) none) none) none) none) (R (mkEnv 107 [(4, PV.rw 1 0), (5, PV.rw 0 0), (6, PV.c (CV.bool gap)), (7, PV.c (CV.int IntKind.i64 (IntKind.i64.wrap (i + 1))))]) [AO.row ys 1 0 false, AO.row xs 1 0 false]))) none) none) none) none) (bif' (decide (i > 0)) (bif' (decide (0 ≤ IntKind.i64.wrap ((↑xs.length : Int) - 2))) (bif' (decide (IntKind.i64.wrap ((↑xs.length : Int) - 2) < (↑xs.length : Int))) (bif' (decide ((IntKind.i64.wrap ((↑xs.length : Int) - 2)).toNat < xs.length)) (bif' (decide (0 < (xs.getD (IntKind.i64.wrap ((↑xs.length : Int) - 2)).toNat CV.nilptr).cl.length)) (bif' (okc (CV.str (ByteArray.mk #[])) ((xs.getD (IntKind.i64.wrap ((↑xs.length : Int) - 2)).toNat CV.nilptr).cl.getD 0 CV.nilptr)) (bif' (!((xs.getD (IntKind.i64.wrap ((↑xs.length : Int) - 2)).toNat CV.nilptr).cl.getD 0 CV.nilptr).toStr.toList == (ByteArray.mk #[]).toList) (some (CV.tup [CV.nilsl, CV.bool false], [])) (R (mkEnv 107 [(4, PV.rw 1 0), (5, PV.rw 0 0), (6, PV.c (CV.bool gap)), (7, PV.c (CV.int IntKind.i64 (IntKind.i64.wrap (i + 1))))]) [AO.row ys 1 0 false, AO.row xs 1 0 false])) none) none) none) none) none) (R (mkEnv 107 [(4, PV.rw 1 0), (5, PV.rw 0 0), (6, PV.c (CV.bool gap)), (7, PV.c (CV.int IntKind.i64 (IntKind.i64.wrap (i + 1))))]) [AO.row ys 1 0 false, AO.row xs 1 0 false])))))) (bif' (decide (0 ≤ i)) (bif' (decide (i < (↑xs.length : Int))) (bif' (decide (i.toNat < xs.length)) (bif' (decide (0 < (xs.getD i.toNat CV.nilptr).cl.length)) (bif' (okc (CV.str (ByteArray.mk #[])) ((xs.getD i.toNat CV.nilptr).cl.getD 0 CV.nilptr)) (bif' (decide (((xs.getD i.toNat CV.nilptr).cl.getD 0 CV.nilptr).toStr.size ≤ 10000)) (bif' (decide (f4r ((xs.getD i.toNat CV.nilptr).cl.getD 0 CV.nilptr).toStr ≥ 0)) (bif' (i == IntKind.i64.wrap ((↑xs.length : Int) - 1)) (bif' (decide ((ys.length + (((List.replicate 2 (CV.int IntKind.i64 0)).set 0 (CV.int IntKind.i64 (IntKind.i64.wrap ((f4r ((xs.getD i.toNat CV.nilptr).cl.getD 0 CV.nilptr).toStr).tdiv 65536)))).set 1 (CV.int IntKind.i64 ((f4r ((xs.getD i.toNat CV.nilptr).cl.getD 0 CV.nilptr).toStr).tmod 65536))).length) * 8 ≤ 70368744177664)) (R (mkEnv 107 [(4, PV.rw 1 0), (5, PV.rw 0 0), (6, PV.c (CV.bool gap)), (7, PV.c (CV.int IntKind.i64 (IntKind.i64.wrap (i + 1))))]) [AO.row (ys ++ ((List.replicate 2 (CV.int IntKind.i64 0)).set 0 (CV.int IntKind.i64 (IntKind.i64.wrap ((f4r ((xs.getD i.toNat CV.nilptr).cl.getD 0 CV.nilptr).toStr).tdiv 65536)))).set 1 (CV.int IntKind.i64 ((f4r ((xs.getD i.toNat CV.nilptr).cl.getD 0 CV.nilptr).toStr).tmod 65536))) 1 0 false, AO.row xs 1 0 false]) none) (bif' (decide (0 ≤ i)) (bif' (decide (i < (↑xs.length : Int))) (bif' (decide (i.toNat < xs.length)) (bif' (decide (0 < (xs.getD i.toNat CV.nilptr).cl.length)) (bif' (okc (CV.str (ByteArray.mk #[])) ((xs.getD i.toNat CV.nilptr).cl.getD 0 CV.nilptr)) (bif' (decide (((xs.getD i.toNat CV.nilptr).cl.getD 0 CV.nilptr).toStr.size ≤ 10000) && true) (bif' (decide (nR ((xs.getD i.toNat CV.nilptr).cl.getD 0 CV.nilptr).toStr 16 < 0)) (some (CV.tup [CV.nilsl, CV.bool false], [])) (bif' (decide (0 ≤ i)) (bif' (decide (i < (↑xs.length : Int))) (bif' (decide (i.toNat < xs.length)) (bif' (decide (0 < (xs.getD i.toNat CV.nilptr).cl.length)) (bif' (okc (CV.str (ByteArray.mk #[])) ((xs.getD i.toNat CV.nilptr).cl.getD 0 CV.nilptr)) (bif' (decide ((↑((xs.getD i.toNat CV.nilptr).cl.getD 0 CV.nilptr).toStr.size : Int) > 4)) (some (CV.tup [CV.nilsl, CV.bool false], [])) (bif' (decide ((ys.length + ((List.replicate 1 (CV.int IntKind.i64 0)).set 0 (CV.int IntKind.i64 (nR ((xs.getD i.toNat CV.nilptr).cl.getD 0 CV.nilptr).toStr 16))).length) * 8 ≤ 70368744177664)) (R (mkEnv 107 [(4, PV.rw 1 0), (5, PV.rw 0 0), (6, PV.c (CV.bool gap)), (7, PV.c (CV.int IntKind.i64 (IntKind.i64.wrap (i + 1))))]) [AO.row (ys ++ (List.replicate 1 (CV.int IntKind.i64 0)).set 0 (CV.int IntKind.i64 (nR ((xs.getD i.toNat CV.nilptr).cl.getD 0 CV.nilptr).toStr 16))) 1 0 false, AO.row xs 1 0 false]) none)) none) none) none) none) none)) none) none) none) none) none) none)) (bif' (decide (0 ≤ i)) (bif' (decide (i < (↑xs.length : Int))) (bif' (decide (i.toNat < xs.length)) (bif' (decide (0 < (xs.getD i.toNat CV.nilptr).cl.length)) (bif' (okc (CV.str (ByteArray.mk #[])) ((xs.getD i.toNat CV.nilptr).cl.getD 0 CV.nilptr)) (bif' (decide (((xs.getD i.toNat CV.nilptr).cl.getD 0 CV.nilptr).toStr.size ≤ 10000) && true) (bif' (decide (nR ((xs.getD i.toNat CV.nilptr).cl.getD 0 CV.nilptr).toStr 16 < 0)) (some (CV.tup [CV.nilsl, CV.bool false], [])) (bif' (decide (0 ≤ i)) (bif' (decide (i < (↑xs.length : Int))) (bif' (decide (i.toNat < xs.length)) (bif' (decide (0 < (xs.getD i.toNat CV.nilptr).cl.length)) (bif' (okc (CV.str (ByteArray.mk #[])) ((xs.getD i.toNat CV.nilptr).cl.getD 0 CV.nilptr)) (bif' (decide ((↑((xs.getD i.toNat CV.nilptr).cl.getD 0 CV.nilptr).toStr.size : Int) > 4)) (some (CV.tup [CV.nilsl, CV.bool false], [])) (bif' (decide ((ys.length + ((List.replicate 1 (CV.int IntKind.i64 0)).set 0 (CV.int IntKind.i64 (nR ((xs.getD i.toNat CV.nilptr).cl.getD 0 CV.nilptr).toStr 16))).length) * 8 ≤ 70368744177664)) (R (mkEnv 107 [(4, PV.rw 1 0), (5, PV.rw 0 0), (6, PV.c (CV.bool gap)), (7, PV.c (CV.int IntKind.i64 (IntKind.i64.wrap (i + 1))))]) [AO.row (ys ++ (List.replicate 1 (CV.int IntKind.i64 0)).set 0 (CV.int IntKind.i64 (nR ((xs.getD i.toNat CV.nilptr).cl.getD 0 CV.nilptr).toStr 16))) 1 0 false, AO.row xs 1 0 false]) none)) none) none) none) none) none)) none) none) none) none) none) none)) none) none) none) none) none) none)) none) none) none) none) none) (some (CV.tup [CV.sl true false 1 ys, CV.bool true], [])) := by kernel_rfl

end Go.Pv
