/- A reference against a base: what comes of it, the reference being nothing or the base itself. -/
import Derived.Test.YtpclikkakhcomaaGreatDoorQg
set_option linter.unusedSimpArgs false
set_option linter.unusedVariables false
namespace Go.Pv
set_option maxRecDepth 100000
open Go Go.Proofs
noncomputable def q11 : Code := prefC 1 (tailC 6 c11)
end Go.Pv
namespace Go.Pv
set_option maxRecDepth 100000
open Go Go.Proofs
theorem hA23 : Known Tryz.prog gI 8 A23 := g23 og (known_add (g40 og) h52)
theorem hH47 : Cw gI 8 98 L47 := h47 og h70 h28
theorem hH51 : Cw gI 8 67 L51 := h51 og h70 h28
theorem kT12 : Known Tryz.prog gI 8 T12 := gm12 og hA23 hH47 hH51
theorem kT11 : Known Tryz.prog gI 8 T11 := gm11 og hA23 hH47 hH51
end Go.Pv
namespace Go.Pv
set_option maxRecDepth 100000
open Go Go.Proofs
end Go.Pv
namespace Go.Pv
set_option maxRecDepth 100000
open Go Go.Proofs
def n3 (s : ByteArray) : Bool := decide (s.size ≤ 3000)
def s7 (sc us ho po pa qu fr : ByteArray) : Bool := n3 sc && (n3 us && (n3 ho && (n3 po && (n3 pa && (n3 qu && n3 fr)))))
def N9 : Fn1 := fun cargs => match cargs with
 | [.agg [.str sc, .str us, .bool hu, .str ho, .str po, .bool hp, .bool ha, .str pa, .str qu, .bool hq, .str fr, .bool hf]] => some [(s7 sc us ho po pa qu fr, .bool false, []), (true, .bool true, [])]
 | _ => none
def Y0 : Table := fun _ _ => none
def Y9 : Table := fun g => if Nat.beq g 9 then N9 else Y0 g
theorem rs9 (sc us ho po pa qu fr : ByteArray) (hu hp ha hq hf : Bool) : abody Tryz.prog (call' Y0) (fun _ => none) 1 9 [uV sc us hu ho po hp ha pa qu hq fr hf] =
 bif' (decide ((↑sc.size : Int) > 3000)) (some (CV.bool true, [])) (bif' (decide ((↑us.size : Int) > 3000)) (some (CV.bool true, [])) (bif' (decide ((↑ho.size : Int) > 3000)) (some (CV.bool true, [])) (bif' (decide ((↑po.size : Int) > 3000)) (some (CV.bool true, [])) (bif' (decide ((↑pa.size : Int) > 3000)) (some (CV.bool true, [])) (bif' (decide ((↑qu.size : Int) > 3000)) (some (CV.bool true, [])) (some (CV.bool (decide ((↑fr.size : Int) > 3000)), []))))))) := by kernel_rfl
end Go.Pv
namespace Go.Pv
set_option maxRecDepth 100000
open Go Go.Proofs
theorem big3 (s : ByteArray) : decide (((s.size : Nat) : Int) > 3000) = !n3 s := by
 unfold n3
 rw [Bool.eq_iff_iff, decide_eq_true_iff]
 simp
 omega
theorem ky9 : Kn Y9 := known_add known_no (contract_of (fun _ => none) on0 (hok_of known_no) fun cargs rv outs hF => by
 unfold N9 at hF
 split at hF <;> first | (cases hF; done) | skip
 rename_i sc us hu ho po hp ha pa qu hq fr hf
 refine ⟨1, ?_⟩
 have e := rs9 sc us ho po pa qu fr hu hp ha hq hf
 unfold s7 at hF
 simp only [big3] at e
 revert hF e
 generalize n3 sc = a1
 generalize n3 us = a2
 generalize n3 ho = a3
 generalize n3 po = a4
 generalize n3 pa = a5
 generalize n3 qu = a6
 generalize n3 fr = a7
 intro hF e
 cases a1 <;> cases a2 <;> cases a3 <;> cases a4 <;> cases a5 <;> cases a6 <;> cases a7 <;> (cases hF; exact e))
theorem n3_iff {s : ByteArray} : n3 s = true ↔ s.size ≤ 3000 := decide_eq_true_iff
theorem s7_n7 {sc us ho po pa qu fr : ByteArray} (h : s7 sc us ho po pa qu fr = true) : n7 sc us ho po pa qu fr = true := by
 unfold s7 at h
 unfold n7
 simp only [Bool.and_eq_true, n3_iff, n4_iff] at h ⊢
 omega
end Go.Pv
namespace Go.Pv
set_option maxRecDepth 100000
open Go Go.Proofs
theorem aN23 : Knn A23 := kn_and hA23 oj
theorem kN34 : Knn N34 := k34 onN aN23
noncomputable abbrev R27z (n j : Nat) (env : Env) (H : Hp) : Res := rounds Tryz.prog hd27 (filt aL27z 0) n hL27z (bodyN 0 (codeOf Tryz.prog 27)) j env H (restN Tryz.prog hd27 (filt aL27z 0) n 0 (codeOf Tryz.prog 27) (endOf Tryz.prog 27 []))
def St27 (acc : List UInt8) (H : Hp) : Prop := (acc = [] ∧ H = B0z) ∨ (acc ≠ [] ∧ H = B2z (cb acc))
theorem cb_emp (l : List UInt8) : (cb l).isEmpty = l.isEmpty := by cases l <;> rfl
theorem ext3 {l : List UInt8} {k : Nat} (h : k + 3 ≤ l.length) : (mkS l).extract k (k + 3) = mkS [l.getD k 0, l.getD (k + 1) 0, l.getD (k + 2) 0] := by
 rw [mkS_ext]
 congr 1
 rw [drop_getD (show k < l.length by omega), drop_getD (show k + 1 < l.length by omega), drop_getD (show k + 1 + 1 < l.length by omega)]
 rw [show k + 3 - k = 3 by omega]
 rfl
theorem lo27z (n : Nat) (l : List UInt8) (hl : l.length ≤ 4000) : ∀ (j k : Nat) (acc : List UInt8) (H : Hp), l.length < j + k → k ≤ l.length → acc.length ≤ k → Sg qS pS (l.drop k) → St27 acc H →
   R27z n j (E27 (mkS l) (k : Int)) H = some (.str (mkS (acc ++ lowH (l.drop k))), [])
 | 0, k, acc, H, hj, hk, ha, hs, hH => by omega
 | j + 1, k, acc, H, hj, hk, ha, hs, hH => by
   have w1 : IntKind.i64.wrap ((k : Int) + 1) = ((k + 1 : Nat) : Int) := wrp1 (by omega)
   have w3 : IntKind.i64.wrap ((k : Int) + 3) = ((k + 3 : Nat) : Int) := wrp (i := k) (k := 3) (by omega) (by omega)
   have w2 : IntKind.i64.wrap (IntKind.i64.wrap ((k : Int) + 2) + 1) = ((k + 3 : Nat) : Int) := by
     rw [show IntKind.i64.wrap ((k : Int) + 2) = ((k + 2 : Nat) : Int) from wrp (i := k) (k := 2) (by omega) (by omega)]
     exact wrp1 (i := k + 2) (by omega)
   by_cases h1 : k < l.length
   · have a1 : (k : Int) < (l.length : Int) := by omega
     have a0 : (0 : Int) ≤ (k : Int) := by omega
     have a6 : (k : Int) ≤ ((k + 1 : Nat) : Int) := by omega
     have a7 : ((k + 1 : Nat) : Int) ≤ (l.length : Int) := by omega
     have a8 : (k : Int) ≤ ((k + 3 : Nat) : Int) := by omega
     obtain ⟨x, k', hx, hk1, hk2, hsg, hlow, hstep⟩ : ∃ (x : List UInt8) (k' : Nat), x ≠ [] ∧ k < k' ∧ k' ≤ l.length ∧ Sg qS pS (l.drop k') ∧ lowH (l.drop k) = x ++ lowH (l.drop k') ∧ x.length ≤ k' - k ∧
         R27z n (j + 1) (E27 (mkS l) (k : Int)) H = R27z n j (E27 (mkS l) (k' : Int)) (B2z (cb (acc ++ x))) := by
       rcases sg_at h1 hs with ⟨c1, c2, c3⟩ | ⟨c1, c2, c3, c4, c5⟩
       · refine ⟨[lowB (l.getD k 0)], k + 1, by simp, by omega, by omega, c3, ?_, by simp, ?_⟩
         · rw [drop_getD h1]
           exact tidG_ch _ _ c1
         · unfold R27z
           rw [rounds_succ]
           have f2 : [l.getD k 0].length ≤ 10000 := by simp
           rcases hH with ⟨rfl, rfl⟩ | ⟨hne, rfl⟩
           · rw [nc27a]
             have f3 : (lowL [l.getD k 0]).length * 1 ≤ 70368744177664 := by rw [low_len]; simp
             simp only [natM, w1, ext1 h1]
             simp only [atM, sizeM, natM, bif_dec, b37, low_S, cb_str, cb_len, cb_emp, if_pos a1, if_pos a0, if_pos a6, if_pos a7, if_neg c1, if_pos f2, if_pos f3]
             rfl
           · rw [nc27b]
             have f3 : (acc.length + (lowL [l.getD k 0]).length) * 1 ≤ 70368744177664 := by rw [low_len]; simp; omega
             simp only [natM, w1, ext1 h1]
             simp only [atM, sizeM, natM, bif_dec, b37, low_S, cb_str, cb_len, cb_app, if_pos a1, if_pos a0, if_pos a6, if_pos a7, if_neg c1, if_pos f2, if_pos f3]
             rfl
       · have a5 : ((k + 3 : Nat) : Int) ≤ (l.length : Int) := by omega
         refine ⟨[37, l.getD (k + 1) 0, l.getD (k + 2) 0], k + 3, by simp, by omega, by omega, c4, ?_, by simp, ?_⟩
         · rw [c5]
           exact tidG_esc _ _
         · unfold R27z
           rw [rounds_succ]
           rcases hH with ⟨rfl, rfl⟩ | ⟨hne, rfl⟩
           · rw [nc27a]
             have f3 : ([l.getD k 0, l.getD (k + 1) 0, l.getD (k + 2) 0] : List UInt8).length * 1 ≤ 70368744177664 := by simp
             simp only [natM, w2, w3, ext3 c2]
             simp only [atM, sizeM, natM, bif_dec, b37, cb_str, cb_len, cb_emp, if_pos a1, if_pos a0, if_pos a8, if_pos a5, if_pos c1, if_pos f3]
             rw [c1]
             rfl
           · rw [nc27b]
             have f3 : (acc.length + ([l.getD k 0, l.getD (k + 1) 0, l.getD (k + 2) 0] : List UInt8).length) * 1 ≤ 70368744177664 := by simp; omega
             simp only [natM, w2, w3, ext3 c2]
             simp only [atM, sizeM, natM, bif_dec, b37, cb_str, cb_len, cb_app, if_pos a1, if_pos a0, if_pos a8, if_pos a5, if_pos c1, if_pos f3]
             rw [c1]
             rfl
     rw [hstep.2, hlow, ← List.append_assoc]
     exact lo27z n l hl j k' (acc ++ x) _ (by omega) hk2 (by rw [List.length_append]; omega) hsg (.inr ⟨by simp [hx], rfl⟩)
   · have hd : l.drop k = [] := List.drop_of_length_le (by omega)
     rw [hd]
     unfold R27z
     rw [rounds_succ]
     have c0 : decide ((k : Int) < ((l.length : Nat) : Int)) = false := decide_eq_false (by omega)
     rcases hH with ⟨rfl, rfl⟩ | ⟨hne, rfl⟩
     · rw [nc27a, sizeM, c0]
       rfl
     · rw [nc27b, sizeM, c0]
       have hp : 0 < acc.length := List.length_pos_iff.2 hne
       have c1 : decide (0 < (((cb acc).length : Nat) : Int)) = true := decide_eq_true (by rw [cb_len]; omega)
       have c2 : decide ((((cb acc).length : Nat) : Int) ≤ (((cb acc).length : Nat) : Int)) = true := decide_eq_true (Int.le_refl _)
       have c3 : decide ((((cb acc).length : Nat) : Int) ≤ 9223372036854775807) = true := decide_eq_true (by rw [cb_len]; omega)
       have c4 : (cb acc).isEmpty = false := by
         rw [cb_emp]
         cases acc with
         | nil => exact absurd rfl hne
         | cons a t => rfl
       rw [c1, c2, c3, c4, natM (cb acc).length, List.take_length, cb_u8, cb_back]
       show some (CV.str (mkS acc), []) = some (CV.str (mkS (acc ++ [])), [])
       rw [List.append_nil]
theorem lowH_S (l : List UInt8) : lowHS (mkS l) = mkS (lowH l) := by unfold lowHS; rw [dataM]
theorem cn27 : Cn 27 L27z := contract_of aL27z onN (inls_ok onN (hok_of kN34) [50, 51, 76]) fun cargs rv outs h => by
 unfold L27z at h
 split at h <;> first | (cases h; done) | skip
 rename_i s
 obtain ⟨l, rfl⟩ : ∃ l, s = mkS l := ⟨_, (mkS_bl s).symm⟩
 cases hc : decide ((mkS l).size ≤ 4000) && stS (mkS l) with
 | false => simp only [picked, pickAlt, hc] at h; cases h
 | true =>
   simp only [picked, pickAlt, hc] at h
   cases h
   rw [Bool.and_eq_true, decide_eq_true_iff, sizeM, st_S, st_iff] at hc
   refine ⟨12000, loop1 (tb := hd27) rfl (by kernel_rfl) (by kernel_rfl) (by kernel_rfl) (hd := hL27z) (by kernel_rfl) ?_⟩
   refine (nb27 (mkS l) 12000 (R27z 12000 12000)).trans ?_
   rw [lowH_S]
   exact lo27z 12000 l hc.1 12000 0 [] B0z (by omega) (by omega) (by simp) hc.2 (.inl ⟨rfl, rfl⟩)
theorem kN27 : Knn N27 := known_add kN34 cn27
theorem c29z : Cn 29 L29z := contract_of (fun _ => none) onN (hok_of kN27) fun cargs rv outs h => by
 unfold L29z at h
 split at h <;> first | (cases h; done) | skip
 rename_i s
 by_cases hs : s.size ≤ 10000
 · simp only [picked, pickAlt, decide_eq_true hs] at h
   cases h
   refine ⟨1, ?_⟩
   rw [nr29, decide_eq_true hs, bif_tt]
   unfold stdI
   cases ((lowS s).toList == (ByteArray.mk #[104, 116, 116, 112, 115]).toList) <;> rfl
 · simp only [picked, pickAlt, decide_eq_false hs] at h; cases h
theorem kN29 : Knn N29 := known_add kN27 c29z
theorem dg10 : ∀ n : Nat, n < 10 → ((ByteArray.mk #[48, 49, 50, 51, 52, 53, 54, 55, 56, 57]).extract n (n + 1)).data.toList = [UInt8.ofNat (48 + n)] := by decide +kernel
theorem decS_nat (n : Nat) : decS (n : Int) = mkS (Lib.decDigits n) := by unfold decS; rw [natM]
theorem v35 (m n : Nat) (hn : n < 10 * m ∨ n < 10) (hm : n < 10 ∨ 10 ≤ m) (hz : n < 1000000) : abody Tryz.prog (call' (N35 m)) (fun _ => none) 1 35 [.int .i64 (n : Int)] = some (.str (decS (n : Int)), []) := by
 rw [nr35]
 by_cases h : n < 10
 · have a1 : ((n : Nat) : Int) < 10 := by omega
   have a2 : ((n + 1 : Nat) : Int) ≤ 10 := by omega
   rw [wrp1 (show n ≤ 100000 by omega), natM, natM, decide_eq_true a1, decide_eq_true (show (0 : Int) ≤ (n : Int) by omega), decide_eq_true (show (n : Int) ≤ ((n + 1 : Nat) : Int) by omega)]
   rw [decide_eq_true a2, bA_of (dg10 n h), decS_nat, Lib.decDigits_one h]
   rfl
 · have e1 : IntKind.i64.wrap ((n : Int).tdiv 10) = ((n / 10 : Nat) : Int) := by
     show IntKind.i64.wrap ((n / 10 : Nat) : Int) = _
     have := wrp (i := n / 10) (k := 0) (by omega) (by omega)
     simpa using this
   have e2 : (n : Int).tmod 10 = ((n % 10 : Nat) : Int) := rfl
   rw [e1, e2, decS_nat, decS_nat, decS_nat, decide_eq_false (show ¬ (n : Int) < 10 by omega), decide_eq_true (show (0 : Int) ≤ ((n / 10 : Nat) : Int) by omega), decide_eq_true (show ((n / 10 : Nat) : Int) < (m : Int) by omega),
     decide_eq_true (show (0 : Int) ≤ ((n % 10 : Nat) : Int) by omega), decide_eq_true (show ((n % 10 : Nat) : Int) < (m : Int) by omega), mkS_app, sizeM, sizeM]
   have l1 := dec_len' 5 (n / 10) (by omega)
   have l2 := dec_len' 5 (n % 10) (by omega)
   rw [fits_small (by omega)]
   have e3 : Lib.decDigits n = Lib.decDigits (n / 10) ++ Lib.decDigits (n % 10) := by
     rw [Lib.decDigits, dif_neg h, Lib.decDigits_one (show n % 10 < 10 by omega)]
   rw [e3]
   rfl
theorem c35_step (m M : Nat) (hM : M ≤ 10 * m ∨ M ≤ 10) (hm : M ≤ 10 ∨ 10 ≤ m) (hz : M ≤ 1000000) (h : Cn 35 (L35z m)) : Cn 35 (L35z M) := contract_of (fun _ => none) onN (hok_of (known_add known_no h)) fun cargs rv outs hh => by
 unfold L35z at hh
 split at hh <;> first | (cases hh; done) | skip
 rename_i n
 by_cases hn : 0 ≤ n ∧ n < (M : Int)
 · simp only [picked, pickAlt, decide_eq_true hn.1, decide_eq_true hn.2, Bool.true_and] at hh
   cases hh
   obtain ⟨k, rfl⟩ := Int.eq_ofNat_of_zero_le hn.1
   exact ⟨1, v35 m k (by omega) (by omega) (by omega)⟩
 · have e : (decide (0 ≤ n) && decide (n < (M : Int))) = false := by simp; omega
   simp only [picked, pickAlt, e] at hh
   cases hh
theorem c35_0 : Cn 35 (L35z 0) := fun cargs rv outs hh => by
 unfold L35z at hh
 split at hh <;> first | (cases hh; done) | skip
 rename_i n
 have e : (decide (0 ≤ n) && decide (n < ((0 : Nat) : Int))) = false := by simp <;> omega
 simp only [picked, pickAlt, e] at hh <;> cases hh
theorem c35z : Cn 35 (L35z 100000) :=
 c35_step 10000 100000 (by omega) (by omega) (by omega) (c35_step 1000 10000 (by omega) (by omega) (by omega) (c35_step 100 1000 (by omega) (by omega) (by omega) (c35_step 10 100 (by omega) (by omega) (by omega) (c35_step 0 10 (by omega) (by omega) (by omega) c35_0))))
end Go.Pv
namespace Go.Pv
set_option maxRecDepth 100000
open Go Go.Proofs
def isH (sc : ByteArray) : Bool := (lowS sc).toList == (ByteArray.mk #[104, 116, 116, 112]).toList
def isHs (sc : ByteArray) : Bool := (lowS sc).toList == (ByteArray.mk #[104, 116, 116, 112, 115]).toList
def emS (s : ByteArray) : Bool := s.toList == (ByteArray.mk #[]).toList
def preU (sc us ho po pa qu fr : ByteArray) (hu hp ha hq hf : Bool) : Bool := mayU sc us ho po pa qu fr hu hp ha hq hf && ((isH sc || isHs sc) && (!hu && (!emS ho && !hf)))
def prtZ (sc po : ByteArray) : Nat := if emS po = true then (if isHs sc = true then 443 else 80) else prtN 0 po.data.toList
def kN (sc us ho po pa qu fr : ByteArray) (hu hp ha hq hf : Bool) : Nat := if preU sc us ho po pa qu fr hu hp ha hq hf = true then prtZ sc po else 0
def kOk (sc us ho po pa qu fr : ByteArray) (hu hp ha hq hf : Bool) : Bool := !decide (kN sc us ho po pa qu fr hu hp ha hq hf = 0)
def kI (sc us ho po pa qu fr : ByteArray) (hu hp ha hq hf : Bool) : Int := ((kN sc us ho po pa qu fr hu hp ha hq hf : Nat) : Int)
def Z14 : Fn1 := fun cargs => match cargs with
 | [.agg [.str sc, .str us, .bool hu, .str ho, .str po, .bool hp, .bool ha, .str pa, .str qu, .bool hq, .str fr, .bool hf]] => some [(s7 sc us ho po pa qu fr && kOk sc us ho po pa qu fr hu hp ha hq hf, .tup [.int .i64 (kI sc us ho po pa qu fr hu hp ha hq hf), .int .i64 0], []), (s7 sc us ho po pa qu fr, .tup [.int .i64 0, .int .i64 1], [])]
 | _ => none
def Z15 : Fn1 := fun cargs => match cargs with
 | [.agg [.str sc, .str us, .bool hu, .str ho, .str po, .bool hp, .bool ha, .str pa, .str qu, .bool hq, .str fr, .bool hf]] => some [(s7 sc us ho po pa qu fr, .int .i64 (kI sc us ho po pa qu fr hu hp ha hq hf), [])]
 | _ => none
theorem emS_mk (l : List UInt8) : emS (mkS l) = l.isEmpty := by
 unfold emS
 rw [bA_emp, sizeM]
 cases l <;> rfl
theorem lowS_len (s : ByteArray) : (lowS s).size = s.size := by
 unfold lowS
 rw [sizeM, low_len, data_len]
theorem lowS_low (s : ByteArray) : lowS (lowS s) = lowS s := by
 unfold lowS
 rw [dataM]
 congr 1
 unfold lowL
 rw [List.map_map]
 congr 1
 funext b
 exact low_low b
theorem std_eq (sc : ByteArray) : stdI (lowS sc) = if isHs sc = true then 443 else 80 := by
 unfold stdI isHs
 rw [lowS_low]
theorem std_sc (sc : ByteArray) : stdI sc = if isHs sc = true then 443 else 80 := rfl
theorem pre_good {S H P A Q us fr : List UInt8} {hu hp ha hq hf : Bool} (h : preU (mkS S) (mkS us) (mkS H) (mkS P) (mkS A) (mkS Q) (mkS fr) hu hp ha hq hf = true) :
   hu = false ∧ hf = false ∧ H ≠ [] ∧ ha = true ∧ us = [] ∧ fr = [] ∧ (isH (mkS S) = true ∨ isHs (mkS S) = true) ∧ GoodU S H P A Q hp hq := by
 unfold preU at h
 simp only [Bool.and_eq_true, Bool.not_eq_true', Bool.or_eq_true, emS_mk] at h
 obtain ⟨hm, hs, rfl, hH, rfl⟩ := h
 have hH' : H ≠ [] := fun e => by rw [e] at hH; cases hH
 have hS : S ≠ [] := fun e => by
   rw [e] at hs
   rcases hs with hs | hs
   · exact absurd hs (by decide +kernel)
   · exact absurd hs (by decide +kernel)
 obtain ⟨h1, h2, h3, h4⟩ := good_of hm hS hH'
 exact ⟨rfl, rfl, hH', h1, h2, h3, hs, h4⟩
theorem s7_sz {sc us ho po pa qu fr : ByteArray} (h : s7 sc us ho po pa qu fr = true) : sc.size ≤ 3000 ∧ us.size ≤ 3000 ∧ ho.size ≤ 3000 ∧ po.size ≤ 3000 ∧ pa.size ≤ 3000 ∧ qu.size ≤ 3000 ∧ fr.size ≤ 3000 := by
 unfold s7 at h
 simp only [Bool.and_eq_true, n3_iff] at h
 exact ⟨h.1, h.2.1, h.2.2.1, h.2.2.2.1, h.2.2.2.2.1, h.2.2.2.2.2.1, h.2.2.2.2.2.2⟩
theorem trS_len (s : ByteArray) : (trS s).size ≤ s.size := by
 unfold trS
 rw [sizeM, ← data_len]
 exact (List.dropWhile_sublist _).length_le
theorem of_pre {sc us ho po pa qu fr : ByteArray} {hu hp ha hq hf : Bool} (h : preU sc us ho po pa qu fr hu hp ha hq hf = true) :
   GoodU sc.data.toList ho.data.toList po.data.toList pa.data.toList qu.data.toList hp hq := by
 have e := h
 rw [← mkS_bl sc, ← mkS_bl us, ← mkS_bl ho, ← mkS_bl po, ← mkS_bl pa, ← mkS_bl qu, ← mkS_bl fr] at e
 exact (pre_good e).2.2.2.2.2.2.2
def ret14 (k : Nat) : Res := if k = 0 then some (.tup [.int .i64 0, .int .i64 1], []) else some (.tup [.int .i64 (k : Int), .int .i64 0], [])
theorem v14 (sc us ho po pa qu fr : ByteArray) (hu hp ha hq hf : Bool) (h7 : s7 sc us ho po pa qu fr = true) :
   abody Tryz.prog (call' P32) (fun _ => none) 1 14 [uV sc us hu ho po hp ha pa qu hq fr hf] = ret14 (kN sc us ho po pa qu fr hu hp ha hq hf) := by
 have hz := s7_sz h7
 rw [nr14, s7_n7 h7, decide_eq_true (show sc.size ≤ 10000 by omega), decide_eq_true (show (lowS sc).size ≤ 10000 by rw [lowS_len]; omega), std_eq]
 have hp1 : preU sc us ho po pa qu fr hu hp ha hq hf = true → emS po = false → okC (Lib.trimLeftB po.data.toList 48) = !decide (prtN 0 po.data.toList = 0) ∧ (prtN 0 po.data.toList ≠ 0 → aV (trS po) = ((prtN 0 po.data.toList : Nat) : Int)) := by
   intro h _
   have g := of_pre h
   exact port_ref (dig_all g.p1)
 have htr := trS_len po
 have hk : kN sc us ho po pa qu fr hu hp ha hq hf = if (mayU sc us ho po pa qu fr hu hp ha hq hf && ((isH sc || isHs sc) && (!hu && (!emS ho && !hf)))) = true then prtZ sc po else 0 := rfl
 rw [hk]
 unfold preU at hp1
 unfold prtZ
 show bif' true (bif' (true && mayU sc us ho po pa qu fr hu hp ha hq hf) (bif' (!isH sc) (bif' (!isHs sc) _ (bif' hu _ (bif' (emS ho) _ (bif' hf _ (bif' (emS po) _ (bif' _ _ _)))))) (bif' hu _ (bif' (emS ho) _ (bif' hf _ (bif' (emS po) _ (bif' _ _ _)))))) _) none = _
 generalize mayU sc us ho po pa qu fr hu hp ha hq hf = b1 at hp1 ⊢
 generalize isH sc = b2 at hp1 ⊢
 generalize isHs sc = b3 at hp1 ⊢
 generalize emS ho = b4 at hp1 ⊢
 generalize emS po = b5 at hp1 ⊢
 have key : ∀ (hpre : okC (Lib.trimLeftB po.data.toList 48) = !decide (prtN 0 po.data.toList = 0) ∧ (prtN 0 po.data.toList ≠ 0 → aV (trS po) = ((prtN 0 po.data.toList : Nat) : Int))),
     bif' (decide ((trS po).size ≤ 10000) && aOk (trS po)) (bif' (decide (((trS po).size : Int) > 5)) (some (CV.tup [CV.int IntKind.i64 (Int.ofNat 0), CV.int IntKind.i64 (Int.ofNat 1)], [])) (bif' (decide (aV (trS po) > 65535)) (some (CV.tup [CV.int IntKind.i64 (Int.ofNat 0), CV.int IntKind.i64 (Int.ofNat 1)], [])) (some (CV.tup [CV.int IntKind.i64 (aV (trS po)), CV.int IntKind.i64 (Int.ofNat 0)], [])))) (bif' (decide ((trS po).size ≤ 10000)) (bif' (decide (((trS po).size : Int) > 5)) (some (CV.tup [CV.int IntKind.i64 (Int.ofNat 0), CV.int IntKind.i64 (Int.ofNat 1)], [])) (some (CV.tup [CV.int IntKind.i64 (Int.ofNat 0), CV.int IntKind.i64 (Int.ofNat 1)], []))) none) = ret14 (prtN 0 po.data.toList) := by
   rintro ⟨e1, e2⟩
   rw [decide_eq_true (show (trS po).size ≤ 10000 by omega), Bool.true_and, bif_tt]
   have e3 : okC (Lib.trimLeftB po.data.toList 48) = (!decide (((trS po).size : Int) > 5) && (aOk (trS po) && !decide (aV (trS po) > 65535))) := by
     unfold okC trS
     rw [sizeM]
     congr 1
     · rw [Bool.eq_iff_iff]; simp; omega
     · congr 1
       rw [Bool.eq_iff_iff]; simp
   rw [e3] at e1
   unfold ret14
   by_cases h0 : prtN 0 po.data.toList = 0
   · rw [if_pos h0]
     rw [decide_eq_true h0] at e1
     generalize decide (((trS po).size : Int) > 5) = c1 at e1 ⊢
     generalize aOk (trS po) = c2 at e1 ⊢
     generalize decide (aV (trS po) > 65535) = c3 at e1 ⊢
     cases c1 <;> cases c2 <;> cases c3 <;> first | rfl | (cases e1; done)
   · rw [if_neg h0]
     rw [decide_eq_false h0] at e1
     rw [e2 h0] at e1 ⊢
     generalize decide (((trS po).size : Int) > 5) = c1 at e1 ⊢
     generalize aOk (trS po) = c2 at e1 ⊢
     generalize decide (((prtN 0 po.data.toList : Nat) : Int) > 65535) = c3 at e1 ⊢
     cases c1 <;> cases c2 <;> cases c3 <;> first | rfl | (cases e1; done)
 cases b1
 · rfl
 cases b2 <;> cases b3 <;> cases hu <;> cases b4 <;> cases hf <;> cases b5 <;> first | rfl | exact key (hp1 rfl rfl)
theorem ret14_eq (sc us ho po pa qu fr : ByteArray) (hu hp ha hq hf : Bool) : ret14 (kN sc us ho po pa qu fr hu hp ha hq hf) = if kOk sc us ho po pa qu fr hu hp ha hq hf = true then some (.tup [.int .i64 (kI sc us ho po pa qu fr hu hp ha hq hf), .int .i64 0], []) else some (.tup [.int .i64 0, .int .i64 1], []) := by
 unfold ret14 kOk kI
 by_cases h : kN sc us ho po pa qu fr hu hp ha hq hf = 0
 · rw [if_pos h, decide_eq_true h]; rfl
 · rw [if_neg h, decide_eq_false h]; rfl
theorem kP24 : Knn P24 := known_add kN29 (con_and (fun cargs rv outs h => kT12 24 cargs rv outs h) oj)
theorem kP32 : Knn P32 := known_add (known_add kP24 n31) n32
theorem cn14 : Cn 14 Z14 := contract_of (fun _ => none) onN (hok_of kP32) fun cargs rv outs h => by
 unfold Z14 at h
 split at h <;> first | (cases h; done) | skip
 rename_i sc us hu ho po hp ha pa qu hq fr hf
 refine ⟨1, ?_⟩
 cases hs : s7 sc us ho po pa qu fr with
 | false => rw [hs] at h; cases h
 | true =>
   rw [hs] at h
   refine (v14 sc us ho po pa qu fr hu hp ha hq hf hs).trans ?_
   rw [ret14_eq]
   cases hk : kOk sc us ho po pa qu fr hu hp ha hq hf with
   | true => rw [hk] at h; cases h; rfl
   | false => rw [hk] at h; cases h; rfl
noncomputable abbrev R15z (sc us ho po pa qu fr : ByteArray) (hu hp ha hq hf : Bool) (n j : Nat) (env : Env) (H : Hp) : Res := rounds Tryz.prog (call' P10) (filt aL15z 0) n hL15z (bodyN 0 (codeOf Tryz.prog 15)) j env H (restN Tryz.prog (call' P10) (filt aL15z 0) n 0 (codeOf Tryz.prog 15) (endOf Tryz.prog 15 []))
theorem u8dig : ∀ n : Nat, n < 256 → 48 ≤ n ∧ n ≤ 57 → IntKind.i64.wrap (IntKind.u8.wrap ((n : Int) - 48)) = ((n - 48 : Nat) : Int) := by decide +kernel
theorem lo15z (sc us ho pa qu fr : ByteArray) (hu hp ha hq hf : Bool) (l : List UInt8) (hl : l.length ≤ 4000) (hd : digL l) (n : Nat) : ∀ (j k v : Nat), l.length < j + k → k ≤ l.length → v ≤ 65535 →
   R15z sc us ho (mkS l) pa qu fr hu hp ha hq hf n j (mkEnv 57 [(1, .bptr 0 0), (4, .c (.int .i64 (v : Int))), (5, .c (.int .i64 (k : Int)))]) [.box (.c (uV sc us hu ho (mkS l) hp ha pa qu hq fr hf)) kU] = some (.int .i64 ((prtN v (l.drop k) : Nat) : Int), [])
 | 0, k, v, hj, hk, hv => by omega
 | j + 1, k, v, hj, hk, hv => by
   unfold R15z
   rw [rounds_succ, nc15]
   by_cases h1 : k < l.length
   · have hdk := hd _ (getD_mem h1)
     have e1 : IntKind.i64.wrap ((v : Int) * 10) = ((v * 10 : Nat) : Int) := by
       have := wrap_id (n := ((v * 10 : Nat) : Int)) (by omega) (by omega)
       rw [← this]
       congr 1
     have hb := u8dig (l.getD k 0).toNat (l.getD k 0).toNat_lt hdk
     simp only [atM, sizeM, natM, e1, hb, wrp1 (show k ≤ 100000 by omega)]
     have e2 : IntKind.i64.wrap (((v * 10 : Nat) : Int) + (((l.getD k 0).toNat - 48 : Nat) : Int)) = ((v * 10 + ((l.getD k 0).toNat - 48) : Nat) : Int) := by
       have hx : v * 10 + ((l.getD k 0).toNat - 48) ≤ 700000 := by omega
       have := wrap_id (n := ((v * 10 + ((l.getD k 0).toNat - 48) : Nat) : Int)) (by omega) (by omega)
       rw [← this]
       congr 1
     rw [e2, decide_eq_true (show (k : Int) < (l.length : Int) by omega), decide_eq_true (show (0 : Int) ≤ (k : Int) by omega), bif_tt, bif_tt, bif_tt]
     rw [drop_getD h1]
     unfold prtN
     by_cases hbig : 65535 < v * 10 + ((l.getD k 0).toNat - 48)
     · rw [if_pos hbig, decide_eq_true (show ((v * 10 + ((l.getD k 0).toNat - 48) : Nat) : Int) > 65535 by omega)]
       rfl
     · rw [if_neg hbig, decide_eq_false (show ¬ ((v * 10 + ((l.getD k 0).toNat - 48) : Nat) : Int) > 65535 by omega), bif_ff]
       exact lo15z sc us ho pa qu fr hu hp ha hq hf l hl hd n j (k + 1) _ (by omega) (by omega) (by omega)
   · rw [sizeM, decide_eq_false (show ¬ (k : Int) < (l.length : Int) by omega), List.drop_of_length_le (by omega)]
     rfl
theorem kP10 : Knn P10 := known_add kN29 (con_and (fun cargs rv outs h => kT11 10 cargs rv outs h) oj)
theorem cn15 : Cn 15 Z15 := contract_of aL15z onN (hok_of kP10) fun cargs rv outs h => by
 unfold Z15 at h
 split at h <;> first | (cases h; done) | skip
 rename_i sc us hu ho po hp ha pa qu hq fr hf
 cases h7 : s7 sc us ho po pa qu fr with
 | false => rw [h7] at h; cases h
 | true =>
   rw [h7] at h
   cases h
   have hz := s7_sz h7
   refine ⟨12000, loop1 rfl (by kernel_rfl) (by kernel_rfl) (by kernel_rfl) (hd := hL15z) (by kernel_rfl) ?_⟩
   refine (nb15 sc us ho po pa qu fr hu hp ha hq hf 12000 (R15z sc us ho po pa qu fr hu hp ha hq hf 12000 12000)).trans ?_
   rw [s7_n7 h7, decide_eq_true (show sc.size ≤ 10000 by omega)]
   have key : preU sc us ho po pa qu fr hu hp ha hq hf = true → R15z sc us ho po pa qu fr hu hp ha hq hf 12000 12000 (mkEnv 57 [(1, .bptr 0 0), (4, .c (.int .i64 (Int.ofNat 0))), (5, .c (.int .i64 (Int.ofNat 0)))]) [.box (.c (uV sc us hu ho po hp ha pa qu hq fr hf)) kU] = some (.int .i64 ((prtN 0 po.data.toList : Nat) : Int), []) := by
     intro hp1
     have g := of_pre hp1
     obtain ⟨l, rfl⟩ : ∃ l, po = mkS l := ⟨_, (mkS_bl po).symm⟩
     rw [dataM] at g ⊢
     have hl := hz.2.2.2.1
     rw [sizeM] at hl
     exact lo15z sc us ho pa qu fr hu hp ha hq hf l (by omega) (dig_all g.p1) 12000 12000 0 0 (by omega) (by omega) (by omega)
   have hk : kI sc us ho po pa qu fr hu hp ha hq hf = (((if (mayU sc us ho po pa qu fr hu hp ha hq hf && ((isH sc || isHs sc) && (!hu && (!emS ho && !hf)))) = true then prtZ sc po else 0) : Nat) : Int) := rfl
   rw [hk]
   unfold preU at key
   unfold prtZ
   show bif' true (bif' (true && mayU sc us ho po pa qu fr hu hp ha hq hf) (bif' (!isH sc) (bif' (!isHs sc) _ (bif' hu _ (bif' (emS ho) _ (bif' hf _ (bif' (emS po) (bif' (isHs sc) _ _) _))))) (bif' hu _ (bif' (emS ho) _ (bif' hf _ (bif' (emS po) (bif' (isHs sc) _ _) _))))) _) none = _
   generalize mayU sc us ho po pa qu fr hu hp ha hq hf = b1 at key ⊢
   generalize isH sc = b2 at key ⊢
   generalize isHs sc = b3 at key ⊢
   generalize emS ho = b4 at key ⊢
   generalize emS po = b5 at key ⊢
   cases b1
   · rfl
   cases b2 <;> cases b3 <;> cases hu <;> cases b4 <;> cases hf <;> cases b5 <;> first | rfl | exact key rfl
end Go.Pv
namespace Go.Pv
set_option maxRecDepth 100000
open Go Go.Proofs
def nPa (s : ByteArray) : ByteArray := if emS (dotS (tidS s)) = true then mkS [47] else dotS (tidS s)
def nHp (sc : ByteArray) (k : Int) : Bool := !(k == stdI sc)
def nPo (sc : ByteArray) (k : Int) : ByteArray := if nHp sc k = true then decS k else nB
def orgS (sc ho : ByteArray) (k : Int) : ByteArray := lowS sc ++ (ByteArray.mk #[58, 47, 47]) ++ tidHS ho ++ (ByteArray.mk #[58]) ++ decS k
def nrmV (sc us ho po pa qu fr : ByteArray) (hu hp ha hq hf : Bool) : CV := uV (lowS sc) us hu (tidHS ho) (nPo sc (kI sc us ho po pa qu fr hu hp ha hq hf)) (nHp sc (kI sc us ho po pa qu fr hu hp ha hq hf)) ha (nPa pa) (tidS qu) hq fr hf
def Z12 : Fn1 := fun cargs => match cargs with
 | [.agg [.str sc, .str us, .bool hu, .str ho, .str po, .bool hp, .bool ha, .str pa, .str qu, .bool hq, .str fr, .bool hf]] => some [(s7 sc us ho po pa qu fr && kOk sc us ho po pa qu fr hu hp ha hq hf, .tup [nrmV sc us ho po pa qu fr hu hp ha hq hf, .int .i64 0], []), (s7 sc us ho po pa qu fr, .tup [zV, .int .i64 1], [])]
 | _ => none
def Z13 : Fn1 := fun cargs => match cargs with
 | [.agg [.str sc, .str us, .bool hu, .str ho, .str po, .bool hp, .bool ha, .str pa, .str qu, .bool hq, .str fr, .bool hf]] => some [(s7 sc us ho po pa qu fr && kOk sc us ho po pa qu fr hu hp ha hq hf, .tup [.str (orgS sc ho (kI sc us ho po pa qu fr hu hp ha hq hf)), .int .i64 0], []), (s7 sc us ho po pa qu fr, .tup [.str nB, .int .i64 1], [])]
 | _ => none
def Z16 : Fn1 := fun cargs => match cargs with
 | [.agg [.str sc, .str us, .bool hu, .str ho, .str po, .bool hp, .bool ha, .str pa, .str qu, .bool hq, .str fr, .bool hf]] => some [(s7 sc us ho po pa qu fr && kOk sc us ho po pa qu fr hu hp ha hq hf, nrmV sc us ho po pa qu fr hu hp ha hq hf, [])]
 | _ => none
def Z17 : Fn1 := fun cargs => match cargs with
 | [.agg [.str sc, .str us, .bool hu, .str ho, .str po, .bool hp, .bool ha, .str pa, .str qu, .bool hq, .str fr, .bool hf]] => some [(s7 sc us ho po pa qu fr && kOk sc us ho po pa qu fr hu hp ha hq hf, .str (orgS sc ho (kI sc us ho po pa qu fr hu hp ha hq hf)), [])]
 | _ => none
def Wz19 : Table := fun g => if Nat.beq g 19 then Q19 else N29 g
def Wz30 : Table := fun g => if Nat.beq g 30 then L30z else Wz19 g
def Wz14 : Table := fun g => if Nat.beq g 14 then Z14 else Wz30 g
def Wz12 : Table := fun g => if Nat.beq g 12 then Z12 else Wz14 g
def Wz13 : Table := fun g => if Nat.beq g 13 then Z13 else Wz12 g
def Wz35 : Table := fun g => if Nat.beq g 35 then L35z 100000 else Wz13 g
def Wz8 : Table := fun g => if Nat.beq g 8 then Q19 else Wz35 g
def Wz15 : Table := fun g => if Nat.beq g 15 then Z15 else Wz8 g
def Wz16 : Table := fun g => if Nat.beq g 16 then Z16 else Wz15 g
def Wz17 : Table := fun g => if Nat.beq g 17 then Z17 else Wz16 g
def Wz18 : Table := fun g => if Nat.beq g 18 then M21 else Wz17 g
def Wz9 : Table := fun g => if Nat.beq g 9 then N9 else Wz18 g
def Wz7 : Table := fun g => if Nat.beq g 7 then Q7 else Wz9 g
theorem nr12 (sc us ho po pa qu fr : ByteArray) (hu hp ha hq hf : Bool) : abody Tryz.prog (call' Wz14) (fun _ => none) 1 12 [uV sc us hu ho po hp ha pa qu hq fr hf] =
 bif' (s7 sc us ho po pa qu fr && kOk sc us ho po pa qu fr hu hp ha hq hf) (bif' (decide (sc.size ≤ 10000)) (bif' (decide (ho.size ≤ 4000) && stS ho) (bif' (decide ((tidS ho).size ≤ 4000) && stS (tidS ho)) (bif' (decide (pa.size ≤ 4000) && stS pa) (bif' (decide ((tidS pa).size ≤ 4000)) (bif' (decide (qu.size ≤ 4000) && stS qu) (bif' (decide ((lowS sc).size ≤ 10000)) (bif' (decide (0 ≤ kI sc us ho po pa qu fr hu hp ha hq hf) && decide (kI sc us ho po pa qu fr hu hp ha hq hf < 100000)) (bif' (!kI sc us ho po pa qu fr hu hp ha hq hf != stdI (lowS sc)) (bif' ((dotS (tidS pa)).toList == (ByteArray.mk #[]).toList) (some (CV.tup [CV.agg [CV.str (lowS sc), CV.str us, CV.bool hu, CV.str (lowHS (tidS ho)), CV.str ⟨⟨[]⟩⟩, CV.bool (kI sc us ho po pa qu fr hu hp ha hq hf != stdI (lowS sc)), CV.bool ha, CV.str (ByteArray.mk (Array.mk [(47 : UInt8)])), CV.str (tidS qu), CV.bool hq, CV.str fr, CV.bool hf], CV.int .i64 (.ofNat 0)], [])) (some (CV.tup [CV.agg [CV.str (lowS sc), CV.str us, CV.bool hu, CV.str (lowHS (tidS ho)), CV.str ⟨⟨[]⟩⟩, CV.bool (kI sc us ho po pa qu fr hu hp ha hq hf != stdI (lowS sc)), CV.bool ha, CV.str (dotS (tidS pa)), CV.str (tidS qu), CV.bool hq, CV.str fr, CV.bool hf], CV.int .i64 (.ofNat 0)], []))) (bif' ((dotS (tidS pa)).toList == (ByteArray.mk #[]).toList) (some (CV.tup [CV.agg [CV.str (lowS sc), CV.str us, CV.bool hu, CV.str (lowHS (tidS ho)), CV.str (decS (kI sc us ho po pa qu fr hu hp ha hq hf)), CV.bool (kI sc us ho po pa qu fr hu hp ha hq hf != stdI (lowS sc)), CV.bool ha, CV.str (ByteArray.mk (Array.mk [(47 : UInt8)])), CV.str (tidS qu), CV.bool hq, CV.str fr, CV.bool hf], CV.int .i64 (.ofNat 0)], [])) (some (CV.tup [CV.agg [CV.str (lowS sc), CV.str us, CV.bool hu, CV.str (lowHS (tidS ho)), CV.str (decS (kI sc us ho po pa qu fr hu hp ha hq hf)), CV.bool (kI sc us ho po pa qu fr hu hp ha hq hf != stdI (lowS sc)), CV.bool ha, CV.str (dotS (tidS pa)), CV.str (tidS qu), CV.bool hq, CV.str fr, CV.bool hf], CV.int .i64 (.ofNat 0)], [])))) none) none) none) none) none) none) none) none) (bif' (s7 sc us ho po pa qu fr) (some (CV.tup [CV.agg [CV.str ⟨⟨[]⟩⟩, CV.str ⟨⟨[]⟩⟩, CV.bool false, CV.str ⟨⟨[]⟩⟩, CV.str ⟨⟨[]⟩⟩, CV.bool false, CV.bool false, CV.str ⟨⟨[]⟩⟩, CV.str ⟨⟨[]⟩⟩, CV.bool false, CV.str ⟨⟨[]⟩⟩, CV.bool false], CV.int .i64 (.ofNat 1)], [])) none) := by kernel_rfl
theorem nr13 (sc us ho po pa qu fr : ByteArray) (hu hp ha hq hf : Bool) : abody Tryz.prog (call' Wz12) (fun _ => none) 1 13 [uV sc us hu ho po hp ha pa qu hq fr hf] =
 bif' (s7 sc us ho po pa qu fr && kOk sc us ho po pa qu fr hu hp ha hq hf) (bif' (s7 sc us ho po pa qu fr && kOk sc us ho po pa qu fr hu hp ha hq hf) (bif' (fitsS ((lowS sc).size + 3)) (bif' (fitsS ((lowS sc ++ ByteArray.mk #[58, 47, 47]).size + (tidHS ho).size)) (bif' (fitsS ((lowS sc ++ ByteArray.mk #[58, 47, 47] ++ tidHS ho).size + 1)) (bif' (decide (0 ≤ kI sc us ho po pa qu fr hu hp ha hq hf) && decide (kI sc us ho po pa qu fr hu hp ha hq hf < 100000)) (bif' (fitsS ((lowS sc ++ ByteArray.mk #[58, 47, 47] ++ tidHS ho ++ ByteArray.mk #[58]).size + (decS (kI sc us ho po pa qu fr hu hp ha hq hf)).size)) (some (CV.tup [CV.str (lowS sc ++ ByteArray.mk #[58, 47, 47] ++ tidHS ho ++ ByteArray.mk #[58] ++ decS (kI sc us ho po pa qu fr hu hp ha hq hf)), CV.int .i64 (.ofNat 0)], [])) none) none) none) none) none) (bif' (s7 sc us ho po pa qu fr) (bif' (fitsS 3) (bif' (fitsS 3) (bif' (fitsS 4) (bif' (decide (0 ≤ kI sc us ho po pa qu fr hu hp ha hq hf) && decide (kI sc us ho po pa qu fr hu hp ha hq hf < 100000)) (bif' (fitsS (4 + (decS (kI sc us ho po pa qu fr hu hp ha hq hf)).size)) (some (CV.tup [CV.str (nB ++ ByteArray.mk #[58, 47, 47] ++ nB ++ ByteArray.mk #[58] ++ decS (kI sc us ho po pa qu fr hu hp ha hq hf)), CV.int .i64 (.ofNat 1)], [])) none) none) none) none) none) none)) (bif' (s7 sc us ho po pa qu fr) (some (CV.tup [CV.str ⟨⟨[]⟩⟩, CV.int .i64 (.ofNat 1)], [])) none) := by kernel_rfl
theorem nr16 (sc us ho po pa qu fr : ByteArray) (hu hp ha hq hf : Bool) : abody Tryz.prog (call' Wz15) (fun _ => none) 1 16 [uV sc us hu ho po hp ha pa qu hq fr hf] =
 bif' (s7 sc us ho po pa qu fr) (bif' (decide (sc.size ≤ 10000)) (bif' (decide (ho.size ≤ 4000) && stS ho) (bif' (decide (pa.size ≤ 4000) && stS pa) (bif' (decide ((tidS pa).size ≤ 4000)) (bif' ((dotS (tidS pa)).toList == (ByteArray.mk #[]).toList) (bif' (decide (qu.size ≤ 4000) && stS qu) (bif' (kI sc us ho po pa qu fr hu hp ha hq hf == 80) (bif' ((lowS sc).toList == (ByteArray.mk #[104, 116, 116, 112]).toList) (some (CV.agg [CV.str (lowS sc), CV.str us, CV.bool hu, CV.str (tidHS ho), CV.str ⟨⟨[]⟩⟩, CV.bool false, CV.bool ha, CV.str (ByteArray.mk (Array.mk [(47 : UInt8)])), CV.str (tidS qu), CV.bool hq, CV.str fr, CV.bool hf], [])) (bif' (kI sc us ho po pa qu fr hu hp ha hq hf == 443) (bif' (!(lowS sc).toList == (ByteArray.mk #[104, 116, 116, 112, 115]).toList) (bif' (decide (0 ≤ kI sc us ho po pa qu fr hu hp ha hq hf) && decide (kI sc us ho po pa qu fr hu hp ha hq hf < (↑100000 : Int))) (some (CV.agg [CV.str (lowS sc), CV.str us, CV.bool hu, CV.str (tidHS ho), CV.str (decS (kI sc us ho po pa qu fr hu hp ha hq hf)), CV.bool !(lowS sc).toList == (ByteArray.mk #[104, 116, 116, 112, 115]).toList, CV.bool ha, CV.str (ByteArray.mk (Array.mk [(47 : UInt8)])), CV.str (tidS qu), CV.bool hq, CV.str fr, CV.bool hf], [])) none) (some (CV.agg [CV.str (lowS sc), CV.str us, CV.bool hu, CV.str (tidHS ho), CV.str ⟨⟨[]⟩⟩, CV.bool !(lowS sc).toList == (ByteArray.mk #[104, 116, 116, 112, 115]).toList, CV.bool ha, CV.str (ByteArray.mk (Array.mk [(47 : UInt8)])), CV.str (tidS qu), CV.bool hq, CV.str fr, CV.bool hf], []))) (bif' (decide (0 ≤ kI sc us ho po pa qu fr hu hp ha hq hf) && decide (kI sc us ho po pa qu fr hu hp ha hq hf < (↑100000 : Int))) (some (CV.agg [CV.str (lowS sc), CV.str us, CV.bool hu, CV.str (tidHS ho), CV.str (decS (kI sc us ho po pa qu fr hu hp ha hq hf)), CV.bool true, CV.bool ha, CV.str (ByteArray.mk (Array.mk [(47 : UInt8)])), CV.str (tidS qu), CV.bool hq, CV.str fr, CV.bool hf], [])) none))) (bif' (kI sc us ho po pa qu fr hu hp ha hq hf == 443) (bif' (!(lowS sc).toList == (ByteArray.mk #[104, 116, 116, 112, 115]).toList) (bif' (decide (0 ≤ kI sc us ho po pa qu fr hu hp ha hq hf) && decide (kI sc us ho po pa qu fr hu hp ha hq hf < (↑100000 : Int))) (some (CV.agg [CV.str (lowS sc), CV.str us, CV.bool hu, CV.str (tidHS ho), CV.str (decS (kI sc us ho po pa qu fr hu hp ha hq hf)), CV.bool !(lowS sc).toList == (ByteArray.mk #[104, 116, 116, 112, 115]).toList, CV.bool ha, CV.str (ByteArray.mk (Array.mk [(47 : UInt8)])), CV.str (tidS qu), CV.bool hq, CV.str fr, CV.bool hf], [])) none) (some (CV.agg [CV.str (lowS sc), CV.str us, CV.bool hu, CV.str (tidHS ho), CV.str ⟨⟨[]⟩⟩, CV.bool !(lowS sc).toList == (ByteArray.mk #[104, 116, 116, 112, 115]).toList, CV.bool ha, CV.str (ByteArray.mk (Array.mk [(47 : UInt8)])), CV.str (tidS qu), CV.bool hq, CV.str fr, CV.bool hf], []))) (bif' (decide (0 ≤ kI sc us ho po pa qu fr hu hp ha hq hf) && decide (kI sc us ho po pa qu fr hu hp ha hq hf < (↑100000 : Int))) (some (CV.agg [CV.str (lowS sc), CV.str us, CV.bool hu, CV.str (tidHS ho), CV.str (decS (kI sc us ho po pa qu fr hu hp ha hq hf)), CV.bool true, CV.bool ha, CV.str (ByteArray.mk (Array.mk [(47 : UInt8)])), CV.str (tidS qu), CV.bool hq, CV.str fr, CV.bool hf], [])) none))) none) (bif' (decide (qu.size ≤ 4000) && stS qu) (bif' (kI sc us ho po pa qu fr hu hp ha hq hf == 80) (bif' ((lowS sc).toList == (ByteArray.mk #[104, 116, 116, 112]).toList) (some (CV.agg [CV.str (lowS sc), CV.str us, CV.bool hu, CV.str (tidHS ho), CV.str ⟨⟨[]⟩⟩, CV.bool false, CV.bool ha, CV.str (dotS (tidS pa)), CV.str (tidS qu), CV.bool hq, CV.str fr, CV.bool hf], [])) (bif' (kI sc us ho po pa qu fr hu hp ha hq hf == 443) (bif' (!(lowS sc).toList == (ByteArray.mk #[104, 116, 116, 112, 115]).toList) (bif' (decide (0 ≤ kI sc us ho po pa qu fr hu hp ha hq hf) && decide (kI sc us ho po pa qu fr hu hp ha hq hf < (↑100000 : Int))) (some (CV.agg [CV.str (lowS sc), CV.str us, CV.bool hu, CV.str (tidHS ho), CV.str (decS (kI sc us ho po pa qu fr hu hp ha hq hf)), CV.bool !(lowS sc).toList == (ByteArray.mk #[104, 116, 116, 112, 115]).toList, CV.bool ha, CV.str (dotS (tidS pa)), CV.str (tidS qu), CV.bool hq, CV.str fr, CV.bool hf], [])) none) (some (CV.agg [CV.str (lowS sc), CV.str us, CV.bool hu, CV.str (tidHS ho), CV.str ⟨⟨[]⟩⟩, CV.bool !(lowS sc).toList == (ByteArray.mk #[104, 116, 116, 112, 115]).toList, CV.bool ha, CV.str (dotS (tidS pa)), CV.str (tidS qu), CV.bool hq, CV.str fr, CV.bool hf], []))) (bif' (decide (0 ≤ kI sc us ho po pa qu fr hu hp ha hq hf) && decide (kI sc us ho po pa qu fr hu hp ha hq hf < (↑100000 : Int))) (some (CV.agg [CV.str (lowS sc), CV.str us, CV.bool hu, CV.str (tidHS ho), CV.str (decS (kI sc us ho po pa qu fr hu hp ha hq hf)), CV.bool true, CV.bool ha, CV.str (dotS (tidS pa)), CV.str (tidS qu), CV.bool hq, CV.str fr, CV.bool hf], [])) none))) (bif' (kI sc us ho po pa qu fr hu hp ha hq hf == 443) (bif' (!(lowS sc).toList == (ByteArray.mk #[104, 116, 116, 112, 115]).toList) (bif' (decide (0 ≤ kI sc us ho po pa qu fr hu hp ha hq hf) && decide (kI sc us ho po pa qu fr hu hp ha hq hf < (↑100000 : Int))) (some (CV.agg [CV.str (lowS sc), CV.str us, CV.bool hu, CV.str (tidHS ho), CV.str (decS (kI sc us ho po pa qu fr hu hp ha hq hf)), CV.bool !(lowS sc).toList == (ByteArray.mk #[104, 116, 116, 112, 115]).toList, CV.bool ha, CV.str (dotS (tidS pa)), CV.str (tidS qu), CV.bool hq, CV.str fr, CV.bool hf], [])) none) (some (CV.agg [CV.str (lowS sc), CV.str us, CV.bool hu, CV.str (tidHS ho), CV.str ⟨⟨[]⟩⟩, CV.bool !(lowS sc).toList == (ByteArray.mk #[104, 116, 116, 112, 115]).toList, CV.bool ha, CV.str (dotS (tidS pa)), CV.str (tidS qu), CV.bool hq, CV.str fr, CV.bool hf], []))) (bif' (decide (0 ≤ kI sc us ho po pa qu fr hu hp ha hq hf) && decide (kI sc us ho po pa qu fr hu hp ha hq hf < (↑100000 : Int))) (some (CV.agg [CV.str (lowS sc), CV.str us, CV.bool hu, CV.str (tidHS ho), CV.str (decS (kI sc us ho po pa qu fr hu hp ha hq hf)), CV.bool true, CV.bool ha, CV.str (dotS (tidS pa)), CV.str (tidS qu), CV.bool hq, CV.str fr, CV.bool hf], [])) none))) none)) none) none) none) none) none := by kernel_rfl
theorem nr17 (sc us ho po pa qu fr : ByteArray) (hu hp ha hq hf : Bool) : abody Tryz.prog (call' Wz16) (fun _ => none) 1 17 [uV sc us hu ho po hp ha pa qu hq fr hf] =
 bif' (s7 sc us ho po pa qu fr && kOk sc us ho po pa qu fr hu hp ha hq hf) (bif' (fitsS ((lowS sc).size + 3)) (bif' (fitsS ((lowS sc ++ ByteArray.mk #[58, 47, 47]).size + (tidHS ho).size)) (bif' (fitsS ((lowS sc ++ ByteArray.mk #[58, 47, 47] ++ tidHS ho).size + 1)) (bif' (s7 sc us ho po pa qu fr) (bif' (decide (0 ≤ kI sc us ho po pa qu fr hu hp ha hq hf) && decide (kI sc us ho po pa qu fr hu hp ha hq hf < (↑100000 : Int))) (bif' (fitsS ((lowS sc ++ ByteArray.mk #[58, 47, 47] ++ tidHS ho ++ ByteArray.mk #[58]).size + (decS (kI sc us ho po pa qu fr hu hp ha hq hf)).size)) (some (CV.str (lowS sc ++ ByteArray.mk #[58, 47, 47] ++ tidHS ho ++ ByteArray.mk #[58] ++ decS (kI sc us ho po pa qu fr hu hp ha hq hf)), [])) none) none) none) none) none) none) none := by kernel_rfl
theorem nr5 (sc us ho po pa qu fr : ByteArray) (hu hp ha hq hf : Bool) : abody Tryz.prog (call' Wz7) (fun _ => none) 1 5 [uV sc us hu ho po hp ha pa qu hq fr hf] =
 bif' (s7 sc us ho po pa qu fr) (bif' (s7 sc us ho po pa qu fr && kOk sc us ho po pa qu fr hu hp ha hq hf) (bif' (s7 sc us ho po pa qu fr && kOk sc us ho po pa qu fr hu hp ha hq hf) (bif' (s7 sc us ho po pa qu fr && kOk sc us ho po pa qu fr hu hp ha hq hf) (bif' (s7 sc us ho po pa qu fr) (bif' (kI sc us ho po pa qu fr hu hp ha hq hf == 0) (some (CV.bool false, [])) (bif' (kI sc us ho po pa qu fr hu hp ha hq hf != kI sc us ho po pa qu fr hu hp ha hq hf) (some (CV.bool false, [])) (bif' (s7 sc us ho po pa qu fr && kOk sc us ho po pa qu fr hu hp ha hq hf) (bif' (!(lowS sc == lowS sc && (us == us && (hu == hu && (tidHS ho == tidHS ho && (nPo sc (kI sc us ho po pa qu fr hu hp ha hq hf) == nPo sc (kI sc us ho po pa qu fr hu hp ha hq hf) && (nHp sc (kI sc us ho po pa qu fr hu hp ha hq hf) == nHp sc (kI sc us ho po pa qu fr hu hp ha hq hf) && (ha == ha && (nPa pa == nPa pa && (tidS qu == tidS qu && (hq == hq && (fr == fr && (hf == hf && true))))))))))))) (some (CV.bool false, [])) (bif' (s7 sc us ho po pa qu fr && kOk sc us ho po pa qu fr hu hp ha hq hf) (bif' (!(orgS sc ho (kI sc us ho po pa qu fr hu hp ha hq hf)).toList == (orgS sc ho (kI sc us ho po pa qu fr hu hp ha hq hf)).toList) (some (CV.bool false, [])) (bif' (n7 (lowS sc) us (tidHS ho) (nPo sc (kI sc us ho po pa qu fr hu hp ha hq hf)) (nPa pa) (tidS qu) fr) (bif' (decide (2048 < (joinU (lowS sc) us (tidHS ho) (nPo sc (kI sc us ho po pa qu fr hu hp ha hq hf)) (nPa pa) (tidS qu) fr hu (nHp sc (kI sc us ho po pa qu fr hu hp ha hq hf)) ha hq hf).size)) (some (CV.bool true, [])) (bif' (s7 (lowS sc) us (tidHS ho) (nPo sc (kI sc us ho po pa qu fr hu hp ha hq hf)) (nPa pa) (tidS qu) fr && kOk (lowS sc) us (tidHS ho) (nPo sc (kI sc us ho po pa qu fr hu hp ha hq hf)) (nPa pa) (tidS qu) fr hu (nHp sc (kI sc us ho po pa qu fr hu hp ha hq hf)) ha hq hf) (bif' (s7 (lowS sc) us (tidHS ho) (nPo sc (kI sc us ho po pa qu fr hu hp ha hq hf)) (nPa pa) (tidS qu) fr && kOk (lowS sc) us (tidHS ho) (nPo sc (kI sc us ho po pa qu fr hu hp ha hq hf)) (nPa pa) (tidS qu) fr hu (nHp sc (kI sc us ho po pa qu fr hu hp ha hq hf)) ha hq hf) (bif' (lowS (lowS sc) == lowS sc && (us == us && (hu == hu && (tidHS (tidHS ho) == tidHS ho && (nPo (lowS sc) (kI (lowS sc) us (tidHS ho) (nPo sc (kI sc us ho po pa qu fr hu hp ha hq hf)) (nPa pa) (tidS qu) fr hu (nHp sc (kI sc us ho po pa qu fr hu hp ha hq hf)) ha hq hf) == nPo sc (kI sc us ho po pa qu fr hu hp ha hq hf) && (nHp (lowS sc) (kI (lowS sc) us (tidHS ho) (nPo sc (kI sc us ho po pa qu fr hu hp ha hq hf)) (nPa pa) (tidS qu) fr hu (nHp sc (kI sc us ho po pa qu fr hu hp ha hq hf)) ha hq hf) == nHp sc (kI sc us ho po pa qu fr hu hp ha hq hf) && (ha == ha && (nPa (nPa pa) == nPa pa && (tidS (tidS qu) == tidS qu && (hq == hq && (fr == fr && (hf == hf && true)))))))))))) (bif' ((orgS (lowS sc) (tidHS ho) (kI (lowS sc) us (tidHS ho) (nPo sc (kI sc us ho po pa qu fr hu hp ha hq hf)) (nPa pa) (tidS qu) fr hu (nHp sc (kI sc us ho po pa qu fr hu hp ha hq hf)) ha hq hf)).toList == (orgS sc ho (kI sc us ho po pa qu fr hu hp ha hq hf)).toList) (some (CV.bool true, [])) (some (CV.bool false, []))) (some (CV.bool false, []))) (bif' (s7 (lowS sc) us (tidHS ho) (nPo sc (kI sc us ho po pa qu fr hu hp ha hq hf)) (nPa pa) (tidS qu) fr) (some (CV.bool false, [])) none)) (bif' (s7 (lowS sc) us (tidHS ho) (nPo sc (kI sc us ho po pa qu fr hu hp ha hq hf)) (nPa pa) (tidS qu) fr) (bif' (s7 (lowS sc) us (tidHS ho) (nPo sc (kI sc us ho po pa qu fr hu hp ha hq hf)) (nPa pa) (tidS qu) fr && kOk (lowS sc) us (tidHS ho) (nPo sc (kI sc us ho po pa qu fr hu hp ha hq hf)) (nPa pa) (tidS qu) fr hu (nHp sc (kI sc us ho po pa qu fr hu hp ha hq hf)) ha hq hf) (some (CV.bool false, [])) (bif' (s7 (lowS sc) us (tidHS ho) (nPo sc (kI sc us ho po pa qu fr hu hp ha hq hf)) (nPa pa) (tidS qu) fr) (some (CV.bool false, [])) none)) none))) none)) none)) none))) none) (bif' (s7 sc us ho po pa qu fr) (bif' (s7 sc us ho po pa qu fr) (bif' (kI sc us ho po pa qu fr hu hp ha hq hf == 0) (some (CV.bool false, [])) (some (CV.bool false, []))) none) none)) (bif' (s7 sc us ho po pa qu fr) (bif' (s7 sc us ho po pa qu fr && kOk sc us ho po pa qu fr hu hp ha hq hf) (bif' (s7 sc us ho po pa qu fr) (bif' (kI sc us ho po pa qu fr hu hp ha hq hf == 0) (some (CV.bool false, [])) (some (CV.bool false, []))) none) (bif' (s7 sc us ho po pa qu fr) (bif' (s7 sc us ho po pa qu fr) (bif' (kI sc us ho po pa qu fr hu hp ha hq hf == 0) (some (CV.bool false, [])) (some (CV.bool false, []))) none) none)) none)) (bif' (s7 sc us ho po pa qu fr) (bif' (s7 sc us ho po pa qu fr && kOk sc us ho po pa qu fr hu hp ha hq hf) (bif' (s7 sc us ho po pa qu fr && kOk sc us ho po pa qu fr hu hp ha hq hf) (bif' (s7 sc us ho po pa qu fr) (bif' (kI sc us ho po pa qu fr hu hp ha hq hf == 0) (some (CV.bool false, [])) (some (CV.bool false, []))) none) (bif' (s7 sc us ho po pa qu fr) (bif' (s7 sc us ho po pa qu fr) (bif' (kI sc us ho po pa qu fr hu hp ha hq hf == 0) (some (CV.bool false, [])) (some (CV.bool false, []))) none) none)) (bif' (s7 sc us ho po pa qu fr) (bif' (s7 sc us ho po pa qu fr && kOk sc us ho po pa qu fr hu hp ha hq hf) (bif' (s7 sc us ho po pa qu fr) (bif' (kI sc us ho po pa qu fr hu hp ha hq hf == 0) (some (CV.bool false, [])) (some (CV.bool false, []))) none) (bif' (s7 sc us ho po pa qu fr) (bif' (s7 sc us ho po pa qu fr) (bif' (kI sc us ho po pa qu fr hu hp ha hq hf == 0) (some (CV.bool true, [])) (some (CV.bool false, []))) none) none)) none)) none)) (some (CV.bool true, [])) := by kernel_rfl
end Go.Pv
namespace Go.Pv
set_option maxRecDepth 100000
open Go Go.Proofs
def pN (A : List UInt8) : List UInt8 := if (dotsL (tidL A)).isEmpty = true then [47] else dotsL (tidL A)
theorem dotS_mk (l : List UInt8) : dotS (mkS l) = mkS (dotsL l) := by unfold dotS; rw [dataM]
theorem nPa_mk (A : List UInt8) : nPa (mkS A) = mkS (pN A) := by
 unfold nPa pN
 rw [tid_S, dotS_mk, emS_mk]
 split <;> rfl
theorem http_l {S : List UInt8} (h : isH (mkS S) = true ∨ isHs (mkS S) = true) : lowL S = [104, 116, 116, 112] ∨ lowL S = [104, 116, 116, 112, 115] := by
 unfold isH isHs at h
 rw [low_S, toList_data, toList_data, toList_data, dataM] at h
 rcases h with h | h
 · exact .inl (eq_of_beq h)
 · exact .inr (eq_of_beq h)
theorem tidL_slash {A : List UInt8} (h : slash A) : slash (tidL A) := by
 rcases h with rfl | ⟨t, rfl⟩
 · exact .inl rfl
 · refine .inr ⟨tidL t, ?_⟩
   exact tidG_ch _ _ (by decide)
theorem pN_good {A : List UInt8} (ha : slash A) (h2 : ∀ b ∈ A, b ≠ 63 ∧ b ≠ 35 ∧ b ≠ 91 ∧ b ≠ 93) (hs : Sg qS pS A) : slash (pN A) ∧ (∀ b ∈ pN A, b ≠ 63 ∧ b ≠ 35 ∧ b ≠ 91 ∧ b ≠ 93) ∧ Sg qS pT (pN A) ∧ pN A ≠ [] := by
 unfold pN
 cases he : (dotsL (tidL A)).isEmpty with
 | true => exact ⟨.inr ⟨[], rfl⟩, fun b hb => by simp at hb; subst hb; decide, .ch 47 [] (by decide) (by decide) .nil, by simp⟩
 | false =>
   refine ⟨dots_slash (tidL_slash ha), dots_mem (by decide) fun b hb => ?_, dots_sg (tidL_sg hs), fun e => by rw [if_neg Bool.false_ne_true] at e; rw [e] at he; cases he⟩
   refine ⟨fun e => ?_, fun e => ?_, fun e => ?_, fun e => ?_⟩ <;> subst e
   · exact (h2 _ (tidL_mem hs (by decide) hb)).1 rfl
   · exact (h2 _ (tidL_mem hs (by decide) hb)).2.1 rfl
   · exact (h2 _ (tidL_mem hs (by decide) hb)).2.2.1 rfl
   · exact (h2 _ (tidL_mem hs (by decide) hb)).2.2.2 rfl
theorem dots47 : dotsL [47] = [47] := by
 have hp : Parts ([] ++ [[47]]) := ⟨fun e he => by
   simp at he
   subst he
   exact ⟨47, [], rfl, by simp, by unfold special; decide⟩, by simp⟩
 have := dots_id [[47]] [] 12000 hp (by decide)
 unfold dotsL
 show (und 12000 ([[47]] : List (List UInt8)).flatten []).flatten = _
 rw [this]
 rfl
theorem pN_id {A : List UInt8} (hs : Sg qS pS A) (hl : (tidL A).length ≤ 10000) : pN (pN A) = pN A := by
 cases he : (dotsL (tidL A)).isEmpty with
 | true =>
   have e : pN A = [47] := by unfold pN; rw [he, if_pos rfl]
   rw [e]
   unfold pN
   have e1 : tidL [47] = [47] := rfl
   rw [e1, dots47]
   rfl
 | false =>
   have e : pN A = dotsL (tidL A) := by unfold pN; rw [he, if_neg Bool.false_ne_true]
   rw [e]
   unfold pN
   rw [tidL_id (dots_sg (tidL_sg hs)), dotsL_id _ hl, he, if_neg Bool.false_ne_true]
theorem norm_good {S H P A Q : List UInt8} {hp hq : Bool} (g : GoodU S H P A Q hp hq) (hs : isH (mkS S) = true ∨ isHs (mkS S) = true) (hH : H ≠ []) (k : Nat) (b : Bool) :
   GoodU (lowL S) (tidH H) (if b = true then Lib.decDigits k else []) (pN A) (tidL Q) b hq := by
 have hl := http_l hs
 obtain ⟨q1, q2, q3, _⟩ := pN_good g.a1 g.a2 g.a3
 exact {
   s0 := by rcases hl with e | e <;> rw [e] <;> simp
   s1 := by rcases hl with e | e <;> rw [e] <;> decide
   s2 := by rcases hl with e | e <;> rw [e] <;> decide +kernel
   s3 := by rcases hl with e | e <;> rw [e] <;> decide +kernel
   h1 := fun c hc => by
     have n1 : ∀ z ∈ ([35, 47, 58, 63, 64, 91, 93] : List UInt8), z ∈ ([47, 63, 35] : List UInt8) → c ≠ z := fun z hz hz2 e => by
       subst e
       have := g.h1 _ (tidH_mem g.h4 hz hc)
       rw [List.contains_iff_mem.2 hz2] at this
       cases this
     have a1 := n1 47 (by decide) (by decide)
     have a2 := n1 63 (by decide) (by decide)
     have a3 := n1 35 (by decide) (by decide)
     simp [a1, a2, a3]
   h2 := fun c hc e => by
     subst e
     exact g.h2 _ (tidH_mem g.h4 (by decide) hc) rfl
   h3 := host_tid g.h3 g.h4
   h4 := sgL_S (tidH_sg g.h4)
   p1 := by
     unfold digS
     rw [dataM, List.all_eq_true]
     intro c hc
     cases b with
     | true =>
       have := (dec_all k).1 c hc
       simp [this.1, this.2]
     | false => cases hc
   p2 := fun e => by rw [e]; rfl
   a1 := q1
   a2 := q2
   a3 := sgT_S q3
   q1 := fun c hc => by
     refine ⟨fun e => ?_, fun e => ?_, fun e => ?_⟩ <;> subst e
     · exact (g.q1 _ (tidL_mem g.q3 (by decide) hc)).1 rfl
     · exact (g.q1 _ (tidL_mem g.q3 (by decide) hc)).2.1 rfl
     · exact (g.q1 _ (tidL_mem g.q3 (by decide) hc)).2.2 rfl
   q2 := fun e => by rw [g.q2 e]; rfl
   q3 := sgT_S (tidL_sg g.q3) }
theorem tidG_len {f : UInt8 → List UInt8} {gg : UInt8 → UInt8 → List UInt8} {q : UInt8 → Prop} {p : UInt8 → UInt8 → Prop} (hf : ∀ c, (f c).length ≤ 1) (hg : ∀ a b, (gg a b).length ≤ 3) {l : List UInt8} (h : Sg q p l) : (tidG f gg l).length ≤ l.length := by
 induction h with
 | nil => simp [tidG_nil]
 | ch c t _ hc _ ih =>
   rw [tidG_ch _ _ hc, List.length_append, List.length_cons]
   have := hf c
   omega
 | esc a b t _ _ ih =>
   rw [tidG_esc, List.length_append]
   have := hg a b
   simp only [List.length_cons]
   omega
theorem esc3_len (a b : UInt8) : (esc3 a b).length ≤ 3 := by
 have := esc_len (unB a b)
 unfold esc3 esc2
 split
 · exact this
 · rw [low_len']; exact this
theorem tidL_len {l : List UInt8} (h : Sg qS pS l) : (tidL l).length ≤ l.length := tidG_len (fun c => by unfold idB; simp) (fun a b => esc_len _) h
theorem tidH_len {l : List UInt8} (h : Sg qS pS l) : (tidH l).length ≤ l.length := tidG_len (fun c => by unfold loB; simp) esc3_len h
theorem pN_len {A : List UInt8} (h : Sg qS pS A) (hl : A.length ≤ 3000) : (pN A).length ≤ 3000 := by
 unfold pN
 split
 · simp
 · have := dotsL_len (tidL A)
   have := tidL_len h
   omega
theorem kN_le (sc us ho po pa qu fr : ByteArray) (hu hp ha hq hf : Bool) : kN sc us ho po pa qu fr hu hp ha hq hf ≤ 65535 := by
 unfold kN prtZ
 split
 · split
   · split <;> omega
   · rw [prtN_eq _ 0 (by omega)]
     split <;> omega
 · omega
structure OwnU (sc us ho po pa qu fr : ByteArray) (hu hp ha hq hf : Bool) (k : Nat) : Prop where
 eu : hu = false
 ef : hf = false
 ea : ha = true
 eus : us = nB
 efr : fr = nB
 hsc : isH sc = true ∨ isHs sc = true
 hho : ho.data.toList ≠ []
 g : GoodU sc.data.toList ho.data.toList po.data.toList pa.data.toList qu.data.toList hp hq
 k1 : 1 ≤ k
 k2 : k ≤ 65535
theorem own_of {sc us ho po pa qu fr : ByteArray} {hu hp ha hq hf : Bool} (h : kOk sc us ho po pa qu fr hu hp ha hq hf = true) : OwnU sc us ho po pa qu fr hu hp ha hq hf (kN sc us ho po pa qu fr hu hp ha hq hf) := by
 unfold kOk at h
 rw [Bool.not_eq_true', decide_eq_false_iff_not] at h
 have hp1 : preU sc us ho po pa qu fr hu hp ha hq hf = true := by
   cases hc : preU sc us ho po pa qu fr hu hp ha hq hf with
   | true => rfl
   | false =>
     unfold kN at h
     rw [hc, if_neg Bool.false_ne_true] at h
     exact absurd rfl h
 have hle := kN_le sc us ho po pa qu fr hu hp ha hq hf
 generalize kN sc us ho po pa qu fr hu hp ha hq hf = k at h hle ⊢
 rw [← mkS_bl sc, ← mkS_bl us, ← mkS_bl ho, ← mkS_bl po, ← mkS_bl pa, ← mkS_bl qu, ← mkS_bl fr] at hp1
 obtain ⟨h1, h2, h3, h4, h5, h6, h7, h8⟩ := pre_good hp1
 exact ⟨h1, h2, h4, by rw [← mkS_bl us, h5]; rfl, by rw [← mkS_bl fr, h6]; rfl, by rw [mkS_bl] at h7; exact h7, h3, h8, by omega, hle⟩
theorem nHp_low (sc : ByteArray) (k : Int) : nHp (lowS sc) k = nHp sc k := by
 unfold nHp
 rw [std_eq, std_sc]
theorem nPo_low (sc : ByteArray) (k : Int) : nPo (lowS sc) k = nPo sc k := by
 unfold nPo
 rw [nHp_low]
theorem isH_low (sc : ByteArray) : isH (lowS sc) = isH sc := by unfold isH; rw [lowS_low]
theorem isHs_low (sc : ByteArray) : isHs (lowS sc) = isHs sc := by unfold isHs; rw [lowS_low]
theorem st_of {s : ByteArray} (h : Sg qS pS s.data.toList) : stS s = true := by
 unfold stS
 rw [st_iff]
 exact h
theorem tidS_l (s : ByteArray) : (tidS s).data.toList = tidL s.data.toList := by unfold tidS; rw [dataM]
theorem tidHS_l (s : ByteArray) : (tidHS s).data.toList = tidH s.data.toList := by unfold tidHS; rw [dataM]
theorem lowS_l (s : ByteArray) : (lowS s).data.toList = lowL s.data.toList := by unfold lowS; rw [dataM]
theorem nPa_l (s : ByteArray) : (nPa s).data.toList = pN s.data.toList := by
 have := nPa_mk s.data.toList
 rw [mkS_bl] at this
 rw [this, dataM]
theorem nPo_l (sc : ByteArray) (k : Nat) : (nPo sc (k : Int)).data.toList = if nHp sc (k : Int) = true then Lib.decDigits k else [] := by
 unfold nPo
 split
 · rw [decS_nat, dataM]
 · rfl
variable {sc us ho po pa qu fr : ByteArray} {hu hp ha hq hf : Bool} {k : Nat}
namespace OwnU
set_option maxRecDepth 100000
theorem lowHS_tid (o : OwnU sc us ho po pa qu fr hu hp ha hq hf k) : lowHS (tidS ho) = tidHS ho := by
 unfold lowHS tidHS
 rw [tidS_l, lowH_tid o.g.h4]
theorem st_ho (o : OwnU sc us ho po pa qu fr hu hp ha hq hf k) : stS ho = true ∧ stS (tidS ho) = true ∧ stS pa = true ∧ stS qu = true :=
 ⟨st_of o.g.h4, st_of (by rw [tidS_l]; exact sgT_S (tidL_sg o.g.h4)), st_of o.g.a3, st_of o.g.q3⟩
theorem sz (o : OwnU sc us ho po pa qu fr hu hp ha hq hf k) : (tidS ho).size ≤ ho.size ∧ (tidS pa).size ≤ pa.size ∧ (tidHS ho).size ≤ ho.size ∧ (tidS qu).size ≤ qu.size := by
 refine ⟨?_, ?_, ?_, ?_⟩
 · rw [← data_len, ← data_len, tidS_l]; exact tidL_len o.g.h4
 · rw [← data_len, ← data_len, tidS_l]; exact tidL_len o.g.a3
 · rw [← data_len, ← data_len, tidHS_l]; exact tidH_len o.g.h4
 · rw [← data_len, ← data_len, tidS_l]; exact tidL_len o.g.q3
theorem good (o : OwnU sc us ho po pa qu fr hu hp ha hq hf k) : GoodU (lowS sc).data.toList (tidHS ho).data.toList (nPo sc (k : Int)).data.toList (nPa pa).data.toList (tidS qu).data.toList (nHp sc (k : Int)) hq := by
 have hs := o.hsc
 rw [← mkS_bl sc] at hs
 have := norm_good o.g hs o.hho k (nHp sc (k : Int))
 rw [lowS_l, tidHS_l, nPo_l, nPa_l, tidS_l]
 exact this
theorem s7n (o : OwnU sc us ho po pa qu fr hu hp ha hq hf k) (h : s7 sc us ho po pa qu fr = true) : s7 (lowS sc) us (tidHS ho) (nPo sc (k : Int)) (nPa pa) (tidS qu) fr = true := by
 have hz := s7_sz h
 have hz2 := o.sz
 have hp : (nPo sc (k : Int)).size ≤ 3000 := by
   rw [← data_len, nPo_l]
   have := dec_len o.k2
   split
   · omega
   · simp
 have hpa : (nPa pa).size ≤ 3000 := by
   rw [← data_len, nPa_l]
   exact pN_len o.g.a3 (by rw [data_len]; omega)
 have hsc := lowS_len sc
 unfold s7
 simp only [Bool.and_eq_true, n3_iff]
 omega
theorem again (o : OwnU sc us ho po pa qu fr hu hp ha hq hf k) (hl : (joinU (lowS sc) us (tidHS ho) (nPo sc (k : Int)) (nPa pa) (tidS qu) fr hu (nHp sc (k : Int)) ha hq hf).size ≤ 2048) :
   kN (lowS sc) us (tidHS ho) (nPo sc (k : Int)) (nPa pa) (tidS qu) fr hu (nHp sc (k : Int)) ha hq hf = k := by
 obtain rfl := o.eu
 obtain rfl := o.ef
 obtain rfl := o.ea
 obtain rfl := o.eus
 obtain rfl := o.efr
 have g := o.good
 have hm : mayU (lowS sc) nB (tidHS ho) (nPo sc (k : Int)) (nPa pa) (tidS qu) nB false (nHp sc (k : Int)) true hq false = true := by
   have e := g.may (by
     have := join_txt (S := (lowS sc).data.toList) (H := (tidHS ho).data.toList) (P := (nPo sc (k : Int)).data.toList) (A := (nPa pa).data.toList) (Q := (tidS qu).data.toList) (hp := nHp sc (k : Int)) (hq := hq) g.s0
     rw [mkS_bl, mkS_bl, mkS_bl, mkS_bl, mkS_bl] at this
     rw [this, sizeM] at hl
     exact hl)
   rw [mkS_bl, mkS_bl, mkS_bl, mkS_bl, mkS_bl] at e
   exact e
 have hho : emS (tidHS ho) = false := by
   rw [← mkS_bl (tidHS ho), emS_mk, tidHS_l]
   have := tidH_ne o.hho o.g.h4
   cases hc : tidH ho.data.toList with
   | nil => exact absurd hc this
   | cons a t => rfl
 have hpre : preU (lowS sc) nB (tidHS ho) (nPo sc (k : Int)) (nPa pa) (tidS qu) nB false (nHp sc (k : Int)) true hq false = true := by
   unfold preU
   rw [hm, hho, isH_low, isHs_low]
   rcases o.hsc with h | h
   · rw [h]; rfl
   · rw [h]; cases isH sc <;> rfl
 unfold kN
 rw [hpre, if_pos rfl]
 unfold prtZ
 have ep : emS (nPo sc (k : Int)) = !nHp sc (k : Int) := by
   rw [← mkS_bl (nPo sc (k : Int)), emS_mk, nPo_l]
   cases nHp sc (k : Int) with
   | false => rfl
   | true =>
     have := (dec_all k).2.2
     rw [if_pos rfl]
     cases hc : Lib.decDigits k with
     | nil => exact absurd hc this
     | cons a t => rfl
 rw [ep]
 cases hh : nHp sc (k : Int) with
 | false =>
   unfold nHp at hh
   rw [Bool.not_eq_false', beq_iff_eq, std_sc] at hh
   rw [Bool.not_false, if_pos rfl, isHs_low]
   split
   · rename_i h; rw [if_pos h] at hh; omega
   · rename_i h; rw [if_neg h] at hh; omega
 | true =>
   rw [Bool.not_true, if_neg Bool.false_ne_true, nPo_l, hh, if_pos rfl, ref_dec o.k2]
theorem low_id (o : OwnU sc us ho po pa qu fr hu hp ha hq hf k) : tidHS (tidHS ho) = tidHS ho ∧ tidS (tidS qu) = tidS qu ∧ (pa.size ≤ 3000 → nPa (nPa pa) = nPa pa) := by
 refine ⟨?_, ?_, fun hz => ?_⟩
 · unfold tidHS
   rw [dataM, tidH_id (tidH_sg o.g.h4)]
 · unfold tidS
   rw [dataM, tidL_id (tidL_sg o.g.q3)]
 · have e : nPa pa = mkS (pN pa.data.toList) := by
     have := nPa_mk pa.data.toList
     rw [mkS_bl] at this
     exact this
   rw [e, nPa_mk, pN_id o.g.a3 (by have := tidL_len o.g.a3; rw [data_len] at this; omega)]
end OwnU
end Go.Pv
namespace Go.Pv
set_option maxRecDepth 100000
open Go Go.Proofs
theorem k_bd (sc us ho po pa qu fr : ByteArray) (hu hp ha hq hf : Bool) : (0 ≤ kI sc us ho po pa qu fr hu hp ha hq hf) ∧ kI sc us ho po pa qu fr hu hp ha hq hf < 100000 := by
 have := kN_le sc us ho po pa qu fr hu hp ha hq hf
 unfold kI
 omega
theorem std_low (sc : ByteArray) : stdI (lowS sc) = stdI sc := by rw [std_eq, std_sc]
theorem not_both (sc : ByteArray) (h : isH sc = true) : isHs sc = false := by
 unfold isH at h
 unfold isHs
 rw [eq_of_beq h]
 decide +kernel
theorem nv12 {sc us ho po pa qu fr : ByteArray} {hu hp ha hq hf : Bool} (h7 : s7 sc us ho po pa qu fr = true) (hk : kOk sc us ho po pa qu fr hu hp ha hq hf = true) :
   abody Tryz.prog (call' Wz14) (fun _ => none) 1 12 [uV sc us hu ho po hp ha pa qu hq fr hf] = some (.tup [nrmV sc us ho po pa qu fr hu hp ha hq hf, .int .i64 0], []) := by
 have o := own_of hk
 have st := o.st_ho
 have sz := o.sz
 have hz := s7_sz h7
 have bd := k_bd sc us ho po pa qu fr hu hp ha hq hf
 rw [nr12, h7, hk, std_low, decide_eq_true (show sc.size ≤ 10000 by omega), decide_eq_true (show ho.size ≤ 4000 by omega), st.1, decide_eq_true (show (tidS ho).size ≤ 4000 by omega), st.2.1, decide_eq_true (show pa.size ≤ 4000 by omega), st.2.2.1,
   decide_eq_true (show (tidS pa).size ≤ 4000 by omega), decide_eq_true (show qu.size ≤ 4000 by omega), st.2.2.2, decide_eq_true (show (lowS sc).size ≤ 10000 by rw [lowS_len]; omega), decide_eq_true bd.1, decide_eq_true (show kI sc us ho po pa qu fr hu hp ha hq hf < 100000 by omega), o.lowHS_tid]
 unfold nrmV nPo nHp nPa emS
 simp only [bne]
 generalize (kI sc us ho po pa qu fr hu hp ha hq hf == stdI sc) = b
 generalize ((dotS (tidS pa)).toList == (ByteArray.mk #[]).toList) = c
 cases b <;> cases c <;> rfl
theorem kWz14 : Knn Wz14 := known_add (known_add (known_add kN29 (con_and (fun cargs rv outs h => m19 cargs rv outs h) oj)) n30) cn14
theorem cn12 : Cn 12 Z12 := contract_of (fun _ => none) onN (hok_of kWz14) fun cargs rv outs h => by
 unfold Z12 at h
 split at h <;> first | (cases h; done) | skip
 rename_i sc us hu ho po hp ha pa qu hq fr hf
 refine ⟨1, ?_⟩
 cases hs : s7 sc us ho po pa qu fr with
 | false => rw [hs] at h; cases h
 | true =>
   cases hk : kOk sc us ho po pa qu fr hu hp ha hq hf with
   | true =>
     rw [hs, hk] at h
     cases h
     exact nv12 hs hk
   | false =>
     rw [hs, hk] at h
     cases h
     refine (nr12 sc us ho po pa qu fr hu hp ha hq hf).trans ?_
     rw [hs, hk]
     rfl
theorem dec_sz (k : Int) (h0 : 0 ≤ k) (h : k < 100000) : (decS k).size ≤ 6 := by
 obtain ⟨n, rfl⟩ := Int.eq_ofNat_of_zero_le h0
 rw [decS_nat, sizeM]
 exact dec_len' 5 n (by omega)
theorem org_fits {sc us ho po pa qu fr : ByteArray} {hu hp ha hq hf : Bool} (h7 : s7 sc us ho po pa qu fr = true) (hk : kOk sc us ho po pa qu fr hu hp ha hq hf = true) :
   fitsS ((lowS sc).size + 3) = true ∧ fitsS ((lowS sc ++ ByteArray.mk #[58, 47, 47]).size + (tidHS ho).size) = true ∧ fitsS ((lowS sc ++ ByteArray.mk #[58, 47, 47] ++ tidHS ho).size + 1) = true ∧
     fitsS ((lowS sc ++ ByteArray.mk #[58, 47, 47] ++ tidHS ho ++ ByteArray.mk #[58]).size + (decS (kI sc us ho po pa qu fr hu hp ha hq hf)).size) = true := by
 have o := own_of hk
 have sz := o.sz
 have hz := s7_sz h7
 have bd := k_bd sc us ho po pa qu fr hu hp ha hq hf
 have hd := dec_sz _ bd.1 bd.2
 have hl := lowS_len sc
 have e3 : (ByteArray.mk #[58, 47, 47]).size = 3 := rfl
 have e1 : (ByteArray.mk #[58]).size = 1 := rfl
 simp only [ByteArray.size_append, e3, e1]
 exact ⟨fits_small (by omega), fits_small (by omega), fits_small (by omega), fits_small (by omega)⟩
theorem kWz12 : Knn Wz12 := known_add kWz14 cn12
theorem cn13 : Cn 13 Z13 := contract_of (fun _ => none) onN (hok_of kWz12) fun cargs rv outs h => by
 unfold Z13 at h
 split at h <;> first | (cases h; done) | skip
 rename_i sc us hu ho po hp ha pa qu hq fr hf
 refine ⟨1, ?_⟩
 cases hs : s7 sc us ho po pa qu fr with
 | false => rw [hs] at h; cases h
 | true =>
   cases hk : kOk sc us ho po pa qu fr hu hp ha hq hf with
   | true =>
     rw [hs, hk] at h
     cases h
     refine (nr13 sc us ho po pa qu fr hu hp ha hq hf).trans ?_
     have bd := k_bd sc us ho po pa qu fr hu hp ha hq hf
     obtain ⟨f1, f2, f3, f4⟩ := org_fits hs hk
     rw [hs, hk, f1, f2, f3, f4, decide_eq_true bd.1, decide_eq_true (show kI sc us ho po pa qu fr hu hp ha hq hf < 100000 by omega)]
     rfl
   | false =>
     rw [hs, hk] at h
     cases h
     refine (nr13 sc us ho po pa qu fr hu hp ha hq hf).trans ?_
     rw [hs, hk]
     rfl
theorem kWz15 : Knn Wz15 := known_add (known_add (known_add (known_add kWz12 cn13) c35z) (con_and m8 oj)) cn15
theorem nv16 {sc us ho po pa qu fr : ByteArray} {hu hp ha hq hf : Bool} (h7 : s7 sc us ho po pa qu fr = true) (hk : kOk sc us ho po pa qu fr hu hp ha hq hf = true) :
   abody Tryz.prog (call' Wz15) (fun _ => none) 1 16 [uV sc us hu ho po hp ha pa qu hq fr hf] = some (nrmV sc us ho po pa qu fr hu hp ha hq hf, []) := by
 have o := own_of hk
 have st := o.st_ho
 have sz := o.sz
 have hz := s7_sz h7
 have bd := k_bd sc us ho po pa qu fr hu hp ha hq hf
 rw [nr16, h7, decide_eq_true (show sc.size ≤ 10000 by omega), decide_eq_true (show ho.size ≤ 4000 by omega), st.1, decide_eq_true (show pa.size ≤ 4000 by omega), st.2.2.1,
   decide_eq_true (show (tidS pa).size ≤ 4000 by omega), decide_eq_true (show qu.size ≤ 4000 by omega), st.2.2.2, decide_eq_true bd.1]
 have e1 : decide (kI sc us ho po pa qu fr hu hp ha hq hf < ((100000 : Nat) : Int)) = true := decide_eq_true bd.2
 have e2 : decide (kI sc us ho po pa qu fr hu hp ha hq hf < 100000) = true := decide_eq_true bd.2
 simp only [e1, e2]
 have eb : (kI sc us ho po pa qu fr hu hp ha hq hf == stdI sc) = if isHs sc = true then (kI sc us ho po pa qu fr hu hp ha hq hf == 443) else (kI sc us ho po pa qu fr hu hp ha hq hf == 80) := by
   rw [std_sc]
   split <;> rfl
 unfold nrmV nPo nHp nPa emS
 rw [eb]
 have hsc : (isH sc = true ∧ isHs sc = false) ∨ (isH sc = false ∧ isHs sc = true) := by
   rcases o.hsc with h | h
   · exact .inl ⟨h, not_both sc h⟩
   · cases hc : isH sc with
     | false => exact .inr ⟨rfl, h⟩
     | true => rw [not_both sc hc] at h; cases h
 have i1 : ((lowS sc).toList == (ByteArray.mk #[104, 116, 116, 112]).toList) = isH sc := rfl
 have i2 : ((lowS sc).toList == (ByteArray.mk #[104, 116, 116, 112, 115]).toList) = isHs sc := rfl
 rw [i1, i2]
 generalize (kI sc us ho po pa qu fr hu hp ha hq hf == 443) = b
 generalize (kI sc us ho po pa qu fr hu hp ha hq hf == 80) = d
 generalize ((dotS (tidS pa)).toList == (ByteArray.mk #[]).toList) = c
 rcases hsc with ⟨h1, h2⟩ | ⟨h1, h2⟩ <;> rw [h1, h2] <;> cases b <;> cases d <;> cases c <;> rfl
theorem cn16 : Cn 16 Z16 := contract_of (fun _ => none) onN (hok_of kWz15) fun cargs rv outs h => by
 unfold Z16 at h
 split at h <;> first | (cases h; done) | skip
 rename_i sc us hu ho po hp ha pa qu hq fr hf
 refine ⟨1, ?_⟩
 cases hs : s7 sc us ho po pa qu fr with
 | false => rw [hs] at h; cases h
 | true =>
   cases hk : kOk sc us ho po pa qu fr hu hp ha hq hf with
   | true =>
     rw [hs, hk] at h
     cases h
     exact nv16 hs hk
   | false => rw [hs, hk] at h; cases h
theorem kWz16 : Knn Wz16 := known_add kWz15 cn16
theorem cn17 : Cn 17 Z17 := contract_of (fun _ => none) onN (hok_of kWz16) fun cargs rv outs h => by
 unfold Z17 at h
 split at h <;> first | (cases h; done) | skip
 rename_i sc us hu ho po hp ha pa qu hq fr hf
 refine ⟨1, ?_⟩
 cases hs : s7 sc us ho po pa qu fr with
 | false => rw [hs] at h; cases h
 | true =>
   cases hk : kOk sc us ho po pa qu fr hu hp ha hq hf with
   | true =>
     rw [hs, hk] at h
     cases h
     refine (nr17 sc us ho po pa qu fr hu hp ha hq hf).trans ?_
     have bd := k_bd sc us ho po pa qu fr hu hp ha hq hf
     obtain ⟨f1, f2, f3, f4⟩ := org_fits hs hk
     have e1 : decide (kI sc us ho po pa qu fr hu hp ha hq hf < ((100000 : Nat) : Int)) = true := decide_eq_true bd.2
     have e2 : decide (kI sc us ho po pa qu fr hu hp ha hq hf < 100000) = true := decide_eq_true bd.2
     simp only [hs, hk, f1, f2, f3, f4, decide_eq_true bd.1, e1, e2]
     rfl
   | false => rw [hs, hk] at h; cases h
theorem kWz7 : Knn Wz7 := known_add (known_add (known_add (known_add kWz16 cn17) (con_and (fun cargs rv outs h => kT12 18 cargs rv outs h) oj)) (con_and (fun cargs rv outs h => ky9 9 cargs rv outs h) oj)) (con_and (fun cargs rv outs h => m7 cargs rv outs h) oj)
def L5 : Fn1 := fun cargs => match cargs with
 | [.agg [.str sc, .str us, .bool hu, .str ho, .str po, .bool hp, .bool ha, .str pa, .str qu, .bool hq, .str fr, .bool hf]] => some [(true, .bool true, [])]
 | _ => none
theorem beq_self (x : ByteArray) : (x == x) = true := (beqB x x).2 rfl
theorem nv5 (sc us ho po pa qu fr : ByteArray) (hu hp ha hq hf : Bool) : abody Tryz.prog (call' Wz7) (fun _ => none) 1 5 [uV sc us hu ho po hp ha pa qu hq fr hf] = some (.bool true, []) := by
 rw [nr5]
 cases hs : s7 sc us ho po pa qu fr with
 | false => rfl
 | true =>
   cases hk : kOk sc us ho po pa qu fr hu hp ha hq hf with
   | false =>
     have e0 : kI sc us ho po pa qu fr hu hp ha hq hf = 0 := by
       unfold kOk at hk
       rw [Bool.not_eq_false', decide_eq_true_iff] at hk
       unfold kI
       rw [hk]
       rfl
     rw [e0]
     rfl
   | true =>
     have o := own_of hk
     have hz := s7_sz hs
     have eK : kI sc us ho po pa qu fr hu hp ha hq hf = ((kN sc us ho po pa qu fr hu hp ha hq hf : Nat) : Int) := rfl
     rw [eK]
     generalize kN sc us ho po pa qu fr hu hp ha hq hf = k at o ⊢
     have h7n := o.s7n hs
     have k0 : (((k : Nat) : Int) == 0) = false := by
       have := o.k1
       refine Bool.eq_false_iff.2 fun e => ?_
       have := eq_of_beq e
       omega
     rw [k0, h7n, s7_n7 h7n]
     simp only [bne, beq_self, beq_self_eq_true, Bool.and_self, Bool.and_true, Bool.not_true, bif_tt, bif_ff]
     by_cases hl : 2048 < (joinU (lowS sc) us (tidHS ho) (nPo sc (k : Int)) (nPa pa) (tidS qu) fr hu (nHp sc (k : Int)) ha hq hf).size
     · rw [decide_eq_true hl]
       rfl
     · rw [decide_eq_false hl]
       have hag := o.again (by omega)
       have eN : kI (lowS sc) us (tidHS ho) (nPo sc (k : Int)) (nPa pa) (tidS qu) fr hu (nHp sc (k : Int)) ha hq hf = (k : Int) := by
         unfold kI
         rw [hag]
       have eO : kOk (lowS sc) us (tidHS ho) (nPo sc (k : Int)) (nPa pa) (tidS qu) fr hu (nHp sc (k : Int)) ha hq hf = true := by
         unfold kOk
         rw [hag, decide_eq_false (by have := o.k1; omega)]
         rfl
       obtain ⟨i1, i2, i3⟩ := o.low_id
       have i4 : orgS (lowS sc) (tidHS ho) (k : Int) = orgS sc ho (k : Int) := by
         unfold orgS
         rw [lowS_low, i1]
       rw [eN, eO, lowS_low, i1, i2, i3 (by omega), nPo_low, nHp_low, i4]
       simp only [beq_self, beq_self_eq_true, Bool.and_self, Bool.and_true, bif_tt, bif_ff]
theorem cn5 : Cn 5 L5 := contract_of (fun _ => none) onN (hok_of kWz7) fun cargs rv outs h => by
 unfold L5 at h
 split at h <;> first | (cases h; done) | skip
 rename_i sc us hu ho po hp ha pa qu hq fr hf
 cases h
 exact ⟨1, nv5 sc us ho po pa qu fr hu hp ha hq hf⟩
end Go.Pv
