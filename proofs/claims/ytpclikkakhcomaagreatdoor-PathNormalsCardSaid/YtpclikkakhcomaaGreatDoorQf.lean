/- URLs: parts put together: what it is (lines printed by a small program of mine). -/
import Derived.Test.YtpclikkakhcomaaGreatDoorQe
import Derived.Test.YtpclikkakhcomaaGreatDoorQc
import Derived.Lib.SplitLaws
import Derived.Shelf.Strings.OnBuilder
import Derived.Shelf.Strings.Cut
import Derived.Shelf.Strings.Split
import Derived.Shelf.Unicode.DecodeLast
import Derived.Test.YtpclikkakhcomaaGreatDoorProg
import Derived.Test.YtpclikkakhcomaaGreatDoorQd
set_option linter.unusedSimpArgs false
set_option linter.unusedVariables false
namespace Go.Pv
set_option maxRecDepth 100000
open Go Go.Proofs
theorem sB_app (a b : ByteArray) : strBytes (a ++ b) = strBytes a ++ strBytes b := by
 unfold strBytes
 rw [ByteArray.data_append, Array.toList_append, List.map_append]
theorem sB_nil {a : ByteArray} (h : a.size = 0) : strBytes a = [] := List.eq_nil_of_length_eq_zero (by rw [bytes_len, h])
theorem bA_nil {a : ByteArray} (h : a.size = 0) : a = ⟨#[]⟩ := by
 rw [← mkS_bl a] at h ⊢
 rw [sizeM] at h
 rw [List.eq_nil_of_length_eq_zero h]
 rfl
theorem sB_emp (a : ByteArray) : (strBytes a).isEmpty = decide (a.size = 0) := by
 rw [Bool.eq_iff_iff, List.isEmpty_iff_length_eq_zero, bytes_len, decide_eq_true_iff]
theorem bA_emp (a : ByteArray) : (a.toList == (ByteArray.mk #[]).toList) = decide (a.size = 0) := by
 rw [toList_data, toList_data, beq_list, Bool.eq_iff_iff, decide_eq_true_iff, decide_eq_true_iff]
 constructor
 · intro h
   rw [← mkS_bl a, h]
   rfl
 · intro h; rw [bA_nil h]
theorem bA_appNil (a : ByteArray) : a ++ (⟨#[]⟩ : ByteArray) = a := by
 rw [← mkS_bl a]
 show mkS _ ++ mkS [] = _
 rw [mkS_app, List.append_nil]
theorem bA_nilApp (a : ByteArray) : (⟨#[]⟩ : ByteArray) ++ a = a := by
 rw [← mkS_bl a]
 show mkS [] ++ mkS _ = _
 rw [mkS_app, List.nil_append]
def StA (u : CV) (s : ByteArray) (H : Hp) : Prop := (H = B0 u ∧ s = ⟨#[]⟩) ∨ (H = B1 u ∧ s = ⟨#[]⟩) ∨ (H = B2 u (strBytes s) ∧ s.size ≠ 0)
def StB (u : CV) (s : ByteArray) (H : Hp) : Prop := (H = B1 u ∧ s = ⟨#[]⟩) ∨ (H = B2 u (strBytes s) ∧ s.size ≠ 0)
def jSc (sc : ByteArray) : ByteArray := if sc.size = 0 then ⟨#[]⟩ else sc ++ (⟨#[58]⟩ : ByteArray)
def jAu (ha : Bool) : ByteArray := if ha = true then (⟨#[47, 47]⟩ : ByteArray) else ⟨#[]⟩
def jUs (hu : Bool) (us : ByteArray) : ByteArray := if hu = true then us ++ (⟨#[64]⟩ : ByteArray) else ⟨#[]⟩
def jPo (h : Bool) (s : ByteArray) : ByteArray := if h = true then (⟨#[58]⟩ : ByteArray) ++ s else ⟨#[]⟩
def jQu (h : Bool) (s : ByteArray) : ByteArray := if h = true then (⟨#[63]⟩ : ByteArray) ++ s else ⟨#[]⟩
def jFr (h : Bool) (s : ByteArray) : ByteArray := if h = true then (⟨#[35]⟩ : ByteArray) ++ s else ⟨#[]⟩
theorem sg3 (sc us ho po pa qu fr : ByteArray) (hu hp ha hq hf : Bool)  (zsc : sc.size ≤ 4000) : ∃ H', StA (uV sc us hu ho po hp ha pa qu hq fr hf) (⟨#[]⟩ ++ jSc sc) H' ∧ ∀ n L, aexecB Tryz.prog hd20 (filt an20 0) n (prefC 1 (tailC 3 c20)) E20 (B0 (uV sc us hu ho po hp ha pa qu hq fr hf)) (thenK (headK h20 L) (endOf Tryz.prog 48 [])) = L E20 H' := by
 have da0 : decide ((strBytes sc).length * 1 ≤ 70368744177664) = true := decide_eq_true (by have q : (⟨#[58]⟩ : ByteArray).size = 1 := rfl; simp only [List.length_append, bytes_len]; omega)
 have da1 : decide (((strBytes sc).length + 1) * 1 ≤ 70368744177664) = true := decide_eq_true (by have q : (⟨#[58]⟩ : ByteArray).size = 1 := rfl; simp only [List.length_append, bytes_len]; omega)
 by_cases e0 : sc.size = 0
 · have ea : jSc sc = ⟨#[]⟩ := by unfold jSc; rw [if_pos e0]
   refine ⟨B0 (uV sc us hu ho po hp ha pa qu hq fr hf), by rw [ea, bA_appNil]; exact .inl ⟨rfl, rfl⟩, fun n L => ?_⟩
   rw [tg3a]
   rw [bA_emp, decide_eq_true e0]
   rfl
 · have e1 : ¬ sc.size = 0 := e0
   have ea : jSc sc = sc ++ (⟨#[58]⟩ : ByteArray) := by unfold jSc; rw [if_neg e0]
   have nz : ((⟨#[]⟩ : ByteArray) ++ (sc ++ (⟨#[58]⟩ : ByteArray))).size ≠ 0 := by
     have q0 : (⟨#[58]⟩ : ByteArray).size = 1 := rfl
     have q1 : (⟨#[]⟩ : ByteArray).size = 0 := rfl
     simp only [ByteArray.size_append]; omega
   refine ⟨B2 (uV sc us hu ho po hp ha pa qu hq fr hf) (strBytes ((⟨#[]⟩ : ByteArray) ++ (sc ++ (⟨#[58]⟩ : ByteArray)))), by rw [ea]; exact .inr (.inr ⟨rfl, nz⟩), fun n L => ?_⟩
   rw [tg3a]
   rw [bA_emp, decide_eq_false e0]
   simp only [da0, da1, sB_emp, decide_eq_false e1, bif_tt, bif_ff, Bool.not_true, Bool.not_false]
   rw [sB_app, sB_app]
   rfl
theorem sg4 (sc us ho po pa qu fr : ByteArray) (hu hp ha hq hf : Bool) (s : ByteArray) (H : Hp) (hz : s.size ≤ 60000) (hs : StA (uV sc us hu ho po hp ha pa qu hq fr hf) s H) : ∃ H', StA (uV sc us hu ho po hp ha pa qu hq fr hf) (s ++ jAu ha) H' ∧ ∀ n L, aexecB Tryz.prog hd20 (filt an20 0) n (prefC 1 (tailC 4 c20)) E20 H (thenK (headK h20 L) (endOf Tryz.prog 48 [])) = L E20 H' := by
 have dc0 : decide (((strBytes s).length + 2) * 1 ≤ 70368744177664) = true := decide_eq_true (by have q : (⟨#[47, 47]⟩ : ByteArray).size = 2 := rfl; simp only [List.length_append, bytes_len]; omega)
 rcases hs with ⟨rfl, rfl⟩ | ⟨rfl, rfl⟩ | ⟨rfl, hne⟩
 · cases ha
   · have ea : jAu false = ⟨#[]⟩ := rfl
     refine ⟨B0 (uV sc us hu ho po hp false pa qu hq fr hf), by rw [ea, bA_appNil]; exact .inl ⟨rfl, rfl⟩, fun n L => ?_⟩
     rw [tg4a]
     rfl
   · have ea : jAu true = (⟨#[47, 47]⟩ : ByteArray) := rfl
     have nz : ((⟨#[]⟩ : ByteArray) ++ ((⟨#[47, 47]⟩ : ByteArray))).size ≠ 0 := by
       have q0 : (⟨#[47, 47]⟩ : ByteArray).size = 2 := rfl
       have q1 : (⟨#[]⟩ : ByteArray).size = 0 := rfl
       simp only [ByteArray.size_append]; omega
     refine ⟨B2 (uV sc us hu ho po hp true pa qu hq fr hf) (strBytes ((⟨#[]⟩ : ByteArray) ++ ((⟨#[47, 47]⟩ : ByteArray)))), by rw [ea]; exact .inr (.inr ⟨rfl, nz⟩), fun n L => ?_⟩
     rw [tg4a]
     simp only [sB_emp, Bool.not_true, bif_tt, bif_ff, Bool.not_true, Bool.not_false]
     rw [sB_app]
     rfl
 · cases ha
   · have ea : jAu false = ⟨#[]⟩ := rfl
     refine ⟨B1 (uV sc us hu ho po hp false pa qu hq fr hf), by rw [ea, bA_appNil]; exact .inr (.inl ⟨rfl, rfl⟩), fun n L => ?_⟩
     rw [tg4b]
     rfl
   · have ea : jAu true = (⟨#[47, 47]⟩ : ByteArray) := rfl
     have nz : ((⟨#[]⟩ : ByteArray) ++ ((⟨#[47, 47]⟩ : ByteArray))).size ≠ 0 := by
       have q0 : (⟨#[47, 47]⟩ : ByteArray).size = 2 := rfl
       have q1 : (⟨#[]⟩ : ByteArray).size = 0 := rfl
       simp only [ByteArray.size_append]; omega
     refine ⟨B2 (uV sc us hu ho po hp true pa qu hq fr hf) (strBytes ((⟨#[]⟩ : ByteArray) ++ ((⟨#[47, 47]⟩ : ByteArray)))), by rw [ea]; exact .inr (.inr ⟨rfl, nz⟩), fun n L => ?_⟩
     rw [tg4b]
     simp only [sB_emp, Bool.not_true, bif_tt, bif_ff, Bool.not_true, Bool.not_false]
     rw [sB_app]
     rfl
 · cases ha
   · have ea : jAu false = ⟨#[]⟩ := rfl
     refine ⟨B2 (uV sc us hu ho po hp false pa qu hq fr hf) (strBytes s), by rw [ea, bA_appNil]; exact .inr (.inr ⟨rfl, hne⟩), fun n L => ?_⟩
     rw [tg4c]
     rfl
   · have ea : jAu true = (⟨#[47, 47]⟩ : ByteArray) := rfl
     have nz : (s ++ ((⟨#[47, 47]⟩ : ByteArray))).size ≠ 0 := by
       have q0 : (⟨#[47, 47]⟩ : ByteArray).size = 2 := rfl
       simp only [ByteArray.size_append]; omega
     refine ⟨B2 (uV sc us hu ho po hp true pa qu hq fr hf) (strBytes (s ++ ((⟨#[47, 47]⟩ : ByteArray)))), by rw [ea]; exact .inr (.inr ⟨rfl, nz⟩), fun n L => ?_⟩
     rw [tg4c]
     simp only [dc0, bif_tt, bif_ff, Bool.not_true, Bool.not_false]
     rw [sB_app]
     rfl
theorem sg5 (sc us ho po pa qu fr : ByteArray) (hu hp ha hq hf : Bool) (s : ByteArray) (H : Hp) (hz : s.size ≤ 60000) (hs : StA (uV sc us hu ho po hp ha pa qu hq fr hf) s H) (zus : us.size ≤ 4000) : ∃ H', StA (uV sc us hu ho po hp ha pa qu hq fr hf) (s ++ jUs hu us) H' ∧ ∀ n L, aexecB Tryz.prog hd20 (filt an20 0) n (prefC 1 (tailC 5 c20)) E20 H (thenK (headK h20 L) (endOf Tryz.prog 48 [])) = L E20 H' := by
 have da0 : decide ((strBytes us).length * 1 ≤ 70368744177664) = true := decide_eq_true (by have q : (⟨#[64]⟩ : ByteArray).size = 1 := rfl; simp only [List.length_append, bytes_len]; omega)
 have da1 : decide (((strBytes us).length + 1) * 1 ≤ 70368744177664) = true := decide_eq_true (by have q : (⟨#[64]⟩ : ByteArray).size = 1 := rfl; simp only [List.length_append, bytes_len]; omega)
 have db0 : decide ((strBytes us).length * 1 ≤ 70368744177664) = true := decide_eq_true (by have q : (⟨#[64]⟩ : ByteArray).size = 1 := rfl; simp only [List.length_append, bytes_len]; omega)
 have db1 : decide (((strBytes us).length + 1) * 1 ≤ 70368744177664) = true := decide_eq_true (by have q : (⟨#[64]⟩ : ByteArray).size = 1 := rfl; simp only [List.length_append, bytes_len]; omega)
 have dc0 : decide (((strBytes s).length + (strBytes us).length) * 1 ≤ 70368744177664) = true := decide_eq_true (by have q : (⟨#[64]⟩ : ByteArray).size = 1 := rfl; simp only [List.length_append, bytes_len]; omega)
 have dc1 : decide (((strBytes s ++ strBytes us).length + 1) * 1 ≤ 70368744177664) = true := decide_eq_true (by have q : (⟨#[64]⟩ : ByteArray).size = 1 := rfl; simp only [List.length_append, bytes_len]; omega)
 have dc2 : decide (((strBytes s).length + 1) * 1 ≤ 70368744177664) = true := decide_eq_true (by have q : (⟨#[64]⟩ : ByteArray).size = 1 := rfl; simp only [List.length_append, bytes_len]; omega)
 rcases hs with ⟨rfl, rfl⟩ | ⟨rfl, rfl⟩ | ⟨rfl, hne⟩
 · cases hu
   · have ea : jUs false us = ⟨#[]⟩ := rfl
     refine ⟨B0 (uV sc us false ho po hp ha pa qu hq fr hf), by rw [ea, bA_appNil]; exact .inl ⟨rfl, rfl⟩, fun n L => ?_⟩
     rw [tg5a]
     rfl
   · by_cases e1 : us.size = 0
     · have ea : jUs true us = us ++ (⟨#[64]⟩ : ByteArray) := rfl
       have nz : ((⟨#[]⟩ : ByteArray) ++ (us ++ (⟨#[64]⟩ : ByteArray))).size ≠ 0 := by
         have q0 : (⟨#[64]⟩ : ByteArray).size = 1 := rfl
         have q1 : (⟨#[]⟩ : ByteArray).size = 0 := rfl
         simp only [ByteArray.size_append]; omega
       refine ⟨B2 (uV sc us true ho po hp ha pa qu hq fr hf) (strBytes ((⟨#[]⟩ : ByteArray) ++ (us ++ (⟨#[64]⟩ : ByteArray)))), by rw [ea]; exact .inr (.inr ⟨rfl, nz⟩), fun n L => ?_⟩
       rw [tg5a]
       simp only [da0, da1, sB_emp, decide_eq_true e1, bif_tt, bif_ff, Bool.not_true, Bool.not_false]
       rw [sB_app, sB_app, sB_nil e1]
       rfl
     · have ea : jUs true us = us ++ (⟨#[64]⟩ : ByteArray) := rfl
       have nz : ((⟨#[]⟩ : ByteArray) ++ (us ++ (⟨#[64]⟩ : ByteArray))).size ≠ 0 := by
         have q0 : (⟨#[64]⟩ : ByteArray).size = 1 := rfl
         have q1 : (⟨#[]⟩ : ByteArray).size = 0 := rfl
         simp only [ByteArray.size_append]; omega
       refine ⟨B2 (uV sc us true ho po hp ha pa qu hq fr hf) (strBytes ((⟨#[]⟩ : ByteArray) ++ (us ++ (⟨#[64]⟩ : ByteArray)))), by rw [ea]; exact .inr (.inr ⟨rfl, nz⟩), fun n L => ?_⟩
       rw [tg5a]
       simp only [da0, da1, sB_emp, decide_eq_false e1, bif_tt, bif_ff, Bool.not_true, Bool.not_false]
       rw [sB_app, sB_app]
       rfl
 · cases hu
   · have ea : jUs false us = ⟨#[]⟩ := rfl
     refine ⟨B1 (uV sc us false ho po hp ha pa qu hq fr hf), by rw [ea, bA_appNil]; exact .inr (.inl ⟨rfl, rfl⟩), fun n L => ?_⟩
     rw [tg5b]
     rfl
   · by_cases e1 : us.size = 0
     · have ea : jUs true us = us ++ (⟨#[64]⟩ : ByteArray) := rfl
       have nz : ((⟨#[]⟩ : ByteArray) ++ (us ++ (⟨#[64]⟩ : ByteArray))).size ≠ 0 := by
         have q0 : (⟨#[64]⟩ : ByteArray).size = 1 := rfl
         have q1 : (⟨#[]⟩ : ByteArray).size = 0 := rfl
         simp only [ByteArray.size_append]; omega
       refine ⟨B2 (uV sc us true ho po hp ha pa qu hq fr hf) (strBytes ((⟨#[]⟩ : ByteArray) ++ (us ++ (⟨#[64]⟩ : ByteArray)))), by rw [ea]; exact .inr (.inr ⟨rfl, nz⟩), fun n L => ?_⟩
       rw [tg5b]
       simp only [db0, db1, sB_emp, decide_eq_true e1, bif_tt, bif_ff, Bool.not_true, Bool.not_false]
       rw [sB_app, sB_app, sB_nil e1]
       rfl
     · have ea : jUs true us = us ++ (⟨#[64]⟩ : ByteArray) := rfl
       have nz : ((⟨#[]⟩ : ByteArray) ++ (us ++ (⟨#[64]⟩ : ByteArray))).size ≠ 0 := by
         have q0 : (⟨#[64]⟩ : ByteArray).size = 1 := rfl
         have q1 : (⟨#[]⟩ : ByteArray).size = 0 := rfl
         simp only [ByteArray.size_append]; omega
       refine ⟨B2 (uV sc us true ho po hp ha pa qu hq fr hf) (strBytes ((⟨#[]⟩ : ByteArray) ++ (us ++ (⟨#[64]⟩ : ByteArray)))), by rw [ea]; exact .inr (.inr ⟨rfl, nz⟩), fun n L => ?_⟩
       rw [tg5b]
       simp only [db0, db1, sB_emp, decide_eq_false e1, bif_tt, bif_ff, Bool.not_true, Bool.not_false]
       rw [sB_app, sB_app]
       rfl
 · cases hu
   · have ea : jUs false us = ⟨#[]⟩ := rfl
     refine ⟨B2 (uV sc us false ho po hp ha pa qu hq fr hf) (strBytes s), by rw [ea, bA_appNil]; exact .inr (.inr ⟨rfl, hne⟩), fun n L => ?_⟩
     rw [tg5c]
     rfl
   · have ea : jUs true us = us ++ (⟨#[64]⟩ : ByteArray) := rfl
     have nz : (s ++ (us ++ (⟨#[64]⟩ : ByteArray))).size ≠ 0 := by
       have q0 : (⟨#[64]⟩ : ByteArray).size = 1 := rfl
       simp only [ByteArray.size_append]; omega
     refine ⟨B2 (uV sc us true ho po hp ha pa qu hq fr hf) (strBytes (s ++ (us ++ (⟨#[64]⟩ : ByteArray)))), by rw [ea]; exact .inr (.inr ⟨rfl, nz⟩), fun n L => ?_⟩
     rw [tg5c]
     simp only [dc0, dc1, dc2, bif_tt, bif_ff, Bool.not_true, Bool.not_false]
     rw [sB_app, sB_app]
     rw [← List.append_assoc]
     rfl
theorem sg6 (sc us ho po pa qu fr : ByteArray) (hu hp ha hq hf : Bool) (s : ByteArray) (H : Hp) (hz : s.size ≤ 60000) (hs : StA (uV sc us hu ho po hp ha pa qu hq fr hf) s H) (zho : ho.size ≤ 4000) : ∃ H', StB (uV sc us hu ho po hp ha pa qu hq fr hf) (s ++ ho) H' ∧ ∀ n L, aexecB Tryz.prog hd20 (filt an20 0) n (prefC 1 (tailC 6 c20)) E20 H (thenK (headK h20 L) (endOf Tryz.prog 48 [])) = L E20 H' := by
 have da0 : decide ((strBytes ho).length * 1 ≤ 70368744177664) = true := decide_eq_true (by simp only [List.length_append, bytes_len]; omega)
 have db0 : decide ((strBytes ho).length * 1 ≤ 70368744177664) = true := decide_eq_true (by simp only [List.length_append, bytes_len]; omega)
 have dc0 : decide (((strBytes s).length + (strBytes ho).length) * 1 ≤ 70368744177664) = true := decide_eq_true (by simp only [List.length_append, bytes_len]; omega)
 rcases hs with ⟨rfl, rfl⟩ | ⟨rfl, rfl⟩ | ⟨rfl, hne⟩
 · by_cases e1 : ho.size = 0
   · refine ⟨B1 (uV sc us hu ho po hp ha pa qu hq fr hf), by rw [bA_nil e1, bA_appNil]; exact .inl ⟨rfl, rfl⟩, fun n L => ?_⟩
     rw [tg6a, da0, sB_emp, decide_eq_true e1]
     rfl
   · have nz : ((⟨#[]⟩ : ByteArray) ++ (ho)).size ≠ 0 := by
       have q0 : (⟨#[]⟩ : ByteArray).size = 0 := rfl
       simp only [ByteArray.size_append]; omega
     refine ⟨B2 (uV sc us hu ho po hp ha pa qu hq fr hf) (strBytes ((⟨#[]⟩ : ByteArray) ++ (ho))), by exact .inr ⟨rfl, nz⟩, fun n L => ?_⟩
     rw [tg6a]
     simp only [da0, sB_emp, decide_eq_false e1, bif_tt, bif_ff, Bool.not_true, Bool.not_false]
     rw [sB_app]
     rfl
 · by_cases e1 : ho.size = 0
   · refine ⟨B1 (uV sc us hu ho po hp ha pa qu hq fr hf), by rw [bA_nil e1, bA_appNil]; exact .inl ⟨rfl, rfl⟩, fun n L => ?_⟩
     rw [tg6b, db0, sB_emp, decide_eq_true e1]
     rfl
   · have nz : ((⟨#[]⟩ : ByteArray) ++ (ho)).size ≠ 0 := by
       have q0 : (⟨#[]⟩ : ByteArray).size = 0 := rfl
       simp only [ByteArray.size_append]; omega
     refine ⟨B2 (uV sc us hu ho po hp ha pa qu hq fr hf) (strBytes ((⟨#[]⟩ : ByteArray) ++ (ho))), by exact .inr ⟨rfl, nz⟩, fun n L => ?_⟩
     rw [tg6b]
     simp only [db0, sB_emp, decide_eq_false e1, bif_tt, bif_ff, Bool.not_true, Bool.not_false]
     rw [sB_app]
     rfl
 · have nz : (s ++ (ho)).size ≠ 0 := by
     simp only [ByteArray.size_append]; omega
   refine ⟨B2 (uV sc us hu ho po hp ha pa qu hq fr hf) (strBytes (s ++ (ho))), by exact .inr ⟨rfl, nz⟩, fun n L => ?_⟩
   rw [tg6c]
   simp only [dc0, bif_tt, bif_ff, Bool.not_true, Bool.not_false]
   rw [sB_app]
   rfl
theorem sg7 (sc us ho po pa qu fr : ByteArray) (hu hp ha hq hf : Bool) (s : ByteArray) (H : Hp) (hz : s.size ≤ 60000) (hs : StB (uV sc us hu ho po hp ha pa qu hq fr hf) s H) (zpo : po.size ≤ 4000) : ∃ H', StB (uV sc us hu ho po hp ha pa qu hq fr hf) (s ++ jPo hp po) H' ∧ ∀ n L, aexecB Tryz.prog hd20 (filt an20 0) n (prefC 1 (tailC 7 c20)) E20 H (thenK (headK h20 L) (endOf Tryz.prog 48 [])) = L E20 H' := by
 have db0 : decide ((1 + (strBytes po).length) * 1 ≤ 70368744177664) = true := decide_eq_true (by have q : (⟨#[58]⟩ : ByteArray).size = 1 := rfl; simp only [List.length_append, bytes_len]; omega)
 have db1 : decide ((strBytes po).length * 1 ≤ 70368744177664) = true := decide_eq_true (by have q : (⟨#[58]⟩ : ByteArray).size = 1 := rfl; simp only [List.length_append, bytes_len]; omega)
 have dc0 : decide (((strBytes s).length + 1) * 1 ≤ 70368744177664) = true := decide_eq_true (by have q : (⟨#[58]⟩ : ByteArray).size = 1 := rfl; simp only [List.length_append, bytes_len]; omega)
 have dc1 : decide (((strBytes s ++ strBytes (ByteArray.mk #[58])).length + (strBytes po).length) * 1 ≤ 70368744177664) = true := decide_eq_true (by have q : (⟨#[58]⟩ : ByteArray).size = 1 := rfl; simp only [List.length_append, bytes_len]; omega)
 have dc2 : decide (((strBytes s).length + (strBytes po).length) * 1 ≤ 70368744177664) = true := decide_eq_true (by have q : (⟨#[58]⟩ : ByteArray).size = 1 := rfl; simp only [List.length_append, bytes_len]; omega)
 rcases hs with ⟨rfl, rfl⟩ | ⟨rfl, hne⟩
 · cases hp
   · have ea : jPo false po = ⟨#[]⟩ := rfl
     refine ⟨B1 (uV sc us hu ho po false ha pa qu hq fr hf), by rw [ea, bA_appNil]; exact .inl ⟨rfl, rfl⟩, fun n L => ?_⟩
     rw [tg7b]
     rfl
   · have ea : jPo true po = (⟨#[58]⟩ : ByteArray) ++ po := rfl
     have nz : ((⟨#[]⟩ : ByteArray) ++ ((⟨#[58]⟩ : ByteArray) ++ po)).size ≠ 0 := by
       have q0 : (⟨#[58]⟩ : ByteArray).size = 1 := rfl
       have q1 : (⟨#[]⟩ : ByteArray).size = 0 := rfl
       simp only [ByteArray.size_append]; omega
     refine ⟨B2 (uV sc us hu ho po true ha pa qu hq fr hf) (strBytes ((⟨#[]⟩ : ByteArray) ++ ((⟨#[58]⟩ : ByteArray) ++ po))), by rw [ea]; exact .inr ⟨rfl, nz⟩, fun n L => ?_⟩
     rw [tg7b]
     simp only [db0, db1, sB_emp, Bool.not_true, bif_tt, bif_ff, Bool.not_true, Bool.not_false]
     rw [sB_app, sB_app]
     rfl
 · cases hp
   · have ea : jPo false po = ⟨#[]⟩ := rfl
     refine ⟨B2 (uV sc us hu ho po false ha pa qu hq fr hf) (strBytes s), by rw [ea, bA_appNil]; exact .inr ⟨rfl, hne⟩, fun n L => ?_⟩
     rw [tg7c]
     rfl
   · have ea : jPo true po = (⟨#[58]⟩ : ByteArray) ++ po := rfl
     have nz : (s ++ ((⟨#[58]⟩ : ByteArray) ++ po)).size ≠ 0 := by
       have q0 : (⟨#[58]⟩ : ByteArray).size = 1 := rfl
       simp only [ByteArray.size_append]; omega
     refine ⟨B2 (uV sc us hu ho po true ha pa qu hq fr hf) (strBytes (s ++ ((⟨#[58]⟩ : ByteArray) ++ po))), by rw [ea]; exact .inr ⟨rfl, nz⟩, fun n L => ?_⟩
     rw [tg7c]
     simp only [dc0, dc1, dc2, bif_tt, bif_ff, Bool.not_true, Bool.not_false]
     rw [sB_app, sB_app]
     rw [← List.append_assoc]
     rfl
theorem sg8 (sc us ho po pa qu fr : ByteArray) (hu hp ha hq hf : Bool) (s : ByteArray) (H : Hp) (hz : s.size ≤ 60000) (hs : StB (uV sc us hu ho po hp ha pa qu hq fr hf) s H) (zpa : pa.size ≤ 4000) : ∃ H', StB (uV sc us hu ho po hp ha pa qu hq fr hf) (s ++ pa) H' ∧ ∀ n L, aexecB Tryz.prog hd20 (filt an20 0) n (prefC 1 (tailC 8 c20)) E20 H (thenK (headK h20 L) (endOf Tryz.prog 48 [])) = L E20 H' := by
 have db0 : decide ((strBytes pa).length * 1 ≤ 70368744177664) = true := decide_eq_true (by simp only [List.length_append, bytes_len]; omega)
 have dc0 : decide (((strBytes s).length + (strBytes pa).length) * 1 ≤ 70368744177664) = true := decide_eq_true (by simp only [List.length_append, bytes_len]; omega)
 rcases hs with ⟨rfl, rfl⟩ | ⟨rfl, hne⟩
 · by_cases e1 : pa.size = 0
   · refine ⟨B1 (uV sc us hu ho po hp ha pa qu hq fr hf), by rw [bA_nil e1, bA_appNil]; exact .inl ⟨rfl, rfl⟩, fun n L => ?_⟩
     rw [tg8b, db0, sB_emp, decide_eq_true e1]
     rfl
   · have nz : ((⟨#[]⟩ : ByteArray) ++ (pa)).size ≠ 0 := by
       have q0 : (⟨#[]⟩ : ByteArray).size = 0 := rfl
       simp only [ByteArray.size_append]; omega
     refine ⟨B2 (uV sc us hu ho po hp ha pa qu hq fr hf) (strBytes ((⟨#[]⟩ : ByteArray) ++ (pa))), by exact .inr ⟨rfl, nz⟩, fun n L => ?_⟩
     rw [tg8b]
     simp only [db0, sB_emp, decide_eq_false e1, bif_tt, bif_ff, Bool.not_true, Bool.not_false]
     rw [sB_app]
     rfl
 · have nz : (s ++ (pa)).size ≠ 0 := by
     simp only [ByteArray.size_append]; omega
   refine ⟨B2 (uV sc us hu ho po hp ha pa qu hq fr hf) (strBytes (s ++ (pa))), by exact .inr ⟨rfl, nz⟩, fun n L => ?_⟩
   rw [tg8c]
   simp only [dc0, bif_tt, bif_ff, Bool.not_true, Bool.not_false]
   rw [sB_app]
   rfl
theorem sg9 (sc us ho po pa qu fr : ByteArray) (hu hp ha hq hf : Bool) (s : ByteArray) (H : Hp) (hz : s.size ≤ 60000) (hs : StB (uV sc us hu ho po hp ha pa qu hq fr hf) s H) (zqu : qu.size ≤ 4000) : ∃ H', StB (uV sc us hu ho po hp ha pa qu hq fr hf) (s ++ jQu hq qu) H' ∧ ∀ n L, aexecB Tryz.prog hd20 (filt an20 0) n (prefC 1 (tailC 9 c20)) E20 H (thenK (headK h20 L) (endOf Tryz.prog 48 [])) = L E20 H' := by
 have db0 : decide ((1 + (strBytes qu).length) * 1 ≤ 70368744177664) = true := decide_eq_true (by have q : (⟨#[63]⟩ : ByteArray).size = 1 := rfl; simp only [List.length_append, bytes_len]; omega)
 have db1 : decide ((strBytes qu).length * 1 ≤ 70368744177664) = true := decide_eq_true (by have q : (⟨#[63]⟩ : ByteArray).size = 1 := rfl; simp only [List.length_append, bytes_len]; omega)
 have dc0 : decide (((strBytes s).length + 1) * 1 ≤ 70368744177664) = true := decide_eq_true (by have q : (⟨#[63]⟩ : ByteArray).size = 1 := rfl; simp only [List.length_append, bytes_len]; omega)
 have dc1 : decide (((strBytes s ++ strBytes (ByteArray.mk #[63])).length + (strBytes qu).length) * 1 ≤ 70368744177664) = true := decide_eq_true (by have q : (⟨#[63]⟩ : ByteArray).size = 1 := rfl; simp only [List.length_append, bytes_len]; omega)
 have dc2 : decide (((strBytes s).length + (strBytes qu).length) * 1 ≤ 70368744177664) = true := decide_eq_true (by have q : (⟨#[63]⟩ : ByteArray).size = 1 := rfl; simp only [List.length_append, bytes_len]; omega)
 rcases hs with ⟨rfl, rfl⟩ | ⟨rfl, hne⟩
 · cases hq
   · have ea : jQu false qu = ⟨#[]⟩ := rfl
     refine ⟨B1 (uV sc us hu ho po hp ha pa qu false fr hf), by rw [ea, bA_appNil]; exact .inl ⟨rfl, rfl⟩, fun n L => ?_⟩
     rw [tg9b]
     rfl
   · have ea : jQu true qu = (⟨#[63]⟩ : ByteArray) ++ qu := rfl
     have nz : ((⟨#[]⟩ : ByteArray) ++ ((⟨#[63]⟩ : ByteArray) ++ qu)).size ≠ 0 := by
       have q0 : (⟨#[63]⟩ : ByteArray).size = 1 := rfl
       have q1 : (⟨#[]⟩ : ByteArray).size = 0 := rfl
       simp only [ByteArray.size_append]; omega
     refine ⟨B2 (uV sc us hu ho po hp ha pa qu true fr hf) (strBytes ((⟨#[]⟩ : ByteArray) ++ ((⟨#[63]⟩ : ByteArray) ++ qu))), by rw [ea]; exact .inr ⟨rfl, nz⟩, fun n L => ?_⟩
     rw [tg9b]
     simp only [db0, db1, sB_emp, Bool.not_true, bif_tt, bif_ff, Bool.not_true, Bool.not_false]
     rw [sB_app, sB_app]
     rfl
 · cases hq
   · have ea : jQu false qu = ⟨#[]⟩ := rfl
     refine ⟨B2 (uV sc us hu ho po hp ha pa qu false fr hf) (strBytes s), by rw [ea, bA_appNil]; exact .inr ⟨rfl, hne⟩, fun n L => ?_⟩
     rw [tg9c]
     rfl
   · have ea : jQu true qu = (⟨#[63]⟩ : ByteArray) ++ qu := rfl
     have nz : (s ++ ((⟨#[63]⟩ : ByteArray) ++ qu)).size ≠ 0 := by
       have q0 : (⟨#[63]⟩ : ByteArray).size = 1 := rfl
       simp only [ByteArray.size_append]; omega
     refine ⟨B2 (uV sc us hu ho po hp ha pa qu true fr hf) (strBytes (s ++ ((⟨#[63]⟩ : ByteArray) ++ qu))), by rw [ea]; exact .inr ⟨rfl, nz⟩, fun n L => ?_⟩
     rw [tg9c]
     simp only [dc0, dc1, dc2, bif_tt, bif_ff, Bool.not_true, Bool.not_false]
     rw [sB_app, sB_app]
     rw [← List.append_assoc]
     rfl
theorem sg10 (sc us ho po pa qu fr : ByteArray) (hu hp ha hq hf : Bool) (s : ByteArray) (H : Hp) (hz : s.size ≤ 60000) (hs : StB (uV sc us hu ho po hp ha pa qu hq fr hf) s H) (zfr : fr.size ≤ 4000) : ∃ H', StB (uV sc us hu ho po hp ha pa qu hq fr hf) (s ++ jFr hf fr) H' ∧ ∀ n L, aexecB Tryz.prog hd20 (filt an20 0) n (prefC 1 (tailC 10 c20)) E20 H (thenK (headK h20e L) (endOf Tryz.prog 48 [])) = L (mkEnv 58 [(3, .bptr 1 0)]) H' := by
 have db0 : decide ((1 + (strBytes fr).length) * 1 ≤ 70368744177664) = true := decide_eq_true (by have q : (⟨#[35]⟩ : ByteArray).size = 1 := rfl; simp only [List.length_append, bytes_len]; omega)
 have db1 : decide ((strBytes fr).length * 1 ≤ 70368744177664) = true := decide_eq_true (by have q : (⟨#[35]⟩ : ByteArray).size = 1 := rfl; simp only [List.length_append, bytes_len]; omega)
 have dc0 : decide (((strBytes s).length + 1) * 1 ≤ 70368744177664) = true := decide_eq_true (by have q : (⟨#[35]⟩ : ByteArray).size = 1 := rfl; simp only [List.length_append, bytes_len]; omega)
 have dc1 : decide (((strBytes s ++ strBytes (ByteArray.mk #[35])).length + (strBytes fr).length) * 1 ≤ 70368744177664) = true := decide_eq_true (by have q : (⟨#[35]⟩ : ByteArray).size = 1 := rfl; simp only [List.length_append, bytes_len]; omega)
 have dc2 : decide (((strBytes s).length + (strBytes fr).length) * 1 ≤ 70368744177664) = true := decide_eq_true (by have q : (⟨#[35]⟩ : ByteArray).size = 1 := rfl; simp only [List.length_append, bytes_len]; omega)
 rcases hs with ⟨rfl, rfl⟩ | ⟨rfl, hne⟩
 · cases hf
   · have ea : jFr false fr = ⟨#[]⟩ := rfl
     refine ⟨B1 (uV sc us hu ho po hp ha pa qu hq fr false), by rw [ea, bA_appNil]; exact .inl ⟨rfl, rfl⟩, fun n L => ?_⟩
     rw [tg10b]
     rfl
   · have ea : jFr true fr = (⟨#[35]⟩ : ByteArray) ++ fr := rfl
     have nz : ((⟨#[]⟩ : ByteArray) ++ ((⟨#[35]⟩ : ByteArray) ++ fr)).size ≠ 0 := by
       have q0 : (⟨#[35]⟩ : ByteArray).size = 1 := rfl
       have q1 : (⟨#[]⟩ : ByteArray).size = 0 := rfl
       simp only [ByteArray.size_append]; omega
     refine ⟨B2 (uV sc us hu ho po hp ha pa qu hq fr true) (strBytes ((⟨#[]⟩ : ByteArray) ++ ((⟨#[35]⟩ : ByteArray) ++ fr))), by rw [ea]; exact .inr ⟨rfl, nz⟩, fun n L => ?_⟩
     rw [tg10b]
     simp only [db0, db1, sB_emp, Bool.not_true, bif_tt, bif_ff, Bool.not_true, Bool.not_false]
     rw [sB_app, sB_app]
     rfl
 · cases hf
   · have ea : jFr false fr = ⟨#[]⟩ := rfl
     refine ⟨B2 (uV sc us hu ho po hp ha pa qu hq fr false) (strBytes s), by rw [ea, bA_appNil]; exact .inr ⟨rfl, hne⟩, fun n L => ?_⟩
     rw [tg10c]
     rfl
   · have ea : jFr true fr = (⟨#[35]⟩ : ByteArray) ++ fr := rfl
     have nz : (s ++ ((⟨#[35]⟩ : ByteArray) ++ fr)).size ≠ 0 := by
       have q0 : (⟨#[35]⟩ : ByteArray).size = 1 := rfl
       simp only [ByteArray.size_append]; omega
     refine ⟨B2 (uV sc us hu ho po hp ha pa qu hq fr true) (strBytes (s ++ ((⟨#[35]⟩ : ByteArray) ++ fr))), by rw [ea]; exact .inr ⟨rfl, nz⟩, fun n L => ?_⟩
     rw [tg10c]
     simp only [dc0, dc1, dc2, bif_tt, bif_ff, Bool.not_true, Bool.not_false]
     rw [sB_app, sB_app]
     rw [← List.append_assoc]
     rfl
end Go.Pv
namespace Go.Pv
set_option maxRecDepth 100000
open Go Go.Proofs
variable {I : World → Prop} {ng : Nat}
theorem bytes_back (s : ByteArray) : bytesOf (strBytes s) = s := by
 unfold bytesOf strBytes
 rw [List.map_map]
 have e : ((fun c : CV => UInt8.ofNat c.toInt.toNat) ∘ encByte) = id := by
   funext b
   show UInt8.ofNat (Int.toNat ((b.toNat : Nat) : Int)) = b
   rw [natM]; simp
 rw [e, List.map_id]
theorem bytes_u8 (s : ByteArray) : (strBytes s).all isU8 = true := by
 unfold strBytes
 rw [List.all_map, List.all_eq_true]
 intro b _
 show isU8 (CV.int .u8 ((b.toNat : Nat) : Int)) = true
 have := b.toNat_lt
 simp [isU8]
def joinU (sc us ho po pa qu fr : ByteArray) (hu hp ha hq hf : Bool) : ByteArray :=
 (((((((jSc sc ++ jAu ha) ++ jUs hu us) ++ ho) ++ jPo hp po) ++ pa) ++ jQu hq qu) ++ jFr hf fr)
theorem tg11' (sc us ho po pa qu fr : ByteArray) (hu hp ha hq hf : Bool) (s : ByteArray) (H : Hp) (hz : s.size ≤ 60000) (hs : StB (uV sc us hu ho po hp ha pa qu hq fr hf) s H) (n : Nat) :
   aexecB Tryz.prog hd20 (filt an20 0) n (tailC 11 c20) (mkEnv 58 [(3, .bptr 1 0)]) H (endOf Tryz.prog 48 []) = some (.str s, []) := by
 rcases hs with ⟨rfl, rfl⟩ | ⟨rfl, hne⟩
 · rw [tg11b]
 · rw [tg11c]
   have d0 : decide (0 < (((strBytes s).length : Nat) : Int)) = true := decide_eq_true (by rw [bytes_len]; omega)
   have d1 : decide ((((strBytes s).length : Nat) : Int) ≤ (((strBytes s).length : Nat) : Int)) = true := decide_eq_true (Int.le_refl _)
   have d2 : decide ((((strBytes s).length : Nat) : Int) ≤ 9223372036854775807) = true := decide_eq_true (by rw [bytes_len]; omega)
   rw [d0, d1, d2, natM, List.take_length, bytes_u8, bytes_back, sB_emp, decide_eq_false hne]
   rfl
theorem sp20_3 : spine 3 c20 = true := by kernel_rfl
theorem ha20_3 : headAt (filt an20 0) (tailC 3 c20) = some h20 := by kernel_rfl
theorem sp20_4 : spine 1 (tailC 3 c20) = true := by kernel_rfl
theorem ha20_4 : headAt (filt an20 0) (tailC 1 (tailC 3 c20)) = some h20 := by kernel_rfl
theorem ta20_4 : tailC 1 (tailC 3 c20) = tailC 4 c20 := eq_of_heq (heq_of_eq (by kernel_rfl))
theorem sp20_5 : spine 1 (tailC 4 c20) = true := by kernel_rfl
theorem ha20_5 : headAt (filt an20 0) (tailC 1 (tailC 4 c20)) = some h20 := by kernel_rfl
theorem ta20_5 : tailC 1 (tailC 4 c20) = tailC 5 c20 := eq_of_heq (heq_of_eq (by kernel_rfl))
theorem sp20_6 : spine 1 (tailC 5 c20) = true := by kernel_rfl
theorem ha20_6 : headAt (filt an20 0) (tailC 1 (tailC 5 c20)) = some h20 := by kernel_rfl
theorem ta20_6 : tailC 1 (tailC 5 c20) = tailC 6 c20 := eq_of_heq (heq_of_eq (by kernel_rfl))
theorem sp20_7 : spine 1 (tailC 6 c20) = true := by kernel_rfl
theorem ha20_7 : headAt (filt an20 0) (tailC 1 (tailC 6 c20)) = some h20 := by kernel_rfl
theorem ta20_7 : tailC 1 (tailC 6 c20) = tailC 7 c20 := eq_of_heq (heq_of_eq (by kernel_rfl))
theorem sp20_8 : spine 1 (tailC 7 c20) = true := by kernel_rfl
theorem ha20_8 : headAt (filt an20 0) (tailC 1 (tailC 7 c20)) = some h20 := by kernel_rfl
theorem ta20_8 : tailC 1 (tailC 7 c20) = tailC 8 c20 := eq_of_heq (heq_of_eq (by kernel_rfl))
theorem sp20_9 : spine 1 (tailC 8 c20) = true := by kernel_rfl
theorem ha20_9 : headAt (filt an20 0) (tailC 1 (tailC 8 c20)) = some h20 := by kernel_rfl
theorem ta20_9 : tailC 1 (tailC 8 c20) = tailC 9 c20 := eq_of_heq (heq_of_eq (by kernel_rfl))
theorem sp20_10 : spine 1 (tailC 9 c20) = true := by kernel_rfl
theorem ha20_10 : headAt (filt an20 0) (tailC 1 (tailC 9 c20)) = some h20 := by kernel_rfl
theorem ta20_10 : tailC 1 (tailC 9 c20) = tailC 10 c20 := eq_of_heq (heq_of_eq (by kernel_rfl))
theorem sp20_11 : spine 1 (tailC 10 c20) = true := by kernel_rfl
theorem ha20_11 : headAt (filt an20 0) (tailC 1 (tailC 10 c20)) = some h20e := by kernel_rfl
theorem ta20_11 : tailC 1 (tailC 10 c20) = tailC 11 c20 := eq_of_heq (heq_of_eq (by kernel_rfl))
theorem jz (c : ByteArray) (h : c.size = 1) (b : Bool) (s : ByteArray) (hs : s.size ≤ 4000) : (if b = true then c ++ s else (⟨#[]⟩ : ByteArray)).size ≤ 4001 := by
 cases b
 · exact Nat.zero_le _
 · simp only [if_true, ByteArray.size_append]; omega
theorem together_eq (sc us ho po pa qu fr : ByteArray) (hu hp ha hq hf : Bool) (zsc : sc.size ≤ 4000) (zus : us.size ≤ 4000) (zho : ho.size ≤ 4000) (zpo : po.size ≤ 4000) (zpa : pa.size ≤ 4000) (zqu : qu.size ≤ 4000) (zfr : fr.size ≤ 4000) (n : Nat) :
   aexec Tryz.prog hd20 (filt an20 0) n c20 (envOf Tryz.prog 48 [.c (uV sc us hu ho po hp ha pa qu hq fr hf)]) [] (endOf Tryz.prog 48 []) = some (.str (joinU sc us ho po pa qu fr hu hp ha hq hf), []) := by
 have y1 : (jSc sc).size ≤ 4001 := by
   unfold jSc
   split
   · exact Nat.zero_le _
   · have q : (⟨#[58]⟩ : ByteArray).size = 1 := rfl
     simp only [ByteArray.size_append]; omega
 have y2 : (jAu ha).size ≤ 2 := by cases ha <;> exact Nat.le_of_ble_eq_true rfl
 have y3 : (jUs hu us).size ≤ 4001 := by
   have q : (⟨#[64]⟩ : ByteArray).size = 1 := rfl
   cases hu
   · exact Nat.zero_le _
   · show (us ++ _).size ≤ _
     simp only [ByteArray.size_append]; omega
 have y4 : (jPo hp po).size ≤ 4001 := jz _ rfl hp po zpo
 have y5 : (jQu hq qu).size ≤ 4001 := jz _ rfl hq qu zqu
 have y6 : (jFr hf fr).size ≤ 4001 := jz _ rfl hf fr zfr
 rw [seg_a (k := 3) (by decide) sp20_3 ha20_3, tg0]
 show aexecB Tryz.prog hd20 (filt an20 0) n (tailC 3 c20) E20 (B0 (uV sc us hu ho po hp ha pa qu hq fr hf)) (endOf Tryz.prog 48 []) = _
 obtain ⟨H3, s3, x3⟩ := sg3 sc us ho po pa qu fr hu hp ha hq hf zsc
 rw [bA_nilApp] at s3
 rw [seg_b (k := 1) (by decide) sp20_4 ha20_4, x3, ta20_4]
 obtain ⟨H4, s4, x4⟩ := sg4 sc us ho po pa qu fr hu hp ha hq hf _ _ (by first | omega | (simp only [ByteArray.size_append]; omega)) s3
 rw [seg_b (k := 1) (by decide) sp20_5 ha20_5, x4, ta20_5]
 obtain ⟨H5, s5, x5⟩ := sg5 sc us ho po pa qu fr hu hp ha hq hf _ _ (by first | omega | (simp only [ByteArray.size_append]; omega)) s4 zus
 rw [seg_b (k := 1) (by decide) sp20_6 ha20_6, x5, ta20_6]
 obtain ⟨H6, s6, x6⟩ := sg6 sc us ho po pa qu fr hu hp ha hq hf _ _ (by first | omega | (simp only [ByteArray.size_append]; omega)) s5 zho
 rw [seg_b (k := 1) (by decide) sp20_7 ha20_7, x6, ta20_7]
 obtain ⟨H7, s7, x7⟩ := sg7 sc us ho po pa qu fr hu hp ha hq hf _ _ (by first | omega | (simp only [ByteArray.size_append]; omega)) s6 zpo
 rw [seg_b (k := 1) (by decide) sp20_8 ha20_8, x7, ta20_8]
 obtain ⟨H8, s8, x8⟩ := sg8 sc us ho po pa qu fr hu hp ha hq hf _ _ (by first | omega | (simp only [ByteArray.size_append]; omega)) s7 zpa
 rw [seg_b (k := 1) (by decide) sp20_9 ha20_9, x8, ta20_9]
 obtain ⟨H9, s9, x9⟩ := sg9 sc us ho po pa qu fr hu hp ha hq hf _ _ (by first | omega | (simp only [ByteArray.size_append]; omega)) s8 zqu
 rw [seg_b (k := 1) (by decide) sp20_10 ha20_10, x9, ta20_10]
 obtain ⟨H10, s10, x10⟩ := sg10 sc us ho po pa qu fr hu hp ha hq hf _ _ (by first | omega | (simp only [ByteArray.size_append]; omega)) s9 zfr
 rw [seg_b (k := 1) (by decide) sp20_11 ha20_11, x10, ta20_11]
 exact tg11' sc us ho po pa qu fr hu hp ha hq hf _ _ (by first | omega | (simp only [ByteArray.size_append]; omega)) s10 n
def n4 (s : ByteArray) : Bool := decide (s.size ≤ 4000)
def L20 : Fn1 := fun cargs => match cargs with
 | [.agg [.str sc, .str us, .bool hu, .str ho, .str po, .bool hp, .bool ha, .str pa, .str qu, .bool hq, .str fr, .bool hf]] => some [(n4 sc && (n4 us && (n4 ho && (n4 po && (n4 pa && (n4 qu && n4 fr))))), .str (joinU sc us ho po pa qu fr hu hp ha hq hf), [])]
 | _ => none
theorem n4_iff {s : ByteArray} : n4 s = true ↔ s.size ≤ 4000 := decide_eq_true_iff
theorem known0 : Kw I ng A0 := fun f cargs rv outs h => by cases h
theorem g20 (hg : OnGlobals I ng) : Cw I ng 48 L20 := contract_of an20 hg (inls_ok hg (hok_of known0) [75, 50, 51, 76]) fun cargs rv outs h => by
 unfold L20 at h
 split at h <;> first | (cases h; done) | skip
 rename_i sc us hu ho po hp ha pa qu hq fr hf
 cases hc : (n4 sc && (n4 us && (n4 ho && (n4 po && (n4 pa && (n4 qu && n4 fr)))))) with
 | false => rw [hc] at h; cases h
 | true =>
   rw [hc] at h
   cases h
   simp only [Bool.and_eq_true, n4_iff] at hc
   refine ⟨1, ?_⟩
   rw [abody_eq2 (ps := [.c (uV sc us hu ho po hp ha pa qu hq fr hf)]) (H := []) rfl (by kernel_rfl)]
   exact together_eq sc us ho po pa qu fr hu hp ha hq hf hc.1 hc.2.1 hc.2.2.1 hc.2.2.2.1 hc.2.2.2.2.1 hc.2.2.2.2.2.1 hc.2.2.2.2.2.2 1
end Go.Pv
namespace Go.Pv
set_option maxRecDepth 100000
open Go Go.Proofs
noncomputable def c14 : Code := codeOf Tryz.prog 21
def h14 : Head := ⟨[1, 3], [], 1⟩
def h14e : Head := ⟨[3], [], 1⟩
def an14 : Ann := fun i => if Nat.beq i 500004 then some h14 else if Nat.beq i 500006 then some h14 else if Nat.beq i 500008 then some h14 else if Nat.beq i 500009 then some h14 else if Nat.beq i 500011 then some h14 else if Nat.beq i 500012 then some h14 else if Nat.beq i 500014 then some h14 else if Nat.beq i 500016 then some h14e else none
def E14 (s : ByteArray) : Env := mkEnv 51 [(1, .bptr 0 0), (3, .c (.str s))]
def B14 (u : CV) : Hp := [.box (.c u) kU]
theorem tj2 (sc us ho po pa qu fr : ByteArray) (hu hp ha hq hf : Bool) (n : Nat) (L : Env → Hp → Res) : aexec Tryz.prog (call' A0) (filt an14 0) n (prefC 3 c14) (envOf Tryz.prog 21 [.c (uV sc us hu ho po hp ha pa qu hq fr hf)]) [] (thenK (headK h14 L) (endOf Tryz.prog 21 [])) =
 bif' (!sc.toList == (ByteArray.mk #[]).toList) (bif' (fitsS (sc.size + 1)) (L (mkEnv 51 [(1, .bptr 0 0), (3, .c (CV.str (sc ++ ByteArray.mk #[58])))]) [.box (.c (CV.agg [CV.str sc, CV.str us, CV.bool hu, CV.str ho, CV.str po, CV.bool hp, CV.bool ha, CV.str pa, CV.str qu, CV.bool hq, CV.str fr, CV.bool hf])) (kOf (uV sc us hu ho po hp ha pa qu hq fr hf).cl.length 26)]) none) (L (mkEnv 51 [(1, .bptr 0 0), (3, .c (CV.str ⟨⟨[]⟩⟩))]) [.box (.c (CV.agg [CV.str sc, CV.str us, CV.bool hu, CV.str ho, CV.str po, CV.bool hp, CV.bool ha, CV.str pa, CV.str qu, CV.bool hq, CV.str fr, CV.bool hf])) (kOf (uV sc us hu ho po hp ha pa qu hq fr hf).cl.length 26)]) := by kernel_rfl
theorem tj3 (sc us ho po pa qu fr : ByteArray) (hu hp ha hq hf : Bool) (s : ByteArray) (n : Nat) (L : Env → Hp → Res) : aexecB Tryz.prog (call' A0) (filt an14 0) n (prefC 1 (tailC 3 c14)) (E14 s) (B14 (uV sc us hu ho po hp ha pa qu hq fr hf)) (thenK (headK h14 L) (endOf Tryz.prog 21 [])) =
 bif' ha (bif' (fitsS (s.size + 2)) (L (mkEnv 51 [(1, .bptr 0 0), (3, .c (CV.str (s ++ ByteArray.mk #[47, 47])))]) [.box (.c (CV.agg [CV.str sc, CV.str us, CV.bool hu, CV.str ho, CV.str po, CV.bool hp, CV.bool ha, CV.str pa, CV.str qu, CV.bool hq, CV.str fr, CV.bool hf])) kU]) none) (L (mkEnv 51 [(1, .bptr 0 0), (3, .c (CV.str s))]) [.box (.c (CV.agg [CV.str sc, CV.str us, CV.bool hu, CV.str ho, CV.str po, CV.bool hp, CV.bool ha, CV.str pa, CV.str qu, CV.bool hq, CV.str fr, CV.bool hf])) kU]) := by kernel_rfl
theorem tj4 (sc us ho po pa qu fr : ByteArray) (hu hp ha hq hf : Bool) (s : ByteArray) (n : Nat) (L : Env → Hp → Res) : aexecB Tryz.prog (call' A0) (filt an14 0) n (prefC 1 (tailC 4 c14)) (E14 s) (B14 (uV sc us hu ho po hp ha pa qu hq fr hf)) (thenK (headK h14 L) (endOf Tryz.prog 21 [])) =
 bif' hu (bif' (fitsS (s.size + us.size)) (bif' (fitsS ((s ++ us).size + 1)) (L (mkEnv 51 [(1, .bptr 0 0), (3, .c (CV.str (s ++ us ++ ByteArray.mk #[64])))]) [.box (.c (CV.agg [CV.str sc, CV.str us, CV.bool hu, CV.str ho, CV.str po, CV.bool hp, CV.bool ha, CV.str pa, CV.str qu, CV.bool hq, CV.str fr, CV.bool hf])) kU]) none) none) (L (mkEnv 51 [(1, .bptr 0 0), (3, .c (CV.str s))]) [.box (.c (CV.agg [CV.str sc, CV.str us, CV.bool hu, CV.str ho, CV.str po, CV.bool hp, CV.bool ha, CV.str pa, CV.str qu, CV.bool hq, CV.str fr, CV.bool hf])) kU]) := by kernel_rfl
theorem tj5 (sc us ho po pa qu fr : ByteArray) (hu hp ha hq hf : Bool) (s : ByteArray) (n : Nat) (L : Env → Hp → Res) : aexecB Tryz.prog (call' A0) (filt an14 0) n (prefC 1 (tailC 5 c14)) (E14 s) (B14 (uV sc us hu ho po hp ha pa qu hq fr hf)) (thenK (headK h14 L) (endOf Tryz.prog 21 [])) =
 bif' (fitsS (s.size + ho.size)) (L (mkEnv 51 [(1, .bptr 0 0), (3, .c (CV.str (s ++ ho)))]) [.box (.c (CV.agg [CV.str sc, CV.str us, CV.bool hu, CV.str ho, CV.str po, CV.bool hp, CV.bool ha, CV.str pa, CV.str qu, CV.bool hq, CV.str fr, CV.bool hf])) kU]) none := by kernel_rfl
theorem tj6 (sc us ho po pa qu fr : ByteArray) (hu hp ha hq hf : Bool) (s : ByteArray) (n : Nat) (L : Env → Hp → Res) : aexecB Tryz.prog (call' A0) (filt an14 0) n (prefC 1 (tailC 6 c14)) (E14 s) (B14 (uV sc us hu ho po hp ha pa qu hq fr hf)) (thenK (headK h14 L) (endOf Tryz.prog 21 [])) =
 bif' hp (bif' (fitsS (s.size + 1)) (bif' (fitsS ((s ++ ByteArray.mk #[58]).size + po.size)) (L (mkEnv 51 [(1, .bptr 0 0), (3, .c (CV.str (s ++ ByteArray.mk #[58] ++ po)))]) [.box (.c (CV.agg [CV.str sc, CV.str us, CV.bool hu, CV.str ho, CV.str po, CV.bool hp, CV.bool ha, CV.str pa, CV.str qu, CV.bool hq, CV.str fr, CV.bool hf])) kU]) none) none) (L (mkEnv 51 [(1, .bptr 0 0), (3, .c (CV.str s))]) [.box (.c (CV.agg [CV.str sc, CV.str us, CV.bool hu, CV.str ho, CV.str po, CV.bool hp, CV.bool ha, CV.str pa, CV.str qu, CV.bool hq, CV.str fr, CV.bool hf])) kU]) := by kernel_rfl
theorem tj7 (sc us ho po pa qu fr : ByteArray) (hu hp ha hq hf : Bool) (s : ByteArray) (n : Nat) (L : Env → Hp → Res) : aexecB Tryz.prog (call' A0) (filt an14 0) n (prefC 1 (tailC 7 c14)) (E14 s) (B14 (uV sc us hu ho po hp ha pa qu hq fr hf)) (thenK (headK h14 L) (endOf Tryz.prog 21 [])) =
 bif' (fitsS (s.size + pa.size)) (L (mkEnv 51 [(1, .bptr 0 0), (3, .c (CV.str (s ++ pa)))]) [.box (.c (CV.agg [CV.str sc, CV.str us, CV.bool hu, CV.str ho, CV.str po, CV.bool hp, CV.bool ha, CV.str pa, CV.str qu, CV.bool hq, CV.str fr, CV.bool hf])) kU]) none := by kernel_rfl
theorem tj8 (sc us ho po pa qu fr : ByteArray) (hu hp ha hq hf : Bool) (s : ByteArray) (n : Nat) (L : Env → Hp → Res) : aexecB Tryz.prog (call' A0) (filt an14 0) n (prefC 1 (tailC 8 c14)) (E14 s) (B14 (uV sc us hu ho po hp ha pa qu hq fr hf)) (thenK (headK h14 L) (endOf Tryz.prog 21 [])) =
 bif' hq (bif' (fitsS (s.size + 1)) (bif' (fitsS ((s ++ ByteArray.mk #[63]).size + qu.size)) (L (mkEnv 51 [(1, .bptr 0 0), (3, .c (CV.str (s ++ ByteArray.mk #[63] ++ qu)))]) [.box (.c (CV.agg [CV.str sc, CV.str us, CV.bool hu, CV.str ho, CV.str po, CV.bool hp, CV.bool ha, CV.str pa, CV.str qu, CV.bool hq, CV.str fr, CV.bool hf])) kU]) none) none) (L (mkEnv 51 [(1, .bptr 0 0), (3, .c (CV.str s))]) [.box (.c (CV.agg [CV.str sc, CV.str us, CV.bool hu, CV.str ho, CV.str po, CV.bool hp, CV.bool ha, CV.str pa, CV.str qu, CV.bool hq, CV.str fr, CV.bool hf])) kU]) := by kernel_rfl
theorem tj9 (sc us ho po pa qu fr : ByteArray) (hu hp ha hq hf : Bool) (s : ByteArray) (n : Nat) (L : Env → Hp → Res) : aexecB Tryz.prog (call' A0) (filt an14 0) n (prefC 1 (tailC 9 c14)) (E14 s) (B14 (uV sc us hu ho po hp ha pa qu hq fr hf)) (thenK (headK h14e L) (endOf Tryz.prog 21 [])) =
 bif' hf (bif' (fitsS (s.size + 1)) (bif' (fitsS ((s ++ ByteArray.mk #[35]).size + fr.size)) (L (mkEnv 51 [(3, .c (CV.str (s ++ ByteArray.mk #[35] ++ fr)))]) [.box (.c (CV.agg [CV.str sc, CV.str us, CV.bool hu, CV.str ho, CV.str po, CV.bool hp, CV.bool ha, CV.str pa, CV.str qu, CV.bool hq, CV.str fr, CV.bool hf])) kU]) none) none) (L (mkEnv 51 [(3, .c (CV.str s))]) [.box (.c (CV.agg [CV.str sc, CV.str us, CV.bool hu, CV.str ho, CV.str po, CV.bool hp, CV.bool ha, CV.str pa, CV.str qu, CV.bool hq, CV.str fr, CV.bool hf])) kU]) := by kernel_rfl
theorem tj10 (sc us ho po pa qu fr : ByteArray) (hu hp ha hq hf : Bool) (s : ByteArray) (n : Nat) : aexecB Tryz.prog (call' A0) (filt an14 0) n (tailC 10 c14) (mkEnv 51 [(3, .c (.str s))]) (B14 (uV sc us hu ho po hp ha pa qu hq fr hf)) (endOf Tryz.prog 21 []) =
 some (CV.str s, []) := by kernel_rfl
end Go.Pv
namespace Go.Pv
set_option maxRecDepth 100000
open Go Go.Proofs
variable {I : World → Prop} {ng : Nat}
theorem jg2 (sc us ho po pa qu fr : ByteArray) (hu hp ha hq hf : Bool) (zsc : sc.size ≤ 4000) (n : Nat) (L : Env → Hp → Res) : aexec Tryz.prog (call' A0) (filt an14 0) n (prefC 3 c14) (envOf Tryz.prog 21 [.c (uV sc us hu ho po hp ha pa qu hq fr hf)]) [] (thenK (headK h14 L) (endOf Tryz.prog 21 [])) = L (E14 (jSc sc)) (B14 (uV sc us hu ho po hp ha pa qu hq fr hf)) := by
 rw [tj2, bA_emp]
 by_cases e0 : sc.size = 0
 · rw [decide_eq_true e0, show jSc sc = ⟨#[]⟩ from if_pos e0]; rfl
 · rw [decide_eq_false e0, fits_small (by omega), show jSc sc = sc ++ (⟨#[58]⟩ : ByteArray) from if_neg e0]; rfl
theorem jg3 (sc us ho po pa qu fr : ByteArray) (hu hp ha hq hf : Bool) (s : ByteArray) (hz : s.size ≤ 60000) (n : Nat) (L : Env → Hp → Res) : aexecB Tryz.prog (call' A0) (filt an14 0) n (prefC 1 (tailC 3 c14)) (E14 s) (B14 (uV sc us hu ho po hp ha pa qu hq fr hf)) (thenK (headK h14 L) (endOf Tryz.prog 21 [])) = L (E14 (s ++ jAu ha)) (B14 (uV sc us hu ho po hp ha pa qu hq fr hf)) := by
 rw [tj3]
 have q : (⟨#[47, 47]⟩ : ByteArray).size = 2 := rfl
 have f0 : fitsS (s.size + 2) = true := fits_small (by omega)
 rw [f0]
 cases ha
 · rw [show jAu false = ⟨#[]⟩ from rfl, bA_appNil]; rfl
 · rw [show jAu true = (⟨#[47, 47]⟩ : ByteArray) from rfl]; rfl
theorem jg4 (sc us ho po pa qu fr : ByteArray) (hu hp ha hq hf : Bool) (s : ByteArray) (hz : s.size ≤ 60000) (zus : us.size ≤ 4000) (n : Nat) (L : Env → Hp → Res) : aexecB Tryz.prog (call' A0) (filt an14 0) n (prefC 1 (tailC 4 c14)) (E14 s) (B14 (uV sc us hu ho po hp ha pa qu hq fr hf)) (thenK (headK h14 L) (endOf Tryz.prog 21 [])) = L (E14 (s ++ jUs hu us)) (B14 (uV sc us hu ho po hp ha pa qu hq fr hf)) := by
 rw [tj4]
 have q : (⟨#[64]⟩ : ByteArray).size = 1 := rfl
 have f0 : fitsS (s.size + us.size) = true := fits_small (by omega)
 have f1 : fitsS ((s ++ us).size + 1) = true := fits_small (by simp only [ByteArray.size_append]; omega)
 rw [f0, f1]
 cases hu
 · rw [show jUs false us = ⟨#[]⟩ from rfl, bA_appNil]; rfl
 · rw [show jUs true us = us ++ (⟨#[64]⟩ : ByteArray) from rfl, ← ByteArray.append_assoc]; rfl
theorem jg5 (sc us ho po pa qu fr : ByteArray) (hu hp ha hq hf : Bool) (s : ByteArray) (hz : s.size ≤ 60000) (zho : ho.size ≤ 4000) (n : Nat) (L : Env → Hp → Res) : aexecB Tryz.prog (call' A0) (filt an14 0) n (prefC 1 (tailC 5 c14)) (E14 s) (B14 (uV sc us hu ho po hp ha pa qu hq fr hf)) (thenK (headK h14 L) (endOf Tryz.prog 21 [])) = L (E14 (s ++ ho)) (B14 (uV sc us hu ho po hp ha pa qu hq fr hf)) := by
 rw [tj5]
 have f0 : fitsS (s.size + ho.size) = true := fits_small (by omega)
 rw [f0]
 rfl
theorem jg6 (sc us ho po pa qu fr : ByteArray) (hu hp ha hq hf : Bool) (s : ByteArray) (hz : s.size ≤ 60000) (zpo : po.size ≤ 4000) (n : Nat) (L : Env → Hp → Res) : aexecB Tryz.prog (call' A0) (filt an14 0) n (prefC 1 (tailC 6 c14)) (E14 s) (B14 (uV sc us hu ho po hp ha pa qu hq fr hf)) (thenK (headK h14 L) (endOf Tryz.prog 21 [])) = L (E14 (s ++ jPo hp po)) (B14 (uV sc us hu ho po hp ha pa qu hq fr hf)) := by
 rw [tj6]
 have q : (⟨#[58]⟩ : ByteArray).size = 1 := rfl
 have f0 : fitsS (s.size + 1) = true := fits_small (by omega)
 have f1 : fitsS ((s ++ (⟨#[58]⟩ : ByteArray)).size + po.size) = true := fits_small (by simp only [ByteArray.size_append]; omega)
 rw [f0, f1]
 cases hp
 · rw [show jPo false po = ⟨#[]⟩ from rfl, bA_appNil]; rfl
 · rw [show jPo true po = (⟨#[58]⟩ : ByteArray) ++ po from rfl, ← ByteArray.append_assoc]; rfl
theorem jg7 (sc us ho po pa qu fr : ByteArray) (hu hp ha hq hf : Bool) (s : ByteArray) (hz : s.size ≤ 60000) (zpa : pa.size ≤ 4000) (n : Nat) (L : Env → Hp → Res) : aexecB Tryz.prog (call' A0) (filt an14 0) n (prefC 1 (tailC 7 c14)) (E14 s) (B14 (uV sc us hu ho po hp ha pa qu hq fr hf)) (thenK (headK h14 L) (endOf Tryz.prog 21 [])) = L (E14 (s ++ pa)) (B14 (uV sc us hu ho po hp ha pa qu hq fr hf)) := by
 rw [tj7]
 have f0 : fitsS (s.size + pa.size) = true := fits_small (by omega)
 rw [f0]
 rfl
theorem jg8 (sc us ho po pa qu fr : ByteArray) (hu hp ha hq hf : Bool) (s : ByteArray) (hz : s.size ≤ 60000) (zqu : qu.size ≤ 4000) (n : Nat) (L : Env → Hp → Res) : aexecB Tryz.prog (call' A0) (filt an14 0) n (prefC 1 (tailC 8 c14)) (E14 s) (B14 (uV sc us hu ho po hp ha pa qu hq fr hf)) (thenK (headK h14 L) (endOf Tryz.prog 21 [])) = L (E14 (s ++ jQu hq qu)) (B14 (uV sc us hu ho po hp ha pa qu hq fr hf)) := by
 rw [tj8]
 have q : (⟨#[63]⟩ : ByteArray).size = 1 := rfl
 have f0 : fitsS (s.size + 1) = true := fits_small (by omega)
 have f1 : fitsS ((s ++ (⟨#[63]⟩ : ByteArray)).size + qu.size) = true := fits_small (by simp only [ByteArray.size_append]; omega)
 rw [f0, f1]
 cases hq
 · rw [show jQu false qu = ⟨#[]⟩ from rfl, bA_appNil]; rfl
 · rw [show jQu true qu = (⟨#[63]⟩ : ByteArray) ++ qu from rfl, ← ByteArray.append_assoc]; rfl
theorem jg9 (sc us ho po pa qu fr : ByteArray) (hu hp ha hq hf : Bool) (s : ByteArray) (hz : s.size ≤ 60000) (zfr : fr.size ≤ 4000) (n : Nat) (L : Env → Hp → Res) : aexecB Tryz.prog (call' A0) (filt an14 0) n (prefC 1 (tailC 9 c14)) (E14 s) (B14 (uV sc us hu ho po hp ha pa qu hq fr hf)) (thenK (headK h14e L) (endOf Tryz.prog 21 [])) = L (mkEnv 51 [(3, .c (.str (s ++ jFr hf fr)))]) (B14 (uV sc us hu ho po hp ha pa qu hq fr hf)) := by
 rw [tj9]
 have q : (⟨#[35]⟩ : ByteArray).size = 1 := rfl
 have f0 : fitsS (s.size + 1) = true := fits_small (by omega)
 have f1 : fitsS ((s ++ (⟨#[35]⟩ : ByteArray)).size + fr.size) = true := fits_small (by simp only [ByteArray.size_append]; omega)
 rw [f0, f1]
 cases hf
 · rw [show jFr false fr = ⟨#[]⟩ from rfl, bA_appNil]; rfl
 · rw [show jFr true fr = (⟨#[35]⟩ : ByteArray) ++ fr from rfl, ← ByteArray.append_assoc]; rfl
theorem sp14_2 : spine 3 c14 = true := by kernel_rfl
theorem ha14_2 : headAt (filt an14 0) (tailC 3 c14) = some h14 := by kernel_rfl
theorem sp14_3 : spine 1 (tailC 3 c14) = true := by kernel_rfl
theorem ha14_3 : headAt (filt an14 0) (tailC 1 (tailC 3 c14)) = some h14 := by kernel_rfl
theorem ta14_3 : tailC 1 (tailC 3 c14) = tailC 4 c14 := eq_of_heq (heq_of_eq (by kernel_rfl))
theorem sp14_4 : spine 1 (tailC 4 c14) = true := by kernel_rfl
theorem ha14_4 : headAt (filt an14 0) (tailC 1 (tailC 4 c14)) = some h14 := by kernel_rfl
theorem ta14_4 : tailC 1 (tailC 4 c14) = tailC 5 c14 := eq_of_heq (heq_of_eq (by kernel_rfl))
theorem sp14_5 : spine 1 (tailC 5 c14) = true := by kernel_rfl
theorem ha14_5 : headAt (filt an14 0) (tailC 1 (tailC 5 c14)) = some h14 := by kernel_rfl
theorem ta14_5 : tailC 1 (tailC 5 c14) = tailC 6 c14 := eq_of_heq (heq_of_eq (by kernel_rfl))
theorem sp14_6 : spine 1 (tailC 6 c14) = true := by kernel_rfl
theorem ha14_6 : headAt (filt an14 0) (tailC 1 (tailC 6 c14)) = some h14 := by kernel_rfl
theorem ta14_6 : tailC 1 (tailC 6 c14) = tailC 7 c14 := eq_of_heq (heq_of_eq (by kernel_rfl))
theorem sp14_7 : spine 1 (tailC 7 c14) = true := by kernel_rfl
theorem ha14_7 : headAt (filt an14 0) (tailC 1 (tailC 7 c14)) = some h14 := by kernel_rfl
theorem ta14_7 : tailC 1 (tailC 7 c14) = tailC 8 c14 := eq_of_heq (heq_of_eq (by kernel_rfl))
theorem sp14_8 : spine 1 (tailC 8 c14) = true := by kernel_rfl
theorem ha14_8 : headAt (filt an14 0) (tailC 1 (tailC 8 c14)) = some h14 := by kernel_rfl
theorem ta14_8 : tailC 1 (tailC 8 c14) = tailC 9 c14 := eq_of_heq (heq_of_eq (by kernel_rfl))
theorem sp14_9 : spine 1 (tailC 9 c14) = true := by kernel_rfl
theorem ha14_9 : headAt (filt an14 0) (tailC 1 (tailC 9 c14)) = some h14e := by kernel_rfl
theorem ta14_9 : tailC 1 (tailC 9 c14) = tailC 10 c14 := eq_of_heq (heq_of_eq (by kernel_rfl))
theorem join_eq (sc us ho po pa qu fr : ByteArray) (hu hp ha hq hf : Bool) (zsc : sc.size ≤ 4000) (zus : us.size ≤ 4000) (zho : ho.size ≤ 4000) (zpo : po.size ≤ 4000) (zpa : pa.size ≤ 4000) (zqu : qu.size ≤ 4000) (zfr : fr.size ≤ 4000) (n : Nat) :
   aexec Tryz.prog (call' A0) (filt an14 0) n c14 (envOf Tryz.prog 21 [.c (uV sc us hu ho po hp ha pa qu hq fr hf)]) [] (endOf Tryz.prog 21 []) = some (.str (joinU sc us ho po pa qu fr hu hp ha hq hf), []) := by
 have y1 : (jSc sc).size ≤ 4001 := by
   unfold jSc
   split
   · exact Nat.zero_le _
   · have q : (⟨#[58]⟩ : ByteArray).size = 1 := rfl
     simp only [ByteArray.size_append]; omega
 have y2 : (jAu ha).size ≤ 2 := by cases ha <;> exact Nat.le_of_ble_eq_true rfl
 have y3 : (jUs hu us).size ≤ 4001 := by
   have q : (⟨#[64]⟩ : ByteArray).size = 1 := rfl
   cases hu
   · exact Nat.zero_le _
   · show (us ++ _).size ≤ _
     simp only [ByteArray.size_append]; omega
 have y4 : (jPo hp po).size ≤ 4001 := jz _ rfl hp po zpo
 have y5 : (jQu hq qu).size ≤ 4001 := jz _ rfl hq qu zqu
 rw [seg_a (k := 3) (by decide) sp14_2 ha14_2, jg2 sc us ho po pa qu fr hu hp ha hq hf zsc]
 rw [seg_b (k := 1) (by decide) sp14_3 ha14_3, jg3 sc us ho po pa qu fr hu hp ha hq hf _ (by first | omega | (simp only [ByteArray.size_append]; omega)), ta14_3]
 rw [seg_b (k := 1) (by decide) sp14_4 ha14_4, jg4 sc us ho po pa qu fr hu hp ha hq hf _ (by first | omega | (simp only [ByteArray.size_append]; omega)) zus, ta14_4]
 rw [seg_b (k := 1) (by decide) sp14_5 ha14_5, jg5 sc us ho po pa qu fr hu hp ha hq hf _ (by first | omega | (simp only [ByteArray.size_append]; omega)) zho, ta14_5]
 rw [seg_b (k := 1) (by decide) sp14_6 ha14_6, jg6 sc us ho po pa qu fr hu hp ha hq hf _ (by first | omega | (simp only [ByteArray.size_append]; omega)) zpo, ta14_6]
 rw [seg_b (k := 1) (by decide) sp14_7 ha14_7, jg7 sc us ho po pa qu fr hu hp ha hq hf _ (by first | omega | (simp only [ByteArray.size_append]; omega)) zpa, ta14_7]
 rw [seg_b (k := 1) (by decide) sp14_8 ha14_8, jg8 sc us ho po pa qu fr hu hp ha hq hf _ (by first | omega | (simp only [ByteArray.size_append]; omega)) zqu, ta14_8]
 rw [seg_b (k := 1) (by decide) sp14_9 ha14_9, jg9 sc us ho po pa qu fr hu hp ha hq hf _ (by first | omega | (simp only [ByteArray.size_append]; omega)) zfr, ta14_9]
 rw [tj10]
 rfl
theorem g14 (hg : OnGlobals I ng) : Cw I ng 21 L20 := contract_of an14 hg (hok_of known0) fun cargs rv outs h => by
 unfold L20 at h
 split at h <;> first | (cases h; done) | skip
 rename_i sc us hu ho po hp ha pa qu hq fr hf
 cases hc : (n4 sc && (n4 us && (n4 ho && (n4 po && (n4 pa && (n4 qu && n4 fr)))))) with
 | false => rw [hc] at h; cases h
 | true =>
   rw [hc] at h
   cases h
   simp only [Bool.and_eq_true, n4_iff] at hc
   refine ⟨1, ?_⟩
   rw [abody_eq2 (ps := [.c (uV sc us hu ho po hp ha pa qu hq fr hf)]) (H := []) rfl (by kernel_rfl)]
   exact join_eq sc us ho po pa qu fr hu hp ha hq hf hc.1 hc.2.1 hc.2.2.1 hc.2.2.2.1 hc.2.2.2.2.1 hc.2.2.2.2.2.1 hc.2.2.2.2.2.2 1
end Go.Pv
namespace Go.Pv
set_option maxRecDepth 100000
open Go Go.Proofs
def w0 (s : ByteArray) : ByteArray := uSch s
def w1 (s : ByteArray) : ByteArray := rUsr (uRst s)
def x2 (s : ByteArray) : Bool := rHU (uRst s)
def w3 (s : ByteArray) : ByteArray := rHost (uRst s)
def w4 (s : ByteArray) : ByteArray := rPort (uRst s)
def x5 (s : ByteArray) : Bool := rHP (uRst s)
def x6 (s : ByteArray) : Bool := rHA (uRst s)
def w7 (s : ByteArray) : ByteArray := tPa (rAf (uRst s))
def w8 (s : ByteArray) : ByteArray := tQu (rAf (uRst s))
def x9 (s : ByteArray) : Bool := tHQ (rAf (uRst s))
def wT (s : ByteArray) : ByteArray := tFr (rAf (uRst s))
def xE (s : ByteArray) : Bool := tHF (rAf (uRst s))
def n7 (sc us ho po pa qu fr : ByteArray) : Bool := n4 sc && (n4 us && (n4 ho && (n4 po && (n4 pa && (n4 qu && n4 fr)))))
def eqU (J sc us ho po pa qu fr : ByteArray) (hu hp ha hq hf : Bool) : Bool := w0 J == sc && (w1 J == us && (x2 J == hu && (w3 J == ho && (w4 J == po && (x5 J == hp && (x6 J == ha && (w7 J == pa && (w8 J == qu && (x9 J == hq && (wT J == fr && (xE J == hf && true)))))))))))
def mayU (sc us ho po pa qu fr : ByteArray) (hu hp ha hq hf : Bool) : Bool := !decide (2048 < (joinU sc us ho po pa qu fr hu hp ha hq hf).size) && (uOk (joinU sc us ho po pa qu fr hu hp ha hq hf) && eqU (joinU sc us ho po pa qu fr hu hp ha hq hf) sc us ho po pa qu fr hu hp ha hq hf)
end Go.Pv
namespace Go.Pv
set_option maxRecDepth 100000
open Go Go.Proofs
def uVe (s : ByteArray) : CV := uV (w0 s) (w1 s) (x2 s) (w3 s) (w4 s) (x5 s) (x6 s) (w7 s) (w8 s) (x9 s) (wT s) (xE s)
def zVe : CV := uV nB nB false nB nB false false nB nB false nB false
def M13 : Fn1 := fun x => match x with
 | [.str s] => some [(decide (2048 < s.size), .tup [zVe, .int .i64 3], []), (uOk s, .tup [uVe s, .int .i64 0], []), (true, .tup [zVe, .int .i64 5], [])]
 | _ => none
def M22 : Fn1 := fun x => match x with
 | [.str s] => some [(decide (s.size ≤ 2500) && uOk s, .tup [uVe s, .bool true], []), (decide (s.size ≤ 2500), .tup [zVe, .bool false], [])]
 | _ => none
def M20 : Fn1 := fun cargs => match cargs with
 | [.agg [.str sc, .str us, .bool hu, .str ho, .str po, .bool hp, .bool ha, .str pa, .str qu, .bool hq, .str fr, .bool hf]] => some [(n7 sc us ho po pa qu fr, .str (joinU sc us ho po pa qu fr hu hp ha hq hf), [])]
 | _ => none
def M21 : Fn1 := fun cargs => match cargs with
 | [.agg [.str sc, .str us, .bool hu, .str ho, .str po, .bool hp, .bool ha, .str pa, .str qu, .bool hq, .str fr, .bool hf]] => some [(n7 sc us ho po pa qu fr, .bool (decide (2048 < (joinU sc us ho po pa qu fr hu hp ha hq hf).size)), [])]
 | _ => none
def M12 : Fn1 := fun cargs => match cargs with
 | [.agg [.str sc, .str us, .bool hu, .str ho, .str po, .bool hp, .bool ha, .str pa, .str qu, .bool hq, .str fr, .bool hf]] => some [(n7 sc us ho po pa qu fr && mayU sc us ho po pa qu fr hu hp ha hq hf, .int .i64 0, []), (n7 sc us ho po pa qu fr, .int .i64 1, [])]
 | _ => none
def M11 : Fn1 := fun cargs => match cargs with
 | [.agg [.str sc, .str us, .bool hu, .str ho, .str po, .bool hp, .bool ha, .str pa, .str qu, .bool hq, .str fr, .bool hf]] => some [(n7 sc us ho po pa qu fr && mayU sc us ho po pa qu fr hu hp ha hq hf, .bool true, []), (n7 sc us ho po pa qu fr, .bool false, [])]
 | _ => none
def T0 : Table := fun _ _ => none
def T13 : Table := fun g => if Nat.beq g 47 then M13 else T0 g
def T22 : Table := fun g => if Nat.beq g 23 then M22 else T13 g
def T20 : Table := fun g => if Nat.beq g 48 then M20 else T22 g
def T14 : Table := fun g => if Nat.beq g 21 then M20 else T20 g
def T21 : Table := fun g => if Nat.beq g 18 then M21 else T14 g
def T12 : Table := fun g => if Nat.beq g 24 then M12 else T21 g
def T11 : Table := fun g => if Nat.beq g 10 then M11 else T12 g
theorem vm21 (sc us ho po pa qu fr : ByteArray) (hu hp ha hq hf : Bool) : abody Tryz.prog (call' T14) (fun _ => none) 1 18 [uV sc us hu ho po hp ha pa qu hq fr hf] =
 bif' (n7 sc us ho po pa qu fr) (some (CV.bool (decide ((↑(joinU sc us ho po pa qu fr hu hp ha hq hf).size : Int) > 2048)), [])) none := by kernel_rfl
theorem vm12 (sc us ho po pa qu fr : ByteArray) (hu hp ha hq hf : Bool) : abody Tryz.prog (call' T21) (fun _ => none) 1 24 [uV sc us hu ho po hp ha pa qu hq fr hf] =
 bif' (n7 sc us ho po pa qu fr) (bif' (decide (2048 < (joinU sc us ho po pa qu fr hu hp ha hq hf).size)) (some (CV.int .i64 (.ofNat 1), [])) (bif' (uOk (joinU sc us ho po pa qu fr hu hp ha hq hf)) (bif' (!(w0 (joinU sc us ho po pa qu fr hu hp ha hq hf) == sc && (w1 (joinU sc us ho po pa qu fr hu hp ha hq hf) == us && (x2 (joinU sc us ho po pa qu fr hu hp ha hq hf) == hu && (w3 (joinU sc us ho po pa qu fr hu hp ha hq hf) == ho && (w4 (joinU sc us ho po pa qu fr hu hp ha hq hf) == po && (x5 (joinU sc us ho po pa qu fr hu hp ha hq hf) == hp && (x6 (joinU sc us ho po pa qu fr hu hp ha hq hf) == ha && (w7 (joinU sc us ho po pa qu fr hu hp ha hq hf) == pa && (w8 (joinU sc us ho po pa qu fr hu hp ha hq hf) == qu && (x9 (joinU sc us ho po pa qu fr hu hp ha hq hf) == hq && (wT (joinU sc us ho po pa qu fr hu hp ha hq hf) == fr && (xE (joinU sc us ho po pa qu fr hu hp ha hq hf) == hf && true))))))))))))) (some (CV.int .i64 (.ofNat 1), [])) (some (CV.int .i64 (.ofNat 0), []))) (some (CV.int .i64 (.ofNat 1), [])))) none := by kernel_rfl
theorem vm11 (sc us ho po pa qu fr : ByteArray) (hu hp ha hq hf : Bool) : abody Tryz.prog (call' T12) (fun _ => none) 1 10 [uV sc us hu ho po hp ha pa qu hq fr hf] =
 bif' (n7 sc us ho po pa qu fr) (bif' (decide (2048 < (joinU sc us ho po pa qu fr hu hp ha hq hf).size)) (some (CV.bool false, [])) (bif' (n7 sc us ho po pa qu fr) (bif' (decide ((joinU sc us ho po pa qu fr hu hp ha hq hf).size ≤ 2500) && uOk (joinU sc us ho po pa qu fr hu hp ha hq hf)) (some (CV.bool (w0 (joinU sc us ho po pa qu fr hu hp ha hq hf) == sc && (w1 (joinU sc us ho po pa qu fr hu hp ha hq hf) == us && (x2 (joinU sc us ho po pa qu fr hu hp ha hq hf) == hu && (w3 (joinU sc us ho po pa qu fr hu hp ha hq hf) == ho && (w4 (joinU sc us ho po pa qu fr hu hp ha hq hf) == po && (x5 (joinU sc us ho po pa qu fr hu hp ha hq hf) == hp && (x6 (joinU sc us ho po pa qu fr hu hp ha hq hf) == ha && (w7 (joinU sc us ho po pa qu fr hu hp ha hq hf) == pa && (w8 (joinU sc us ho po pa qu fr hu hp ha hq hf) == qu && (x9 (joinU sc us ho po pa qu fr hu hp ha hq hf) == hq && (wT (joinU sc us ho po pa qu fr hu hp ha hq hf) == fr && (xE (joinU sc us ho po pa qu fr hu hp ha hq hf) == hf && true)))))))))))), [])) (bif' (decide ((joinU sc us ho po pa qu fr hu hp ha hq hf).size ≤ 2500)) (some (CV.bool false, [])) none)) none)) none := by kernel_rfl
end Go.Pv
namespace Go.Pv
set_option maxRecDepth 100000
open Go Go.Proofs
variable {I : World → Prop} {ng : Nat}
theorem gm13 (hg : OnGlobals I ng) (h : Kw I ng A23) (h47 : Cw I ng 98 L47) : Kw I ng T13 := known_add known_no fun cargs rv outs hF => by
 unfold M13 at hF
 split at hF <;> first | (cases hF; done) | skip
 rename_i s
 exact (g13 hg h h47 47) [.str s] rv outs hF
theorem gm22 (hg : OnGlobals I ng) (h : Kw I ng A23) (h47 : Cw I ng 98 L47) (h51 : Cw I ng 67 L51) : Kw I ng T22 := known_add (gm13 hg h h47) fun cargs rv outs hF => by
 unfold M22 at hF
 split at hF <;> first | (cases hF; done) | skip
 rename_i s
 exact (g22 hg (g41 hg h h47 h51) 23) [.str s] rv outs hF
theorem m20 {F : Fn1} {f : FuncId} (h : Cw I ng f L20) : Cw I ng f M20 := fun cargs rv outs hF => by
 unfold M20 at hF
 split at hF <;> first | (cases hF; done) | skip
 rename_i sc us hu ho po hp ha pa qu hq fr hf
 exact h [uV sc us hu ho po hp ha pa qu hq fr hf] rv outs hF
theorem gm20 (hg : OnGlobals I ng) (h : Kw I ng A23) (h47 : Cw I ng 98 L47) (h51 : Cw I ng 67 L51) : Kw I ng T20 := known_add (gm22 hg h h47 h51) (m20 (F := M20) (g20 hg))
theorem gm14 (hg : OnGlobals I ng) (h : Kw I ng A23) (h47 : Cw I ng 98 L47) (h51 : Cw I ng 67 L51) : Kw I ng T14 := known_add (gm20 hg h h47 h51) (m20 (F := M20) (g14 hg))
theorem big_eq (n : Nat) : decide (((n : Nat) : Int) > 2048) = decide (2048 < n) := by
 rw [Bool.eq_iff_iff, decide_eq_true_iff, decide_eq_true_iff]; omega
theorem gm21 (hg : OnGlobals I ng) (h : Kw I ng A23) (h47 : Cw I ng 98 L47) (h51 : Cw I ng 67 L51) : Kw I ng T21 := known_add (gm14 hg h h47 h51) (contract_of (fun _ => none) hg (hok_of (gm14 hg h h47 h51)) fun cargs rv outs hF => by
 unfold M21 at hF
 split at hF <;> first | (cases hF; done) | skip
 rename_i sc us hu ho po hp ha pa qu hq fr hf
 refine ⟨1, ?_⟩
 have e := vm21 sc us ho po pa qu fr hu hp ha hq hf
 cases hn : n7 sc us ho po pa qu fr with
 | false => rw [hn] at hF; cases hF
 | true =>
   rw [hn] at hF e
   cases hF
   rw [big_eq] at e
   exact e)
theorem gm12 (hg : OnGlobals I ng) (h : Kw I ng A23) (h47 : Cw I ng 98 L47) (h51 : Cw I ng 67 L51) : Kw I ng T12 := known_add (gm21 hg h h47 h51) (contract_of (fun _ => none) hg (hok_of (gm21 hg h h47 h51)) fun cargs rv outs hF => by
 unfold M12 at hF
 split at hF <;> first | (cases hF; done) | skip
 rename_i sc us hu ho po hp ha pa qu hq fr hf
 refine ⟨1, ?_⟩
 have e := vm12 sc us ho po pa qu fr hu hp ha hq hf
 cases hn : n7 sc us ho po pa qu fr with
 | false => rw [hn] at hF; cases hF
 | true =>
   unfold mayU at hF
   unfold eqU at hF
   rw [hn] at hF e
   refine e.trans ?_
   clear e
   simp only [bif_tt, Bool.true_and] at hF ⊢
   revert hF
   generalize decide (2048 < (joinU sc us ho po pa qu fr hu hp ha hq hf).size) = a
   generalize uOk (joinU sc us ho po pa qu fr hu hp ha hq hf) = b
   generalize (w0 (joinU sc us ho po pa qu fr hu hp ha hq hf) == sc && _) = c
   intro hF
   cases a <;> cases b <;> cases c <;> first | (cases hF; done) | (cases hF; rfl))
theorem gm11 (hg : OnGlobals I ng) (h : Kw I ng A23) (h47 : Cw I ng 98 L47) (h51 : Cw I ng 67 L51) : Kw I ng T11 := known_add (gm12 hg h h47 h51) (contract_of (fun _ => none) hg (hok_of (gm12 hg h h47 h51)) fun cargs rv outs hF => by
 unfold M11 at hF
 split at hF <;> first | (cases hF; done) | skip
 rename_i sc us hu ho po hp ha pa qu hq fr hf
 refine ⟨1, ?_⟩
 have e := vm11 sc us ho po pa qu fr hu hp ha hq hf
 cases hn : n7 sc us ho po pa qu fr with
 | false => rw [hn] at hF; cases hF
 | true =>
   unfold mayU at hF
   unfold eqU at hF
   rw [hn] at hF e
   refine e.trans ?_
   clear e
   by_cases hz : 2048 < (joinU sc us ho po pa qu fr hu hp ha hq hf).size
   · rw [decide_eq_true hz] at hF ⊢
     cases hF
     rfl
   · have hz2 : (joinU sc us ho po pa qu fr hu hp ha hq hf).size ≤ 2500 := by omega
     rw [decide_eq_false hz] at hF ⊢
     rw [decide_eq_true hz2]
     revert hF
     generalize uOk (joinU sc us ho po pa qu fr hu hp ha hq hf) = b
     generalize (w0 (joinU sc us ho po pa qu fr hu hp ha hq hf) == sc && _) = c
     intro hF
     cases b <;> cases c <;> (cases hF; rfl))
end Go.Pv
namespace Go.Pv
open Go
variable {P : Program} {I : World → Prop}
theorem contract_new {f : FuncId} {F : Fn1} {ng : Nat} (hg : OnGlobals I ng)
   (h : ∀ cargs rv outs, picked (F cargs) = some (rv, outs) → outs = [] ∧ noBox cargs = true ∧ ∀ (S : St) (vals : Array Value), Ok S → I S.w → All2 (Vc S) cargs vals.toList →
     Calls P f vals S.w fun e w' => ∃ v, e = .returned v ∧ RowKit.Below S.w.heap.size S.w w' ∧
       ∀ S' : St, S'.w = w' → (∀ r, S'.ι r = none) → (∀ b off, S'.F b off → b < S.w.heap.size) → AllR S' rv v []) : Contract P I ng f F := by
 intro cargs rv outs hF S vals hH ok hng hI hv
 obtain ⟨rfl, hb, h⟩ := h cargs rv outs hF
 rw [openArgs_data hb] at hH hv
 refine (h S vals ok hI (c_list hv)).mono ?_
 rintro e w' ⟨v, rfl, B, hd⟩
 have hι : ∀ r, S.ι r = none := fun r => ok.out r (by rw [hH]; exact Nat.zero_le _)
 let S' : St := { S with w := w' }
 have K : Keeps S S' := ⟨B.os, B.tape, B.output, B.size, fun b hb _ => B.block b hb, fun r b hr => .inl ⟨r, hr⟩, rfl, rfl, rfl⟩
 have ok' : Ok S' := by
   refine ⟨fun r o hr => ?_, fun r _ => hι r, fun r r' b h1 _ => ?_, fun r b h1 => ?_, fun r b off h1 => ?_, ok.forb, Nat.le_trans ok.n0 B.size, fun r b h1 => ?_, ok.ng⟩
   · have hr' : S.H[r]? = some o := hr
     rw [hH] at hr'; simp at hr'
   all_goals
     have h1' : S.ι r = some b := h1
     rw [hι] at h1'; cases h1'
 refine ⟨v, S', [], rfl, rfl, ok', K, ?_, ?_, List.nodup_nil, ⟨by rw [hH]; rfl, fun i e k x hi => ?_⟩⟩
 · have := K.inv (I := I) ok (by rw [hng]; exact hg) hI
   exact this
 · exact hd S' rfl hι fun b off hf => Nat.lt_of_lt_of_le (ok.forb b off hf) ok.n0
 · rw [hH] at hi; simp at hi
end Go.Pv
namespace Go.Pv
set_option maxRecDepth 100000
open Go Go.Proofs
theorem split_eq (c : UInt8) : ∀ s : List UInt8, Lib.splitK [c] 0 (Lib.count s [c]) s = splitL c s
 | [] => by
   rw [Lib.count_miss (by simp [Lib.index])]
   rfl
 | b :: l => by
   have ih := split_eq c l
   by_cases h : b = c
   · subst h
     rw [Lib.count_cons_eq, Nat.add_comm]
     have hix : Lib.index (b :: l) [b] = 0 := by rw [Lib.index]; simp [List.isPrefixOf]
     have e1 : Lib.splitK [b] 0 (Lib.count l [b] + 1) (b :: l) = [] :: Lib.splitK [b] 0 (Lib.count l [b]) l := by
       rw [Lib.splitK, hix]
       rfl
     have e2 : splitL b (b :: l) = [] :: splitL b l := by rw [splitL, if_pos rfl]
     rw [e1, e2, ih]
   · rw [Lib.count_cons_ne b c l h]
     have hp : ([c] : List UInt8).isPrefixOf (b :: l) = false := by simp [List.isPrefixOf, Ne.symm h]
     have hix : Lib.index (b :: l) [c] = if Lib.index l [c] == -1 then -1 else Lib.index l [c] + 1 := by rw [Lib.index, hp]; simp
     by_cases hm : Lib.index l [c] = -1
     · rw [Lib.count_miss hm] at ih ⊢
       rw [splitL, if_neg h, ← ih]
       rfl
     · have hge := Lib.index_ge l [c]
       obtain ⟨j, hj⟩ : ∃ j : Nat, Lib.index l [c] = j := ⟨(Lib.index l [c]).toNat, by omega⟩
       have hix' : Lib.index (b :: l) [c] = ((j + 1 : Nat) : Int) := by rw [hix, if_neg (fun e => hm (beq_iff_eq.1 e)), hj]; omega
       have hk : Lib.count l [c] = Lib.count (l.drop (j + 1)) [c] + 1 := by
         rw [Lib.count_hit (by simp) hj]
         simp [Nat.add_comm]
       rw [hk] at ih ⊢
       have n1 : ¬ (Lib.index l [c] == -1) = true := fun e => hm (beq_iff_eq.1 e)
       have n2 : ¬ (Lib.index (b :: l) [c] == -1) = true := fun e => by
         have := beq_iff_eq.1 e
         rw [hix'] at this; omega
       rw [Lib.splitK, if_neg n1, hj] at ih
       rw [Lib.splitK, if_neg n2, hix', splitL, if_neg h, ← ih]
       simp only [Int.toNat_natCast, Nat.add_zero, List.take_succ_cons, List.length_singleton, List.drop_succ_cons]
theorem cut_eq2 : ∀ s : List UInt8, Lib.cut s [58, 58] = match cutDD s with
   | some (h, t) => (h, t, true)
   | none => (s, [], false)
 | [] => rfl
 | a :: t => by
   have ih := cut_eq2 t
   unfold cutDD
   by_cases h : a = 58 ∧ t.head? = some 58
   · rw [if_pos h]
     obtain ⟨rfl, h2⟩ := h
     cases t with
     | nil => cases h2
     | cons b t =>
       cases h2
       have hix : Lib.index (58 :: 58 :: t) [58, 58] = 0 := by rw [Lib.index]; simp [List.isPrefixOf]
       unfold Lib.cut
       rw [hix]
       rfl
   · rw [if_neg h]
     have hp : ([58, 58] : List UInt8).isPrefixOf (a :: t) = false := by
       cases t with
       | nil => simp [List.isPrefixOf]
       | cons b t =>
         simp only [List.isPrefixOf, Bool.and_true]
         refine Bool.eq_false_iff.2 fun hh => h ?_
         simp only [Bool.and_eq_true, beq_iff_eq] at hh
         exact ⟨hh.1.symm, by rw [List.head?_cons, hh.2]⟩
     have hix : Lib.index (a :: t) [58, 58] = if Lib.index t [58, 58] == -1 then -1 else Lib.index t [58, 58] + 1 := by rw [Lib.index, hp]; simp
     have hge := Lib.index_ge t [58, 58]
     unfold Lib.cut at ih ⊢
     by_cases hm : Lib.index t [58, 58] = -1
     · rw [hix, if_pos (beq_iff_eq.2 hm)]
       rw [hm] at ih
       cases hc : cutDD t with
       | none => rfl
       | some x =>
         rw [hc] at ih
         have := congrArg (fun x => x.2.2) ih
         cases this
     · rw [hix, if_neg (fun e => hm (beq_iff_eq.1 e))]
       rw [if_pos (by omega)] at ih
       rw [if_pos (by omega)]
       cases hc : cutDD t with
       | none =>
         rw [hc] at ih
         have := congrArg (fun x => x.2.2) ih
         cases this
       | some x =>
         rw [hc] at ih
         have e : (Lib.index t [58, 58] + 1).toNat = (Lib.index t [58, 58]).toNat + 1 := by omega
         rw [e]
         have e1 := congrArg (fun x => x.1) ih
         have e2 := congrArg (fun x => x.2.1) ih
         show _ = (a :: x.1, x.2, true)
         simp only at e1 e2
         rw [← e1, ← e2]
         rw [List.take_succ_cons]
         congr 2
end Go.Pv
namespace Go.Proofs
open Go.Shelf
def Tryz.lays156_ren : Go.Shelf.Ren := ⟨fun | 156 => 39 | 165 => 66 | 166 => 50 | 169 => 51 | 240 => 76 | 241 => 89 | 276 => 100 | 277 => 110 | n => n, fun | 31 => 54 | 9 => 9 | 3 => 3 | 4 => 4 | 0 => 0 | 20 => 20 | 72 => 63 | 76 => 51 | 70 => 61 | 37 => 60 | 75 => 50 | 127 => 92 | 164 => 113 | 5 => 5 | 80 => 64 | n => n, fun | n => n⟩
theorem Tryz.lays156 : Go.Proofs.Lays.n156 Tryz.prog Tryz.lays156_ren := {
 mixed := by kernel_rfl
 f156 := Tryz.func39.trans (congrArg some (by kernel_rfl))
 f165 := Tryz.func66.trans (congrArg some (by kernel_rfl))
 f166 := Tryz.func50.trans (congrArg some (by kernel_rfl))
 f169 := Tryz.func51.trans (congrArg some (by kernel_rfl))
 f240 := Tryz.func76.trans (congrArg some (by kernel_rfl))
 f241 := Tryz.func89.trans (congrArg some (by kernel_rfl))
 f276 := Tryz.func100.trans (congrArg some (by kernel_rfl))
 f277 := Tryz.func110.trans (congrArg some (by kernel_rfl))
 t0 := Tryz.underlying0
 a0 := Tryz.isAgg0
 z0 := Tryz.sizeOf0
 v0 := Tryz.zeroValue0
 t3 := Tryz.underlying3
 a3 := Tryz.isAgg3
 z3 := Tryz.sizeOf3
 v3 := Tryz.zeroValue3
 t4 := Tryz.underlying4
 a4 := Tryz.isAgg4
 z4 := Tryz.sizeOf4
 v4 := Tryz.zeroValue4
 t9 := Tryz.underlying9
 a9 := Tryz.isAgg9
 z9 := Tryz.sizeOf9
 v9 := Tryz.zeroValue9
 t20 := Tryz.underlying20
 a20 := Tryz.isAgg20
 z20 := Tryz.sizeOf20
 v20 := Tryz.zeroValue20
 t31 := Tryz.underlying54
 a31 := Tryz.isAgg54
 z31 := Tryz.sizeOf54
 v31 := Tryz.zeroValue54
 t37 := Tryz.underlying60
 a37 := Tryz.isAgg60
 z37 := Tryz.sizeOf60
 v37 := Tryz.zeroValue60
 t70 := Tryz.underlying61
 a70 := Tryz.isAgg61
 z70 := Tryz.sizeOf61
 v70 := Tryz.zeroValue61
 t72 := Tryz.underlying63
 a72 := Tryz.isAgg63
 z72 := Tryz.sizeOf63
 v72 := Tryz.zeroValue63
 t75 := Tryz.underlying50
 a75 := Tryz.isAgg50
 z75 := Tryz.sizeOf50
 v75 := Tryz.zeroValue50
 t76 := Tryz.underlying51
 a76 := Tryz.isAgg51
 z76 := Tryz.sizeOf51
 v76 := Tryz.zeroValue51
 t127 := Tryz.underlying92
 a127 := Tryz.isAgg92
 z127 := Tryz.sizeOf92
 v127 := Tryz.zeroValue92
 t164 := Tryz.underlying113
 a164 := Tryz.isAgg113
 z164 := Tryz.sizeOf113
 v164 := Tryz.zeroValue113 }
theorem Tryz.Builder_Extra_156 : Builder.Extra Tryz.prog Tryz.lays156_ren := {
 sizeBuilder := by kernel_rfl
 liesBuilder := by kernel_rfl
 t5 := Tryz.underlying5
 a5 := Tryz.isAgg5
 z5 := Tryz.sizeOf5
 v5 := Tryz.zeroValue5
 infoByte := by kernel_rfl
 cellsByte := by kernel_rfl
 sizeByte := by kernel_rfl
 neB5 := by decide }
open Go.RowKit in
theorem Tryz.strings_Join_none (a : Option Addr) (c : Nat) (sep : ByteArray) (w : World) :
   Calls Tryz.prog 39 #[.slice a 0 c, .string sep] w fun e w' => e = .returned (.string ⟨#[]⟩) ∧ w' = w := Any.strings_Join_none Tryz.lays156 Tryz.Builder_Extra_156 a c sep w
open Go.RowKit in
theorem Tryz.strings_Join (bk o c : Nat) (xs : List ByteArray) (sep : ByteArray) (w : World) (hcells : ∀ (j : Nat) x, xs[j]? = some x → w.cell? ⟨bk, o + j, none⟩ = some (.string x)) (hbk : bk < w.heap.size) (hN : xs.length ≤ 140737488355328) (hcap : xs.length ≤ c) (hlen : (Lib.join (xs.map (·.data.toList)) sep.data.toList).length ≤ 140737488355328) :
   Calls Tryz.prog 39 #[.slice (some ⟨bk, o, none⟩) xs.length c, .string sep] w fun e w' => e = .returned (.string ⟨(Lib.join (xs.map (·.data.toList)) sep.data.toList).toArray⟩) ∧ Below w.heap.size w w' := Any.strings_Join Tryz.lays156 Tryz.Builder_Extra_156 bk o c xs sep w hcells hbk hN hcap hlen
open Go.RowKit Go.Lib in
def Tryz.lays145_ren : Go.Shelf.Ren := ⟨fun | 145 => 73 | 220 => 99 | 219 => 118 | 217 => 65 | 225 => 126 | 224 => 125 | 267 => 136 | 266 => 88 | 314 => 140 | n => n, fun | 9 => 9 | 4 => 4 | 59 => 89 | 3 => 3 | 5 => 5 | 46 => 94 | 146 => 158 | 51 => 138 | n => n, fun | 1 => 0 | n => n⟩
theorem Tryz.lays145 : Go.Proofs.Lays.n145 Tryz.prog Tryz.lays145_ren := {
 mixed := by kernel_rfl
 f145 := Tryz.func73.trans (congrArg some (by kernel_rfl))
 f217 := Tryz.func65.trans (congrArg some (by kernel_rfl))
 f219 := Tryz.func118.trans (congrArg some (by kernel_rfl))
 f220 := Tryz.func99.trans (congrArg some (by kernel_rfl))
 f224 := Tryz.func125.trans (congrArg some (by kernel_rfl))
 f225 := Tryz.func126.trans (congrArg some (by kernel_rfl))
 f266 := Tryz.func88.trans (congrArg some (by kernel_rfl))
 f267 := Tryz.func136.trans (congrArg some (by kernel_rfl))
 f314 := Tryz.func140.trans (congrArg some (by kernel_rfl))
 t3 := Tryz.underlying3
 a3 := Tryz.isAgg3
 z3 := Tryz.sizeOf3
 v3 := Tryz.zeroValue3
 t4 := Tryz.underlying4
 a4 := Tryz.isAgg4
 z4 := Tryz.sizeOf4
 v4 := Tryz.zeroValue4
 t5 := Tryz.underlying5
 a5 := Tryz.isAgg5
 z5 := Tryz.sizeOf5
 v5 := Tryz.zeroValue5
 t9 := Tryz.underlying9
 a9 := Tryz.isAgg9
 z9 := Tryz.sizeOf9
 v9 := Tryz.zeroValue9
 t46 := Tryz.underlying94
 a46 := Tryz.isAgg94
 z46 := Tryz.sizeOf94
 v46 := Tryz.zeroValue94
 t51 := Tryz.underlying138
 a51 := Tryz.isAgg138
 z51 := Tryz.sizeOf138
 v51 := Tryz.zeroValue138
 t59 := Tryz.underlying89
 a59 := Tryz.isAgg89
 z59 := Tryz.sizeOf89
 v59 := Tryz.zeroValue89
 t146 := Tryz.underlying158
 a146 := Tryz.isAgg158
 z146 := Tryz.sizeOf158
 v146 := Tryz.zeroValue158
 g1 := by kernel_rfl }
open Go.RowKit Go.Lib in
theorem Tryz.strings_Cut (s sep : ByteArray) (m : Int) (w : World) (hs : s.size < 4294967281) (hm : w.cell? ⟨0, 0, none⟩ = some (.int .i64 m)) :
   Calls Tryz.prog 73 #[.string s, .string sep] w fun e w' => e = .returned (.tuple #[.string ⟨(Lib.cut s.data.toList sep.data.toList).1.toArray⟩, .string ⟨(Lib.cut s.data.toList sep.data.toList).2.1.toArray⟩, .bool (Lib.cut s.data.toList sep.data.toList).2.2]) ∧ ∃ n, w' = w.drewN n := Any.strings_Cut Tryz.lays145 s sep m w hs hm
open Go.RowKit Go.Lib in
open Go.RowKit Go.Lib in
def Tryz.lays146_ren : Go.Shelf.Ren := ⟨fun | 146 => 132 | 221 => 139 | 268 => 141 | 138 => 142 | 143 => 135 | 195 => 143 | 197 => 80 | 218 => 144 | 219 => 118 | 260 => 105 | 217 => 65 | 225 => 126 | 224 => 125 | 267 => 136 | 266 => 88 | 314 => 140 | n => n, fun | 9 => 9 | 31 => 54 | 3 => 3 | 4 => 4 | 0 => 0 | 105 => 96 | 21 => 21 | 5 => 5 | 46 => 94 | 119 => 142 | 139 => 145 | 138 => 144 | 146 => 158 | 51 => 138 | n => n, fun | 1 => 0 | 3 => 4 | 4 => 5 | n => n⟩
theorem Tryz.lays146 : Go.Proofs.Lays.n146 Tryz.prog Tryz.lays146_ren := {
 mixed := by kernel_rfl
 f138 := Tryz.func142.trans (congrArg some (by kernel_rfl))
 f143 := Tryz.func135.trans (congrArg some (by kernel_rfl))
 f146 := Tryz.func132.trans (congrArg some (by kernel_rfl))
 f195 := Tryz.func143.trans (congrArg some (by kernel_rfl))
 f197 := Tryz.func80.trans (congrArg some (by kernel_rfl))
 f217 := Tryz.func65.trans (congrArg some (by kernel_rfl))
 f218 := Tryz.func144.trans (congrArg some (by kernel_rfl))
 f219 := Tryz.func118.trans (congrArg some (by kernel_rfl))
 f221 := Tryz.func139.trans (congrArg some (by kernel_rfl))
 f224 := Tryz.func125.trans (congrArg some (by kernel_rfl))
 f225 := Tryz.func126.trans (congrArg some (by kernel_rfl))
 f260 := Tryz.func105.trans (congrArg some (by kernel_rfl))
 f266 := Tryz.func88.trans (congrArg some (by kernel_rfl))
 f267 := Tryz.func136.trans (congrArg some (by kernel_rfl))
 f268 := Tryz.func141.trans (congrArg some (by kernel_rfl))
 f314 := Tryz.func140.trans (congrArg some (by kernel_rfl))
 t0 := Tryz.underlying0
 a0 := Tryz.isAgg0
 z0 := Tryz.sizeOf0
 v0 := Tryz.zeroValue0
 t3 := Tryz.underlying3
 a3 := Tryz.isAgg3
 z3 := Tryz.sizeOf3
 v3 := Tryz.zeroValue3
 t4 := Tryz.underlying4
 a4 := Tryz.isAgg4
 z4 := Tryz.sizeOf4
 v4 := Tryz.zeroValue4
 t5 := Tryz.underlying5
 a5 := Tryz.isAgg5
 z5 := Tryz.sizeOf5
 v5 := Tryz.zeroValue5
 t9 := Tryz.underlying9
 a9 := Tryz.isAgg9
 z9 := Tryz.sizeOf9
 v9 := Tryz.zeroValue9
 t21 := Tryz.underlying21
 a21 := Tryz.isAgg21
 z21 := Tryz.sizeOf21
 v21 := Tryz.zeroValue21
 t31 := Tryz.underlying54
 a31 := Tryz.isAgg54
 z31 := Tryz.sizeOf54
 v31 := Tryz.zeroValue54
 t46 := Tryz.underlying94
 a46 := Tryz.isAgg94
 z46 := Tryz.sizeOf94
 v46 := Tryz.zeroValue94
 t51 := Tryz.underlying138
 a51 := Tryz.isAgg138
 z51 := Tryz.sizeOf138
 v51 := Tryz.zeroValue138
 t105 := Tryz.underlying96
 a105 := Tryz.isAgg96
 z105 := Tryz.sizeOf96
 v105 := Tryz.zeroValue96
 t119 := Tryz.underlying142
 a119 := Tryz.isAgg142
 z119 := Tryz.sizeOf142
 t138 := Tryz.underlying144
 a138 := Tryz.isAgg144
 z138 := Tryz.sizeOf144
 v138 := Tryz.zeroValue144
 t139 := Tryz.underlying145
 a139 := Tryz.isAgg145
 z139 := Tryz.sizeOf145
 v139 := Tryz.zeroValue145
 t146 := Tryz.underlying158
 a146 := Tryz.isAgg158
 z146 := Tryz.sizeOf158
 v146 := Tryz.zeroValue158
 g1 := by kernel_rfl
 g3 := by kernel_rfl
 g4 := by kernel_rfl }
open Go.RowKit Go.Lib in
theorem Tryz.strings_Split (s sep : ByteArray) (m : Int) (w : World) (hs : s.size < 4294967281) (hm : w.cell? ⟨0, 0, none⟩ = some (.int .i64 m)) (h1 : 1 ≤ sep.size) :
   Calls Tryz.prog 132 #[.string s, .string sep] w fun e w' =>
     e = .returned (.slice (some ⟨w.heap.size, 0, none⟩) (Lib.countB s sep + 1) (Lib.countB s sep + 1)) ∧ w' = w.alloc (.cells ((Lib.splitB sep 0 (Lib.countB s sep) s).map Value.string).toArray 9) := Any.strings_Split Tryz.lays146 (by kernel_rfl) s sep m w hs hm h1
def Tryz.lays271_ren : Go.Shelf.Ren := ⟨fun | 271 => 112 | 120 => 130 | 197 => 80 | 260 => 105 | n => n, fun | 9 => 9 | 21 => 21 | 3 => 3 | 4 => 4 | 5 => 5 | 105 => 96 | 119 => 142 | 0 => 0 | 46 => 94 | 139 => 145 | 138 => 144 | n => n, fun | 3 => 4 | 4 => 5 | n => n⟩
theorem Tryz.lays271 : Go.Proofs.Lays.n271 Tryz.prog Tryz.lays271_ren := {
 mixed := by kernel_rfl
 f120 := Tryz.func130.trans (congrArg some (by kernel_rfl))
 f197 := Tryz.func80.trans (congrArg some (by kernel_rfl))
 f260 := Tryz.func105.trans (congrArg some (by kernel_rfl))
 f271 := Tryz.func112.trans (congrArg some (by kernel_rfl))
 t0 := Tryz.underlying0
 a0 := Tryz.isAgg0
 z0 := Tryz.sizeOf0
 v0 := Tryz.zeroValue0
 t3 := Tryz.underlying3
 a3 := Tryz.isAgg3
 z3 := Tryz.sizeOf3
 v3 := Tryz.zeroValue3
 t4 := Tryz.underlying4
 a4 := Tryz.isAgg4
 z4 := Tryz.sizeOf4
 v4 := Tryz.zeroValue4
 t5 := Tryz.underlying5
 a5 := Tryz.isAgg5
 z5 := Tryz.sizeOf5
 v5 := Tryz.zeroValue5
 t9 := Tryz.underlying9
 a9 := Tryz.isAgg9
 z9 := Tryz.sizeOf9
 v9 := Tryz.zeroValue9
 t21 := Tryz.underlying21
 a21 := Tryz.isAgg21
 z21 := Tryz.sizeOf21
 v21 := Tryz.zeroValue21
 t46 := Tryz.underlying94
 a46 := Tryz.isAgg94
 z46 := Tryz.sizeOf94
 v46 := Tryz.zeroValue94
 t105 := Tryz.underlying96
 a105 := Tryz.isAgg96
 z105 := Tryz.sizeOf96
 v105 := Tryz.zeroValue96
 t119 := Tryz.underlying142
 a119 := Tryz.isAgg142
 z119 := Tryz.sizeOf142
 t138 := Tryz.underlying144
 a138 := Tryz.isAgg144
 z138 := Tryz.sizeOf144
 v138 := Tryz.zeroValue144
 t139 := Tryz.underlying145
 a139 := Tryz.isAgg145
 z139 := Tryz.sizeOf145
 v139 := Tryz.zeroValue145
 g3 := by kernel_rfl
 g4 := by kernel_rfl }
open Go.RowKit Go.Lib in
theorem Tryz.utf8_DecodeLastRuneInString (s : ByteArray) (w : World) (hs : s.size ≤ 9223372036854775807) (hT : Lib.Utf8Tabs 4 5 w) :
   Calls Tryz.prog 112 #[.string s] w fun e w' => e = .returned (.tuple #[.int .i32 (Lib.decodeLastL s.data.toList).1, .int .i64 (Lib.decodeLastL s.data.toList).2]) ∧ Below w.heap.size w w' := Any.utf8_DecodeLastRuneInString Tryz.lays271 s w hs hT
end Go.Proofs
namespace Go.Pv
set_option maxRecDepth 100000
open Go Go.Proofs
def gI (w : World) : Prop := (∃ m, w.cell? ⟨0, 0, none⟩ = some (.int .i64 m)) ∧ Lib.Utf8Tabs 4 5 w
theorem cell_heap {w w' : World} {b : Nat} (h : w'.heap[b]? = w.heap[b]?) (off : Nat) : w'.cell? ⟨b, off, none⟩ = w.cell? ⟨b, off, none⟩ := by
 unfold World.cell?
 rw [h]
theorem og : OnGlobals gI 8 := fun w w' h hI => by
 obtain ⟨⟨m, hm⟩, h1, h2⟩ := hI
 refine ⟨⟨m, ?_⟩, fun c hc => ?_, fun i hi => ?_⟩
 · rw [cell_heap (h 0 (by decide))]; exact hm
 · rw [cell_heap (h 4 (by decide))]; exact h1 c hc
 · rw [cell_heap (h 5 (by decide)), cell_heap (h 5 (by decide))]; exact h2 i hi
theorem str2 {S : St} {a b : ByteArray} {vals : Array Value} (h : All2 (Vc S) [.str a, .str b] vals.toList) : vals = #[.string a, .string b] := by
 obtain ⟨l⟩ := vals
 cases h with
 | cons h1 h2 =>
   cases h1
   cases h2 with
   | cons h3 h4 => cases h3; cases h4; rfl
theorem str1 {S : St} {a : ByteArray} {vals : Array Value} (h : All2 (Vc S) [.str a] vals.toList) : vals = #[.string a] := by
 obtain ⟨l⟩ := vals
 cases h with
 | cons h1 h2 => cases h1; cases h2; rfl
theorem fl1 (L : List ByteArray) : elemCells (L.map CV.str) = L.map CV.str := by
 induction L with
 | nil => rfl
 | cons a L ih =>
   show _ :: elemCells (L.map CV.str) = _
   rw [ih]
   rfl
theorem all_str (S : St) : ∀ L : List ByteArray, All2 (Vc S) (L.map CV.str) (L.map Value.string)
 | [] => .nil
 | a :: L => .cons (.str a) (all_str S L)
theorem h70 : Cw gI 8 132 L70 := contract_new og fun cargs rv outs h => by
 unfold L70 at h
 split at h <;> first | (cases h; done) | skip
 rename_i s c
 by_cases hs : s.size ≤ 10000
 · simp only [picked, pickAlt, decide_eq_true hs] at h
   cases h
   refine ⟨rfl, rfl, fun S vals ok hI hv => ?_⟩
   have hv' := str2 hv
   subst hv'
   obtain ⟨⟨m, hm⟩, hT⟩ := hI
   refine (Tryz.strings_Split s ⟨#[c]⟩ m S.w (by omega) hm (Nat.le_refl _)).mono ?_
   rintro e w' ⟨rfl, rfl⟩
   refine ⟨_, rfl, ?_, fun S' hw hι hF => ?_⟩
   · exact RowKit.Below.alloc (RowKit.Below.refl _ _) (Nat.le_refl _) _
   · have hl : (Lib.splitB ⟨#[c]⟩ 0 (Lib.countB s ⟨#[c]⟩) s).length = Lib.countB s ⟨#[c]⟩ + 1 := Lib.splitB_all _ (Nat.le_refl _) 0 _ _ rfl
     have hx : spS s c = (Lib.splitB ⟨#[c]⟩ 0 (Lib.countB s ⟨#[c]⟩) s).map CV.str := by
       unfold spS
       rw [← split_eq]
       have := Lib.splitB_data ⟨#[c]⟩ 0 (Lib.countB s ⟨#[c]⟩) s
       have e : Lib.splitK [c] 0 (Lib.count s.data.toList [c]) s.data.toList = (Lib.splitB ⟨#[c]⟩ 0 (Lib.countB s ⟨#[c]⟩) s).map (·.data.toList) := this.symm
       rw [e, List.map_map]
       refine List.map_congr_left fun b _ => ?_
       show CV.str (mkS b.data.toList) = CV.str b
       rw [mkS_bl]
     rw [hx]
     generalize Lib.splitB ⟨#[c]⟩ 0 (Lib.countB s ⟨#[c]⟩) s = L at hl hw ⊢
     rw [← hl]
     have hlen : L.length = (L.map CV.str).length := (List.length_map ..).symm
     refine .res (.val (.cell (.data ?_)))
     have key := Vc.sl (S := S') false 1 (L.map CV.str) ⟨S.w.heap.size, 0, none⟩ L.length (L.map Value.string) (fun e he => ?_) ?_ ?_ (by rw [List.length_map]; exact Nat.le_refl _) (fun h => by cases h)
     · rw [List.length_map] at key
       exact key
     · obtain ⟨b, _, rfl⟩ := List.mem_map.1 he
       rfl
     · rw [fl1]; exact all_str S' L
     · intro j v hj
       have hv1 : v.oneCell' = true := by
         rw [List.getElem?_map] at hj
         cases hL : L[j]? with
         | none => rw [hL] at hj; cases hj
         | some b => rw [hL] at hj; cases hj; rfl
       refine ⟨rfl, ⟨fun hf => Nat.lt_irrefl _ (hF _ _ hf), fun r hr => ?_⟩, ?_, hv1⟩
       · rw [hι r] at hr; cases hr
       · rw [hw]
         unfold World.cell? World.alloc
         simp
         simpa using hj
 · simp only [picked, pickAlt, decide_eq_false hs] at h; cases h
theorem h28 : Cw gI 8 73 L28d := contract_new og fun cargs rv outs h => by
 unfold L28d at h
 split at h <;> first | (cases h; done) | skip
 rename_i s
 by_cases hs : s.size ≤ 10000
 · simp only [picked, pickAlt, decide_eq_true hs] at h
   cases h
   refine ⟨rfl, rfl, fun S vals ok hI hv => ?_⟩
   have hv' := str2 hv
   subst hv'
   obtain ⟨⟨m, hm⟩, hT⟩ := hI
   refine (Tryz.strings_Cut s ⟨#[58, 58]⟩ m S.w (by omega) hm).mono ?_
   rintro e w' ⟨rfl, n, rfl⟩
   refine ⟨_, rfl, ⟨rfl, rfl, rfl, Nat.le_refl _, fun _ _ => rfl⟩, fun S' hw hι hF => ?_⟩
   have hc : Lib.cut s.data.toList [58, 58] = ((ddH s).data.toList, (ddT s).data.toList, ddG s) := by
     rw [cut_eq2]
     unfold ddH ddT ddG
     cases cutDD s.data.toList with
     | none => rfl
     | some x => rfl
   show AllR S' _ (.tuple #[.string ⟨(Lib.cut s.data.toList [58, 58]).1.toArray⟩, .string ⟨(Lib.cut s.data.toList [58, 58]).2.1.toArray⟩, .bool (Lib.cut s.data.toList [58, 58]).2.2]) []
   rw [hc]
   have e : ∀ x : ByteArray, (⟨x.data.toList.toArray⟩ : ByteArray) = x := fun x => by cases x; simp
   simp only [e]
   exact .tup (tup_data (.cons (.str _) (.cons (.str _) (.cons (.bool _) .nil))))
 · simp only [picked, pickAlt, decide_eq_false hs] at h; cases h
theorem h52 : Cw gI 8 112 L52 := contract_new og fun cargs rv outs h => by
 unfold L52 at h
 split at h <;> first | (cases h; done) | skip
 rename_i s
 by_cases hs : s.size ≤ 10000
 · simp only [picked, pickAlt, decide_eq_true hs] at h
   cases h
   refine ⟨rfl, rfl, fun S vals ok hI hv => ?_⟩
   have hv' := str1 hv
   subst hv'
   refine (Tryz.utf8_DecodeLastRuneInString s S.w (by omega) hI.2).mono ?_
   rintro e w' ⟨rfl, B⟩
   exact ⟨_, rfl, B, fun S' hw hι hF => .tup (tup_data (.cons (.int _ _) (.cons (.int _ _) .nil)))⟩
 · simp only [picked, pickAlt, decide_eq_false hs] at h; cases h
end Go.Pv
namespace Go.Pv
open Go Go.Proofs
def lowB (b : UInt8) : UInt8 := if 65 ≤ b.toNat ∧ b.toNat ≤ 90 then b + 32 else b
def lowL (l : List UInt8) : List UInt8 := l.map lowB
def keepB (b : UInt8) : Bool := (decide (97 ≤ b.toNat) && decide (b.toNat ≤ 122)) || ((decide (65 ≤ b.toNat) && decide (b.toNat ≤ 90)) || ((decide (48 ≤ b.toNat) && decide (b.toNat ≤ 57)) || ([45, 46, 95, 126] : List UInt8).contains b))
def hexU (n : Nat) : UInt8 := if n < 10 then UInt8.ofNat (48 + n) else UInt8.ofNat (55 + n)
def escB (b : UInt8) : List UInt8 := if keepB b = true then [b] else [37, hexU (b.toNat / 16), hexU (b.toNat % 16)]
def unB (a b : UInt8) : UInt8 := UInt8.ofNat (16 * hexv a + hexv b)
def tidG (f : UInt8 → List UInt8) (g : UInt8 → UInt8 → List UInt8) : List UInt8 → List UInt8
 | [] => []
 | c :: t => if c = 37 then (match t with
   | a :: b :: r => g a b ++ tidG f g r
   | _ => []) else f c ++ tidG f g t
def idB (c : UInt8) : List UInt8 := [c]
def loB (c : UInt8) : List UInt8 := [lowB c]
def sgn (a b : UInt8) : List UInt8 := [37, a, b]
def esc2 (a b : UInt8) : List UInt8 := escB (unB a b)
def esc3 (a b : UInt8) : List UInt8 := if 1 < (esc2 a b).length then esc2 a b else lowL (esc2 a b)
def tidL (l : List UInt8) : List UInt8 := tidG idB esc2 l
def lowH (l : List UInt8) : List UInt8 := tidG loB sgn l
def tidH (l : List UInt8) : List UInt8 := tidG loB esc3 l
inductive Sg (q : UInt8 → Prop) (p : UInt8 → UInt8 → Prop) : List UInt8 → Prop
 | nil : Sg q p []
 | ch (c : UInt8) (t : List UInt8) (h : q c) (hc : c ≠ 37) (ht : Sg q p t) : Sg q p (c :: t)
 | esc (a b : UInt8) (t : List UInt8) (h : p a b) (ht : Sg q p t) : Sg q p (37 :: a :: b :: t)
theorem tidG_nil (f g) : tidG f g [] = [] := rfl
theorem tidG_ch (f g) {c : UInt8} {t : List UInt8} (h : c ≠ 37) : tidG f g (c :: t) = f c ++ tidG f g t := by
 rw [tidG.eq_def]
 simp only [if_neg h]
theorem tidG_esc (f g) {a b : UInt8} {t : List UInt8} : tidG f g (37 :: a :: b :: t) = g a b ++ tidG f g t := by
 rw [tidG.eq_def]
 simp only [if_true]
namespace Sg
variable {q q' : UInt8 → Prop} {p p' : UInt8 → UInt8 → Prop}
theorem app {x y : List UInt8} (hx : Sg q p x) (hy : Sg q p y) : Sg q p (x ++ y) := by
 induction hx with
 | nil => exact hy
 | ch c t h hc _ ih => exact .ch c _ h hc ih
 | esc a b t h _ ih => exact .esc a b _ h ih
theorem mono {x : List UInt8} (hx : Sg q p x) (h1 : ∀ c, q c → q' c) (h2 : ∀ a b, p a b → p' a b) : Sg q' p' x := by
 induction hx with
 | nil => exact .nil
 | ch c t h hc _ ih => exact .ch c _ (h1 c h) hc ih
 | esc a b t h _ ih => exact .esc a b _ (h2 a b h) ih
theorem tl {c : UInt8} {t : List UInt8} (h : Sg q p (c :: t)) (hc : c ≠ 37) : Sg q p t := by
 cases h with
 | ch _ _ _ _ ht => exact ht
 | esc _ _ _ _ _ => exact absurd rfl hc
theorem hd {c : UInt8} {t : List UInt8} (h : Sg q p (c :: t)) (hc : c ≠ 37) : q c := by
 cases h with
 | ch _ _ h _ ht => exact h
 | esc _ _ _ _ _ => exact absurd rfl hc
theorem cut (k : UInt8) (hk : ∀ a b, p a b → a ≠ k ∧ b ≠ k) (hk7 : k ≠ 37) {Y : List UInt8} : ∀ {x : List UInt8}, Sg q p x → ∀ X, x = X ++ Y → (Y = [] ∨ ∃ t, Y = k :: t) → Sg q p X ∧ Sg q p Y := by
 intro x hx
 induction hx with
 | nil =>
   intro X e _
   have := List.append_eq_nil_iff.1 e.symm
   rw [this.1, this.2]
   exact ⟨.nil, .nil⟩
 | ch c t h hc ht ih =>
   intro X e hY
   cases X with
   | nil =>
     rw [List.nil_append] at e
     subst e
     exact ⟨.nil, .ch c t h hc ht⟩
   | cons c' X =>
     cases e
     have := ih X rfl hY
     exact ⟨.ch _ _ h hc this.1, this.2⟩
 | esc a b t h ht ih =>
   intro X e hY
   rcases X with _ | ⟨c', _ | ⟨a', _ | ⟨b', X⟩⟩⟩
   · rw [List.nil_append] at e
     subst e
     exact ⟨.nil, .esc a b t h ht⟩
   · cases e
     rcases hY with hY | ⟨t', hY⟩
     · cases hY
     · cases hY
       exact absurd rfl (hk _ _ h).1
   · cases e
     rcases hY with hY | ⟨t', hY⟩
     · cases hY
     · cases hY
       exact absurd rfl (hk _ _ h).2
   · cases e
     have := ih X rfl hY
     exact ⟨.esc _ _ _ h this.1, this.2⟩
theorem tid {f : UInt8 → List UInt8} {g : UInt8 → UInt8 → List UInt8} (hf : ∀ c, c ≠ 37 → q c → Sg q' p' (f c)) (hg : ∀ a b, p a b → Sg q' p' (g a b)) {x : List UInt8} (hx : Sg q p x) : Sg q' p' (tidG f g x) := by
 induction hx with
 | nil => rw [tidG_nil]; exact .nil
 | ch c t h hc _ ih => rw [tidG_ch _ _ hc]; exact (hf c hc h).app ih
 | esc a b t h _ ih => rw [tidG_esc]; exact (hg a b h).app ih
theorem tid_app {f : UInt8 → List UInt8} {g : UInt8 → UInt8 → List UInt8} {x : List UInt8} (hx : Sg q p x) (y : List UInt8) : tidG f g (x ++ y) = tidG f g x ++ tidG f g y := by
 induction hx with
 | nil => rw [tidG_nil]; rfl
 | ch c t h hc _ ih => rw [List.cons_append, tidG_ch _ _ hc, tidG_ch _ _ hc, ih, List.append_assoc]
 | esc a b t h _ ih =>
   show tidG f g (37 :: a :: b :: (t ++ y)) = _
   rw [tidG_esc, tidG_esc, ih, List.append_assoc]
theorem tid_tid {f f' f'' : UInt8 → List UInt8} {g g' g'' : UInt8 → UInt8 → List UInt8} (hs : ∀ c, c ≠ 37 → q c → Sg q' p' (f c)) (hs2 : ∀ a b, p a b → Sg q' p' (g a b))
   (hf : ∀ c, c ≠ 37 → q c → tidG f' g' (f c) = f'' c) (hg : ∀ a b, p a b → tidG f' g' (g a b) = g'' a b) {x : List UInt8} (hx : Sg q p x) : tidG f' g' (tidG f g x) = tidG f'' g'' x := by
 induction hx with
 | nil => simp [tidG_nil]
 | ch c t h hc _ ih => rw [tidG_ch _ _ hc, tidG_ch _ _ hc, (hs c hc h).tid_app, hf c hc h, ih]
 | esc a b t h _ ih => rw [tidG_esc, tidG_esc, (hs2 a b h).tid_app, hg a b h, ih]
theorem tid_id {f : UInt8 → List UInt8} {g : UInt8 → UInt8 → List UInt8} (hf : ∀ c, c ≠ 37 → q c → f c = [c]) (hg : ∀ a b, p a b → g a b = [37, a, b]) {x : List UInt8} (hx : Sg q p x) : tidG f g x = x := by
 induction hx with
 | nil => exact tidG_nil _ _
 | ch c t h hc _ ih => rw [tidG_ch _ _ hc, hf c hc h, ih]; rfl
 | esc a b t h _ ih => rw [tidG_esc, hg a b h, ih]; rfl
theorem mem {f : UInt8 → List UInt8} {g : UInt8 → UInt8 → List UInt8} {z : UInt8} (hf : ∀ c, c ≠ 37 → q c → z ∈ f c → z = c) (hg : ∀ a b, p a b → z ∉ g a b) {x : List UInt8} (hx : Sg q p x) (h : z ∈ tidG f g x) : z ∈ x := by
 induction hx with
 | nil => rw [tidG_nil] at h; cases h
 | ch c t h' hc _ ih =>
   rw [tidG_ch _ _ hc, List.mem_append] at h
   rcases h with h | h
   · rw [hf c hc h' h]; simp
   · exact List.mem_cons_of_mem _ (ih h)
 | esc a b t h' _ ih =>
   rw [tidG_esc, List.mem_append] at h
   rcases h with h | h
   · exact absurd h (hg a b h')
   · exact List.mem_cons_of_mem _ (List.mem_cons_of_mem _ (List.mem_cons_of_mem _ (ih h)))
end Sg
abbrev qS (c : UInt8) : Prop := okU c = true
abbrev pS (a b : UInt8) : Prop := okU a = true ∧ okU b = true ∧ hexd a = true ∧ hexd b = true
abbrev pT (a b : UInt8) : Prop := pS a b ∧ esc2 a b = [37, a, b]
abbrev qL (c : UInt8) : Prop := qS c ∧ lowB c = c
theorem st_iffN : ∀ (n : Nat) (l : List UInt8), l.length ≤ n → (stL l = true ↔ Sg qS pS l)
 | _, [], _ => ⟨fun _ => .nil, fun _ => rfl⟩
 | n + 1, c :: t, hn => by
   have ih := st_iffN n t (by simp only [List.length_cons] at hn; omega)
   unfold stL
   simp only [Bool.and_eq_true, Bool.or_eq_true, Bool.not_eq_true', decide_eq_false_iff_not]
   constructor
   · rintro ⟨h1, h2, h3⟩
     by_cases hc : c = 37
     · subst hc
       rcases h2 with h2 | h2
       · exact absurd rfl h2
       · rcases t with _ | ⟨a, _ | ⟨b, r⟩⟩
         · cases h2
         · cases h2
         · simp only [Bool.and_eq_true] at h2
           have h4 := h3
           unfold stL at h4
           simp only [Bool.and_eq_true] at h4
           obtain ⟨o1, _, h5⟩ := h4
           have h6 := h5
           unfold stL at h6
           simp only [Bool.and_eq_true] at h6
           obtain ⟨o2, _, h7⟩ := h6
           refine .esc a b r ⟨o1, o2, h2.1, h2.2⟩ ((st_iffN n r (by simp only [List.length_cons] at hn; omega)).1 h7)
     · exact .ch c t h1 hc (ih.1 h3)
   · intro h
     cases h with
     | ch _ _ h hc ht => exact ⟨h, .inl hc, ih.2 ht⟩
     | esc a b r h ht =>
       refine ⟨by decide, .inr (by simp [h.2.2.1, h.2.2.2]), ?_⟩
       have hr := (st_iffN n r (by simp only [List.length_cons] at hn; omega)).2 ht
       have nh : ∀ x : UInt8, hexd x = true → x ≠ 37 := fun x hx e => by subst e; exact absurd hx (by decide +kernel)
       unfold stL
       simp only [Bool.and_eq_true, Bool.or_eq_true, Bool.not_eq_true', decide_eq_false_iff_not]
       refine ⟨h.1, .inl (nh a h.2.2.1), ?_⟩
       unfold stL
       simp only [Bool.and_eq_true, Bool.or_eq_true, Bool.not_eq_true', decide_eq_false_iff_not]
       exact ⟨h.2.1, .inl (nh b h.2.2.2), hr⟩
theorem st_iff (l : List UInt8) : stL l = true ↔ Sg qS pS l := st_iffN _ l (Nat.le_refl _)
end Go.Pv
namespace Go.Pv
set_option maxRecDepth 100000
open Go Go.Proofs
def escS (s : ByteArray) : ByteArray := mkS (s.data.toList.flatMap escB)
def lowS (s : ByteArray) : ByteArray := mkS (lowL s.data.toList)
def tidS (s : ByteArray) : ByteArray := mkS (tidL s.data.toList)
def tidHS (s : ByteArray) : ByteArray := mkS (tidH s.data.toList)
def lowHS (s : ByteArray) : ByteArray := mkS (lowH s.data.toList)
def L77z : Fn1 := fun x => match x with
 | [.int .u8 c] => some [(decide (0 ≤ c) && decide (c < 256), .int .i64 (hx c), [])]
 | _ => none
def L52z : Fn1 := fun x => match x with
 | [.str s] => some [
   (decide (s.size = 2) && (decide (0 ≤ hx (byteAt s 0)) && decide (0 ≤ hx (byteAt s 1))), .tup [.sl true false 1 [.int .u8 (16 * hx (byteAt s 0) + hx (byteAt s 1))], .int .i64 0], []),
   (decide (s.size = 2), .tup [.nilsl, .int .i64 5], [])]
 | _ => none
def L53z : Fn1 := fun x => match x with
 | [.str s] => some [(decide (s.size ≤ 3000), .str (escS s), [])]
 | _ => none
def L26z : Fn1 := fun x => match x with
 | [.str s] => some [(decide (s.size ≤ 10000), .str (lowS s), [])]
 | _ => none
def L28z : Fn1 := fun x => match x with
 | [.str s] => some [(decide (s.size ≤ 4000) && stS s, .str (tidS s), [])]
 | _ => none
def L34z : Fn1 := fun x => match x with
 | [.str s, .bool true] => some [(decide (s.size ≤ 4000) && stS s, .str (tidHS s), [])]
 | [.str s, .bool false] => some [(decide (s.size ≤ 4000) && stS s, .str (tidS s), [])]
 | _ => none
def L27z : Fn1 := fun x => match x with
 | [.str s] => some [(decide (s.size ≤ 4000) && stS s, .str (lowHS s), [])]
 | _ => none
def N77 : Table := fun g => if Nat.beq g 77 then L77z else A25 g
def N52 : Table := fun g => if Nat.beq g 52 then L52z else N77 g
def N53 : Table := fun g => if Nat.beq g 53 then L53z else N52 g
def N62 : Table := fun g => if Nat.beq g 62 then L53z else N53 g
def N26 : Table := fun g => if Nat.beq g 26 then L26z else N62 g
def N33 : Table := fun g => if Nat.beq g 33 then L26z else N26 g
def N28 : Table := fun g => if Nat.beq g 28 then L28z else N33 g
def N34 : Table := fun g => if Nat.beq g 34 then L34z else N28 g
def N27 : Table := fun g => if Nat.beq g 27 then L27z else N34 g
def hL52z : Head := ⟨[0, 4, 5], [(4, 1)], 0⟩
def aL52z : Ann := fun i => if Nat.beq i 5 then some hL52z else none
def hL53z : Head := ⟨[0, 3, 4], [(3, 1)], 0⟩
def aL53z : Ann := fun i => if Nat.beq i 3 then some hL53z else none
def hL62z : Head := ⟨[0, 3, 4], [], 0⟩
def aL62z : Ann := fun i => if Nat.beq i 3 then some hL62z else none
def hL26z : Head := ⟨[3, 8, 9, 10], [], 1⟩
def aL26z : Ann := fun i => if Nat.beq i 3 then some hL26z else none
def hL33z : Head := ⟨[3, 4], [(3, 1)], 0⟩
def aL33z : Ann := fun i => if Nat.beq i 3 then some hL33z else none
def hL34z : Head := ⟨[0, 1, 5, 6], [], 0⟩
def aL34z : Ann := fun i => if Nat.beq i 3 then some hL34z else none
theorem nr77 (c : Int) : abody Tryz.prog (call' A25) (fun _ => none) 1 77 [.int .u8 c] =
 bif' (decide (c ≥ 65)) (bif' (decide (c ≤ 70)) (some (CV.int .i64 (Lib.indexByte (ByteArray.mk #[48, 49, 50, 51, 52, 53, 54, 55, 56, 57, 97, 98, 99, 100, 101, 102]).data.toList (IntKind.u8.wrap (c + 32)).toNat.toUInt8), [])) (some (CV.int .i64 (Lib.indexByte (ByteArray.mk #[48, 49, 50, 51, 52, 53, 54, 55, 56, 57, 97, 98, 99, 100, 101, 102]).data.toList c.toNat.toUInt8), []))) (some (CV.int .i64 (Lib.indexByte (ByteArray.mk #[48, 49, 50, 51, 52, 53, 54, 55, 56, 57, 97, 98, 99, 100, 101, 102]).data.toList c.toNat.toUInt8), [])) := by kernel_rfl
theorem nr52 (a b : UInt8) : abody Tryz.prog (call' N77) aL52z 3 52 [.str ⟨#[a, b]⟩] =
 bif' (decide (0 ≤ byteAt (ByteArray.mk #[a, b]) (Int.toNat 0)) && decide (byteAt (ByteArray.mk #[a, b]) (Int.toNat 0) < 256)) (bif' (decide (0 ≤ byteAt (ByteArray.mk #[a, b]) (IntKind.i64.wrap (0 + 1)).toNat) && decide (byteAt (ByteArray.mk #[a, b]) (IntKind.i64.wrap (0 + 1)).toNat < 256)) (bif' (decide (hx (byteAt (ByteArray.mk #[a, b]) (Int.toNat 0)) < 0)) (some (CV.tup [CV.nilsl, CV.int .i64 (.ofNat 5)], [])) (bif' (decide (hx (byteAt (ByteArray.mk #[a, b]) (IntKind.i64.wrap (0 + 1)).toNat) < 0)) (some (CV.tup [CV.nilsl, CV.int .i64 (.ofNat 5)], [])) (some (CV.tup [CV.sl true false 1 [CV.int .u8 (IntKind.u8.wrap (IntKind.i64.wrap (↑(BitVec.ofInt IntKind.i64.bits (IntKind.i64.wrap (hx (byteAt (ByteArray.mk #[a, b]) (Int.toNat 0)) * 2 ^ min (Int.toNat 4) IntKind.i64.bits)) ||| BitVec.ofInt IntKind.i64.bits (hx (byteAt (ByteArray.mk #[a, b]) (IntKind.i64.wrap (0 + 1)).toNat))).toNat : Int)))], CV.int .i64 (.ofNat 0)], [])))) none) none := by kernel_rfl
theorem nb53 (s : ByteArray) (n : Nat) (R : Env → Hp → Res) : parts Tryz.prog (call' N52) (filt aL53z 0) n (codeOf Tryz.prog 53) (envOf Tryz.prog 53 [.c (.str s)]) [] (fun _ => headK hL53z R) (endOf Tryz.prog 53 []) =
 R (mkEnv 37 [(0, .c (CV.str s)), (3, .rw 0 0), (4, .c (CV.int .i64 (.ofNat 0)))]) [.row [] 1 0 false] := by kernel_rfl
theorem nc53 (s : ByteArray) (i : Int) (xs : List CV) (n : Nat) (R : Env → Hp → Res) : aexec Tryz.prog (call' N52) (filt aL53z 0) n (bodyN 0 (codeOf Tryz.prog 53)) (mkEnv 37 [(0, .c (.str s)), (3, .rw 0 0), (4, .c (.int .i64 i))]) [.row xs 1 0 false] (thenK (headK hL53z R) (restN Tryz.prog (call' N52) (filt aL53z 0) n 0 (codeOf Tryz.prog 53) (endOf Tryz.prog 53 []))) =
 bif' (decide (i < (↑s.size : Int))) (bif' (decide (0 ≤ i)) (bif' (decide (i < (↑s.size : Int))) (bif' (decide (Lib.indexByte (ByteArray.mk ([97, 98, 99, 100, 101, 102, 103, 104, 105, 106, 107, 108, 109, 110, 111, 112, 113, 114, 115, 116, 117, 118, 119, 120, 121, 122, 65, 66, 67, 68, 69, 70, 71].append [72, 73, 74, 75, 76, 77, 78, 79, 80, 81, 82, 83, 84, 85, 86, 87, 88, 89, 90, 48, 49, 50, 51, 52, 53, 54, 55, 56, 57, 45, 46, 95, 126]).toArray).data.toList (byteAt s i.toNat).toNat.toUInt8 ≥ 0)) (bif' (decide (0 ≤ i)) (bif' (decide (i < (↑s.size : Int))) (bif' (decide ((xs.length + ((List.replicate 1 (CV.int .u8 0)).set 0 (CV.int .u8 (byteAt s i.toNat))).length) * Tryz.prog.types[5].bytes ≤ 70368744177664)) (R (mkEnv 37 [(0, .c (CV.str s)), (3, .rw 0 0), (4, .c (CV.int .i64 (IntKind.i64.wrap (i + 1))))]) [.row (xs ++ (List.replicate 1 (CV.int .u8 0)).set 0 (CV.int .u8 (byteAt s i.toNat))) 1 0 false]) none) none) none) (bif' (decide (0 ≤ i)) (bif' (decide (i < (↑s.size : Int))) (bif' (decide (0 ≤ (byteAt s i.toNat).fdiv (2 ^ min (Int.toNat 4) IntKind.u8.bits))) (bif' (decide ((byteAt s i.toNat).fdiv (2 ^ min (Int.toNat 4) IntKind.u8.bits) < (↑(ByteArray.mk #[48, 49, 50, 51, 52, 53, 54, 55, 56, 57, 65, 66, 67, 68, 69, 70]).size : Int))) (bif' (decide (0 ≤ i)) (bif' (decide (i < (↑s.size : Int))) (bif' (decide (IntKind.u8.wrap (↑(BitVec.ofInt IntKind.u8.bits (byteAt s i.toNat) &&& BitVec.ofInt IntKind.u8.bits 15).toNat : Int) < (↑(ByteArray.mk #[48, 49, 50, 51, 52, 53, 54, 55, 56, 57, 65, 66, 67, 68, 69, 70]).size : Int))) (bif' (decide ((xs.length + ((((List.replicate 3 (CV.int .u8 0)).set 0 (CV.int .u8 37)).set 1 (CV.int .u8 (byteAt (ByteArray.mk #[48, 49, 50, 51, 52, 53, 54, 55, 56, 57, 65, 66, 67, 68, 69, 70]) ((byteAt s i.toNat).fdiv (2 ^ min (Int.toNat 4) IntKind.u8.bits)).toNat))).set 2 (CV.int .u8 (byteAt (ByteArray.mk #[48, 49, 50, 51, 52, 53, 54, 55, 56, 57, 65, 66, 67, 68, 69, 70]) (IntKind.u8.wrap (↑(BitVec.ofInt IntKind.u8.bits (byteAt s i.toNat) &&& BitVec.ofInt IntKind.u8.bits 15).toNat : Int)).toNat))).length) * Tryz.prog.types[5].bytes ≤ 70368744177664)) (R (mkEnv 37 [(0, .c (CV.str s)), (3, .rw 0 0), (4, .c (CV.int .i64 (IntKind.i64.wrap (i + 1))))]) [.row (xs ++ (((List.replicate 3 (CV.int .u8 0)).set 0 (CV.int .u8 37)).set 1 (CV.int .u8 (byteAt (ByteArray.mk #[48, 49, 50, 51, 52, 53, 54, 55, 56, 57, 65, 66, 67, 68, 69, 70]) ((byteAt s i.toNat).fdiv (2 ^ min (Int.toNat 4) IntKind.u8.bits)).toNat))).set 2 (CV.int .u8 (byteAt (ByteArray.mk #[48, 49, 50, 51, 52, 53, 54, 55, 56, 57, 65, 66, 67, 68, 69, 70]) (IntKind.u8.wrap (↑(BitVec.ofInt IntKind.u8.bits (byteAt s i.toNat) &&& BitVec.ofInt IntKind.u8.bits 15).toNat : Int)).toNat))) 1 0 false]) none) none) none) none) none) none) none) none)) none) none) (bif' (xs.all isU8) (some (CV.str (bytesOf xs), [])) none) := by kernel_rfl
theorem nb62 (s : ByteArray) (n : Nat) (R : Env → Hp → Res) : parts Tryz.prog (call' N53) (filt aL62z 0) n (codeOf Tryz.prog 62) (envOf Tryz.prog 62 [.c (.str s)]) [] (fun _ => headK hL62z R) (endOf Tryz.prog 62 []) =
 R (mkEnv 49 [(0, .c (CV.str s)), (3, .c (CV.str ⟨⟨[]⟩⟩)), (4, .c (CV.int .i64 (.ofNat 0)))]) [] := by kernel_rfl
theorem nc62 (s t : ByteArray) (i : Int) (n : Nat) (R : Env → Hp → Res) : aexec Tryz.prog (call' N53) (filt aL62z 0) n (bodyN 0 (codeOf Tryz.prog 62)) (mkEnv 49 [(0, .c (.str s)), (3, .c (.str t)), (4, .c (.int .i64 i))]) [] (thenK (headK hL62z R) (restN Tryz.prog (call' N53) (filt aL62z 0) n 0 (codeOf Tryz.prog 62) (endOf Tryz.prog 62 []))) =
 bif' (decide (i < (↑s.size : Int))) (bif' (decide (0 ≤ i)) (bif' (decide (i < (↑s.size : Int))) (bif' (decide (97 ≤ byteAt s i.toNat ∧ byteAt s i.toNat ≤ 122 ∨ 65 ≤ byteAt s i.toNat ∧ byteAt s i.toNat ≤ 90)) (bif' (decide (0 ≤ i)) (bif' (decide (i ≤ IntKind.i64.wrap (i + 1))) (bif' (decide (IntKind.i64.wrap (i + 1) ≤ (↑s.size : Int))) (bif' (fitsS (t.size + (s.extract i.toNat (IntKind.i64.wrap (i + 1)).toNat).size)) (R (mkEnv 49 [(0, .c (CV.str s)), (3, .c (CV.str (t ++ s.extract i.toNat (IntKind.i64.wrap (i + 1)).toNat))), (4, .c (CV.int .i64 (IntKind.i64.wrap (i + 1))))]) []) none) none) none) none) (bif' (decide (48 ≤ byteAt s i.toNat ∧ byteAt s i.toNat ≤ 57)) (bif' (decide (0 ≤ i)) (bif' (decide (i ≤ IntKind.i64.wrap (i + 1))) (bif' (decide (IntKind.i64.wrap (i + 1) ≤ (↑s.size : Int))) (bif' (fitsS (t.size + (s.extract i.toNat (IntKind.i64.wrap (i + 1)).toNat).size)) (R (mkEnv 49 [(0, .c (CV.str s)), (3, .c (CV.str (t ++ s.extract i.toNat (IntKind.i64.wrap (i + 1)).toNat))), (4, .c (CV.int .i64 (IntKind.i64.wrap (i + 1))))]) []) none) none) none) none) (bif' (inS (ByteArray.mk #[45, 46, 95, 126]) (byteAt s i.toNat)) (bif' (decide (0 ≤ i)) (bif' (decide (i ≤ IntKind.i64.wrap (i + 1))) (bif' (decide (IntKind.i64.wrap (i + 1) ≤ (↑s.size : Int))) (bif' (fitsS (t.size + (s.extract i.toNat (IntKind.i64.wrap (i + 1)).toNat).size)) (R (mkEnv 49 [(0, .c (CV.str s)), (3, .c (CV.str (t ++ s.extract i.toNat (IntKind.i64.wrap (i + 1)).toNat))), (4, .c (CV.int .i64 (IntKind.i64.wrap (i + 1))))]) []) none) none) none) none) (bif' (fitsS (t.size + (ByteArray.mk #[37]).size)) (bif' (decide (IntKind.u8.wrap ((byteAt s i.toNat).tdiv 16) ≤ IntKind.u8.wrap (IntKind.u8.wrap ((byteAt s i.toNat).tdiv 16) + 1))) (bif' (decide (IntKind.u8.wrap (IntKind.u8.wrap ((byteAt s i.toNat).tdiv 16) + 1) ≤ (↑(ByteArray.mk #[48, 49, 50, 51, 52, 53, 54, 55, 56, 57, 65, 66, 67, 68, 69, 70]).size : Int))) (bif' (fitsS ((t ++ ByteArray.mk #[37]).size + ((ByteArray.mk #[48, 49, 50, 51, 52, 53, 54, 55, 56, 57, 65, 66, 67, 68, 69, 70]).extract (IntKind.u8.wrap ((byteAt s i.toNat).tdiv 16)).toNat (IntKind.u8.wrap (IntKind.u8.wrap ((byteAt s i.toNat).tdiv 16) + 1)).toNat).size)) (bif' (decide ((byteAt s i.toNat).tmod 16 ≤ IntKind.u8.wrap ((byteAt s i.toNat).tmod 16 + 1))) (bif' (decide (IntKind.u8.wrap ((byteAt s i.toNat).tmod 16 + 1) ≤ (↑(ByteArray.mk #[48, 49, 50, 51, 52, 53, 54, 55, 56, 57, 65, 66, 67, 68, 69, 70]).size : Int))) (bif' (fitsS ((t ++ ByteArray.mk #[37] ++ (ByteArray.mk #[48, 49, 50, 51, 52, 53, 54, 55, 56, 57, 65, 66, 67, 68, 69, 70]).extract (IntKind.u8.wrap ((byteAt s i.toNat).tdiv 16)).toNat (IntKind.u8.wrap (IntKind.u8.wrap ((byteAt s i.toNat).tdiv 16) + 1)).toNat).size + ((ByteArray.mk #[48, 49, 50, 51, 52, 53, 54, 55, 56, 57, 65, 66, 67, 68, 69, 70]).extract ((byteAt s i.toNat).tmod 16).toNat (IntKind.u8.wrap ((byteAt s i.toNat).tmod 16 + 1)).toNat).size)) (R (mkEnv 49 [(0, .c (CV.str s)), (3, .c (CV.str (t ++ ByteArray.mk #[37] ++ (ByteArray.mk #[48, 49, 50, 51, 52, 53, 54, 55, 56, 57, 65, 66, 67, 68, 69, 70]).extract (IntKind.u8.wrap ((byteAt s i.toNat).tdiv 16)).toNat (IntKind.u8.wrap (IntKind.u8.wrap ((byteAt s i.toNat).tdiv 16) + 1)).toNat ++ (ByteArray.mk #[48, 49, 50, 51, 52, 53, 54, 55, 56, 57, 65, 66, 67, 68, 69, 70]).extract ((byteAt s i.toNat).tmod 16).toNat (IntKind.u8.wrap ((byteAt s i.toNat).tmod 16 + 1)).toNat))), (4, .c (CV.int .i64 (IntKind.i64.wrap (i + 1))))]) []) none) none) none) none) none) none) none)))) none) none) (some (CV.str t, [])) := by kernel_rfl
theorem nb26 (s : ByteArray) (n : Nat) (R : Env → Hp → Res) : parts Tryz.prog (call' N62) (filt aL26z 0) n (codeOf Tryz.prog 26) (envOf Tryz.prog 26 [.c (.str s)]) [] (fun _ => headK hL26z R) (endOf Tryz.prog 26 []) =
 R (mkEnv 30 [(3, .rw 0 0), (8, .rw 0 0), (9, .c (CV.int .i64 (↑(strBytes s).length : Int))), (10, .c (CV.int .i64 (.ofNat 0)))]) [.row (strBytes s) 1 0 false] := by kernel_rfl
theorem nc26 (m i : Int) (xs : List CV) (n : Nat) (R : Env → Hp → Res) : aexec Tryz.prog (call' N62) (filt aL26z 0) n (bodyN 0 (codeOf Tryz.prog 26)) (mkEnv 30 [(3, .rw 0 0), (8, .rw 0 0), (9, .c (.int .i64 m)), (10, .c (.int .i64 i))]) [.row xs 1 0 false] (thenK (headK hL26z R) (restN Tryz.prog (call' N62) (filt aL26z 0) n 0 (codeOf Tryz.prog 26) (endOf Tryz.prog 26 []))) =
 bif' (decide (i < m)) (bif' (decide (0 ≤ i)) (bif' (decide (i < (↑xs.length : Int))) (bif' (decide (i.toNat < xs.length)) (bif' (decide (0 < (xs.getD i.toNat CV.nilptr).cl.length)) (bif' (okc (CV.int .u8 0) ((xs.getD i.toNat CV.nilptr).cl.getD 0 CV.nilptr)) (bif' (decide (((xs.getD i.toNat CV.nilptr).cl.getD 0 CV.nilptr).toInt ≥ 65)) (bif' (decide (((xs.getD i.toNat CV.nilptr).cl.getD 0 CV.nilptr).toInt ≤ 90)) (bif' (decide (0 ≤ i)) (bif' (decide (i < (↑xs.length : Int))) (bif' (decide (i.toNat < xs.length)) (R (mkEnv 30 [(3, .rw 0 0), (8, .rw 0 0), (9, .c (CV.int .i64 m)), (10, .c (CV.int .i64 (IntKind.i64.wrap (i + 1))))]) [.row (xs.set i.toNat (if 0 = 0 ∧ Tryz.prog.types[5].size = 1 then CV.int .u8 (IntKind.u8.wrap (IntKind.u8.wrap (((xs.getD i.toNat CV.nilptr).cl.getD 0 CV.nilptr).toInt + 97) - 65)) else CV.agg (setRange (xs.getD i.toNat CV.nilptr).cl 0 (CV.int .u8 (IntKind.u8.wrap (IntKind.u8.wrap (((xs.getD i.toNat CV.nilptr).cl.getD 0 CV.nilptr).toInt + 97) - 65))).cl))) 1 0 false]) none) none) none) (R (mkEnv 30 [(3, .rw 0 0), (8, .rw 0 0), (9, .c (CV.int .i64 m)), (10, .c (CV.int .i64 (IntKind.i64.wrap (i + 1))))]) [.row xs 1 0 false])) (R (mkEnv 30 [(3, .rw 0 0), (8, .rw 0 0), (9, .c (CV.int .i64 m)), (10, .c (CV.int .i64 (IntKind.i64.wrap (i + 1))))]) [.row xs 1 0 false])) none) none) none) none) none) (bif' (xs.all isU8) (some (CV.str (bytesOf xs), [])) none) := by kernel_rfl
theorem nb33 (s : ByteArray) (n : Nat) (R : Env → Hp → Res) : parts Tryz.prog (call' N26) (filt aL33z 0) n (codeOf Tryz.prog 33) (envOf Tryz.prog 33 [.c (.str s)]) [] (fun _ => headK hL33z R) (endOf Tryz.prog 33 []) =
 R (mkEnv 35 [(3, .rw 0 0), (4, .c (CV.int .i64 (.ofNat 0)))]) [.row (strBytes s) 1 0 false] := by kernel_rfl
theorem nc33 (i : Int) (xs : List CV) (n : Nat) (R : Env → Hp → Res) : aexec Tryz.prog (call' N26) (filt aL33z 0) n (bodyN 0 (codeOf Tryz.prog 33)) (mkEnv 35 [(3, .rw 0 0), (4, .c (.int .i64 i))]) [.row xs 1 0 false] (thenK (headK hL33z R) (restN Tryz.prog (call' N26) (filt aL33z 0) n 0 (codeOf Tryz.prog 33) (endOf Tryz.prog 33 []))) =
 bif' (decide (i < (↑xs.length : Int))) (bif' (decide (0 ≤ i)) (bif' (decide (i < (↑xs.length : Int))) (bif' (decide (i.toNat < xs.length)) (bif' (decide (0 < (xs.getD i.toNat CV.nilptr).cl.length)) (bif' (okc (CV.int .u8 0) ((xs.getD i.toNat CV.nilptr).cl.getD 0 CV.nilptr)) (bif' (decide (((xs.getD i.toNat CV.nilptr).cl.getD 0 CV.nilptr).toInt ≥ 65)) (bif' (decide (0 ≤ i)) (bif' (decide (i < (↑xs.length : Int))) (bif' (decide (i.toNat < xs.length)) (bif' (decide (0 < (xs.getD i.toNat CV.nilptr).cl.length)) (bif' (okc (CV.int .u8 0) ((xs.getD i.toNat CV.nilptr).cl.getD 0 CV.nilptr)) (bif' (decide (((xs.getD i.toNat CV.nilptr).cl.getD 0 CV.nilptr).toInt ≤ 90)) (bif' (decide (0 ≤ i)) (bif' (decide (i < (↑xs.length : Int))) (bif' (decide (i.toNat < xs.length)) (bif' (decide (0 < (xs.getD i.toNat CV.nilptr).cl.length)) (bif' (okc (CV.int .u8 0) ((xs.getD i.toNat CV.nilptr).cl.getD 0 CV.nilptr)) (bif' (decide (0 ≤ i)) (bif' (decide (i < (↑xs.length : Int))) (bif' (decide (i.toNat < xs.length)) (R (mkEnv 35 [(3, .rw 0 0), (4, .c (CV.int .i64 (IntKind.i64.wrap (i + 1))))]) [.row (xs.set i.toNat (if 0 = 0 ∧ Tryz.prog.types[5].size = 1 then CV.int .u8 (IntKind.u8.wrap (((xs.getD i.toNat CV.nilptr).cl.getD 0 CV.nilptr).toInt + 32)) else CV.agg (setRange (xs.getD i.toNat CV.nilptr).cl 0 (CV.int .u8 (IntKind.u8.wrap (((xs.getD i.toNat CV.nilptr).cl.getD 0 CV.nilptr).toInt + 32))).cl))) 1 0 false]) none) none) none) none) none) none) none) none) (R (mkEnv 35 [(3, .rw 0 0), (4, .c (CV.int .i64 (IntKind.i64.wrap (i + 1))))]) [.row xs 1 0 false])) none) none) none) none) none) (R (mkEnv 35 [(3, .rw 0 0), (4, .c (CV.int .i64 (IntKind.i64.wrap (i + 1))))]) [.row xs 1 0 false])) none) none) none) none) none) (bif' (xs.all isU8) (some (CV.str (bytesOf xs), [])) none) := by kernel_rfl
theorem nb28 (s : ByteArray) (n : Nat) (R : Env → Hp → Res) : parts Tryz.prog (call' N33) (filt aL53z 0) n (codeOf Tryz.prog 28) (envOf Tryz.prog 28 [.c (.str s)]) [] (fun _ => headK hL53z R) (endOf Tryz.prog 28 []) =
 R (mkEnv 42 [(0, .c (CV.str s)), (3, .rw 0 0), (4, .c (CV.int .i64 (.ofNat 0)))]) [.row [] 1 0 false] := by kernel_rfl
theorem nc28 (s : ByteArray) (i : Int) (xs : List CV) (n : Nat) (R : Env → Hp → Res) : aexec Tryz.prog (call' N33) (filt aL53z 0) n (bodyN 0 (codeOf Tryz.prog 28)) (mkEnv 42 [(0, .c (.str s)), (3, .rw 0 0), (4, .c (.int .i64 i))]) [.row xs 1 0 false] (thenK (headK hL53z R) (restN Tryz.prog (call' N33) (filt aL53z 0) n 0 (codeOf Tryz.prog 28) (endOf Tryz.prog 28 []))) =
 bif' (decide (i < (↑s.size : Int))) (bif' (decide (0 ≤ i)) (bif' (decide (i < (↑s.size : Int))) (bif' (byteAt s i.toNat != 37) (bif' (decide (0 ≤ i)) (bif' (decide (i < (↑s.size : Int))) (bif' (decide ((xs.length + ((List.replicate 1 (CV.int .u8 0)).set 0 (CV.int .u8 (byteAt s i.toNat))).length) * Tryz.prog.types[5].bytes ≤ 70368744177664)) (R (mkEnv 42 [(0, .c (CV.str s)), (3, .rw 0 0), (4, .c (CV.int .i64 (IntKind.i64.wrap (i + 1))))]) [.row (xs ++ (List.replicate 1 (CV.int .u8 0)).set 0 (CV.int .u8 (byteAt s i.toNat))) 1 0 false]) none) none) none) (bif' (decide (0 ≤ IntKind.i64.wrap (i + 1))) (bif' (decide (IntKind.i64.wrap (i + 1) ≤ IntKind.i64.wrap (i + 3))) (bif' (decide (IntKind.i64.wrap (i + 3) ≤ (↑s.size : Int))) (bif' (decide ((s.extract (IntKind.i64.wrap (i + 1)).toNat (IntKind.i64.wrap (i + 3)).toNat).size = 2) && (decide (0 ≤ hx (byteAt (s.extract (IntKind.i64.wrap (i + 1)).toNat (IntKind.i64.wrap (i + 3)).toNat) 0)) && decide (0 ≤ hx (byteAt (s.extract (IntKind.i64.wrap (i + 1)).toNat (IntKind.i64.wrap (i + 3)).toNat) 1)))) (bif' (decide ((xs.length + (strBytes (escS (bytesOf [CV.int .u8 (16 * hx (byteAt (s.extract (IntKind.i64.wrap (i + 1)).toNat (IntKind.i64.wrap (i + 3)).toNat) 0) + hx (byteAt (s.extract (IntKind.i64.wrap (i + 1)).toNat (IntKind.i64.wrap (i + 3)).toNat) 1))]))).length) * Tryz.prog.types[5].bytes ≤ 70368744177664)) (R (mkEnv 42 [(0, .c (CV.str s)), (3, .rw 0 0), (4, .c (CV.int .i64 (IntKind.i64.wrap (IntKind.i64.wrap (i + 2) + 1))))]) [.row (xs ++ strBytes (escS (bytesOf [CV.int .u8 (16 * hx (byteAt (s.extract (IntKind.i64.wrap (i + 1)).toNat (IntKind.i64.wrap (i + 3)).toNat) 0) + hx (byteAt (s.extract (IntKind.i64.wrap (i + 1)).toNat (IntKind.i64.wrap (i + 3)).toNat) 1))]))) 1 0 false]) none) (bif' (decide ((s.extract (IntKind.i64.wrap (i + 1)).toNat (IntKind.i64.wrap (i + 3)).toNat).size = 2)) (bif' (decide ((xs.length + (strBytes (escS (bytesOf []))).length) * Tryz.prog.types[5].bytes ≤ 70368744177664)) (R (mkEnv 42 [(0, .c (CV.str s)), (3, .rw 0 0), (4, .c (CV.int .i64 (IntKind.i64.wrap (IntKind.i64.wrap (i + 2) + 1))))]) [.row (xs ++ strBytes (escS (bytesOf []))) 1 0 false]) none) none)) none) none) none)) none) none) (bif' (xs.all isU8) (some (CV.str (bytesOf xs), [])) none) := by kernel_rfl
theorem nb34 (s : ByteArray) (b : Bool) (n : Nat) (R : Env → Hp → Res) : parts Tryz.prog (call' N28) (filt aL34z 0) n (codeOf Tryz.prog 34) (envOf Tryz.prog 34 [.c (.str s), .c (.bool b)]) [] (fun _ => headK hL34z R) (endOf Tryz.prog 34 []) =
 R (mkEnv 55 [(0, .c (CV.str s)), (1, .c (CV.bool b)), (5, .c (CV.str ⟨⟨[]⟩⟩)), (6, .c (CV.int .i64 (.ofNat 0)))]) [] := by kernel_rfl
theorem nc34 (s t : ByteArray) (b : Bool) (i : Int) (n : Nat) (R : Env → Hp → Res) : aexec Tryz.prog (call' N28) (filt aL34z 0) n (bodyN 0 (codeOf Tryz.prog 34)) (mkEnv 55 [(0, .c (.str s)), (1, .c (.bool b)), (5, .c (.str t)), (6, .c (.int .i64 i))]) [] (thenK (headK hL34z R) (restN Tryz.prog (call' N28) (filt aL34z 0) n 0 (codeOf Tryz.prog 34) (endOf Tryz.prog 34 []))) =
 bif' (decide (i < (↑s.size : Int))) (bif' (decide (0 ≤ i)) (bif' (decide (i ≤ IntKind.i64.wrap (i + 1))) (bif' (decide (IntKind.i64.wrap (i + 1) ≤ (↑s.size : Int))) (bif' (decide (0 ≤ i)) (bif' (decide (i < (↑s.size : Int))) (bif' (byteAt s i.toNat == 37) (bif' (decide (0 ≤ IntKind.i64.wrap (i + 1))) (bif' (decide (IntKind.i64.wrap (i + 1) ≤ IntKind.i64.wrap (i + 3))) (bif' (decide (IntKind.i64.wrap (i + 3) ≤ (↑s.size : Int))) (bif' (decide ((s.extract (IntKind.i64.wrap (i + 1)).toNat (IntKind.i64.wrap (i + 3)).toNat).size = 2) && (decide (0 ≤ hx (byteAt (s.extract (IntKind.i64.wrap (i + 1)).toNat (IntKind.i64.wrap (i + 3)).toNat) 0)) && decide (0 ≤ hx (byteAt (s.extract (IntKind.i64.wrap (i + 1)).toNat (IntKind.i64.wrap (i + 3)).toNat) 1)))) (bif' b (bif' (!decide ((↑(escS (bytesOf [CV.int .u8 (16 * hx (byteAt (s.extract (IntKind.i64.wrap (i + 1)).toNat (IntKind.i64.wrap (i + 3)).toNat) 0) + hx (byteAt (s.extract (IntKind.i64.wrap (i + 1)).toNat (IntKind.i64.wrap (i + 3)).toNat) 1))])).size : Int) > 1)) (bif' (decide ((escS (bytesOf [CV.int .u8 (16 * hx (byteAt (s.extract (IntKind.i64.wrap (i + 1)).toNat (IntKind.i64.wrap (i + 3)).toNat) 0) + hx (byteAt (s.extract (IntKind.i64.wrap (i + 1)).toNat (IntKind.i64.wrap (i + 3)).toNat) 1))])).size ≤ 10000)) (bif' (fitsS (t.size + (lowS (escS (bytesOf [CV.int .u8 (16 * hx (byteAt (s.extract (IntKind.i64.wrap (i + 1)).toNat (IntKind.i64.wrap (i + 3)).toNat) 0) + hx (byteAt (s.extract (IntKind.i64.wrap (i + 1)).toNat (IntKind.i64.wrap (i + 3)).toNat) 1))]))).size)) (R (mkEnv 55 [(0, .c (CV.str s)), (1, .c (CV.bool b)), (5, .c (CV.str (t ++ lowS (escS (bytesOf [CV.int .u8 (16 * hx (byteAt (s.extract (IntKind.i64.wrap (i + 1)).toNat (IntKind.i64.wrap (i + 3)).toNat) 0) + hx (byteAt (s.extract (IntKind.i64.wrap (i + 1)).toNat (IntKind.i64.wrap (i + 3)).toNat) 1))]))))), (6, .c (CV.int .i64 (IntKind.i64.wrap (IntKind.i64.wrap (i + 2) + 1))))]) []) none) none) (bif' (fitsS (t.size + (escS (bytesOf [CV.int .u8 (16 * hx (byteAt (s.extract (IntKind.i64.wrap (i + 1)).toNat (IntKind.i64.wrap (i + 3)).toNat) 0) + hx (byteAt (s.extract (IntKind.i64.wrap (i + 1)).toNat (IntKind.i64.wrap (i + 3)).toNat) 1))])).size)) (R (mkEnv 55 [(0, .c (CV.str s)), (1, .c (CV.bool b)), (5, .c (CV.str (t ++ escS (bytesOf [CV.int .u8 (16 * hx (byteAt (s.extract (IntKind.i64.wrap (i + 1)).toNat (IntKind.i64.wrap (i + 3)).toNat) 0) + hx (byteAt (s.extract (IntKind.i64.wrap (i + 1)).toNat (IntKind.i64.wrap (i + 3)).toNat) 1))])))), (6, .c (CV.int .i64 (IntKind.i64.wrap (IntKind.i64.wrap (i + 2) + 1))))]) []) none)) (bif' (fitsS (t.size + (escS (bytesOf [CV.int .u8 (16 * hx (byteAt (s.extract (IntKind.i64.wrap (i + 1)).toNat (IntKind.i64.wrap (i + 3)).toNat) 0) + hx (byteAt (s.extract (IntKind.i64.wrap (i + 1)).toNat (IntKind.i64.wrap (i + 3)).toNat) 1))])).size)) (R (mkEnv 55 [(0, .c (CV.str s)), (1, .c (CV.bool b)), (5, .c (CV.str (t ++ escS (bytesOf [CV.int .u8 (16 * hx (byteAt (s.extract (IntKind.i64.wrap (i + 1)).toNat (IntKind.i64.wrap (i + 3)).toNat) 0) + hx (byteAt (s.extract (IntKind.i64.wrap (i + 1)).toNat (IntKind.i64.wrap (i + 3)).toNat) 1))])))), (6, .c (CV.int .i64 (IntKind.i64.wrap (IntKind.i64.wrap (i + 2) + 1))))]) []) none)) (bif' (decide ((s.extract (IntKind.i64.wrap (i + 1)).toNat (IntKind.i64.wrap (i + 3)).toNat).size = 2)) (bif' b (bif' (Bool.rec ((fun _ => true) ()) ((fun _ => false) ()) (decide ((↑(escS (bytesOf [])).size : Int) > 1))) (bif' (Decidable.rec (fun h => (fun x => false) h) (fun h => (fun x => true) h) ((escS (bytesOf [])).size.decLe 10000)) (bif' (fitsS (t.size + (lowS (escS (bytesOf []))).size)) (R (mkEnv 55 [(0, .c (CV.str s)), (1, .c (CV.bool b)), (5, .c (CV.str (t ++ lowS (escS (bytesOf []))))), (6, .c (CV.int .i64 (IntKind.i64.wrap (IntKind.i64.wrap (i + 2) + 1))))]) []) none) none) (bif' (fitsS (t.size + (escS (bytesOf [])).size)) (R (mkEnv 55 [(0, .c (CV.str s)), (1, .c (CV.bool b)), (5, .c (CV.str (t ++ escS (bytesOf [])))), (6, .c (CV.int .i64 (IntKind.i64.wrap (IntKind.i64.wrap (i + 2) + 1))))]) []) none)) (bif' (fitsS (t.size + (escS (bytesOf [])).size)) (R (mkEnv 55 [(0, .c (CV.str s)), (1, .c (CV.bool b)), (5, .c (CV.str (t ++ escS (bytesOf [])))), (6, .c (CV.int .i64 (IntKind.i64.wrap (IntKind.i64.wrap (i + 2) + 1))))]) []) none)) none)) none) none) none) (bif' b (bif' (decide ((s.extract i.toNat (IntKind.i64.wrap (i + 1)).toNat).size ≤ 10000)) (bif' (fitsS (t.size + (lowS (s.extract i.toNat (IntKind.i64.wrap (i + 1)).toNat)).size)) (R (mkEnv 55 [(0, .c (CV.str s)), (1, .c (CV.bool b)), (5, .c (CV.str (t ++ lowS (s.extract i.toNat (IntKind.i64.wrap (i + 1)).toNat)))), (6, .c (CV.int .i64 (IntKind.i64.wrap (i + 1))))]) []) none) none) (bif' (fitsS (t.size + (s.extract i.toNat (IntKind.i64.wrap (i + 1)).toNat).size)) (R (mkEnv 55 [(0, .c (CV.str s)), (1, .c (CV.bool b)), (5, .c (CV.str (t ++ s.extract i.toNat (IntKind.i64.wrap (i + 1)).toNat))), (6, .c (CV.int .i64 (IntKind.i64.wrap (i + 1))))]) []) none))) none) none) none) none) none) (some (CV.str t, [])) := by kernel_rfl
end Go.Pv
namespace Go.Pv
set_option maxRecDepth 100000
open Go Go.Proofs
variable {I : World → Prop} {ng : Nat}
def cb (l : List UInt8) : List CV := l.map encByte
theorem cb_str (l : List UInt8) : strBytes (mkS l) = cb l := by unfold strBytes; rw [dataM]; rfl
theorem cb_len (l : List UInt8) : (cb l).length = l.length := List.length_map ..
theorem cb_app (a b : List UInt8) : cb a ++ cb b = cb (a ++ b) := List.map_append.symm
theorem cb_back (l : List UInt8) : bytesOf (cb l) = mkS l := by rw [← cb_str, bytes_back]
theorem cb_u8 (l : List UInt8) : (cb l).all isU8 = true := by rw [← cb_str, bytes_u8]
theorem by5z : Tryz.prog.types[5].bytes = 1 := by kernel_rfl
theorem sz5z : Tryz.prog.types[5].size = 1 := by kernel_rfl
theorem rep1z (a b : CV) : (List.replicate 1 a).set 0 b = [b] := rfl
theorem rep3z (a b c d : CV) : ((((List.replicate 3 a).set 0 b).set 1 c).set 2 d) = [b, c, d] := rfl
def ibz (c : Int) : Int := Lib.indexByte (ByteArray.mk #[48, 49, 50, 51, 52, 53, 54, 55, 56, 57, 97, 98, 99, 100, 101, 102]).data.toList c.toNat.toUInt8
def d77 (c : Int) : Int := if c ≥ 65 then if c ≤ 70 then ibz (IntKind.u8.wrap (c + 32)) else ibz c else ibz c
theorem d77_hx : ∀ n : Nat, n < 256 → d77 (n : Int) = hx (n : Int) := by decide +kernel
theorem val77 (c : Int) : abody Tryz.prog (call' A25) (fun _ => none) 1 77 [.int .u8 c] = some (.int .i64 (d77 c), []) := by
 rw [nr77]
 simp only [bif_dec]
 unfold d77 ibz
 split
 · split <;> rfl
 · rfl
abbrev hA25 (hg : OnGlobals I ng) (h : Known Tryz.prog I ng A23) : Known Tryz.prog I ng A25 := g25 hg h
theorem k77 (hg : OnGlobals I ng) (h : Known Tryz.prog I ng A23) : Known Tryz.prog I ng N77 := known_add (hA25 hg h) (contract_of (fun _ => none) hg (hok_of (hA25 hg h)) fun cargs rv outs h => by
 unfold L77z at h
 split at h <;> first | (cases h; done) | skip
 rename_i c
 by_cases hc : 0 ≤ c ∧ c < 256
 · simp only [picked, pickAlt, decide_eq_true hc.1, decide_eq_true hc.2, Bool.true_and] at h
   cases h
   obtain ⟨n, rfl⟩ : ∃ n : Nat, c = n := ⟨c.toNat, by omega⟩
   exact ⟨1, by rw [val77, d77_hx n (by omega)]⟩
 · have e : (decide (0 ≤ c) && decide (c < 256)) = false := by simp; omega
   simp only [picked, pickAlt, e] at h
   cases h)
theorem nib52 : ∀ x : Nat, x < 16 → ∀ y : Nat, y < 16 → IntKind.u8.wrap (IntKind.i64.wrap (((BitVec.ofInt IntKind.i64.bits (IntKind.i64.wrap ((x : Int) * 2 ^ min (Int.toNat 4) IntKind.i64.bits)) ||| BitVec.ofInt IntKind.i64.bits (y : Int)).toNat : Nat) : Int)) = 16 * (x : Int) + y := by decide +kernel
theorem k52 (hg : OnGlobals I ng) (h : Known Tryz.prog I ng A23) : Known Tryz.prog I ng N52 := known_add (k77 hg h) (contract_of aL52z hg (hok_of (k77 hg h)) fun cargs rv outs h => by
 unfold L52z at h
 split at h <;> first | (cases h; done) | skip
 rename_i s
 have hs : s.size = 2 := by
   simp only [picked, pickAlt] at h
   split at h
   · rename_i hb; simp only [Bool.and_eq_true, decide_eq_true_eq] at hb; exact hb.1
   · split at h
     · rename_i hb; exact of_decide_eq_true hb
     · cases h
 obtain ⟨a, b, rfl⟩ := two_of hs
 refine ⟨3, ?_⟩
 rw [nr52]
 have h0 := byte_lt ⟨#[a, b]⟩ 0
 have h1 := byte_lt ⟨#[a, b]⟩ 1
 simp only [wrap01, show (Int.toNat 0) = 0 from rfl]
 rw [bif_t _ none (by simp [h0]), bif_t _ none (by simp [h1])]
 have hx0 := hx_le (byteAt ⟨#[a, b]⟩ 0)
 have hx1 := hx_le (byteAt ⟨#[a, b]⟩ 1)
 generalize hx (byteAt ⟨#[a, b]⟩ 0) = x at *
 generalize hx (byteAt ⟨#[a, b]⟩ 1) = y at *
 simp only [bif_dec]
 simp only [picked, pickAlt, hs, decide_true, Bool.true_and] at h
 by_cases c0 : x < 0
 · rw [if_pos c0]
   rw [show (decide (0 ≤ x) && decide (0 ≤ y)) = false by simp; omega] at h
   exact h
 · rw [if_neg c0]
   by_cases c1 : y < 0
   · rw [if_pos c1]
     rw [show (decide (0 ≤ x) && decide (0 ≤ y)) = false by simp; omega] at h
     exact h
   · rw [if_neg c1]
     rw [show (decide (0 ≤ x) && decide (0 ≤ y)) = true by simp; omega] at h
     obtain ⟨m, rfl⟩ : ∃ m : Nat, x = m := ⟨x.toNat, by omega⟩
     obtain ⟨k, rfl⟩ : ∃ k : Nat, y = k := ⟨y.toNat, by omega⟩
     rw [nib52 m (by omega) k (by omega)]
     exact h)
theorem esc_z : ∀ n : Nat, n < 256 →
   (decide (Lib.indexByte (ByteArray.mk ([97, 98, 99, 100, 101, 102, 103, 104, 105, 106, 107, 108, 109, 110, 111, 112, 113, 114, 115, 116, 117, 118, 119, 120, 121, 122, 65, 66, 67, 68, 69, 70, 71].append [72, 73, 74, 75, 76, 77, 78, 79, 80, 81, 82, 83, 84, 85, 86, 87, 88, 89, 90, 48, 49, 50, 51, 52, 53, 54, 55, 56, 57, 45, 46, 95, 126]).toArray).data.toList (n : Int).toNat.toUInt8 ≥ 0) = keepB (UInt8.ofNat n)) ∧
   (0 ≤ (n : Int).fdiv (2 ^ min (Int.toNat 4) IntKind.u8.bits)) ∧ ((n : Int).fdiv (2 ^ min (Int.toNat 4) IntKind.u8.bits) < ((ByteArray.mk #[48, 49, 50, 51, 52, 53, 54, 55, 56, 57, 65, 66, 67, 68, 69, 70]).size : Int)) ∧
   (IntKind.u8.wrap ((BitVec.ofInt IntKind.u8.bits (n : Int) &&& BitVec.ofInt IntKind.u8.bits 15).toNat : Int) < ((ByteArray.mk #[48, 49, 50, 51, 52, 53, 54, 55, 56, 57, 65, 66, 67, 68, 69, 70]).size : Int)) ∧
   byteAt (ByteArray.mk #[48, 49, 50, 51, 52, 53, 54, 55, 56, 57, 65, 66, 67, 68, 69, 70]) ((n : Int).fdiv (2 ^ min (Int.toNat 4) IntKind.u8.bits)).toNat = ((hexU (n / 16)).toNat : Int) ∧
   byteAt (ByteArray.mk #[48, 49, 50, 51, 52, 53, 54, 55, 56, 57, 65, 66, 67, 68, 69, 70]) (IntKind.u8.wrap ((BitVec.ofInt IntKind.u8.bits (n : Int) &&& BitVec.ofInt IntKind.u8.bits 15).toNat : Int)).toNat = ((hexU (n % 16)).toNat : Int) := by decide +kernel
theorem esc_len (b : UInt8) : (escB b).length ≤ 3 := by unfold escB; split <;> simp
noncomputable abbrev R53 (n j : Nat) (env : Env) (H : Hp) : Res := rounds Tryz.prog (call' N52) (filt aL53z 0) n hL53z (bodyN 0 (codeOf Tryz.prog 53)) j env H (restN Tryz.prog (call' N52) (filt aL53z 0) n 0 (codeOf Tryz.prog 53) (endOf Tryz.prog 53 []))
theorem lo53 (n : Nat) (l : List UInt8) (hl : l.length ≤ 3000) : ∀ (j k : Nat) (acc : List UInt8), l.length < j + k → k ≤ l.length → acc.length ≤ 3 * k →
   R53 n j (mkEnv 37 [(0, .c (.str (mkS l))), (3, .rw 0 0), (4, .c (.int .i64 (k : Int)))]) [.row (cb acc) 1 0 false] = some (.str (mkS (acc ++ (l.drop k).flatMap escB)), [])
 | 0, k, acc, hj, hk, ha => by omega
 | j + 1, k, acc, hj, hk, ha => by
   unfold R53
   rw [rounds_succ, nc53]
   simp only [atM, sizeM, natM, by5z, rep1z, rep3z, cb_len, List.length_cons, List.length_nil, wrp1 (show k ≤ 100000 by omega), bif_dec]
   by_cases h1 : k < l.length
   · have h1' : (k : Int) < (l.length : Int) := by omega
     have h0 : (0 : Int) ≤ (k : Int) := by omega
     have e : l.drop k = l.getD k 0 :: l.drop (k + 1) := drop_getD h1
     rw [e, List.flatMap_cons]
     have ih := lo53 n l hl j (k + 1) (acc ++ escB (l.getD k 0)) (by omega) (by omega) (by have := esc_len (l.getD k 0); rw [List.length_append]; omega)
     unfold R53 at ih
     rw [← List.append_assoc, ← ih]
     generalize hb : l.getD k 0 = b
     obtain ⟨f1, f2, f3, f4, f5, f6⟩ := esc_z b.toNat b.toNat_lt
     rw [u8n] at f1
     simp only [natM] at f1
     simp only [if_pos h1', if_pos h0]
     have p1 : ∀ x : CV, (acc.length + (0 + 1)) * 1 ≤ 70368744177664 := fun _ => by omega
     by_cases hk : keepB b = true
     · rw [if_pos (of_decide_eq_true (f1.trans hk)), if_pos (by omega)]
       have e1 : escB b = [b] := by unfold escB; rw [if_pos hk]
       rw [e1, ← cb_app]
       rfl
     · have hk' := of_decide_eq_false (f1.trans (Bool.eq_false_iff.2 hk))
       rw [if_neg hk', if_pos f2, if_pos f3, if_pos f4, if_pos (by omega), f5, f6]
       have e1 : escB b = [37, hexU (b.toNat / 16), hexU (b.toNat % 16)] := by unfold escB; rw [if_neg hk]
       rw [e1, ← cb_app]
       rfl
   · rw [if_neg (by omega), List.drop_of_length_le (by omega), cb_u8, bif_tt, cb_back, List.flatMap_nil, List.append_nil]
theorem k53 (hg : OnGlobals I ng) (h : Known Tryz.prog I ng A23) : Known Tryz.prog I ng N53 := known_add (k52 hg h) (contract_of aL53z hg (hok_of (k52 hg h)) fun cargs rv outs h => by
 unfold L53z at h
 split at h <;> first | (cases h; done) | skip
 rename_i s
 by_cases hs : s.size ≤ 3000
 · simp only [picked, pickAlt, decide_eq_true hs] at h
   cases h
   refine ⟨12000, loop1 rfl (by kernel_rfl) (by kernel_rfl) (by kernel_rfl) (hd := hL53z) (by kernel_rfl) ?_⟩
   obtain ⟨l, rfl⟩ : ∃ l, s = mkS l := ⟨_, (mkS_bl s).symm⟩
   rw [sizeM] at hs
   refine (nb53 (mkS l) 12000 (R53 12000 12000)).trans ?_
   refine (lo53 12000 l hs 12000 0 [] (by omega) (by omega) (by simp)).trans ?_
   unfold escS
   rw [dataM]
   rfl
 · simp only [picked, pickAlt, decide_eq_false hs] at h; cases h)
theorem esc_r : ∀ n : Nat, n < 256 →
   (decide ((97 : Int) ≤ (n : Int) ∧ (n : Int) ≤ 122 ∨ (65 : Int) ≤ (n : Int) ∧ (n : Int) ≤ 90) || (decide ((48 : Int) ≤ (n : Int) ∧ (n : Int) ≤ 57) || inS (ByteArray.mk #[45, 46, 95, 126]) (n : Int))) = keepB (UInt8.ofNat n) ∧
   (IntKind.u8.wrap ((n : Int).tdiv 16) ≤ IntKind.u8.wrap (IntKind.u8.wrap ((n : Int).tdiv 16) + 1)) ∧ (IntKind.u8.wrap (IntKind.u8.wrap ((n : Int).tdiv 16) + 1) ≤ ((ByteArray.mk #[48, 49, 50, 51, 52, 53, 54, 55, 56, 57, 65, 66, 67, 68, 69, 70]).size : Int)) ∧
   ((n : Int).tmod 16 ≤ IntKind.u8.wrap ((n : Int).tmod 16 + 1)) ∧ (IntKind.u8.wrap ((n : Int).tmod 16 + 1) ≤ ((ByteArray.mk #[48, 49, 50, 51, 52, 53, 54, 55, 56, 57, 65, 66, 67, 68, 69, 70]).size : Int)) ∧
   ((ByteArray.mk #[48, 49, 50, 51, 52, 53, 54, 55, 56, 57, 65, 66, 67, 68, 69, 70]).extract (IntKind.u8.wrap ((n : Int).tdiv 16)).toNat (IntKind.u8.wrap (IntKind.u8.wrap ((n : Int).tdiv 16) + 1)).toNat).data.toList = [hexU (n / 16)] ∧
   ((ByteArray.mk #[48, 49, 50, 51, 52, 53, 54, 55, 56, 57, 65, 66, 67, 68, 69, 70]).extract ((n : Int).tmod 16).toNat (IntKind.u8.wrap ((n : Int).tmod 16 + 1)).toNat).data.toList = [hexU (n % 16)] := by decide +kernel
theorem bA_of {a : ByteArray} {l : List UInt8} (h : a.data.toList = l) : a = mkS l := by rw [← mkS_bl a, h]
theorem ext1 {l : List UInt8} {k : Nat} (h : k < l.length) : (mkS l).extract k (k + 1) = mkS [l.getD k 0] := by
 rw [mkS_ext, drop_getD h]
 congr 1
 rw [show k + 1 - k = 1 by omega]
 rfl
noncomputable abbrev R62 (n j : Nat) (env : Env) (H : Hp) : Res := rounds Tryz.prog (call' N53) (filt aL62z 0) n hL62z (bodyN 0 (codeOf Tryz.prog 62)) j env H (restN Tryz.prog (call' N53) (filt aL62z 0) n 0 (codeOf Tryz.prog 62) (endOf Tryz.prog 62 []))
theorem lo62 (n : Nat) (l : List UInt8) (hl : l.length ≤ 3000) : ∀ (j k : Nat) (acc : List UInt8), l.length < j + k → k ≤ l.length → acc.length ≤ 3 * k →
   R62 n j (mkEnv 49 [(0, .c (.str (mkS l))), (3, .c (.str (mkS acc))), (4, .c (.int .i64 (k : Int)))]) [] = some (.str (mkS (acc ++ (l.drop k).flatMap escB)), [])
 | 0, k, acc, hj, hk, ha => by omega
 | j + 1, k, acc, hj, hk, ha => by
   unfold R62
   rw [rounds_succ, nc62]
   simp only [atM, sizeM, natM, wrp1 (show k ≤ 100000 by omega), bif_dec]
   by_cases h1 : k < l.length
   · have h1' : (k : Int) < (l.length : Int) := by omega
     have h0 : (0 : Int) ≤ (k : Int) := by omega
     have e : l.drop k = l.getD k 0 :: l.drop (k + 1) := drop_getD h1
     rw [e, List.flatMap_cons]
     have ih := lo62 n l hl j (k + 1) (acc ++ escB (l.getD k 0)) (by omega) (by omega) (by have := esc_len (l.getD k 0); rw [List.length_append]; omega)
     unfold R62 at ih
     rw [← List.append_assoc, ← ih, ext1 h1]
     generalize hb : l.getD k 0 = b
     obtain ⟨f1, f2, f3, f4, f5, f6, f7⟩ := esc_r b.toNat b.toNat_lt
     rw [u8n] at f1
     have f6 := bA_of f6
     have f7 := bA_of f7
     have c1 : (k : Int) ≤ ((k + 1 : Nat) : Int) := by omega
     have c2 : ((k + 1 : Nat) : Int) ≤ (l.length : Int) := by omega
     simp only [if_pos h1', if_pos h0, if_pos c1, if_pos c2, f6, f7, if_pos f2, if_pos f3, if_pos f4, if_pos f5, mkS_app, sizeM]
     have q1 : ∀ x : List UInt8, x.length ≤ 3 → fitsS (acc.length + x.length) = true := fun x hx => fits_small (by omega)
     have e37 : (ByteArray.mk #[37]) = mkS [37] := rfl
     by_cases hk : keepB b = true
     · have e1 : escB b = [b] := by unfold escB; rw [if_pos hk]
       have r1 : fitsS (acc.length + [b].length) = true := fits_small (by simp; omega)
       rw [e1]
       rw [hk] at f1
       rw [r1]
       simp only [bif_tt]
       by_cases a1 : (97 : Int) ≤ (b.toNat : Int) ∧ (b.toNat : Int) ≤ 122 ∨ (65 : Int) ≤ (b.toNat : Int) ∧ (b.toNat : Int) ≤ 90
       · rw [if_pos a1]
       · rw [if_neg a1]
         rw [decide_eq_false a1, Bool.false_or] at f1
         by_cases a2 : (48 : Int) ≤ (b.toNat : Int) ∧ (b.toNat : Int) ≤ 57
         · rw [if_pos a2]
         · rw [if_neg a2]
           rw [decide_eq_false a2, Bool.false_or] at f1
           rw [f1, bif_tt]
     · have e1 : escB b = [37, hexU (b.toNat / 16), hexU (b.toNat % 16)] := by unfold escB; rw [if_neg hk]
       rw [Bool.eq_false_iff.2 hk, Bool.or_eq_false_iff, Bool.or_eq_false_iff] at f1
       rw [if_neg (of_decide_eq_false f1.1), if_neg (of_decide_eq_false f1.2.1), f1.2.2, bif_ff, e1, e37]
       simp only [mkS_app, sizeM, List.append_assoc, List.cons_append, List.nil_append]
       rw [fits_small (by simp; omega), fits_small (by simp; omega), fits_small (by simp; omega)]
       rfl
   · rw [if_neg (by omega), List.drop_of_length_le (by omega), List.flatMap_nil, List.append_nil]
theorem k62 (hg : OnGlobals I ng) (h : Known Tryz.prog I ng A23) : Known Tryz.prog I ng N62 := known_add (k53 hg h) (contract_of aL62z hg (hok_of (k53 hg h)) fun cargs rv outs h => by
 unfold L53z at h
 split at h <;> first | (cases h; done) | skip
 rename_i s
 by_cases hs : s.size ≤ 3000
 · simp only [picked, pickAlt, decide_eq_true hs] at h
   cases h
   refine ⟨12000, loop1 rfl (by kernel_rfl) (by kernel_rfl) (by kernel_rfl) (hd := hL62z) (by kernel_rfl) ?_⟩
   obtain ⟨l, rfl⟩ : ∃ l, s = mkS l := ⟨_, (mkS_bl s).symm⟩
   rw [sizeM] at hs
   refine (nb62 (mkS l) 12000 (R62 12000 12000)).trans ?_
   refine (lo62 12000 l hs 12000 0 [] (by omega) (by omega) (by simp)).trans ?_
   unfold escS
   rw [dataM]
   rfl
 · simp only [picked, pickAlt, decide_eq_false hs] at h; cases h)
end Go.Pv
namespace Go.Pv
set_option maxRecDepth 100000
open Go Go.Proofs
variable {I : World → Prop} {ng : Nat}
theorem set_mid {α : Type} (A : List α) (b x : α) (D : List α) : (A ++ b :: D).set A.length x = A ++ x :: D := by
 induction A with
 | nil => rfl
 | cons a A ih => simp
theorem get_mid {α : Type} (A : List α) (b d : α) (D : List α) : (A ++ b :: D).getD A.length d = b := by
 induction A with
 | nil => rfl
 | cons a A ih => simp
def mixL (k : Nat) (l : List UInt8) : List UInt8 := lowL (l.take k) ++ l.drop k
theorem mixE (l : List UInt8) : mixL l.length l = lowL l := by unfold mixL; rw [List.take_length, List.drop_length, List.append_nil]
theorem low_len (l : List UInt8) : (lowL l).length = l.length := List.length_map ..
theorem mix_len (l : List UInt8) (k : Nat) (h : k ≤ l.length) : (mixL k l).length = l.length := by
 unfold mixL
 rw [List.length_append, low_len, List.length_take, List.length_drop]
 omega
theorem mix_f {l : List UInt8} {k : Nat} (h : k < l.length) : cb (mixL k l) = cb (lowL (l.take k)) ++ encByte (l.getD k 0) :: cb (l.drop (k + 1)) := by
 unfold mixL
 rw [drop_getD h, ← cb_app]
 rfl
theorem mix_f' {l : List UInt8} {k : Nat} (h : k < l.length) : cb (mixL (k + 1) l) = cb (lowL (l.take k)) ++ encByte (lowB (l.getD k 0)) :: cb (l.drop (k + 1)) := by
 unfold mixL
 rw [List.take_add_one, List.getElem?_eq_getElem h]
 have e : l.getD k 0 = l[k] := by rw [List.getD_eq_getElem?_getD, List.getElem?_eq_getElem h]; rfl
 rw [e]
 unfold lowL
 rw [List.map_append, List.append_assoc, ← cb_app]
 rfl
theorem mix_k {l : List UInt8} {k : Nat} (h : k < l.length) : (cb (lowL (l.take k))).length = k := by
 rw [cb_len, low_len, List.length_take]; omega
theorem mix_get {l : List UInt8} {k : Nat} (h : k < l.length) : (cb (mixL k l)).getD k .nilptr = encByte (l.getD k 0) := by
 rw [mix_f h]
 have := get_mid (cb (lowL (l.take k))) (encByte (l.getD k 0)) .nilptr (cb (l.drop (k + 1)))
 rw [mix_k h] at this
 exact this
theorem mix_set {l : List UInt8} {k : Nat} (h : k < l.length) : (cb (mixL k l)).set k (encByte (lowB (l.getD k 0))) = cb (mixL (k + 1) l) := by
 rw [mix_f h, mix_f' h]
 have := set_mid (cb (lowL (l.take k))) (encByte (l.getD k 0)) (encByte (lowB (l.getD k 0))) (cb (l.drop (k + 1)))
 rw [mix_k h] at this
 exact this
theorem mix_same {l : List UInt8} {k : Nat} (h : k < l.length) (hb : lowB (l.getD k 0) = l.getD k 0) : cb (mixL (k + 1) l) = cb (mixL k l) := by
 rw [mix_f h, mix_f' h, hb]
theorem enc_cl (b : UInt8) : (encByte b).cl = [encByte b] := rfl
theorem enc_int (b : UInt8) : (encByte b).toInt = (b.toNat : Int) := rfl
theorem enc_ok (b : UInt8) : okc (CV.int IntKind.u8 0) (encByte b) = true := rfl
theorem enc_0 (b : UInt8) : [encByte b].getD 0 CV.nilptr = encByte b := rfl
theorem lowB_z : ∀ n : Nat, n < 256 → (65 ≤ n ∧ n ≤ 90 → IntKind.u8.wrap (IntKind.u8.wrap ((n : Int) + 97) - 65) = ((lowB (UInt8.ofNat n)).toNat : Int) ∧ IntKind.u8.wrap ((n : Int) + 32) = ((lowB (UInt8.ofNat n)).toNat : Int)) := by decide +kernel
theorem lowB_no {b : UInt8} (h : ¬ (65 ≤ b.toNat ∧ b.toNat ≤ 90)) : lowB b = b := by unfold lowB; rw [if_neg h]
noncomputable abbrev R26z (n j : Nat) (env : Env) (H : Hp) : Res := rounds Tryz.prog (call' N62) (filt aL26z 0) n hL26z (bodyN 0 (codeOf Tryz.prog 26)) j env H (restN Tryz.prog (call' N62) (filt aL26z 0) n 0 (codeOf Tryz.prog 26) (endOf Tryz.prog 26 []))
theorem lo26z (n : Nat) (l : List UInt8) (hl : l.length ≤ 10000) : ∀ (j k : Nat), l.length < j + k → k ≤ l.length →
   R26z n j (mkEnv 30 [(3, .rw 0 0), (8, .rw 0 0), (9, .c (.int .i64 (l.length : Int))), (10, .c (.int .i64 (k : Int)))]) [.row (cb (mixL k l)) 1 0 false] = some (.str (mkS (lowL l)), [])
 | 0, k, hj, hk => by omega
 | j + 1, k, hj, hk => by
   unfold R26z
   rw [rounds_succ, nc26]
   by_cases h1 : k < l.length
   · have ih := lo26z n l hl j (k + 1) (by omega) (by omega)
     unfold R26z at ih
     have a1 : (k : Int) < (l.length : Int) := by omega
     have a0 : (0 : Int) ≤ (k : Int) := by omega
     have hm := mix_len l k hk
     simp only [natM, cb_len, hm, mix_get h1, enc_cl, enc_0, enc_ok, enc_int, sz5z, wrp1 (show k ≤ 100000 by omega), bif_dec, bif_tt, if_pos a1, if_pos a0, if_pos h1]
     rw [if_pos (show 0 < [encByte (l.getD k 0)].length by simp), ← ih]
     have f2 := lowB_z (l.getD k 0).toNat (l.getD k 0).toNat_lt
     rw [u8n] at f2
     have hset := mix_set h1
     have hsame := mix_same h1
     generalize l.getD k 0 = b at *
     by_cases b1 : 65 ≤ b.toNat
     · rw [if_pos (show (b.toNat : Int) ≥ 65 by omega)]
       by_cases b2 : b.toNat ≤ 90
       · rw [if_pos (show (b.toNat : Int) ≤ 90 by omega), if_pos (show True ∧ True from ⟨trivial, trivial⟩), (f2 ⟨b1, b2⟩).1, ← hset]
         rfl
       · rw [if_neg (show ¬ (b.toNat : Int) ≤ 90 by omega), hsame (lowB_no (by omega))]
     · rw [if_neg (show ¬ (b.toNat : Int) ≥ 65 by omega), hsame (lowB_no (by omega))]
   · have hk' : k = l.length := by omega
     subst hk'
     rw [bif_f _ _ (decide_eq_false (by omega)), mixE, cb_u8, bif_tt, cb_back]
theorem low_S (l : List UInt8) : lowS (mkS l) = mkS (lowL l) := by unfold lowS; rw [dataM]
theorem k26 (hg : OnGlobals I ng) (h : Known Tryz.prog I ng A23) : Known Tryz.prog I ng N26 := known_add (k62 hg h) (contract_of aL26z hg (hok_of (k62 hg h)) fun cargs rv outs h => by
 unfold L26z at h
 split at h <;> first | (cases h; done) | skip
 rename_i s
 by_cases hs : s.size ≤ 10000
 · simp only [picked, pickAlt, decide_eq_true hs] at h
   cases h
   refine ⟨12000, loop1 rfl (by kernel_rfl) (by kernel_rfl) (by kernel_rfl) (hd := hL26z) (by kernel_rfl) ?_⟩
   obtain ⟨l, rfl⟩ : ∃ l, s = mkS l := ⟨_, (mkS_bl s).symm⟩
   rw [sizeM] at hs
   refine (nb26 (mkS l) 12000 (R26z 12000 12000)).trans ?_
   rw [cb_str, cb_len, low_S]
   exact lo26z 12000 l hs 12000 0 (by omega) (by omega)
 · simp only [picked, pickAlt, decide_eq_false hs] at h; cases h)
noncomputable abbrev R33z (n j : Nat) (env : Env) (H : Hp) : Res := rounds Tryz.prog (call' N26) (filt aL33z 0) n hL33z (bodyN 0 (codeOf Tryz.prog 33)) j env H (restN Tryz.prog (call' N26) (filt aL33z 0) n 0 (codeOf Tryz.prog 33) (endOf Tryz.prog 33 []))
theorem lo33z (n : Nat) (l : List UInt8) (hl : l.length ≤ 10000) : ∀ (j k : Nat), l.length < j + k → k ≤ l.length →
   R33z n j (mkEnv 35 [(3, .rw 0 0), (4, .c (.int .i64 (k : Int)))]) [.row (cb (mixL k l)) 1 0 false] = some (.str (mkS (lowL l)), [])
 | 0, k, hj, hk => by omega
 | j + 1, k, hj, hk => by
   unfold R33z
   rw [rounds_succ, nc33]
   have hm := mix_len l k hk
   by_cases h1 : k < l.length
   · have ih := lo33z n l hl j (k + 1) (by omega) (by omega)
     unfold R33z at ih
     have a1 : (k : Int) < (l.length : Int) := by omega
     have a0 : (0 : Int) ≤ (k : Int) := by omega
     have a2 : 0 < [encByte (l.getD k 0)].length := by simp
     simp only [natM, cb_len, hm, mix_get h1, enc_cl, enc_0, enc_ok, enc_int, sz5z, wrp1 (show k ≤ 100000 by omega), bif_dec, bif_tt, if_pos a1, if_pos a0, if_pos h1, if_pos a2]
     rw [← ih]
     have f2 := lowB_z (l.getD k 0).toNat (l.getD k 0).toNat_lt
     rw [u8n] at f2
     have hset := mix_set h1
     have hsame := mix_same h1
     generalize l.getD k 0 = b at *
     by_cases b1 : 65 ≤ b.toNat
     · rw [if_pos (show (b.toNat : Int) ≥ 65 by omega)]
       by_cases b2 : b.toNat ≤ 90
       · rw [if_pos (show (b.toNat : Int) ≤ 90 by omega), if_pos (show True ∧ True from ⟨trivial, trivial⟩), (f2 ⟨b1, b2⟩).2, ← hset]
         rfl
       · rw [if_neg (show ¬ (b.toNat : Int) ≤ 90 by omega), hsame (lowB_no (by omega))]
     · rw [if_neg (show ¬ (b.toNat : Int) ≥ 65 by omega), hsame (lowB_no (by omega))]
   · have hk' : k = l.length := by omega
     subst hk'
     rw [bif_f _ _ (decide_eq_false (by rw [cb_len, hm]; omega)), mixE, cb_u8, bif_tt, cb_back]
theorem k33 (hg : OnGlobals I ng) (h : Known Tryz.prog I ng A23) : Known Tryz.prog I ng N33 := known_add (k26 hg h) (contract_of aL33z hg (hok_of (k26 hg h)) fun cargs rv outs h => by
 unfold L26z at h
 split at h <;> first | (cases h; done) | skip
 rename_i s
 by_cases hs : s.size ≤ 10000
 · simp only [picked, pickAlt, decide_eq_true hs] at h
   cases h
   refine ⟨12000, loop1 rfl (by kernel_rfl) (by kernel_rfl) (by kernel_rfl) (hd := hL33z) (by kernel_rfl) ?_⟩
   obtain ⟨l, rfl⟩ : ∃ l, s = mkS l := ⟨_, (mkS_bl s).symm⟩
   rw [sizeM] at hs
   refine (nb33 (mkS l) 12000 (R33z 12000 12000)).trans ?_
   rw [cb_str, low_S]
   exact lo33z 12000 l hs 12000 0 (by omega) (by omega)
 · simp only [picked, pickAlt, decide_eq_false hs] at h; cases h)
theorem sg_at {q : UInt8 → Prop} {p : UInt8 → UInt8 → Prop} {l : List UInt8} {k : Nat} (hk : k < l.length) (h : Sg q p (l.drop k)) :
   (l.getD k 0 ≠ 37 ∧ q (l.getD k 0) ∧ Sg q p (l.drop (k + 1))) ∨ (l.getD k 0 = 37 ∧ k + 3 ≤ l.length ∧ p (l.getD (k + 1) 0) (l.getD (k + 2) 0) ∧ Sg q p (l.drop (k + 3)) ∧ l.drop k = 37 :: l.getD (k + 1) 0 :: l.getD (k + 2) 0 :: l.drop (k + 3)) := by
 have e := drop_getD hk
 rw [e] at h
 generalize hc : l.getD k 0 = c at *
 generalize ht : l.drop (k + 1) = T at *
 cases h with
 | ch _ _ h1 h2 h3 => exact .inl ⟨h2, h1, h3⟩
 | esc a b t h1 h2 =>
   have hlen := congrArg List.length ht
   simp only [List.length_drop, List.length_cons] at hlen
   have e1 := drop_getD (show k + 1 < l.length by omega)
   have e2 := drop_getD (show k + 1 + 1 < l.length by omega)
   rw [ht] at e1
   rw [e2] at e1
   injection e1 with x1 x2
   injection x2 with x3 x4
   subst x1 x3 x4
   exact .inr ⟨rfl, by omega, h1, h2, e⟩
theorem un_val {a b : UInt8} (h : pS a b) : bytesOf [CV.int .u8 (16 * hx a.toNat + hx b.toNat)] = mkS [unB a b] := by
 have h1 : 0 ≤ hx a.toNat := of_decide_eq_true h.2.2.1
 have h2 : 0 ≤ hx b.toNat := of_decide_eq_true h.2.2.2
 have e1 := hexv_is h1
 have e2 := hexv_is h2
 have e : (16 * hx a.toNat + hx b.toNat).toNat = 16 * hexv a + hexv b := by omega
 show mkS [UInt8.ofNat ((16 * hx a.toNat + hx b.toNat).toNat)] = _
 rw [e]
 rfl
theorem esc_val (x : UInt8) : escS (mkS [x]) = mkS (escB x) := by
 unfold escS
 rw [dataM, List.flatMap_cons, List.flatMap_nil, List.append_nil]
theorem p_hex {a b : UInt8} (h : pS a b) : (decide (0 ≤ hx a.toNat) && decide (0 ≤ hx b.toNat)) = true := by
 have h1 : decide (0 ≤ hx a.toNat) = true := h.2.2.1
 have h2 : decide (0 ≤ hx b.toNat) = true := h.2.2.2
 rw [h1, h2]; rfl
noncomputable abbrev R28z (n j : Nat) (env : Env) (H : Hp) : Res := rounds Tryz.prog (call' N33) (filt aL53z 0) n hL53z (bodyN 0 (codeOf Tryz.prog 28)) j env H (restN Tryz.prog (call' N33) (filt aL53z 0) n 0 (codeOf Tryz.prog 28) (endOf Tryz.prog 28 []))
theorem b37 (c : UInt8) : (((c.toNat : Nat) : Int) == 37) = decide (c = 37) := by
 rw [Bool.eq_iff_iff, decide_eq_true_iff]
 exact beq_iff_eq.trans (u8_int (a := c) (b := 37))
theorem two0 (a b : UInt8) : ([a, b] : List UInt8).getD 0 0 = a := rfl
theorem two1 (a b : UInt8) : ([a, b] : List UInt8).getD 1 0 = b := rfl
theorem two_l (a b : UInt8) : ([a, b] : List UInt8).length = 2 := rfl
theorem lo28z (n : Nat) (l : List UInt8) (hl : l.length ≤ 4000) : ∀ (j k : Nat) (acc : List UInt8), l.length < j + k → k ≤ l.length → acc.length ≤ k → Sg qS pS (l.drop k) →
   R28z n j (mkEnv 42 [(0, .c (.str (mkS l))), (3, .rw 0 0), (4, .c (.int .i64 (k : Int)))]) [.row (cb acc) 1 0 false] = some (.str (mkS (acc ++ tidL (l.drop k))), [])
 | 0, k, acc, hj, hk, ha, hs => by omega
 | j + 1, k, acc, hj, hk, ha, hs => by
   unfold R28z
   rw [rounds_succ, nc28]
   have w1 : IntKind.i64.wrap ((k : Int) + 1) = ((k + 1 : Nat) : Int) := wrp1 (by omega)
   have w3 : IntKind.i64.wrap ((k : Int) + 3) = ((k + 3 : Nat) : Int) := wrp (i := k) (k := 3) (by omega) (by omega)
   have w2 : IntKind.i64.wrap (IntKind.i64.wrap ((k : Int) + 2) + 1) = ((k + 3 : Nat) : Int) := by
     rw [show IntKind.i64.wrap ((k : Int) + 2) = ((k + 2 : Nat) : Int) from wrp (i := k) (k := 2) (by omega) (by omega)]
     exact wrp1 (i := k + 2) (by omega)
   by_cases h1 : k < l.length
   · have a1 : (k : Int) < (l.length : Int) := by omega
     have a0 : (0 : Int) ≤ (k : Int) := by omega
     have a2 : (0 : Int) ≤ ((k + 1 : Nat) : Int) := by omega
     have a3 : ((k + 1 : Nat) : Int) ≤ ((k + 3 : Nat) : Int) := by omega
     rcases sg_at h1 hs with ⟨c1, c2, c3⟩ | ⟨c1, c2, c3, c4, c5⟩
     · have ih := lo28z n l hl j (k + 1) (acc ++ [l.getD k 0]) (by omega) (by omega) (by rw [List.length_append]; simp; omega) c3
       unfold R28z at ih
       have e : tidL (l.drop k) = [l.getD k 0] ++ tidL (l.drop (k + 1)) := by
         rw [drop_getD h1]
         exact tidG_ch _ _ c1
       have a4 : (acc.length + [CV.int IntKind.u8 ((l.getD k 0).toNat : Int)].length) * 1 ≤ 70368744177664 := by simp; omega
       rw [e, ← List.append_assoc, ← ih, ← cb_app]
       simp only [atM, sizeM, natM, w1, by5z, rep1z, cb_len, bif_dec, bne, b37, if_pos a1, if_pos a0, if_pos a4]
       rw [decide_eq_false c1]
       rfl
     · have ih := lo28z n l hl j (k + 3) (acc ++ esc2 (l.getD (k + 1) 0) (l.getD (k + 2) 0)) (by omega) (by omega) (by have := esc_len (unB (l.getD (k + 1) 0) (l.getD (k + 2) 0)); rw [List.length_append]; unfold esc2; omega) c4
       unfold R28z at ih
       have e : tidL (l.drop k) = esc2 (l.getD (k + 1) 0) (l.getD (k + 2) 0) ++ tidL (l.drop (k + 3)) := by
         rw [c5]
         exact tidG_esc _ _
       have a5 : ((k + 3 : Nat) : Int) ≤ (l.length : Int) := by omega
       have a4 : (acc.length + (escB (unB (l.getD (k + 1) 0) (l.getD (k + 2) 0))).length) * 1 ≤ 70368744177664 := by
         have := esc_len (unB (l.getD (k + 1) 0) (l.getD (k + 2) 0)); omega
       rw [e, ← List.append_assoc, ← ih, ← cb_app]
       simp only [natM, w1, w2, w3, ext2 c2]
       simp only [atM, sizeM, natM, by5z, two0, two1, two_l, un_val c3, esc_val, cb_str, cb_len, bif_dec, bne, b37, if_pos a1, if_pos a0, if_pos a2, if_pos a3, if_pos a5, if_pos a4, p_hex c3]
       rw [decide_eq_true c1]
       rfl
   · rw [bif_f _ _ (decide_eq_false (by rw [sizeM]; omega)), List.drop_of_length_le (by omega), cb_u8, bif_tt, cb_back]
     show _ = some (CV.str (mkS (acc ++ [])), [])
     rw [List.append_nil]
theorem tid_S (l : List UInt8) : tidS (mkS l) = mkS (tidL l) := by unfold tidS; rw [dataM]
theorem st_S (l : List UInt8) : stS (mkS l) = stL l := by unfold stS; rw [dataM]
theorem k28 (hg : OnGlobals I ng) (h : Known Tryz.prog I ng A23) : Known Tryz.prog I ng N28 := known_add (k33 hg h) (contract_of aL53z hg (hok_of (k33 hg h)) fun cargs rv outs h => by
 unfold L28z at h
 split at h <;> first | (cases h; done) | skip
 rename_i s
 obtain ⟨l, rfl⟩ : ∃ l, s = mkS l := ⟨_, (mkS_bl s).symm⟩
 cases hc : decide ((mkS l).size ≤ 4000) && stS (mkS l) with
 | false => simp only [picked, pickAlt, hc] at h; cases h
 | true =>
   simp only [picked, pickAlt, hc] at h
   cases h
   rw [Bool.and_eq_true, decide_eq_true_iff, sizeM, st_S, st_iff] at hc
   refine ⟨12000, loop1 rfl (by kernel_rfl) (by kernel_rfl) (by kernel_rfl) (hd := hL53z) (by kernel_rfl) ?_⟩
   refine (nb28 (mkS l) 12000 (R28z 12000 12000)).trans ?_
   rw [tid_S]
   exact lo28z 12000 l hc.1 12000 0 [] (by omega) (by omega) (by simp) hc.2)
def tidB (b : Bool) (l : List UInt8) : List UInt8 := if b = true then tidH l else tidL l
noncomputable abbrev R34z (n j : Nat) (env : Env) (H : Hp) : Res := rounds Tryz.prog (call' N28) (filt aL34z 0) n hL34z (bodyN 0 (codeOf Tryz.prog 34)) j env H (restN Tryz.prog (call' N28) (filt aL34z 0) n 0 (codeOf Tryz.prog 34) (endOf Tryz.prog 34 []))
theorem lo34z (n : Nat) (l : List UInt8) (b : Bool) (hl : l.length ≤ 4000) : ∀ (j k : Nat) (acc : List UInt8), l.length < j + k → k ≤ l.length → acc.length ≤ k → Sg qS pS (l.drop k) →
   R34z n j (mkEnv 55 [(0, .c (.str (mkS l))), (1, .c (.bool b)), (5, .c (.str (mkS acc))), (6, .c (.int .i64 (k : Int)))]) [] = some (.str (mkS (acc ++ tidB b (l.drop k))), [])
 | 0, k, acc, hj, hk, ha, hs => by omega
 | j + 1, k, acc, hj, hk, ha, hs => by
   unfold R34z
   rw [rounds_succ, nc34]
   have w1 : IntKind.i64.wrap ((k : Int) + 1) = ((k + 1 : Nat) : Int) := wrp1 (by omega)
   have w3 : IntKind.i64.wrap ((k : Int) + 3) = ((k + 3 : Nat) : Int) := wrp (i := k) (k := 3) (by omega) (by omega)
   have w2 : IntKind.i64.wrap (IntKind.i64.wrap ((k : Int) + 2) + 1) = ((k + 3 : Nat) : Int) := by
     rw [show IntKind.i64.wrap ((k : Int) + 2) = ((k + 2 : Nat) : Int) from wrp (i := k) (k := 2) (by omega) (by omega)]
     exact wrp1 (i := k + 2) (by omega)
   by_cases h1 : k < l.length
   · have a1 : (k : Int) < (l.length : Int) := by omega
     have a0 : (0 : Int) ≤ (k : Int) := by omega
     have a2 : (0 : Int) ≤ ((k + 1 : Nat) : Int) := by omega
     have a3 : ((k + 1 : Nat) : Int) ≤ ((k + 3 : Nat) : Int) := by omega
     have a6 : (k : Int) ≤ ((k + 1 : Nat) : Int) := by omega
     have a7 : ((k + 1 : Nat) : Int) ≤ (l.length : Int) := by omega
     rcases sg_at h1 hs with ⟨c1, c2, c3⟩ | ⟨c1, c2, c3, c4, c5⟩
     · have e : tidB b (l.drop k) = (if b = true then [lowB (l.getD k 0)] else [l.getD k 0]) ++ tidB b (l.drop (k + 1)) := by
         rw [drop_getD h1]
         cases b
         · exact tidG_ch _ _ c1
         · exact tidG_ch _ _ c1
       have ih := lo34z n l b hl j (k + 1) (acc ++ (if b = true then [lowB (l.getD k 0)] else [l.getD k 0])) (by omega) (by omega) (by rw [List.length_append]; split <;> simp <;> omega) c3
       unfold R34z at ih
       rw [e, ← List.append_assoc, ← ih]
       simp only [natM, w1, ext1 h1]
       simp only [atM, sizeM, natM, bif_dec, b37, low_S, low_len, mkS_app, if_pos a1, if_pos a0, if_pos a6, if_pos a7]
       have f1 : fitsS (acc.length + [l.getD k 0].length) = true := fits_small (by simp; omega)
       have f2 : [l.getD k 0].length ≤ 10000 := by simp
       rw [if_neg c1, f1, if_pos f2]
       cases b
       · rfl
       · rfl
     · have e : tidB b (l.drop k) = (if b = true then esc3 (l.getD (k + 1) 0) (l.getD (k + 2) 0) else esc2 (l.getD (k + 1) 0) (l.getD (k + 2) 0)) ++ tidB b (l.drop (k + 3)) := by
         rw [c5]
         cases b
         · exact tidG_esc _ _
         · exact tidG_esc _ _
       have hl3 := esc_len (unB (l.getD (k + 1) 0) (l.getD (k + 2) 0))
       have ih := lo34z n l b hl j (k + 3) (acc ++ (if b = true then esc3 (l.getD (k + 1) 0) (l.getD (k + 2) 0) else esc2 (l.getD (k + 1) 0) (l.getD (k + 2) 0))) (by omega) (by omega) (by
         rw [List.length_append]
         have : (if b = true then esc3 (l.getD (k + 1) 0) (l.getD (k + 2) 0) else esc2 (l.getD (k + 1) 0) (l.getD (k + 2) 0)).length ≤ 3 := by
           cases b
           · exact hl3
           · show (esc3 _ _).length ≤ 3
             unfold esc3 esc2
             split
             · exact hl3
             · rw [low_len]; exact hl3
         omega) c4
       unfold R34z at ih
       have a5 : ((k + 3 : Nat) : Int) ≤ (l.length : Int) := by omega
       rw [e, ← List.append_assoc, ← ih]
       simp only [natM, w1, w2, w3, ext2 c2]
       simp only [atM, sizeM, natM, two0, two1, two_l, un_val c3, esc_val, low_S, low_len, mkS_app, bif_dec, b37, if_pos a1, if_pos a0, if_pos a2, if_pos a3, if_pos a5, if_pos a6, if_pos a7, p_hex c3]
       have f1 : fitsS (acc.length + (escB (unB (l.getD (k + 1) 0) (l.getD (k + 2) 0))).length) = true := fits_small (by omega)
       have f2 : (escB (unB (l.getD (k + 1) 0) (l.getD (k + 2) 0))).length ≤ 10000 := by omega
       rw [if_pos c1, f1, if_pos f2, show (decide True && true) = true from rfl, bif_tt]
       cases b
       · rfl
       · show bif' (!decide (_ > (1 : Int))) _ _ = _
         unfold esc3
         by_cases hq : 1 < (esc2 (l.getD (k + 1) 0) (l.getD (k + 2) 0)).length
         · have hq' : (((escB (unB (l.getD (k + 1) 0) (l.getD (k + 2) 0))).length : Nat) : Int) > 1 := by unfold esc2 at hq; omega
           rw [decide_eq_true hq', if_pos hq]
           rfl
         · have hq' : ¬ (((escB (unB (l.getD (k + 1) 0) (l.getD (k + 2) 0))).length : Nat) : Int) > 1 := by unfold esc2 at hq; omega
           rw [decide_eq_false hq', if_neg hq]
           rfl
   · rw [bif_f _ _ (decide_eq_false (by rw [sizeM]; omega)), List.drop_of_length_le (by omega)]
     have : tidB b [] = [] := by cases b <;> rfl
     rw [this, List.append_nil]
theorem tidH_S (l : List UInt8) : tidHS (mkS l) = mkS (tidH l) := by unfold tidHS; rw [dataM]
theorem v34 (l : List UInt8) (b : Bool) (hl : l.length ≤ 4000) (hs : Sg qS pS l) : abody Tryz.prog (call' N28) aL34z 12000 34 [.str (mkS l), .bool b] = some (.str (mkS (tidB b l)), []) := by
 refine loop1 rfl (by kernel_rfl) (by kernel_rfl) (by kernel_rfl) (hd := hL34z) (by kernel_rfl) ?_
 refine (nb34 (mkS l) b 12000 (R34z 12000 12000)).trans ?_
 exact lo34z 12000 l b hl 12000 0 [] (by omega) (by omega) (by simp) hs
theorem k34 (hg : OnGlobals I ng) (h : Known Tryz.prog I ng A23) : Known Tryz.prog I ng N34 := known_add (k28 hg h) (contract_of aL34z hg (hok_of (k28 hg h)) fun cargs rv outs h => by
 unfold L34z at h
 split at h <;> first | (cases h; done) | skip
 all_goals
   rename_i s
   obtain ⟨l, rfl⟩ : ∃ l, s = mkS l := ⟨_, (mkS_bl s).symm⟩
   cases hc : decide ((mkS l).size ≤ 4000) && stS (mkS l) with
   | false => simp only [picked, pickAlt, hc] at h; cases h
   | true =>
     simp only [picked, pickAlt, hc] at h
     cases h
     rw [Bool.and_eq_true, decide_eq_true_iff, sizeM, st_S, st_iff] at hc
     first | rw [tidH_S] | rw [tid_S]
     exact ⟨12000, v34 l _ hc.1 hc.2⟩)
end Go.Pv
namespace Go.Pv
open Go Go.Proofs
def isStrC : CV → Bool
 | .str _ => true
 | _ => false
def partsOf (xs : List CV) : List (List UInt8) := xs.map fun x => x.toStr.data.toList
def joinCV (xs : List CV) (sep : ByteArray) : ByteArray := ⟨(Lib.join (partsOf xs) sep.data.toList).toArray⟩
def FJoin : Fn1 := fun cargs => match cargs with
 | [.sl _ _ 1 xs, .str sep] => some [(xs.all isStrC && (decide (xs.length ≤ 140737488355328) && decide ((Lib.join (partsOf xs) sep.data.toList).length ≤ 140737488355328)), .str (joinCV xs sep), [])]
 | [.nilsl, .str sep] => some [(true, .str ⟨#[]⟩, [])]
 | _ => none
theorem strs_flat : ∀ {xs : List CV}, xs.all isStrC = true → elemCells xs = xs
 | [], _ => rfl
 | x :: xs, h => by
   simp only [List.all_cons, Bool.and_eq_true] at h
   have ih := strs_flat h.2
   cases x <;> simp [isStrC] at h
   show _ :: elemCells xs = _
   rw [ih]
theorem strs_cells {S : St} : ∀ {xs : List CV} {vs : List Value}, All2 (Vc S) xs vs → xs.all isStrC = true → vs = xs.map fun x => .string x.toStr
 | [], _, .nil, _ => rfl
 | x :: xs, _, .cons h1 h2, h => by
   simp only [List.all_cons, Bool.and_eq_true] at h
   have ih := strs_cells h2 h.2
   cases x <;> simp [isStrC] at h
   cases h1
   simp [ih, CV.toStr]
theorem c39 {I : World → Prop} {ng : Nat} (hg : OnGlobals I ng) : Contract Tryz.prog I ng 39 FJoin := contract_pure hg fun cargs rv outs h => by
 unfold FJoin at h
 split at h <;> first | (cases h; done) | skip
 · rename_i own full xs sep
   cases hc : (xs.all isStrC && (decide (xs.length ≤ 140737488355328) && decide ((Lib.join (partsOf xs) sep.data.toList).length ≤ 140737488355328))) with
   | false => rw [hc] at h; cases h
   | true =>
     rw [hc] at h
     cases h
     simp only [Bool.and_eq_true, decide_eq_true_eq] at hc
     obtain ⟨hs, hN, hlen⟩ := hc
     refine ⟨rfl, rfl, fun S vals ok hv => ?_⟩
     obtain ⟨l⟩ := vals
     cases hv with
     | cons h1 h2 =>
       cases h2 with
       | cons h2 h3 =>
         cases h3
         cases h2
         rename_i v1
         have fin : ∀ S' : St, Vc S' (.str (joinCV xs sep)) (.string (joinCV xs sep)) := fun S' => .str _
         cases h1 with
         | sl full k xs a c vs q1 q2 q3 q4 q5 =>
           rw [strs_flat hs] at q2
           have hvs := strs_cells q2 hs
           by_cases hx : xs = []
           · subst hx
             refine (Tryz.strings_Join_none (some a) c sep S.w).mono ?_
             rintro e w' ⟨rfl, rfl⟩
             exact ⟨_, rfl, .inl fin, RowKit.Below.refl _ _⟩
           · have hpos : 0 < xs.length := by cases xs with | nil => exact absurd rfl hx | cons _ _ => simp
             obtain ⟨x0, hx0⟩ : ∃ x, xs[0]? = some x := ⟨xs[0], by simp [hpos]⟩
             have hr0 := q3 0 (.string x0.toStr) (by rw [hvs, List.getElem?_map, hx0]; rfl)
             obtain ⟨bk, o, spot⟩ := a
             have hsp : spot = none := hr0.1
             subst hsp
             have := Tryz.strings_Join bk o c (xs.map CV.toStr) sep S.w (fun j x hj => by
                 rw [List.getElem?_map] at hj
                 cases hxj : xs[j]? with
                 | none => rw [hxj] at hj; cases hj
                 | some y =>
                   rw [hxj] at hj
                   cases hj
                   exact (q3 j (.string y.toStr) (by rw [hvs, List.getElem?_map, hxj]; rfl)).2.2.1) (World.block_lt_of_cell? S.w _ hr0.2.2.1) (by simpa using hN) (by simpa using q4) (by rw [List.map_map]; exact hlen)
             rw [List.length_map, List.map_map] at this
             refine this.mono ?_
             rintro e w' ⟨rfl, hb⟩
             exact ⟨_, rfl, .inl fin, hb⟩
         | slnil k =>
           refine (Tryz.strings_Join_none none 0 sep S.w).mono ?_
           rintro e w' ⟨rfl, rfl⟩
           exact ⟨_, rfl, .inl fin, RowKit.Below.refl _ _⟩
 · rename_i sep
   cases h
   refine ⟨rfl, rfl, fun S vals ok hv => ?_⟩
   obtain ⟨l⟩ := vals
   cases hv with
   | cons h1 h2 =>
     cases h2 with
     | cons h2 h3 =>
       cases h3
       cases h2
       cases h1
       refine (Tryz.strings_Join_none none 0 sep S.w).mono ?_
       rintro e w' ⟨rfl, rfl⟩
       exact ⟨_, rfl, .inl fun S' => .str _, RowKit.Below.refl _ _⟩
end Go.Pv
namespace Go.Pv
set_option maxRecDepth 100000
open Go Go.Proofs
def pre (s p : ByteArray) : Bool := decide (p.size ≤ s.size) && (s.extract 0 p.size).toList == p.toList
def joinLen (xs : List CV) (sep : ByteArray) : Nat := (Lib.join (partsOf xs) sep.data.toList).length
def P36 : Fn1 := fun x => match x with
 | [.str s, .str p] => some [(true, .bool (pre s p), [])]
 | _ => none
def P37 : Fn1 := fun x => match x with
 | [.str s, .str p] => some [(pre s p, .str (s.extract p.size s.size), []), (true, .str s, [])]
 | _ => none
def P38 : Fn1 := fun x => match x with
 | [.str s, .int .u8 c] => some [(true, .int .i64 (Lib.indexByte s.data.toList c.toNat.toUInt8), [])]
 | _ => none
def PJoin : Fn1 := fun cargs => match cargs with
 | [.sl _ _ 1 xs, .str sep] => some [(xs.all isStrC && (decide (xs.length ≤ 140737488355328) && decide (joinLen xs sep ≤ 140737488355328)), .str (joinCV xs sep), [])]
 | [.nilsl, .str sep] => some [(true, .str ⟨#[]⟩, [])]
 | _ => none
def U0 : Table := fun _ _ => none
def U65 : Table := fun g => if Nat.beq g 65 then P38 else U0 g
def U63 : Table := fun g => if Nat.beq g 63 then P36 else U65 g
def U64 : Table := fun g => if Nat.beq g 64 then P37 else U63 g
def U36 : Table := fun g => if Nat.beq g 36 then P36 else U64 g
def U37 : Table := fun g => if Nat.beq g 37 then P37 else U36 g
def U38 : Table := fun g => if Nat.beq g 38 then P38 else U37 g
def U39 : Table := fun g => if Nat.beq g 39 then PJoin else U38 g
def an19 : Ann := fun i => if Nat.beq i 2 then some ⟨[0, 3], [(3, 1)], 0⟩ else none
theorem tree65 (s : ByteArray) (c : Int) : abody Tryz.prog (call' U0) (fun _ => none) 1 65 [.str s, .int .u8 c] =
 some (CV.int .i64 (Lib.indexByte s.data.toList c.toNat.toUInt8), []) := by kernel_rfl
theorem tree63 (s p : ByteArray) : abody Tryz.prog (call' U65) (fun _ => none) 1 63 [.str s, .str p] =
 bif' (decide ((↑s.size : Int) ≥ (↑p.size : Int))) (bif' (decide ((↑p.size : Int) ≤ (↑s.size : Int))) (some (CV.bool ((s.extract (Int.toNat 0) (↑p.size : Int).toNat).toList == p.toList), [])) none) (some (CV.bool false, [])) := by kernel_rfl
theorem tree64 (s p : ByteArray) : abody Tryz.prog (call' U63) (fun _ => none) 1 64 [.str s, .str p] =
 bif' (pre s p) (bif' (decide ((↑p.size : Int) ≤ (↑s.size : Int))) (bif' (decide ((↑s.size : Int) ≤ (↑s.size : Int))) (some (CV.str (s.extract (↑p.size : Int).toNat (↑s.size : Int).toNat), [])) none) none) (some (CV.str s, [])) := by kernel_rfl
theorem tree36 (s p : ByteArray) : abody Tryz.prog (call' U64) (fun _ => none) 1 36 [.str s, .str p] =
 some (CV.bool (pre s p), []) := by kernel_rfl
theorem tree37 (s p : ByteArray) : abody Tryz.prog (call' U36) (fun _ => none) 1 37 [.str s, .str p] =
 bif' (pre s p) (some (CV.str (s.extract p.size s.size), [])) (some (CV.str s, [])) := by kernel_rfl
theorem tree38 (s : ByteArray) (c : Int) : abody Tryz.prog (call' U37) (fun _ => none) 1 38 [.str s, .int .u8 c] =
 some (CV.int .i64 (Lib.indexByte s.data.toList c.toNat.toUInt8), []) := by kernel_rfl
theorem before19 (s : ByteArray) (n : Nat) (L : Env → Hp → Res) : before Tryz.prog (call' U39) (filt an19 0) n (codeOf Tryz.prog 19) (envOf Tryz.prog 19 [.c (.str s)]) [] L (endOf Tryz.prog 19 []) =
 L (mkEnv 66 [(0, .c (CV.str s)), (2, .c (CV.str (ByteArray.mk (Array.mk [])))), (3, .c CV.nilsl)]) [] := by kernel_rfl
theorem round19 (s : ByteArray) (n : Nat) (xs : List CV) (R : Env → Hp → Res) : round Tryz.prog (call' U39) (filt an19 0) n ⟨[0, 3], [(3, 1)], 0⟩ (codeOf Tryz.prog 19) (mkEnv 66 [(0, .c (.str s)), (3, .rw 0 0)]) [.row xs 1 0 false] R (endOf Tryz.prog 19 []) =
 bif' (!s.toList == (ByteArray.mk #[]).toList) (bif' (pre s (ByteArray.mk #[46, 46, 47])) (bif' (decide (3 ≤ (↑s.size : Int))) (bif' (decide ((↑s.size : Int) ≤ (↑s.size : Int))) (R (mkEnv 66 [(0, .c (CV.str (s.extract (Int.toNat 3) (↑s.size : Int).toNat))), (3, .rw 0 0)]) [.row xs 1 0 false]) none) none) (bif' (pre s (ByteArray.mk #[46, 47])) (bif' (decide (2 ≤ (↑s.size : Int))) (bif' (decide ((↑s.size : Int) ≤ (↑s.size : Int))) (R (mkEnv 66 [(0, .c (CV.str (s.extract (Int.toNat 2) (↑s.size : Int).toNat))), (3, .rw 0 0)]) [.row xs 1 0 false]) none) none) (bif' (pre s (ByteArray.mk #[47, 46, 47])) (bif' (decide (2 ≤ (↑s.size : Int))) (bif' (decide ((↑s.size : Int) ≤ (↑s.size : Int))) (R (mkEnv 66 [(0, .c (CV.str (s.extract (Int.toNat 2) (↑s.size : Int).toNat))), (3, .rw 0 0)]) [.row xs 1 0 false]) none) none) (bif' (s.toList == (ByteArray.mk #[47, 46]).toList) (R (mkEnv 66 [(0, .c (CV.str (ByteArray.mk (Array.mk [(47 : UInt8)])))), (3, .rw 0 0)]) [.row xs 1 0 false]) (bif' (pre s (ByteArray.mk #[47, 46, 46, 47])) (bif' (decide (3 ≤ (↑s.size : Int))) (bif' (decide ((↑s.size : Int) ≤ (↑s.size : Int))) (bif' (pre (s.extract (Int.toNat 3) (↑s.size : Int).toNat) (ByteArray.mk #[47])) (bif' (fitsS ((ByteArray.mk #[47]).size + ((s.extract (Int.toNat 3) (↑s.size : Int).toNat).extract (ByteArray.mk #[47]).size (s.extract (Int.toNat 3) (↑s.size : Int).toNat).size).size)) (bif' (decide ((↑xs.length : Int) > 0)) (bif' (decide (0 ≤ IntKind.i64.wrap ((↑xs.length : Int) - 1))) (bif' (decide (IntKind.i64.wrap ((↑xs.length : Int) - 1) ≤ (↑xs.length : Int))) (R (mkEnv 66 [(0, .c (CV.str (ByteArray.mk #[47] ++ (s.extract (Int.toNat 3) (↑s.size : Int).toNat).extract (ByteArray.mk #[47]).size (s.extract (Int.toNat 3) (↑s.size : Int).toNat).size))), (3, .rw 0 0)]) [.row (List.take ((IntKind.i64.wrap ((↑xs.length : Int) - 1)).toNat - Int.toNat 0) xs) 1 0 false]) none) none) (R (mkEnv 66 [(0, .c (CV.str (ByteArray.mk #[47] ++ (s.extract (Int.toNat 3) (↑s.size : Int).toNat).extract (ByteArray.mk #[47]).size (s.extract (Int.toNat 3) (↑s.size : Int).toNat).size))), (3, .rw 0 0)]) [.row xs 1 0 false])) none) (bif' (fitsS ((ByteArray.mk #[47]).size + (s.extract (Int.toNat 3) (↑s.size : Int).toNat).size)) (bif' (decide ((↑xs.length : Int) > 0)) (bif' (decide (0 ≤ IntKind.i64.wrap ((↑xs.length : Int) - 1))) (bif' (decide (IntKind.i64.wrap ((↑xs.length : Int) - 1) ≤ (↑xs.length : Int))) (R (mkEnv 66 [(0, .c (CV.str (ByteArray.mk #[47] ++ s.extract (Int.toNat 3) (↑s.size : Int).toNat))), (3, .rw 0 0)]) [.row (List.take ((IntKind.i64.wrap ((↑xs.length : Int) - 1)).toNat - Int.toNat 0) xs) 1 0 false]) none) none) (R (mkEnv 66 [(0, .c (CV.str (ByteArray.mk #[47] ++ s.extract (Int.toNat 3) (↑s.size : Int).toNat))), (3, .rw 0 0)]) [.row xs 1 0 false])) none)) none) none) (bif' (s.toList == (ByteArray.mk #[47, 46, 46]).toList) (bif' (decide (3 ≤ (↑s.size : Int))) (bif' (decide ((↑s.size : Int) ≤ (↑s.size : Int))) (bif' (pre (s.extract (Int.toNat 3) (↑s.size : Int).toNat) (ByteArray.mk #[47])) (bif' (fitsS ((ByteArray.mk #[47]).size + ((s.extract (Int.toNat 3) (↑s.size : Int).toNat).extract (ByteArray.mk #[47]).size (s.extract (Int.toNat 3) (↑s.size : Int).toNat).size).size)) (bif' (decide ((↑xs.length : Int) > 0)) (bif' (decide (0 ≤ IntKind.i64.wrap ((↑xs.length : Int) - 1))) (bif' (decide (IntKind.i64.wrap ((↑xs.length : Int) - 1) ≤ (↑xs.length : Int))) (R (mkEnv 66 [(0, .c (CV.str (ByteArray.mk #[47] ++ (s.extract (Int.toNat 3) (↑s.size : Int).toNat).extract (ByteArray.mk #[47]).size (s.extract (Int.toNat 3) (↑s.size : Int).toNat).size))), (3, .rw 0 0)]) [.row (List.take ((IntKind.i64.wrap ((↑xs.length : Int) - 1)).toNat - Int.toNat 0) xs) 1 0 false]) none) none) (R (mkEnv 66 [(0, .c (CV.str (ByteArray.mk #[47] ++ (s.extract (Int.toNat 3) (↑s.size : Int).toNat).extract (ByteArray.mk #[47]).size (s.extract (Int.toNat 3) (↑s.size : Int).toNat).size))), (3, .rw 0 0)]) [.row xs 1 0 false])) none) (bif' (fitsS ((ByteArray.mk #[47]).size + (s.extract (Int.toNat 3) (↑s.size : Int).toNat).size)) (bif' (decide ((↑xs.length : Int) > 0)) (bif' (decide (0 ≤ IntKind.i64.wrap ((↑xs.length : Int) - 1))) (bif' (decide (IntKind.i64.wrap ((↑xs.length : Int) - 1) ≤ (↑xs.length : Int))) (R (mkEnv 66 [(0, .c (CV.str (ByteArray.mk #[47] ++ s.extract (Int.toNat 3) (↑s.size : Int).toNat))), (3, .rw 0 0)]) [.row (List.take ((IntKind.i64.wrap ((↑xs.length : Int) - 1)).toNat - Int.toNat 0) xs) 1 0 false]) none) none) (R (mkEnv 66 [(0, .c (CV.str (ByteArray.mk #[47] ++ s.extract (Int.toNat 3) (↑s.size : Int).toNat))), (3, .rw 0 0)]) [.row xs 1 0 false])) none)) none) none) (bif' (s.toList == (ByteArray.mk #[46]).toList) (R (mkEnv 66 [(0, .c (CV.str (ByteArray.mk (Array.mk [])))), (3, .rw 0 0)]) [.row xs 1 0 false]) (bif' (s.toList == (ByteArray.mk #[46, 46]).toList) (R (mkEnv 66 [(0, .c (CV.str (ByteArray.mk (Array.mk [])))), (3, .rw 0 0)]) [.row xs 1 0 false]) (bif' (decide (1 ≤ (↑s.size : Int))) (bif' (decide ((↑s.size : Int) ≤ (↑s.size : Int))) (bif' (IntKind.i64.wrap (Lib.indexByte (s.extract (Int.toNat 1) (↑s.size : Int).toNat).data.toList (Int.toNat 47).toUInt8 + 1) == 0) (bif' (decide ((↑s.size : Int) ≤ (↑s.size : Int))) (bif' (decide ((xs.length + ((List.replicate 1 (CV.str (ByteArray.mk #[]))).set 0 (CV.str (s.extract (Int.toNat 0) (↑s.size : Int).toNat))).length) * Tryz.prog.types[9].bytes ≤ 70368744177664)) (bif' (decide ((↑s.size : Int) ≤ (↑s.size : Int))) (bif' (decide ((↑s.size : Int) ≤ (↑s.size : Int))) (R (mkEnv 66 [(0, .c (CV.str (s.extract (↑s.size : Int).toNat (↑s.size : Int).toNat))), (3, .rw 0 0)]) [.row (xs ++ (List.replicate 1 (CV.str (ByteArray.mk #[]))).set 0 (CV.str (s.extract (Int.toNat 0) (↑s.size : Int).toNat))) 1 0 false]) none) none) none) none) (bif' (decide (0 ≤ IntKind.i64.wrap (Lib.indexByte (s.extract (Int.toNat 1) (↑s.size : Int).toNat).data.toList (Int.toNat 47).toUInt8 + 1))) (bif' (decide (IntKind.i64.wrap (Lib.indexByte (s.extract (Int.toNat 1) (↑s.size : Int).toNat).data.toList (Int.toNat 47).toUInt8 + 1) ≤ (↑s.size : Int))) (bif' (decide ((xs.length + ((List.replicate 1 (CV.str (ByteArray.mk #[]))).set 0 (CV.str (s.extract (Int.toNat 0) (IntKind.i64.wrap (Lib.indexByte (s.extract (Int.toNat 1) (↑s.size : Int).toNat).data.toList (Int.toNat 47).toUInt8 + 1)).toNat))).length) * Tryz.prog.types[9].bytes ≤ 70368744177664)) (bif' (decide (0 ≤ IntKind.i64.wrap (Lib.indexByte (s.extract (Int.toNat 1) (↑s.size : Int).toNat).data.toList (Int.toNat 47).toUInt8 + 1))) (bif' (decide (IntKind.i64.wrap (Lib.indexByte (s.extract (Int.toNat 1) (↑s.size : Int).toNat).data.toList (Int.toNat 47).toUInt8 + 1) ≤ (↑s.size : Int))) (bif' (decide ((↑s.size : Int) ≤ (↑s.size : Int))) (R (mkEnv 66 [(0, .c (CV.str (s.extract (IntKind.i64.wrap (Lib.indexByte (s.extract (Int.toNat 1) (↑s.size : Int).toNat).data.toList (Int.toNat 47).toUInt8 + 1)).toNat (↑s.size : Int).toNat))), (3, .rw 0 0)]) [.row (xs ++ (List.replicate 1 (CV.str (ByteArray.mk #[]))).set 0 (CV.str (s.extract (Int.toNat 0) (IntKind.i64.wrap (Lib.indexByte (s.extract (Int.toNat 1) (↑s.size : Int).toNat).data.toList (Int.toNat 47).toUInt8 + 1)).toNat))) 1 0 false]) none) none) none) none) none) none)) none) none))))))))) (bif' (xs.all isStrC && (decide (xs.length ≤ 140737488355328) && decide (joinLen xs (ByteArray.mk #[]) ≤ 140737488355328))) (some (CV.str (joinCV xs (ByteArray.mk #[])), [])) none) := by kernel_rfl
end Go.Pv
namespace Go.Pv
set_option maxRecDepth 100000
open Go Go.Proofs
def P22 : Fn1 := fun x => match x with
 | [.str s, .str p] => some [(true, .bool (pre s p), [])]
 | _ => none
def V0 : Table := fun _ _ => none
def V22 : Table := fun g => if Nat.beq g 22 then P22 else V0 g
def an8 : Ann := fun i => if Nat.beq i 3 then some ⟨[0, 3, 4], [], 0⟩ else if Nat.beq i 23 then some ⟨[0, 3, 4, 5], [], 0⟩ else if Nat.beq i 6 then some ⟨[0, 3, 4, 6], [], 0⟩ else none
def h8 : Head := ⟨[0, 3, 4], [], 0⟩
def h80 : Head := ⟨[0, 3, 4, 5], [], 0⟩
def h81 : Head := ⟨[0, 3, 4, 6], [], 0⟩
def LL (L0 L1 : Env → Hp → Res) (i : Nat) : Env → Hp → Res := if Nat.beq i 0 then headK h80 L0 else headK h81 L1
noncomputable def c8 : Code := codeOf Tryz.prog 8
noncomputable def b8 : Code := bodyN 0 c8
noncomputable def K8 (n : Nat) : KX := restN Tryz.prog (call' V22) (filt an8 0) n 0 c8 (endOf Tryz.prog 8 [])
theorem tree22 (s p : ByteArray) : abody Tryz.prog (call' V0) (fun _ => none) 1 22 [.str s, .str p] =
 bif' (decide ((↑s.size : Int) ≥ (↑p.size : Int))) (bif' (decide ((↑p.size : Int) ≤ (↑s.size : Int))) (some (CV.bool ((s.extract (Int.toNat 0) (↑p.size : Int).toNat).toList == p.toList), [])) none) (some (CV.bool false, [])) := by kernel_rfl
theorem before8 (s : ByteArray) (n : Nat) (R : Env → Hp → Res) : parts Tryz.prog (call' V22) (filt an8 0) n c8 (envOf Tryz.prog 8 [.c (.str s)]) [] (fun _ => headK h8 R) (endOf Tryz.prog 8 []) =
 R (mkEnv 92 [(0, .c (CV.str s)), (3, .c (CV.str (ByteArray.mk (Array.mk [])))), (4, .c (CV.int .i64 (.ofNat 0)))]) [] := by kernel_rfl
theorem round8 (s t : ByteArray) (n : Nat) (m : Int) (L0 L1 : Env → Hp → Res) (R : Env → Hp → Res) : parts Tryz.prog (call' V22) (filt an8 0) n b8 (mkEnv 92 [(0, .c (.str s)), (3, .c (.str t)), (4, .c (.int .i64 m))]) [] (LL L0 L1) (thenK (headK h8 R) (K8 n)) =
 bif' (!s.toList == (ByteArray.mk #[]).toList) (bif' (decide (m < 5000)) (bif' (pre s (ByteArray.mk #[46, 46, 47])) (bif' (decide (3 ≤ (↑s.size : Int))) (bif' (decide ((↑s.size : Int) ≤ (↑s.size : Int))) (R (mkEnv 92 [(0, .c (CV.str (s.extract (Int.toNat 3) (↑s.size : Int).toNat))), (3, .c (CV.str t)), (4, .c (CV.int .i64 (IntKind.i64.wrap (m + 1))))]) []) none) none) (bif' (pre s (ByteArray.mk #[46, 47])) (bif' (decide (2 ≤ (↑s.size : Int))) (bif' (decide ((↑s.size : Int) ≤ (↑s.size : Int))) (R (mkEnv 92 [(0, .c (CV.str (s.extract (Int.toNat 2) (↑s.size : Int).toNat))), (3, .c (CV.str t)), (4, .c (CV.int .i64 (IntKind.i64.wrap (m + 1))))]) []) none) none) (bif' (pre s (ByteArray.mk #[47, 46, 47])) (bif' (decide (2 ≤ (↑s.size : Int))) (bif' (decide ((↑s.size : Int) ≤ (↑s.size : Int))) (R (mkEnv 92 [(0, .c (CV.str (s.extract (Int.toNat 2) (↑s.size : Int).toNat))), (3, .c (CV.str t)), (4, .c (CV.int .i64 (IntKind.i64.wrap (m + 1))))]) []) none) none) (bif' (s.toList == (ByteArray.mk #[47, 46]).toList) (R (mkEnv 92 [(0, .c (CV.str (ByteArray.mk (Array.mk [(47 : UInt8)])))), (3, .c (CV.str t)), (4, .c (CV.int .i64 (IntKind.i64.wrap (m + 1))))]) []) (bif' (pre s (ByteArray.mk #[47, 46, 46, 47])) (bif' (s.toList == (ByteArray.mk #[47, 46, 46]).toList) (L0 (mkEnv 92 [(0, .c (CV.str (ByteArray.mk (Array.mk [(47 : UInt8)])))), (3, .c (CV.str t)), (4, .c (CV.int .i64 m)), (5, .c (CV.int .i64 (↑t.size : Int)))]) []) (bif' (decide (3 ≤ (↑s.size : Int))) (bif' (decide ((↑s.size : Int) ≤ (↑s.size : Int))) (L0 (mkEnv 92 [(0, .c (CV.str (s.extract (Int.toNat 3) (↑s.size : Int).toNat))), (3, .c (CV.str t)), (4, .c (CV.int .i64 m)), (5, .c (CV.int .i64 (↑t.size : Int)))]) []) none) none)) (bif' (s.toList == (ByteArray.mk #[47, 46, 46]).toList) (bif' (s.toList == (ByteArray.mk #[47, 46, 46]).toList) (L0 (mkEnv 92 [(0, .c (CV.str (ByteArray.mk (Array.mk [(47 : UInt8)])))), (3, .c (CV.str t)), (4, .c (CV.int .i64 m)), (5, .c (CV.int .i64 (↑t.size : Int)))]) []) (bif' (decide (3 ≤ (↑s.size : Int))) (bif' (decide ((↑s.size : Int) ≤ (↑s.size : Int))) (L0 (mkEnv 92 [(0, .c (CV.str (s.extract (Int.toNat 3) (↑s.size : Int).toNat))), (3, .c (CV.str t)), (4, .c (CV.int .i64 m)), (5, .c (CV.int .i64 (↑t.size : Int)))]) []) none) none)) (bif' (s.toList == (ByteArray.mk #[46]).toList) (R (mkEnv 92 [(0, .c (CV.str (ByteArray.mk (Array.mk [])))), (3, .c (CV.str t)), (4, .c (CV.int .i64 (IntKind.i64.wrap (m + 1))))]) []) (bif' (s.toList == (ByteArray.mk #[46, 46]).toList) (R (mkEnv 92 [(0, .c (CV.str (ByteArray.mk (Array.mk [])))), (3, .c (CV.str t)), (4, .c (CV.int .i64 (IntKind.i64.wrap (m + 1))))]) []) (L1 (mkEnv 92 [(0, .c (CV.str s)), (3, .c (CV.str t)), (4, .c (CV.int .i64 m)), (6, .c (CV.int .i64 (.ofNat 1)))]) []))))))))) (some (CV.str t, []))) (some (CV.str t, [])) := by kernel_rfl
theorem inner0 (s t : ByteArray) (n : Nat) (m k : Int) (R R' : Env → Hp → Res) : aexec Tryz.prog (call' V22) (filt an8 0) n (bodyN 0 b8) (mkEnv 92 [(0, .c (.str s)), (3, .c (.str t)), (4, .c (.int .i64 m)), (5, .c (.int .i64 k))]) [] (thenK (headK h80 R') (restN Tryz.prog (call' V22) (filt an8 0) n 0 b8 (thenK (headK h8 R) (K8 n)))) =
 bif' (decide (k > 0)) (bif' (decide (0 ≤ IntKind.i64.wrap (k - 1))) (bif' (decide (IntKind.i64.wrap (k - 1) < (↑t.size : Int))) (bif' (byteAt t (IntKind.i64.wrap (k - 1)).toNat != 47) (R' (mkEnv 92 [(0, .c (CV.str s)), (3, .c (CV.str t)), (4, .c (CV.int .i64 m)), (5, .c (CV.int .i64 (IntKind.i64.wrap (k - 1))))]) []) (bif' (decide (k > 0)) (bif' (decide (0 ≤ IntKind.i64.wrap (k - 1))) (bif' (decide (IntKind.i64.wrap (k - 1) ≤ (↑t.size : Int))) (R (mkEnv 92 [(0, .c (CV.str s)), (3, .c (CV.str (t.extract (Int.toNat 0) (IntKind.i64.wrap (k - 1)).toNat))), (4, .c (CV.int .i64 (IntKind.i64.wrap (m + 1))))]) []) none) none) (bif' (decide (0 ≤ k)) (bif' (decide (k ≤ (↑t.size : Int))) (R (mkEnv 92 [(0, .c (CV.str s)), (3, .c (CV.str (t.extract (Int.toNat 0) k.toNat))), (4, .c (CV.int .i64 (IntKind.i64.wrap (m + 1))))]) []) none) none))) none) none) (bif' (decide (k > 0)) (bif' (decide (0 ≤ IntKind.i64.wrap (k - 1))) (bif' (decide (IntKind.i64.wrap (k - 1) ≤ (↑t.size : Int))) (R (mkEnv 92 [(0, .c (CV.str s)), (3, .c (CV.str (t.extract (Int.toNat 0) (IntKind.i64.wrap (k - 1)).toNat))), (4, .c (CV.int .i64 (IntKind.i64.wrap (m + 1))))]) []) none) none) (bif' (decide (0 ≤ k)) (bif' (decide (k ≤ (↑t.size : Int))) (R (mkEnv 92 [(0, .c (CV.str s)), (3, .c (CV.str (t.extract (Int.toNat 0) k.toNat))), (4, .c (CV.int .i64 (IntKind.i64.wrap (m + 1))))]) []) none) none)) := by kernel_rfl
theorem inner1 (s t : ByteArray) (n : Nat) (m k : Int) (R R' : Env → Hp → Res) : aexec Tryz.prog (call' V22) (filt an8 0) n (bodyN 1 b8) (mkEnv 92 [(0, .c (.str s)), (3, .c (.str t)), (4, .c (.int .i64 m)), (6, .c (.int .i64 k))]) [] (thenK (headK h81 R') (restN Tryz.prog (call' V22) (filt an8 0) n 1 b8 (thenK (headK h8 R) (K8 n)))) =
 bif' (decide (k < (↑s.size : Int))) (bif' (decide (0 ≤ k)) (bif' (decide (k < (↑s.size : Int))) (bif' (byteAt s k.toNat != 47) (R' (mkEnv 92 [(0, .c (CV.str s)), (3, .c (CV.str t)), (4, .c (CV.int .i64 m)), (6, .c (CV.int .i64 (IntKind.i64.wrap (k + 1))))]) []) (bif' (decide (0 ≤ k)) (bif' (decide (k ≤ (↑s.size : Int))) (bif' (fitsS (t.size + (s.extract (Int.toNat 0) k.toNat).size)) (bif' (decide (0 ≤ k)) (bif' (decide (k ≤ (↑s.size : Int))) (bif' (decide ((↑s.size : Int) ≤ (↑s.size : Int))) (R (mkEnv 92 [(0, .c (CV.str (s.extract k.toNat (↑s.size : Int).toNat))), (3, .c (CV.str (t ++ s.extract (Int.toNat 0) k.toNat))), (4, .c (CV.int .i64 (IntKind.i64.wrap (m + 1))))]) []) none) none) none) none) none) none)) none) none) (bif' (decide (0 ≤ k)) (bif' (decide (k ≤ (↑s.size : Int))) (bif' (fitsS (t.size + (s.extract (Int.toNat 0) k.toNat).size)) (bif' (decide (0 ≤ k)) (bif' (decide (k ≤ (↑s.size : Int))) (bif' (decide ((↑s.size : Int) ≤ (↑s.size : Int))) (R (mkEnv 92 [(0, .c (CV.str (s.extract k.toNat (↑s.size : Int).toNat))), (3, .c (CV.str (t ++ s.extract (Int.toNat 0) k.toNat))), (4, .c (CV.int .i64 (IntKind.i64.wrap (m + 1))))]) []) none) none) none) none) none) none) := by kernel_rfl
end Go.Pv
