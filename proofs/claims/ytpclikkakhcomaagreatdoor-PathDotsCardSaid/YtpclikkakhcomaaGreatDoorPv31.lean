/- Texts as lists of bytes; branches; small numbers: plain laws. -/
import Derived.Test.YtpclikkakhcomaaGreatDoorPv30
set_option linter.unusedVariables false
namespace Go.Pv
open Go

theorem bif_dec {α : Type} {p : Prop} [Decidable p] (x y : Option α) : bif' (decide p) x y = if p then x else y := by
  by_cases h : p
  · rw [if_pos h, decide_eq_true h]; rfl
  · rw [if_neg h, decide_eq_false h]; rfl
theorem bif_t {α : Type} {b : Bool} (x y : Option α) (h : b = true) : bif' b x y = x := by subst h; rfl
theorem bif_f {α : Type} {b : Bool} (x y : Option α) (h : b = false) : bif' b x y = y := by subst h; rfl
theorem bif_b {α : Type} (b : Bool) (x y : Option α) : bif' b x y = if b = true then x else y := by cases b <;> rfl

theorem fits_small {n : Nat} (h : n ≤ 100000) : fitsS n = true := Nat.ble_eq_true_of_le (by omega)
theorem wrp {i k : Nat} (h : i ≤ 100000) (hk : k ≤ 100000) : IntKind.i64.wrap ((i : Int) + (k : Int)) = ((i + k : Nat) : Int) := by
  rw [wrap_id (by omega) (by omega)]; omega
theorem wrm {i : Nat} (h : i ≤ 100000) : IntKind.i64.wrap (((i + 1 : Nat) : Int) - 1) = (i : Int) := by
  rw [wrap_id (by omega) (by omega)]; omega

/-! ### Texts -/
/-- The text of some bytes. -/
def mkS (l : List UInt8) : ByteArray := ⟨l.toArray⟩
theorem mkS_data (l : List UInt8) : (mkS l).data.toList = l := rfl
theorem mkS_bl (s : ByteArray) : mkS s.data.toList = s := by
  apply ByteArray.ext; simp [mkS]
theorem mkS_inj {a b : List UInt8} (h : mkS a = mkS b) : a = b := by
  have := congrArg (fun s => s.data.toList) h
  exact this
theorem mkS_size (l : List UInt8) : (mkS l).size = l.length := rfl
theorem mkS_app (a b : List UInt8) : mkS a ++ mkS b = mkS (a ++ b) := by
  apply ByteArray.ext
  rw [ByteArray.data_append]
  simp [mkS]
theorem mkS_ext (l : List UInt8) (a b : Nat) : (mkS l).extract a b = mkS ((l.drop a).take (b - a)) := by
  apply ByteArray.ext
  rw [ByteArray.data_extract]
  apply Array.ext'
  rw [Array.toList_extract, List.extract_eq_take_drop]
  rfl
theorem mkS_at (l : List UInt8) (i : Nat) : byteAt (mkS l) i = ((l.getD i 0).toNat : Int) := rfl
theorem mk_lit (p : Array UInt8) : ByteArray.mk p = mkS p.toList := by simp [mkS]

theorem toList_loop (s : ByteArray) : ∀ (n i : Nat) (r : List UInt8), s.size - i = n → ByteArray.toList.loop s i r = r.reverse ++ s.data.toList.drop i
  | 0, i, r, h => by
    unfold ByteArray.toList.loop
    have hl : s.data.toList.length = s.size := Array.length_toList
    rw [if_neg (by omega), List.drop_of_length_le (by omega), List.append_nil]
  | n + 1, i, r, h => by
    unfold ByteArray.toList.loop
    have hl : s.data.toList.length = s.size := Array.length_toList
    have hi : i < s.data.toList.length := by omega
    rw [if_pos (by omega), toList_loop s n (i + 1) _ (by omega), List.drop_eq_getElem_cons hi, List.reverse_cons, List.append_assoc]
    congr 2
    have hi' : i < s.data.size := by rw [← Array.length_toList]; exact hi
    simp [ByteArray.get!]
    rw [getElem!_pos s.data i hi']
theorem toList_data (s : ByteArray) : s.toList = s.data.toList := by
  have := toList_loop s s.size 0 [] rfl
  simpa [ByteArray.toList] using this
theorem mkS_toList (l : List UInt8) : (mkS l).toList = l := toList_data _
theorem beq_list (a b : List UInt8) : (a == b) = decide (a = b) := by
  rw [Bool.eq_iff_iff]; simp

end Go.Pv
