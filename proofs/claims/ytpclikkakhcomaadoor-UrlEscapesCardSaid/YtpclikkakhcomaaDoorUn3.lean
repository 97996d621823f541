/- Unescape: contracts. -/
import Derived.Test.YtpclikkakhcomaaDoorUn2
set_option linter.unusedVariables false
set_option maxRecDepth 100000
namespace Go.Pv
open Go Go.Proofs

/-- A text turned back: bytes, or none. -/
def unS (s : ByteArray) : Nat → Nat → List Int → Option (List Int)
  | 0, _, _ => none
  | k + 1, i, acc =>
    if i < s.size then
      if byteAt s i = 37 then
        if s.size ≤ i + 2 then none
        else if 0 ≤ hx (byteAt s (i + 1)) ∧ 0 ≤ hx (byteAt s (i + 2)) then unS s k (i + 3) (acc ++ [16 * hx (byteAt s (i + 1)) + hx (byteAt s (i + 2))])
        else none
      else unS s k (i + 1) (acc ++ [byteAt s i])
    else some acc
def cells8 (acc : List Int) : List CV := acc.map fun n => .int .u8 n
def text8 (acc : List Int) : ByteArray := bytesOf (cells8 acc)

theorem ext_size {s : ByteArray} {a b : Nat} (h : b ≤ s.size) : (s.extract a b).size = b - a := by
  rw [ByteArray.size_extract]; omega
theorem ext_at {s : ByteArray} {a b j : Nat} (h : b ≤ s.size) (hj : a + j < b) : byteAt (s.extract a b) j = byteAt s (a + j) := by
  unfold byteAt
  rw [ByteArray.data_extract, Array.toList_extract, List.extract_eq_take_drop]
  rw [List.getD_eq_getElem?_getD, List.getD_eq_getElem?_getD, List.getElem?_take, if_pos (by omega), List.getElem?_drop]
theorem cells8_app (acc : List Int) (n : Int) : cells8 acc ++ [.int .u8 n] = cells8 (acc ++ [n]) := by simp [cells8]
theorem cells8_all (acc : List Int) : (cells8 acc).all isU8 = true := by
  simp [cells8, isU8]
theorem cells8_len (acc : List Int) : (cells8 acc).length = acc.length := by simp [cells8]
theorem text8_app (acc l : List Int) : text8 acc ++ text8 l = text8 (acc ++ l) := by
  apply ByteArray.ext
  rw [ByteArray.data_append]
  apply Array.ext'
  simp [text8, bytesOf, cells8]
theorem text8_size (acc : List Int) : (text8 acc).size = acc.length := by
  simp [text8, bytesOf, cells8, ByteArray.size]
theorem ext_one {s : ByteArray} {i : Nat} (h : i < s.size) : s.extract i (i + 1) = text8 [byteAt s i] := by
  apply ByteArray.ext
  rw [ByteArray.data_extract]
  apply Array.ext'
  have hl : i < s.data.toList.length := by rw [Array.length_toList]; exact h
  rw [Array.toList_extract, List.extract_eq_take_drop, Nat.add_sub_cancel_left, List.drop_eq_getElem_cons hl]
  simp [text8, bytesOf, cells8, byteAt, CV.toInt]
  rw [Array.getElem?_eq_getElem (by simpa using hl)]
  simp

/-- The next place in a text. -/
theorem wr {i k : Nat} (h : i ≤ 20000) (hk : k ≤ 10) : IntKind.i64.wrap ((i : Int) + (k : Int)) = ((i + k : Nat) : Int) := by
  rw [wrap_id (by omega) (by omega)]; omega
theorem wr1 {i : Nat} (h : i ≤ 20000) : IntKind.i64.wrap ((i : Int) + 1) = ((i + 1 : Nat) : Int) := wr (k := 1) h (by omega)
theorem wr2 {i : Nat} (h : i ≤ 20000) : IntKind.i64.wrap ((i : Int) + 2) = ((i + 2 : Nat) : Int) := wr (k := 2) h (by omega)
theorem wr3 {i : Nat} (h : i ≤ 20000) : IntKind.i64.wrap ((i : Int) + 3) = ((i + 3 : Nat) : Int) := wr (k := 3) h (by omega)

def res7 (o : Option (List Int)) : Res := match o with
  | some l => some (.tup [.str (text8 l), .int .i64 0], [])
  | none => some (.tup [.str ⟨#[]⟩, .int .i64 5], [])
def res8 (o : Option (List Int)) : Res := match o with
  | some l => some (.tup [.str (text8 l), .bool true], [])
  | none => some (.tup [.str ⟨#[]⟩, .bool false], [])

theorem bytes5 : Tryd.prog.types[5].bytes = 1 := by kernel_rfl

theorem loop7 (s : ByteArray) (n : Nat) (hs : s.size ≤ 10000) : ∀ (k i : Nat) (acc : List Int), s.size + 2 < i + k → i ≤ s.size → acc.length ≤ i →
    roundsOf Tryd.prog T19 (filt an7 0) n ⟨[0, 4, 5], [(4, 1)], 0⟩ (codeOf Tryd.prog 7) k (mkEnv 48 [(0, .c (.str s)), (4, .rw 0 0), (5, .c (.int .i64 i))]) [.row (cells8 acc) 1 0 false] (endOf Tryd.prog 7 []) = res7 (unS s k i acc)
  | 0, i, acc, hk, hi, ha => by omega
  | k + 1, i, acc, hk, hi, ha => by
    rw [roundsOf_succ, round7]
    unfold unS
    simp only [bif_dec, bytes5, wr1 (show i ≤ 20000 by omega), wr2 (show i ≤ 20000 by omega), wr3 (show i ≤ 20000 by omega), Int.toNat_natCast]
    by_cases h1 : i < s.size
    · have h1' : (i : Int) < (s.size : Int) := by omega
      simp only [if_pos h1, if_pos h1', if_pos (show (0 : Int) ≤ (i : Int) by omega)]
      by_cases h2 : byteAt s i = 37
      · rw [if_pos h2, bif_f _ _ (by simp [h2])]
        by_cases h3 : s.size ≤ i + 2
        · rw [if_pos h3, if_pos (by omega)]; rfl
        · rw [if_neg h3, if_neg (by omega)]
          rw [if_pos (by omega), if_pos (by omega), if_pos (by omega)]
          have e0 : (s.extract (i + 1) (i + 3)).size = 2 := by rw [ext_size (by omega)]; omega
          have e1 : byteAt (s.extract (i + 1) (i + 3)) 0 = byteAt s (i + 1) := by rw [ext_at (by omega) (by omega)]
          have e2 : byteAt (s.extract (i + 1) (i + 3)) 1 = byteAt s (i + 2) := by rw [ext_at (by omega) (by omega)]
          rw [e0, e1, e2]
          by_cases h4 : 0 ≤ hx (byteAt s (i + 1)) ∧ 0 ≤ hx (byteAt s (i + 2))
          · rw [if_pos h4, bif_t _ _ (by simp [h4]), cells8_len, if_pos (by simp; omega)]
            rw [cells8_app]
            have e3 : IntKind.i64.wrap (((i + 2 : Nat) : Int) + 1) = ((i + 3 : Nat) : Int) := wr1 (i := i + 2) (by omega)
            rw [e3]
            exact loop7 s n hs k (i + 3) _ (by omega) (by omega) (by simp; omega)
          · rw [if_neg h4, bif_f _ _ (by simp; omega), if_pos rfl]; rfl
      · rw [if_neg h2, bif_t _ _ (by simp [h2])]
        rw [cells8_len, if_pos (by simp; omega)]
        rw [show (List.replicate 1 (CV.int .u8 0)).set 0 (CV.int .u8 (byteAt s i)) = [CV.int .u8 (byteAt s i)] from rfl, cells8_app]
        exact loop7 s n hs k (i + 1) _ (by omega) (by omega) (by simp; omega)
    · have h1' : ¬ (i : Int) < (s.size : Int) := by omega
      rw [if_neg h1, if_neg h1', bif_t _ _ (cells8_all acc)]
      rfl

theorem fits_small {n : Nat} (h : n ≤ 100000) : fitsS n = true := Nat.ble_eq_true_of_le (by omega)

theorem loop8 (s : ByteArray) (n : Nat) (hs : s.size ≤ 10000) : ∀ (k i : Nat) (acc : List Int), s.size + 2 < i + k → i ≤ s.size → acc.length ≤ i →
    roundsOf Tryd.prog T19 (filt an8 0) n ⟨[0, 4, 5], [], 0⟩ (codeOf Tryd.prog 8) k (mkEnv 49 [(0, .c (.str s)), (4, .c (.str (text8 acc))), (5, .c (.int .i64 i))]) [] (endOf Tryd.prog 8 []) = res8 (unS s k i acc)
  | 0, i, acc, hk, hi, ha => by omega
  | k + 1, i, acc, hk, hi, ha => by
    rw [roundsOf_succ, round8]
    unfold unS
    simp only [bif_dec, wr1 (show i ≤ 20000 by omega), wr2 (show i ≤ 20000 by omega), wr3 (show i ≤ 20000 by omega), Int.toNat_natCast]
    by_cases h1 : i < s.size
    · have h1' : (i : Int) < (s.size : Int) := by omega
      simp only [if_pos h1, if_pos h1', if_pos (show (0 : Int) ≤ (i : Int) by omega)]
      by_cases h2 : byteAt s i = 37
      · rw [if_pos h2, bif_f _ _ (by simp [h2])]
        by_cases h3 : s.size ≤ i + 2
        · rw [if_pos h3, if_pos (by omega)]; rfl
        · rw [if_neg h3, if_neg (by omega)]
          rw [if_pos (by omega), if_pos (by omega), if_pos (by omega)]
          have e0 : (s.extract (i + 1) (i + 3)).size = 2 := by rw [ext_size (by omega)]; omega
          have e1 : byteAt (s.extract (i + 1) (i + 3)) 0 = byteAt s (i + 1) := by rw [ext_at (by omega) (by omega)]
          have e2 : byteAt (s.extract (i + 1) (i + 3)) 1 = byteAt s (i + 2) := by rw [ext_at (by omega) (by omega)]
          rw [e0, e1, e2]
          by_cases h4 : 0 ≤ hx (byteAt s (i + 1)) ∧ 0 ≤ hx (byteAt s (i + 2))
          · rw [if_pos h4, bif_t _ _ (by simp [h4])]
            have e4 : bytesOf [CV.int .u8 (16 * hx (byteAt s (i + 1)) + hx (byteAt s (i + 2)))] = text8 [16 * hx (byteAt s (i + 1)) + hx (byteAt s (i + 2))] := rfl
            rw [e4, text8_app, text8_size, text8_size, bif_t _ _ (fits_small (by simp; omega))]
            have e3 : IntKind.i64.wrap (((i + 2 : Nat) : Int) + 1) = ((i + 3 : Nat) : Int) := wr1 (i := i + 2) (by omega)
            rw [e3]
            exact loop8 s n hs k (i + 3) _ (by omega) (by omega) (by simp; omega)
          · rw [if_neg h4, bif_f _ _ (by simp; omega), if_pos rfl]; rfl
      · rw [if_neg h2, bif_t _ _ (by simp [h2])]
        rw [if_pos (by omega), if_pos (by omega), ext_one h1, text8_app, text8_size, text8_size, bif_t _ _ (fits_small (by simp; omega))]
        exact loop8 s n hs k (i + 1) _ (by omega) (by omega) (by simp; omega)
    · have h1' : ¬ (i : Int) < (s.size : Int) := by omega
      rw [if_neg h1, if_neg h1']
      rfl

theorem val7 (s : ByteArray) (hs : s.size ≤ 10000) : abody Tryd.prog T19 an7 12000 7 [.str s] = res7 (unS s 12000 0 []) := by
  rw [entry7, before7, loopAt_eq]
  rw [← loop7 s 12000 hs 12000 0 [] (by omega) (by omega) (by simp)]
  kernel_rfl
theorem val8 (s : ByteArray) (hs : s.size ≤ 10000) : abody Tryd.prog T19 an8 12000 8 [.str s] = res8 (unS s 12000 0 []) := by
  rw [entry8, before8, loopAt_eq]
  rw [← loop8 s 12000 hs 12000 0 [] (by omega) (by omega) (by simp)]
  kernel_rfl

end Go.Pv
