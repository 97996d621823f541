/- Escape: contracts. -/
import Derived.Test.YtpclikkakhcomaaDoorEs2
set_option linter.unusedVariables false
set_option maxRecDepth 100000
namespace Go.Pv
open Go Go.Proofs

abbrev upB : ByteArray := ByteArray.mk #[48, 49, 50, 51, 52, 53, 54, 55, 56, 57, 65, 66, 67, 68, 69, 70]
def kp (c : Int) : Bool := lett c || digi c || wit c (ByteArray.mk #[45, 46, 95, 126])
def escN (n : Nat) : List Int := if kp (n : Int) then [(n : Int)] else [37, byteAt upB (n / 16), byteAt upB (n % 16)]
def escS (s : ByteArray) : Nat → Nat → List Int → List Int
  | 0, _, acc => acc
  | k + 1, i, acc => if i < s.size then escS s k (i + 1) (acc ++ escN (byteAt s i).toNat) else acc

abbrev keptL : List UInt8 := [97, 98, 99, 100, 101, 102, 103, 104, 105, 106, 107, 108, 109, 110, 111, 112, 113, 114, 115, 116, 117, 118, 119, 120, 121, 122, 65, 66, 67, 68, 69, 70, 71].append [72, 73, 74, 75, 76, 77, 78, 79, 80, 81, 82, 83, 84, 85, 86, 87, 88, 89, 90, 48, 49, 50, 51, 52, 53, 54, 55, 56, 57, 45, 46, 95, 126]
theorem q1 : ∀ n : Nat, n < 256 → decide (Lib.indexByte keptL n.toUInt8 ≥ 0) = kp (n : Int) := by decide +kernel
theorem q1t {n : Nat} (h : n < 256) (hk : kp (n : Int) = true) : Lib.indexByte keptL n.toUInt8 ≥ 0 := of_decide_eq_true ((q1 n h).trans hk)
theorem q1f {n : Nat} (h : n < 256) (hk : kp (n : Int) = false) : ¬ Lib.indexByte keptL n.toUInt8 ≥ 0 := of_decide_eq_false ((q1 n h).trans hk)
theorem q2 : ∀ n : Nat, n < 256 → (n : Int).fdiv (2 ^ min (Int.toNat 4) IntKind.u8.bits) = ((n / 16 : Nat) : Int) := by decide +kernel
theorem q3 : ∀ n : Nat, n < 256 → IntKind.u8.wrap (((BitVec.ofInt IntKind.u8.bits (n : Int) &&& BitVec.ofInt IntKind.u8.bits 15).toNat : Nat) : Int) = ((n % 16 : Nat) : Int) := by decide +kernel
theorem q4 : ∀ n : Nat, n < 256 → IntKind.u8.wrap ((n : Int).tdiv 16) = ((n / 16 : Nat) : Int) := by decide +kernel
theorem q5 : ∀ n : Nat, n < 256 → (n : Int).tmod 16 = ((n % 16 : Nat) : Int) := by decide +kernel
theorem q6 : ∀ d : Nat, d < 16 → IntKind.u8.wrap ((d : Int) + 1) = ((d + 1 : Nat) : Int) := by decide +kernel
theorem up_size : upB.size = 16 := rfl
theorem cells8_cat (acc l : List Int) : cells8 acc ++ cells8 l = cells8 (acc ++ l) := by simp [cells8]

theorem loop15 (s : ByteArray) (n : Nat) (hs : s.size ≤ 10000) : ∀ (k i : Nat) (acc : List Int), s.size < i + k → i ≤ s.size → acc.length ≤ 3 * i →
    roundsOf Tryd.prog T33 (filt an15 0) n ⟨[0, 3, 4], [(3, 1)], 0⟩ (codeOf Tryd.prog 15) k (mkEnv 37 [(0, .c (.str s)), (3, .rw 0 0), (4, .c (.int .i64 i))]) [.row (cells8 acc) 1 0 false] (endOf Tryd.prog 15 []) = some (.str (text8 (escS s k i acc)), [])
  | 0, i, acc, hk, hi, ha => by omega
  | k + 1, i, acc, hk, hi, ha => by
    rw [roundsOf_succ, round15]
    unfold escS
    obtain ⟨b0, b1⟩ := byte_lt s i
    obtain ⟨m, hm, hb⟩ := as_nat b0 b1
    simp only [bytes5, wr1 (show i ≤ 20000 by omega), Int.toNat_natCast, hb, q2 m hm, q3 m hm]
    have d1 : m / 16 < 16 := by omega
    have d2 : m % 16 < 16 := by omega
    simp only [bif_dec, up_size, cells8_len]
    by_cases h1 : i < s.size
    · simp only [if_pos h1, if_pos (show (i : Int) < (s.size : Int) by omega), if_pos (show (0 : Int) ≤ (i : Int) by omega)]
      have ih := fun l (hl : l.length ≤ 3) => loop15 s n hs k (i + 1) (acc ++ l) (by omega) (by omega) (by simp; omega)
      cases hk2 : kp (m : Int) with
      | true =>
        rw [if_pos (q1t hm hk2), if_pos (by simp; omega)]
        rw [show escN m = [(m : Int)] by simp [escN, hk2]]
        rw [← ih [(m : Int)] (by simp), ← cells8_cat]
        rfl
      | false =>
        rw [if_neg (q1f hm hk2)]
        rw [if_pos (by omega), if_pos (by omega), if_pos (by omega), if_pos (by simp; omega)]
        rw [show escN m = [37, byteAt upB (m / 16), byteAt upB (m % 16)] by simp [escN, hk2]]
        rw [← ih _ (by simp), ← cells8_cat]
        rfl
    · rw [if_neg h1, if_neg (by omega), bif_t _ _ (cells8_all acc)]
      rfl

theorem loop16 (s : ByteArray) (n : Nat) (hs : s.size ≤ 10000) : ∀ (k i : Nat) (acc : List Int), s.size < i + k → i ≤ s.size → acc.length ≤ 3 * i →
    roundsOf Tryd.prog T33 (filt an16 0) n ⟨[0, 3, 4], [], 0⟩ (codeOf Tryd.prog 16) k (mkEnv 49 [(0, .c (.str s)), (3, .c (.str (text8 acc))), (4, .c (.int .i64 i))]) [] (endOf Tryd.prog 16 []) = some (.str (text8 (escS s k i acc)), [])
  | 0, i, acc, hk, hi, ha => by omega
  | k + 1, i, acc, hk, hi, ha => by
    rw [roundsOf_succ, round16]
    unfold escS
    obtain ⟨b0, b1⟩ := byte_lt s i
    obtain ⟨m, hm, hb⟩ := as_nat b0 b1
    have d1 : m / 16 < 16 := by omega
    have d2 : m % 16 < 16 := by omega
    simp only [wr1 (show i ≤ 20000 by omega), Int.toNat_natCast, hb, q4 m hm, q5 m hm, q6 _ d1, q6 _ d2]
    simp only [bif_dec, up_size]
    by_cases h1 : i < s.size
    · have e1 : s.extract i (i + 1) = text8 [(m : Int)] := by rw [ext_one h1, hb]
      have e2 : upB.extract (m / 16) (m / 16 + 1) = text8 [byteAt upB (m / 16)] := ext_one (by rw [up_size]; exact d1)
      have e3 : upB.extract (m % 16) (m % 16 + 1) = text8 [byteAt upB (m % 16)] := ext_one (by rw [up_size]; exact d2)
      have e4 : ByteArray.mk #[37] = text8 [37] := rfl
      simp only [if_pos h1, if_pos (show (i : Int) < (s.size : Int) by omega), if_pos (show (0 : Int) ≤ (i : Int) by omega), e1, e2, e3, e4, text8_app, text8_size]
      have ih := fun l (hl : l.length ≤ 3) => loop16 s n hs k (i + 1) (acc ++ l) (by omega) (by omega) (by simp; omega)
      rw [if_pos (show (i : Int) ≤ ((i + 1 : Nat) : Int) by omega), if_pos (show ((i + 1 : Nat) : Int) ≤ (s.size : Int) by omega)]
      rw [bif_t (b := fitsS (acc.length + [(m : Int)].length)) _ _ (fits_small (by simp; omega))]
      rw [bif_t (b := fitsS (acc.length + [(37 : Int)].length)) _ _ (fits_small (by simp; omega))]
      cases hk2 : kp (m : Int) with
      | true =>
        rw [show escN m = [(m : Int)] by simp [escN, hk2]]
        rw [← ih [(m : Int)] (by simp)]
        unfold kp at hk2
        cases h5 : lett (m : Int)
        · rw [bif_f _ _ rfl]
          cases h6 : digi (m : Int)
          · rw [bif_f _ _ rfl]
            rw [h5, h6] at hk2
            rw [bif_t _ _ (by simpa using hk2)]
          · rw [bif_t _ _ rfl]
        · rw [bif_t _ _ rfl]
      | false =>
        rw [show escN m = [37, byteAt upB (m / 16), byteAt upB (m % 16)] by simp [escN, hk2]]
        rw [← ih _ (by simp)]
        unfold kp at hk2
        simp only [Bool.or_eq_false_iff] at hk2
        rw [bif_f _ _ hk2.1.1, bif_f _ _ hk2.1.2, bif_f _ _ hk2.2]
        rw [if_pos (by omega), if_pos (by omega), bif_t _ _ (fits_small (by simp; omega)), if_pos (by omega), if_pos (by omega), bif_t _ _ (fits_small (by simp; omega))]
        simp only [List.append_assoc, List.cons_append, List.nil_append]
    · rw [if_neg h1, if_neg (by omega)]

theorem val15 (s : ByteArray) (hs : s.size ≤ 10000) : abody Tryd.prog T33 an15 12000 15 [.str s] = some (.str (text8 (escS s 12000 0 [])), []) := by
  rw [entry15, before15, loopAt_eq]
  rw [← loop15 s 12000 hs 12000 0 [] (by omega) (by omega) (by simp)]
  kernel_rfl
theorem val16 (s : ByteArray) (hs : s.size ≤ 10000) : abody Tryd.prog T33 an16 12000 16 [.str s] = some (.str (text8 (escS s 12000 0 [])), []) := by
  rw [entry16, before16, loopAt_eq]
  have := loop16 s 12000 hs 12000 0 [] (by omega) (by omega) (by simp)
  refine Eq.trans ?_ this
  kernel_rfl

end Go.Pv
