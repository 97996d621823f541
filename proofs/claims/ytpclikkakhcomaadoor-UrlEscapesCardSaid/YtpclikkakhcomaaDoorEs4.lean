/- UrlEscapes: what its code does. -/
import Derived.Test.YtpclikkakhcomaaDoorEs3
set_option linter.unusedVariables false
set_option maxRecDepth 100000
namespace Go.Pv
open Go Go.Proofs

/-- May all bytes stand in a URL? -/
def stS (s : ByteArray) : Nat → Nat → Bool
  | 0, _ => true
  | k + 1, i => if i < s.size then
      if byteAt s i < 33 ∨ byteAt s i > 126 ∨ wit (byteAt s i) (ByteArray.mk #[34, 60, 62, 92, 94, 123, 124, 125]) = true ∨ byteAt s i = 96 then false
      else if byteAt s i = 37 then
        if s.size < i + 3 then false
        else if 0 ≤ hx (byteAt s (i + 1)) ∧ 0 ≤ hx (byteAt s (i + 2)) then stS s k (i + 1) else false
      else stS s k (i + 1)
    else true
def escT (s : ByteArray) : ByteArray := text8 (escS s 12000 0 [])
def stT (s : ByteArray) : Bool := stS s 12000 0
def F15 : Fn1 := fun x => match x with
  | [.str s] => some [(decide (s.size ≤ 10000), .str (escT s), [])]
  | _ => none
def F17 : Fn1 := fun x => match x with
  | [.str s] => some [(decide (s.size ≤ 10000), .bool (stT s), [])]
  | _ => none
def T15 : Table := fun g => if Nat.beq g 15 then F15 else T33 g
def T16 : Table := fun g => if Nat.beq g 16 then F15 else T15 g
def T17 : Table := fun g => if Nat.beq g 17 then F17 else T16 g
theorem tree5 (s : ByteArray) : abody Tryd.prog T17 (fun _ => none) 1 5 [.str s] =
    bif' (decide ((↑s.size : Int) > 3000)) (some (CV.bool true, []))
      (bif' (decide (s.size ≤ 10000))
        (bif' (decide ((escT s).size ≤ 10000) && unOk (escT s))
          (bif' (decide (s.size ≤ 10000))
            (bif' ((escT s).toList == (escT s).toList)
              (bif' (decide ((escT s).size ≤ 10000))
                (bif' (stT (escT s))
                  (bif' ((unT (escT s)).toList == s.toList) (some (CV.bool true, [])) (some (CV.bool false, [])))
                  (some (CV.bool false, [])))
                none)
              (some (CV.bool false, [])))
            none)
          (bif' (decide ((escT s).size ≤ 10000) && !unOk (escT s))
            (bif' (decide (s.size ≤ 10000))
              (bif' ((escT s).toList == (escT s).toList)
                (bif' (decide ((escT s).size ≤ 10000))
                  (bif' (stT (escT s)) (some (CV.bool false, [])) (some (CV.bool false, []))) none)
                (some (CV.bool false, [])))
              none)
            none))
        none) := by kernel_rfl

theorem loop17 (s : ByteArray) (n : Nat) (hs : s.size ≤ 10000) : ∀ (k i : Nat), s.size < i + k → i ≤ s.size →
    roundsOf Tryd.prog T33 (filt an17 0) n ⟨[0, 3], [], 0⟩ (codeOf Tryd.prog 17) k (mkEnv 49 [(0, .c (.str s)), (3, .c (.int .i64 i))]) [] (endOf Tryd.prog 17 []) = some (.bool (stS s k i), [])
  | 0, i, hk, hi => by omega
  | k + 1, i, hk, hi => by
    rw [roundsOf_succ, round17]
    unfold stS
    simp only [bif_dec, wr1 (show i ≤ 20000 by omega), wr3 (show i ≤ 20000 by omega), Int.toNat_natCast]
    by_cases h1 : i < s.size
    · rw [if_pos (show (i : Int) < (s.size : Int) by omega), if_pos (by omega), if_pos (by omega), if_pos h1]
      by_cases a1 : byteAt s i < 33
      · rw [if_pos a1, if_pos (.inl a1)]
      rw [if_neg a1]
      by_cases a2 : byteAt s i > 126
      · rw [if_pos a2, if_pos (.inr (.inl a2))]
      rw [if_neg a2]
      cases a3 : wit (byteAt s i) (ByteArray.mk #[34, 60, 62, 92, 94, 123, 124, 125])
      · rw [bif_f _ _ rfl]
        by_cases a4 : byteAt s i = 96
        · rw [bif_t _ _ (by simp [a4]), if_pos (.inr (.inr (.inr a4)))]
        have a7 : ¬ (byteAt s i < 33 ∨ byteAt s i > 126 ∨ false = true ∨ byteAt s i = 96) := by simp; omega
        rw [bif_f _ _ (by simp [a4]), if_neg a7]
        by_cases a5 : byteAt s i = 37
        · rw [bif_t _ _ (by simp [a5]), if_pos a5]
          by_cases a6 : s.size < i + 3
          · rw [if_pos (by omega), if_pos a6]
          · rw [if_neg (by omega), if_neg a6, if_pos (by omega), if_pos (by omega), if_pos (by omega)]
            have e0 : (s.extract (i + 1) (i + 3)).size = 2 := by rw [ext_size (by omega)]; omega
            have e1 : byteAt (s.extract (i + 1) (i + 3)) 0 = byteAt s (i + 1) := by rw [ext_at (by omega) (by omega)]
            have e2 : byteAt (s.extract (i + 1) (i + 3)) 1 = byteAt s (i + 2) := by rw [ext_at (by omega) (by omega)]
            rw [e0, e1, e2]
            by_cases h4 : 0 ≤ hx (byteAt s (i + 1)) ∧ 0 ≤ hx (byteAt s (i + 2))
            · rw [if_pos h4, bif_t _ _ (by simp [h4])]
              exact loop17 s n hs k (i + 1) (by omega) (by omega)
            · rw [if_neg h4, bif_f _ _ (by simp; omega), if_pos rfl]
        · rw [bif_f _ _ (by simp [a5]), if_neg a5]
          exact loop17 s n hs k (i + 1) (by omega) (by omega)
      · rw [bif_t _ _ rfl, if_pos (.inr (.inr (.inl rfl)))]
    · rw [if_neg (by omega), if_neg h1]
theorem val17 (s : ByteArray) (hs : s.size ≤ 10000) : abody Tryd.prog T33 an17 12000 17 [.str s] = some (.bool (stT s), []) := by
  rw [entry17, before17, loopAt_eq]
  have := loop17 s 12000 hs 12000 0 (by omega) (by omega)
  refine Eq.trans ?_ this
  kernel_rfl

theorem f15_cases {cargs : List CV} {rv : CV} {outs : List CV} (h : picked (F15 cargs) = some (rv, outs)) : ∃ s : ByteArray, s.size ≤ 10000 ∧ cargs = [.str s] ∧ rv = .str (escT s) ∧ outs = [] := by
  unfold F15 at h
  split at h <;> first | (cases h; done) | skip
  rename_i s
  simp only [picked, pickAlt] at h
  split at h
  · rename_i hb; cases h; exact ⟨s, of_decide_eq_true hb, rfl, rfl, rfl⟩
  · cases h
theorem c15 : Ct 15 F15 := contract_of an15 on0 k33 fun cargs rv outs h => by
  obtain ⟨s, hs, rfl, rfl, rfl⟩ := f15_cases h
  exact ⟨12000, val15 s hs⟩
theorem k15 : Kn T15 := known_add k33 c15
theorem c16 : Ct 16 F15 := contract_of an16 on0 k33 fun cargs rv outs h => by
  obtain ⟨s, hs, rfl, rfl, rfl⟩ := f15_cases h
  exact ⟨12000, val16 s hs⟩
theorem k16 : Kn T16 := known_add k15 c16
theorem c17 : Ct 17 F17 := contract_of an17 on0 k33 fun cargs rv outs h => by
  unfold F17 at h
  split at h <;> first | (cases h; done) | skip
  rename_i s
  simp only [picked, pickAlt] at h
  split at h
  · rename_i hb; cases h; exact ⟨12000, val17 s (of_decide_eq_true hb)⟩
  · cases h
theorem k17 : Kn T17 := known_add k16 c17


/-! ### What is escaped is read back -/
theorem k1 : ∀ n : Nat, n < 256 → kp (n : Int) = true → (n : Int) ≠ 37 ∧ ¬ (n : Int) < 33 ∧ ¬ (n : Int) > 126 ∧ wit (n : Int) (ByteArray.mk #[34, 60, 62, 92, 94, 123, 124, 125]) = false ∧ (n : Int) ≠ 96 := by decide +kernel
theorem k2 : ∀ d : Nat, d < 16 → hx (byteAt upB d) = (d : Int) ∧ byteAt upB d ≠ 37 ∧ ¬ byteAt upB d < 33 ∧ ¬ byteAt upB d > 126 ∧ wit (byteAt upB d) (ByteArray.mk #[34, 60, 62, 92, 94, 123, 124, 125]) = false ∧ byteAt upB d ≠ 96 := by decide +kernel
theorem k3 : wit 37 (ByteArray.mk #[34, 60, 62, 92, 94, 123, 124, 125]) = false := by decide +kernel
/-- From place i on the text reads as the list says. -/
def Reads (t : ByteArray) (i : Nat) (l : List Int) : Prop := t.size = i + l.length ∧ ∀ j : Nat, j < l.length → byteAt t (i + j) = l.getD j 0
theorem Reads.tail {t : ByteArray} {i : Nat} {x : Int} {l : List Int} (h : Reads t i (x :: l)) : byteAt t i = x ∧ Reads t (i + 1) l := by
  obtain ⟨h1, h2⟩ := h
  refine ⟨by simpa using h2 0 (by simp), by simp at h1; omega, fun j hj => ?_⟩
  have := h2 (j + 1) (by simp; omega)
  rw [show i + 1 + j = i + (j + 1) by omega, this]
  simp
def flat (l : List Nat) : List Int := l.flatMap escN

theorem un_esc (t : ByteArray) : ∀ (l : List Nat) (k i : Nat) (acc : List Int), (∀ n ∈ l, n < 256) → Reads t i (flat l) → t.size < i + k → unS t k i acc = some (acc ++ l.map fun n : Nat => (n : Int))
  | [], k, i, acc, hl, hr, hk => by
    have := hr.1
    simp [flat] at this
    cases k with
    | zero => omega
    | succ k => unfold unS; rw [if_neg (by omega)]; simp
  | n :: l, k, i, acc, hl, hr, hk => by
    have hn := hl n (by simp)
    have hl' : ∀ m ∈ l, m < 256 := fun m hm => hl m (by simp [hm])
    have hf : flat (n :: l) = escN n ++ flat l := rfl
    rw [hf] at hr
    cases k with
    | zero => have := hr.1; omega
    | succ k =>
      cases hk2 : kp (n : Int) with
      | true =>
        rw [show escN n = [(n : Int)] by simp [escN, hk2]] at hr
        obtain ⟨b1, hr1⟩ := hr.tail
        obtain ⟨x1, _⟩ := k1 n hn hk2
        unfold unS
        rw [if_pos (by have := hr.1; simp at this; omega), b1, if_neg x1, un_esc t l k (i + 1) _ hl' hr1 (by omega)]
        simp
      | false =>
        rw [show escN n = [37, byteAt upB (n / 16), byteAt upB (n % 16)] by simp [escN, hk2]] at hr
        obtain ⟨b1, hr1⟩ := hr.tail
        obtain ⟨b2, hr2⟩ := hr1.tail
        obtain ⟨b3, hr3⟩ := hr2.tail
        have hs := hr.1
        simp at hs
        have e1 := (k2 (n / 16) (by omega)).1
        have e2 := (k2 (n % 16) (by omega)).1
        unfold unS
        rw [if_pos (by omega), b1, if_pos rfl, if_neg (by omega), b2, show byteAt t (i + 2) = byteAt upB (n % 16) from b3, e1, e2, if_pos (by omega), un_esc t l k (i + 3) _ hl' hr3 (by omega)]
        have : 16 * ((n / 16 : Nat) : Int) + ((n % 16 : Nat) : Int) = (n : Int) := by omega
        rw [this]
        simp

theorem st_step {t : ByteArray} {k i : Nat} (h : i < t.size) (a1 : ¬ byteAt t i < 33) (a2 : ¬ byteAt t i > 126) (a3 : wit (byteAt t i) (ByteArray.mk #[34, 60, 62, 92, 94, 123, 124, 125]) = false) (a4 : byteAt t i ≠ 96) (a5 : byteAt t i ≠ 37) : stS t (k + 1) i = stS t k (i + 1) := by
  rw [stS, if_pos h, if_neg (by simp [a3]; omega), if_neg a5]
theorem st_esc (t : ByteArray) : ∀ (l : List Nat) (k i : Nat), (∀ n ∈ l, n < 256) → Reads t i (flat l) → t.size < i + k → stS t k i = true
  | [], k, i, hl, hr, hk => by
    have := hr.1
    simp [flat] at this
    cases k with
    | zero => omega
    | succ k => unfold stS; rw [if_neg (by omega)]
  | n :: l, k, i, hl, hr, hk => by
    have hn := hl n (by simp)
    have hl' : ∀ m ∈ l, m < 256 := fun m hm => hl m (by simp [hm])
    have hf : flat (n :: l) = escN n ++ flat l := rfl
    rw [hf] at hr
    cases hk2 : kp (n : Int) with
    | true =>
      rw [show escN n = [(n : Int)] by simp [escN, hk2]] at hr
      obtain ⟨b1, hr1⟩ := hr.tail
      obtain ⟨x1, x2, x3, x4, x5⟩ := k1 n hn hk2
      have hs := hr.1
      simp at hs
      obtain ⟨k, rfl⟩ : ∃ j, k = j + 1 := ⟨k - 1, by omega⟩
      rw [st_step (by omega) (by rw [b1]; exact x2) (by rw [b1]; exact x3) (by rw [b1]; exact x4) (by rw [b1]; exact x5) (by rw [b1]; exact x1)]
      exact st_esc t l k (i + 1) hl' hr1 (by omega)
    | false =>
      rw [show escN n = [37, byteAt upB (n / 16), byteAt upB (n % 16)] by simp [escN, hk2]] at hr
      obtain ⟨b1, hr1⟩ := hr.tail
      obtain ⟨b2, hr2⟩ := hr1.tail
      obtain ⟨b3, hr3⟩ := hr2.tail
      have hs := hr.1
      simp at hs
      obtain ⟨e1, e2, e3, e4, e5, e6⟩ := k2 (n / 16) (by omega)
      obtain ⟨f1, f2, f3, f4, f5, f6⟩ := k2 (n % 16) (by omega)
      obtain ⟨k, rfl⟩ : ∃ j, k = j + 1 + 1 + 1 := ⟨k - 3, by omega⟩
      have b3' : byteAt t (i + 2) = byteAt upB (n % 16) := b3
      have g : stS t (k + 1 + 1 + 1) i = stS t (k + 1 + 1) (i + 1) := by
        rw [stS, if_pos (by omega), b1, if_neg (by simp [k3]), if_pos rfl, if_neg (by omega), b2, b3', e1, f1, if_pos (by omega)]
      rw [g, st_step (by omega) (by rw [b2]; exact e3) (by rw [b2]; exact e4) (by rw [b2]; exact e5) (by rw [b2]; exact e6) (by rw [b2]; exact e2)]
      rw [st_step (by omega) (by rw [b3]; exact f3) (by rw [b3]; exact f4) (by rw [b3]; exact f5) (by rw [b3]; exact f6) (by rw [b3]; exact f2)]
      exact st_esc t l k (i + 1 + 1 + 1) hl' hr3 (by omega)

theorem esc_flat (s : ByteArray) : ∀ (k i : Nat) (acc : List Int), s.size < i + k → escS s k i acc = acc ++ flat ((s.data.toList.map UInt8.toNat).drop i)
  | 0, i, acc, h => by
    rw [List.drop_of_length_le (by rw [List.length_map, Array.length_toList]; have : s.size = s.data.size := rfl; omega)]
    simp [escS, flat]
  | k + 1, i, acc, h => by
    unfold escS
    by_cases h1 : i < s.size
    · have hl : i < (s.data.toList.map UInt8.toNat).length := by rw [List.length_map, Array.length_toList]; exact h1
      have hb : byteAt s i = (((s.data.toList.map UInt8.toNat)[i] : Nat) : Int) := by
        unfold byteAt
        rw [List.getElem_map, List.getD_eq_getElem?_getD, List.getElem?_eq_getElem (by simpa using hl)]
        rfl
      rw [if_pos h1, esc_flat s k (i + 1) _ (by omega), List.drop_eq_getElem_cons hl, hb, Int.toNat_natCast, List.append_assoc]
      rfl
    · rw [if_neg h1, List.drop_of_length_le (by rw [List.length_map, Array.length_toList]; exact Nat.le_of_not_lt h1)]
      simp [flat]
end Go.Pv
