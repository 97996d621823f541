/- Addresses: numbers; cuts at a byte. -/
import Derived.Test.YtpclikkakhcomaaDoorQc

namespace Go.Pv
set_option linter.unusedVariables false
set_option maxRecDepth 100000
set_option maxHeartbeats 200000
open Go Go.Proofs
variable {I : World → Prop} {ng : Nat}

theorem wrapU {n : Int} (h0 : 0 ≤ n) (h1 : n < 18446744073709551616) : IntKind.u64.wrap n = n := by
  have e1 : (2 ^ IntKind.u64.bits : Int) = 18446744073709551616 := by decide
  have e2 : IntKind.u64.signed = false := rfl
  simp only [IntKind.wrap, e1, e2]
  rw [Int.emod_eq_of_lt h0 (by omega)]; simp
theorem wrap8 (n : Int) : IntKind.u8.wrap n = n % 256 := by
  have e1 : (2 ^ IntKind.u8.bits : Int) = 256 := by decide
  have e2 : IntKind.u8.signed = false := rfl
  simp only [IntKind.wrap, e1, e2]; simp

/-! ### number -/
theorem dg_facts : ∀ n : Nat, n < 256 → (n < 48 → hx n = -1) ∧ (57 < n → n < 65 → hx n = -1) ∧ (48 ≤ n → ¬ (57 < n ∧ n < 65) → Lib.indexByte (ByteArray.mk #[48, 49, 50, 51, 52, 53, 54, 55, 56, 57, 97, 98, 99, 100, 101, 102]).data.toList (IntKind.u8.wrap (↑(BitVec.ofInt IntKind.u8.bits (n : Int) ||| BitVec.ofInt IntKind.u8.bits 32).toNat : Int)).toNat.toUInt8 = hx n) ∧ -1 ≤ hx n ∧ hx n ≤ 15 := by decide +kernel
theorem hexv_no {c : UInt8} (h : hx c.toNat < 0) : hexv c = 99 := by unfold hexv; rw [if_neg (by omega)]
theorem hexv_is {c : UInt8} (h : 0 ≤ hx c.toNat) : ((hexv c : Nat) : Int) = hx c.toNat := by unfold hexv; rw [if_pos h]; omega
def num71 (b lim : Nat) : Nat → List UInt8 → Option Nat
  | v, [] => some v
  | v, c :: t => if hexv c < b ∧ v * b + hexv c < lim then num71 b lim (v * b + hexv c) t else none
def res71 (l : List UInt8) : Option Nat → Res
  | some w => some (.tup [.int .u64 (w : Int), .bool (!l.isEmpty)], [])
  | none => some (.tup [.int .u64 0, .bool false], [])
noncomputable abbrev R71 (n j : Nat) (env : Env) (H : Hp) : Res := rounds Tryd.prog (call' A29) (filt aL71 0) n hL71 (bodyN 0 (codeOf Tryd.prog 71)) j env H (restN Tryd.prog (call' A29) (filt aL71 0) n 0 (codeOf Tryd.prog 71) (endOf Tryd.prog 71 []))
theorem lo71 (n : Nat) (l : List UInt8) (b lim : Nat) (hl : l.length ≤ 10000) (hb : b ≤ 16) (hlim : lim ≤ 4294967296) : ∀ (j k v : Nat), l.length < j + k → k ≤ l.length → v < lim →
    R71 n j (mkEnv 60 [(0, .c (.str (mkS l))), (1, .c (.int .u64 (b : Int))), (2, .c (.int .u64 (lim : Int))), (8, .c (.int .u64 (v : Int))), (9, .c (.int .i64 (k : Int)))]) [] = res71 l (num71 b lim v (l.drop k))
  | 0, k, v, hj, hk, hv => by omega
  | j + 1, k, v, hj, hk, hv => by
    unfold R71
    rw [rounds_succ, ic71]
    simp only [bif_dec]
    simp only [atM, sizeM, bif_b, natM]
    by_cases h1 : k < l.length
    · rw [drop_getD h1]
      obtain ⟨f1, f2, f3, f4, f5⟩ := dg_facts _ (l.getD k 0).toNat_lt
      have hno : hx (l.getD k 0).toNat < 0 ∨ (b : Int) ≤ hx (l.getD k 0).toNat ∨ (lim : Int) ≤ (v : Int) * b + hx (l.getD k 0).toNat → num71 b lim v (l.getD k 0 :: l.drop (k + 1)) = none := by
        intro h
        unfold num71
        rw [if_neg]
        rintro ⟨q1, q2⟩
        by_cases h0 : hx (l.getD k 0).toNat < 0
        · rw [hexv_no h0] at q1; omega
        · have e := hexv_is (c := l.getD k 0) (by omega)
          rcases h with h | h | h
          · omega
          · omega
          · have q2' : ((v * b + hexv (l.getD k 0) : Nat) : Int) < (lim : Int) := by omega
            rw [Int.natCast_add, Int.natCast_mul, e] at q2'
            omega
      have cont : 48 ≤ (l.getD k 0).toNat → ¬ (57 < (l.getD k 0).toNat ∧ (l.getD k 0).toNat < 65) → ∀ d : Int, d = hx (l.getD k 0).toNat →
          (if d < 0 then some (CV.tup [CV.int IntKind.u64 (Int.ofNat 0), CV.bool false], []) else if IntKind.u64.wrap d ≥ (b : Int) then some (CV.tup [CV.int IntKind.u64 (Int.ofNat 0), CV.bool false], []) else
            if IntKind.u64.wrap (IntKind.u64.wrap ((v : Int) * b) + IntKind.u64.wrap d) ≥ (lim : Int) then some (CV.tup [CV.int IntKind.u64 (Int.ofNat 0), CV.bool false], []) else
            R71 n j (mkEnv 60 [(0, .c (.str (mkS l))), (1, .c (.int .u64 (b : Int))), (2, .c (.int .u64 (lim : Int))), (8, .c (.int .u64 (IntKind.u64.wrap (IntKind.u64.wrap ((v : Int) * b) + IntKind.u64.wrap d)))), (9, .c (.int .i64 (IntKind.i64.wrap ((k : Int) + 1))))]) []) = res71 l (num71 b lim v (l.getD k 0 :: l.drop (k + 1))) := by
        intro g1 g2 d hd
        subst hd
        by_cases h0 : hx (l.getD k 0).toNat < 0
        · rw [if_pos h0, hno (.inl h0)]; rfl
        · have hvb : (v : Int) * b ≤ 4294967296 * 16 := by
            have h2 : v * b ≤ 4294967296 * 16 := Nat.mul_le_mul (by omega) hb
            have : ((v * b : Nat) : Int) ≤ ((4294967296 * 16 : Nat) : Int) := by omega
            rw [Int.natCast_mul] at this; exact this
          have hvb0 : (0 : Int) ≤ (v : Int) * b := by
            have : (0 : Int) ≤ ((v * b : Nat) : Int) := by omega
            rw [Int.natCast_mul] at this; exact this
          have e := hexv_is (c := l.getD k 0) (by omega)
          rw [if_neg h0, wrapU (n := hx (l.getD k 0).toNat) (by omega) (by omega), wrapU (n := (v : Int) * b) hvb0 (by omega), wrapU (n := (v : Int) * b + hx (l.getD k 0).toNat) (by omega) (by omega)]
          by_cases h3 : hx (l.getD k 0).toNat ≥ (b : Int)
          · rw [if_pos h3, hno (.inr (.inl h3))]; rfl
          · rw [if_neg h3]
            by_cases h4 : (v : Int) * b + hx (l.getD k 0).toNat ≥ (lim : Int)
            · rw [if_pos h4, hno (.inr (.inr h4))]; rfl
            · rw [if_neg h4]
              have e2 : (v : Int) * b + hx (l.getD k 0).toNat = ((v * b + hexv (l.getD k 0) : Nat) : Int) := by
                rw [Int.natCast_add, Int.natCast_mul, e]
              rw [e2, wrp1 (i := k) (by omega)]
              have hlt : v * b + hexv (l.getD k 0) < lim := by omega
              rw [lo71 n l b lim hl hb hlim j (k + 1) _ (by omega) (by omega) hlt]
              congr 1
              conv => rhs; unfold num71
              rw [if_pos ⟨by omega, hlt⟩]
      rw [if_pos (by omega), if_pos (by omega), if_pos (by omega), if_pos (by omega), if_pos (by omega)]
      by_cases h48 : ((l.getD k 0).toNat : Int) < 48
      · rw [if_pos h48, hno (.inl (by rw [f1 (by omega)]; omega))]; rfl
      · rw [if_neg h48, if_pos (by omega), if_pos (by omega)]
        by_cases h57 : ((l.getD k 0).toNat : Int) > 57
        · rw [if_pos h57, if_pos (by omega), if_pos (by omega)]
          by_cases h65 : ((l.getD k 0).toNat : Int) < 65
          · rw [if_pos h65, hno (.inl (by rw [f2 (by omega) (by omega)]; omega))]; rfl
          · rw [if_neg h65]
            exact cont (by omega) (by omega) _ (f3 (by omega) (by omega))
        · rw [if_neg h57]
          exact cont (by omega) (by omega) _ (f3 (by omega) (by omega))
    · rw [if_neg (by omega), List.drop_of_length_le (by omega)]
      unfold num71 res71
      have e : ((mkS l).toList == (ByteArray.mk #[]).toList) = l.isEmpty := by
        rw [toList_data, toList_data, mkS_data]
        cases l <;> rfl
      rw [e]
theorem fold_ge (b : Nat) (hb : 1 ≤ b) : ∀ (l : List UInt8) (v : Nat), v ≤ l.foldl (fun n c => n * b + hexv c) v
  | [], v => Nat.le_refl _
  | c :: t, v => by
    rw [List.foldl_cons]
    have := fold_ge b hb t (v * b + hexv c)
    have h2 : v ≤ v * b := Nat.le_mul_of_pos_right _ hb
    omega
theorem num71_eq (b lim : Nat) (hb : 1 ≤ b) : ∀ (l : List UInt8) (v : Nat), v < lim → num71 b lim v l = if (l.all fun c => decide (hexv c < b)) = true ∧ l.foldl (fun n c => n * b + hexv c) v < lim then some (l.foldl (fun n c => n * b + hexv c) v) else none
  | [], v, h => by unfold num71; rw [if_pos ⟨rfl, h⟩]; rfl
  | c :: t, v, h => by
    unfold num71
    rw [List.all_cons, List.foldl_cons]
    by_cases h1 : hexv c < b
    · rw [decide_eq_true h1, Bool.true_and]
      by_cases h2 : v * b + hexv c < lim
      · rw [if_pos ⟨h1, h2⟩, num71_eq b lim hb t _ h2]
      · rw [if_neg (fun q => h2 q.2), if_neg]
        rintro ⟨_, q⟩
        have := fold_ge b hb t (v * b + hexv c)
        omega
    · rw [if_neg (fun q => h1 q.1), decide_eq_false h1, Bool.false_and, if_neg (fun q => Bool.false_ne_true q.1)]
theorem g71 (hg : OnGlobals I ng) : Kw I ng B71 := known_add (g29 hg) (contract_of aL71 hg (hok_of (g29 hg)) fun cargs rv outs h => by
  unfold L71 at h
  split at h <;> first | (cases h; done) | skip
  rename_i s b lim
  refine ⟨12000, loop1 rfl (by kernel_rfl) (by kernel_rfl) (by kernel_rfl) (hd := hL71) (by kernel_rfl) ?_⟩
  by_cases hs : s.size ≤ 10000 ∧ 2 ≤ b ∧ b ≤ 16 ∧ 0 < lim ∧ lim ≤ 4294967296
  · obtain ⟨hs, hb1, hb2, hl1, hl2⟩ := hs
    obtain ⟨B, rfl⟩ := Int.eq_ofNat_of_zero_le (show 0 ≤ b by omega)
    obtain ⟨L, rfl⟩ := Int.eq_ofNat_of_zero_le (show 0 ≤ lim by omega)
    obtain ⟨l, rfl⟩ : ∃ l, s = mkS l := ⟨_, (mkS_bl s).symm⟩
    simp only [picked, pickAlt, decide_eq_true hs, decide_eq_true hb1, decide_eq_true hb2, decide_eq_true hl1, decide_eq_true hl2, Bool.true_and, natM] at h
    rw [sizeM] at hs
    refine (ib71 (mkS l) B L 12000 (R71 12000 12000)).trans ?_
    refine (lo71 12000 l B L hs (by omega) (by omega) 12000 0 0 (by omega) (by omega) (by omega)).trans ?_
    rw [List.drop_zero, num71_eq B L (by omega) l 0 (by omega)]
    unfold nOk numOk nV numL at h
    simp only [dataM] at h
    cases hl : l.isEmpty with
    | true =>
      rw [hl] at h
      simp only [Bool.not_true, Bool.false_and] at h
      cases h
      cases l with
      | nil => split <;> rfl
      | cons a t => cases hl
    | false =>
      rw [hl] at h
      simp only [Bool.not_false, Bool.true_and] at h
      by_cases hq : (l.all fun c => decide (hexv c < B)) = true ∧ l.foldl (fun n c => n * B + hexv c) 0 < L
      · rw [if_pos hq]
        rw [hq.1, decide_eq_true (show ((l.foldl (fun n c => n * B + hexv c) 0 : Nat) : Int) < (L : Int) by have := hq.2; omega)] at h
        simp only [Bool.and_self] at h
        cases h
        unfold res71
        rw [hl]; rfl
      · rw [if_neg hq]
        have : ((l.all fun c => decide (hexv c < B)) && decide (((l.foldl (fun n c => n * B + hexv c) 0 : Nat) : Int) < (L : Int))) = false := by
          rw [Bool.and_eq_false_iff]
          by_cases h1 : (l.all fun c => decide (hexv c < B)) = true
          · exact .inr (decide_eq_false fun h2 => hq ⟨h1, by omega⟩)
          · exact .inl (by simpa using h1)
        rw [this] at h
        cases h
        rfl
  · exfalso
    have hc : (decide (s.size ≤ 10000) && (decide (2 ≤ b) && (decide (b ≤ 16) && (decide (0 < lim) && decide (lim ≤ 4294967296))))) = false := by
      refine Bool.eq_false_iff.2 fun hh => hs ?_
      simpa [Bool.and_eq_true] using hh
    have hc2 : ∀ x : Bool, (decide (s.size ≤ 10000) && (decide (2 ≤ b) && (decide (b ≤ 16) && (decide (0 < lim) && (decide (lim ≤ 4294967296) && x))))) = false := by
      intro x
      refine Bool.eq_false_iff.2 fun hh => hs ?_
      simp only [Bool.and_eq_true, decide_eq_true_eq] at hh
      exact ⟨hh.1, hh.2.1, hh.2.2.1, hh.2.2.2.1, hh.2.2.2.2.1⟩
    simp only [picked, pickAlt, hc, hc2] at h
    cases h)

end Go.Pv

/- Addresses: the document's numbers; cuts at a byte; an IPv4 of its bytes or number. -/
namespace Go.Pv
set_option linter.unusedVariables false
set_option maxRecDepth 100000
set_option maxHeartbeats 200000
open Go Go.Proofs
variable {I : World → Prop} {ng : Nat}

/-! ### digit -/
theorem g81 (hg : OnGlobals I ng) : Kw I ng B81 := known_add (g71 hg) (contract_of (fun _ => none) hg (hok_of (g71 hg)) fun cargs rv outs h => by
  unfold L81 at h
  split at h <;> first | (cases h; done) | skip
  rename_i c b
  by_cases hc : 0 ≤ c ∧ c < 256 ∧ 2 ≤ b ∧ b ≤ 16
  · obtain ⟨h0, h1, h2, h3⟩ := hc
    simp only [picked, pickAlt, decide_eq_true h0, decide_eq_true h1, decide_eq_true h2, decide_eq_true h3, Bool.true_and] at h
    cases h
    refine ⟨1, ?_⟩
    rw [ir81]
    have w1 : 48 ≤ c → IntKind.i64.wrap (IntKind.u8.wrap (c - 48)) = c - 48 := fun _ => by rw [wrap8, wrap_id (by omega) (by omega)]; omega
    have w2 : 97 ≤ c → IntKind.i64.wrap (IntKind.i64.wrap (IntKind.u8.wrap (c - 97)) + 10) = c - 87 := fun _ => by rw [wrap8, wrap_id (n := (c - 97) % 256) (by omega) (by omega), wrap_id (by omega) (by omega)]; omega
    have w3 : 65 ≤ c → IntKind.i64.wrap (IntKind.i64.wrap (IntKind.u8.wrap (c - 65)) + 10) = c - 55 := fun _ => by rw [wrap8, wrap_id (n := (c - 65) % 256) (by omega) (by omega), wrap_id (by omega) (by omega)]; omega
    have key : ∀ (d : Int) (x : Int), 0 ≤ d → x = d → hx c = d → (if x ≥ b then some (CV.int IntKind.i64 (Int.negSucc 0), ([] : List CV)) else some (CV.int IntKind.i64 x, [])) = some (CV.int IntKind.i64 (dR c b), []) := by
      intro d x hd0 hx1 hd
      subst hx1
      unfold dR
      rw [hd]
      by_cases hb : x ≥ b
      · rw [if_pos hb, if_neg (by omega)]; rfl
      · rw [if_neg hb, if_pos ⟨hd0, by omega⟩]
    have key2 : hx c = -1 → (if (-1 : Int) ≥ b then some (CV.int IntKind.i64 (Int.negSucc 0), ([] : List CV)) else some (CV.int IntKind.i64 (Int.negSucc 0), [])) = some (CV.int IntKind.i64 (dR c b), []) := by
      intro hd
      unfold dR
      rw [hd, if_neg (by omega), if_neg (by omega)]; rfl
    simp only [bif_dec]
    by_cases a1 : 48 ≤ c ∧ c ≤ 57
    · have e : hx c = c - 48 := by unfold hx; rw [if_pos a1]
      rw [if_pos (by omega), if_pos (by omega), if_neg (by omega), if_neg (by omega)]
      exact key _ _ (by omega) (w1 (by omega)) e
    · by_cases a2 : 97 ≤ c ∧ c ≤ 102
      · have e : hx c = c - 87 := by unfold hx; rw [if_neg a1, if_pos a2]
        rw [if_pos (by omega), if_neg (by omega), if_pos (by omega), if_pos (by omega), if_pos (by omega), if_neg (by omega)]
        exact key _ _ (by omega) (w2 (by omega)) e
      · by_cases a3 : 65 ≤ c ∧ c ≤ 70
        · have e : hx c = c - 55 := by unfold hx; rw [if_neg a1, if_neg a2, if_pos a3]
          rw [if_pos (by omega), if_neg (by omega), if_neg (by omega), if_pos (by omega), if_pos (by omega)]
          exact key _ _ (by omega) (w3 (by omega)) e
        · have e : hx c = -1 := by unfold hx; rw [if_neg a1, if_neg a2, if_neg a3]
          have key2 := key2 e
          by_cases b1 : c ≥ 48
          · rw [if_pos b1, if_neg (by omega)]
            by_cases b2 : c ≥ 97
            · rw [if_pos b2, if_neg (by omega)]
              rw [if_pos (by omega), if_neg (by omega)]
              exact key2
            · rw [if_neg b2]
              by_cases b3 : c ≥ 65
              · rw [if_pos b3, if_neg (by omega)]; exact key2
              · rw [if_neg b3]; exact key2
          · rw [if_neg b1, if_neg (by omega), if_neg (by omega)]; exact key2
  · exfalso
    have hc : (decide (0 ≤ c) && (decide (c < 256) && (decide (2 ≤ b) && decide (b ≤ 16)))) = false := by
      refine Bool.eq_false_iff.2 fun hh => hc ?_
      simpa [Bool.and_eq_true] using hh
    simp only [picked, pickAlt, hc] at h
    cases h)

/-! ### number -/
theorem fold_min (b : Nat) (hb : 1 ≤ b) (M : Nat) : ∀ (l : List UInt8) (x y : Nat), min x M = min y M → min (l.foldl (fun n c => n * b + hexv c) x) M = min (l.foldl (fun n c => n * b + hexv c) y) M
  | [], x, y, h => h
  | c :: t, x, y, h => by
    rw [List.foldl_cons, List.foldl_cons]
    refine fold_min b hb M t _ _ ?_
    by_cases hx : x < M
    · have : x = y := by omega
      rw [this]
    · have h1 : M ≤ x * b := Nat.le_trans (by omega : M ≤ x) (Nat.le_mul_of_pos_right _ hb)
      have h2 : M ≤ y * b := Nat.le_trans (by omega : M ≤ y) (Nat.le_mul_of_pos_right _ hb)
      omega
noncomputable abbrev R77 (n j : Nat) (env : Env) (H : Hp) : Res := rounds Tryd.prog (call' B81) (filt aL77 0) n hL77 (bodyN 0 (codeOf Tryd.prog 77)) j env H (restN Tryd.prog (call' B81) (filt aL77 0) n 0 (codeOf Tryd.prog 77) (endOf Tryd.prog 77 []))
theorem lo77 (n : Nat) (l : List UInt8) (b : Nat) (hl : l.length ≤ 10000) (hb1 : 2 ≤ b) (hb : b ≤ 16) : ∀ (j k v : Nat), l.length < j + k → k ≤ l.length → v ≤ 4294967296 →
    R77 n j (mkEnv 31 [(0, .c (.str (mkS l))), (1, .c (.int .i64 (b : Int))), (5, .c (.int .i64 (v : Int))), (6, .c (.int .i64 (k : Int)))]) [] = some (.int .i64 (if ((l.drop k).all fun c => decide (hexv c < b)) = true then ((min ((l.drop k).foldl (fun n c => n * b + hexv c) v) 4294967296 : Nat) : Int) else -1), [])
  | 0, k, v, hj, hk, hv => by omega
  | j + 1, k, v, hj, hk, hv => by
    unfold R77
    rw [rounds_succ, ic77]
    simp only [atM, sizeM, natM]
    by_cases h1 : k < l.length
    · rw [drop_getD h1, List.all_cons, List.foldl_cons]
      have hb2 := (l.getD k 0).toNat_lt
      obtain ⟨f1, f2, f3, f4, f5⟩ := dg_facts _ hb2
      have c0 : decide ((k : Int) < ((l.length : Nat) : Int)) = true := decide_eq_true (by omega)
      have c1 : decide ((0 : Int) ≤ (k : Int)) = true := decide_eq_true (by omega)
      have c2 : decide ((0 : Int) ≤ ((l.getD k 0).toNat : Int)) = true := decide_eq_true (by omega)
      have c3 : decide (((l.getD k 0).toNat : Int) < 256) = true := decide_eq_true (by omega)
      have c4 : decide ((2 : Int) ≤ (b : Int)) = true := decide_eq_true (by omega)
      have c5 : decide ((b : Int) ≤ 16) = true := decide_eq_true (by omega)
      rw [c0, c1, c2, c3, c4, c5]
      simp only [Bool.and_self]
      rw [bif_t _ _ rfl, bif_t _ _ rfl, bif_t _ _ rfl, bif_t _ _ rfl]
      have hvb : (v : Int) * b ≤ 4294967296 * 16 := by
        have h2 : v * b ≤ 4294967296 * 16 := Nat.mul_le_mul (by omega) hb
        have : ((v * b : Nat) : Int) ≤ ((4294967296 * 16 : Nat) : Int) := by omega
        rw [Int.natCast_mul] at this; exact this
      have hvb0 : (0 : Int) ≤ (v : Int) * b := by
        have : (0 : Int) ≤ ((v * b : Nat) : Int) := by omega
        rw [Int.natCast_mul] at this; exact this
      by_cases hd : hexv (l.getD k 0) < b
      · have hx0 : 0 ≤ hx (l.getD k 0).toNat := by
          refine Classical.byContradiction fun hn => ?_
          rw [hexv_no (by omega)] at hd; omega
        have e := hexv_is hx0
        have e1 : dR ((l.getD k 0).toNat : Int) (b : Int) = hx (l.getD k 0).toNat := by
          unfold dR; rw [if_pos ⟨hx0, by omega⟩]
        rw [e1, bif_f _ _ (decide_eq_false (by omega)), wrap_id (n := (v : Int) * b) hvb0 (by omega), wrap_id (n := (v : Int) * b + hx (l.getD k 0).toNat) (by omega) (by omega), wrp1 (i := k) (by omega), decide_eq_true hd, Bool.true_and]
        have e2 : (v : Int) * b + hx (l.getD k 0).toNat = ((v * b + hexv (l.getD k 0) : Nat) : Int) := by
          rw [Int.natCast_add, Int.natCast_mul, e]
        rw [e2]
        by_cases hm : (((v * b + hexv (l.getD k 0) : Nat) : Int) > 4294967296)
        · rw [bif_t _ _ (decide_eq_true hm)]
          have := lo77 n l b hl hb1 hb j (k + 1) 4294967296 (by omega) (by omega) (by omega)
          refine Eq.trans this ?_
          rw [fold_min b (by omega) 4294967296 (l.drop (k + 1)) 4294967296 (v * b + hexv (l.getD k 0)) (by omega)]
        · rw [bif_f _ _ (decide_eq_false hm)]
          exact lo77 n l b hl hb1 hb j (k + 1) _ (by omega) (by omega) (by omega)
      · have e1 : dR ((l.getD k 0).toNat : Int) (b : Int) = -1 := by
          unfold dR
          rw [if_neg]
          rintro ⟨q1, q2⟩
          have e := hexv_is q1
          omega
        rw [e1, bif_t _ _ (decide_eq_true (by omega)), decide_eq_false hd, Bool.false_and]
        rfl
    · rw [bif_f _ _ (decide_eq_false (by omega)), List.drop_of_length_le (by omega)]
      have : min v 4294967296 = v := by omega
      show some (CV.int IntKind.i64 (v : Int), ([] : List CV)) = some (.int .i64 ((min v 4294967296 : Nat) : Int), [])
      rw [this]
theorem g77 (hg : OnGlobals I ng) : Kw I ng B77 := known_add (g81 hg) (contract_of aL77 hg (hok_of (g81 hg)) fun cargs rv outs h => by
  unfold L77 at h
  split at h <;> first | (cases h; done) | skip
  rename_i s b
  refine ⟨12000, loop1 rfl (by kernel_rfl) (by kernel_rfl) (by kernel_rfl) (hd := hL77) (by kernel_rfl) ?_⟩
  by_cases hs : s.size ≤ 10000 ∧ 2 ≤ b ∧ b ≤ 16
  · obtain ⟨hs, hb1, hb2⟩ := hs
    obtain ⟨B, rfl⟩ := Int.eq_ofNat_of_zero_le (show 0 ≤ b by omega)
    obtain ⟨l, rfl⟩ : ∃ l, s = mkS l := ⟨_, (mkS_bl s).symm⟩
    simp only [picked, pickAlt, decide_eq_true hs, decide_eq_true hb1, decide_eq_true hb2, Bool.true_and, natM] at h
    cases h
    rw [sizeM] at hs
    refine (ib77 (mkS l) B 12000 (R77 12000 12000)).trans ?_
    have e : ((mkS l).toList == (ByteArray.mk #[]).toList) = l.isEmpty := by
      rw [toList_data, toList_data, mkS_data]
      cases l <;> rfl
    rw [e]
    unfold nR nOk nV numOk numL
    simp only [dataM]
    cases hl : l.isEmpty with
    | true => rfl
    | false =>
      rw [bif_f _ _ rfl]
      refine (lo77 12000 l B hs (by omega) (by omega) 12000 0 0 (by omega) (by omega) (by omega)).trans ?_
      rw [List.drop_zero]
      simp only [Bool.not_false, Bool.true_and]
  · exfalso
    have hc : (decide (s.size ≤ 10000) && (decide (2 ≤ b) && decide (b ≤ 16))) = false := by
      refine Bool.eq_false_iff.2 fun hh => hs ?_
      simpa [Bool.and_eq_true] using hh
    simp only [picked, pickAlt, hc] at h
    cases h)

/-! ### cut -/
def consH (pre : List UInt8) : List (List UInt8) → List (List UInt8)
  | [] => [pre]
  | p :: ps => (pre ++ p) :: ps
theorem splitL_ne (c : UInt8) : ∀ l : List UInt8, ∃ p ps, splitL c l = p :: ps
  | [] => ⟨[], [], rfl⟩
  | b :: t => by
    obtain ⟨p, ps, h⟩ := splitL_ne c t
    unfold splitL
    split
    · exact ⟨_, _, rfl⟩
    · rw [h]; exact ⟨_, _, rfl⟩
theorem consH_nil (c : UInt8) (l : List UInt8) : consH [] (splitL c l) = splitL c l := by
  obtain ⟨p, ps, h⟩ := splitL_ne c l
  rw [h]; rfl
theorem consH_eq (c : UInt8) (pre t : List UInt8) : consH pre (splitL c (c :: t)) = pre :: splitL c t := by
  have e : splitL c (c :: t) = [] :: splitL c t := by
    conv => lhs; unfold splitL
    rw [if_pos rfl]
  rw [e]
  show (pre ++ []) :: splitL c t = _
  rw [List.append_nil]
theorem consH_ne {c b : UInt8} (h : b ≠ c) (pre t : List UInt8) : consH pre (splitL c (b :: t)) = consH (pre ++ [b]) (splitL c t) := by
  obtain ⟨p, ps, e⟩ := splitL_ne c t
  conv => lhs; unfold splitL
  rw [if_neg h, e]
  show (pre ++ b :: p) :: ps = (pre ++ [b] ++ p) :: ps
  rw [List.append_assoc]; rfl
theorem by9 : Tryd.prog.types[9].bytes = 16 := by kernel_rfl
noncomputable abbrev R66 (n j : Nat) (env : Env) (H : Hp) : Res := rounds Tryd.prog (call' B77) (filt aL66 0) n hL66 (bodyN 0 (codeOf Tryd.prog 66)) j env H (restN Tryd.prog (call' B77) (filt aL66 0) n 0 (codeOf Tryd.prog 66) (endOf Tryd.prog 66 []))
theorem rep1 {α : Type} (a b : α) : (List.replicate 1 a).set 0 b = [b] := rfl
theorem lo66 (n : Nat) (l : List UInt8) (c : UInt8) (hl : l.length ≤ 10000) : ∀ (j k f : Nat) (xs : List CV), l.length + 1 < j + k → k ≤ l.length → f ≤ k → xs.length ≤ f →
    R66 n j (mkEnv 36 [(0, .c (.str (mkS l))), (1, .c (.int .u8 (c.toNat : Int))), (5, .rw 0 0), (6, .c (.int .i64 (f : Int))), (7, .c (.int .i64 (k : Int)))]) [.row xs 1 0 false] = some (.sl true false 1 (xs ++ (consH ((l.drop f).take (k - f)) (splitL c (l.drop k))).map strCV), [])
  | 0, k, f, xs, hj, hk, hf, hx => by omega
  | j + 1, k, f, xs, hj, hk, hf, hx => by
    unfold R66
    rw [rounds_succ, ic66]
    simp only [atM, sizeM, natM, mkS_ext, rep1, by9, List.length_cons, List.length_nil]
    have c0 : decide ((k : Int) ≤ ((l.length : Nat) : Int)) = true := decide_eq_true (by omega)
    have c1 : decide ((0 : Int) ≤ (k : Int)) = true := decide_eq_true (by omega)
    have c2 : decide ((0 : Int) ≤ (f : Int)) = true := decide_eq_true (by omega)
    have c3 : decide ((f : Int) ≤ (k : Int)) = true := decide_eq_true (by omega)
    have c4 : decide ((xs.length + (0 + 1)) * 16 ≤ 70368744177664) = true := decide_eq_true (by omega)
    rw [c0, c1, c2, c3, c4, wrp1 (i := k) (by omega)]
    simp only [bif_t _ _ (Eq.refl true)]
    by_cases h1 : k < l.length
    · have c5 : (((k : Nat) : Int) == ((l.length : Nat) : Int)) = false := by
        refine Bool.eq_false_iff.2 fun hh => ?_
        have := eq_of_beq hh; omega
      have c6 : decide ((k : Int) < ((l.length : Nat) : Int)) = true := decide_eq_true (by omega)
      rw [c5, c6, drop_getD h1]
      rw [bif_f _ _ rfl, bif_t _ _ rfl]
      by_cases hc : l.getD k 0 = c
      · have c7 : (((l.getD k 0).toNat : Int) == (c.toNat : Int)) = true := by rw [hc]; exact beq_iff_eq.2 rfl
        rw [c7, bif_t _ _ rfl, hc, consH_eq]
        have ih := lo66 n l c hl j (k + 1) (k + 1) (xs ++ [.str (mkS ((l.drop f).take (k - f)))]) (by omega) (by omega) (by omega) (by rw [List.length_append]; simp; omega)
        refine Eq.trans ih ?_
        rw [Nat.sub_self, List.take_zero, consH_nil, List.append_assoc]
        rfl
      · have c7 : (((l.getD k 0).toNat : Int) == (c.toNat : Int)) = false := by
          refine Bool.eq_false_iff.2 fun hh => hc ?_
          have := eq_of_beq hh
          exact u8_int.1 this
        rw [c7, bif_f _ _ rfl, consH_ne hc]
        have ih := lo66 n l c hl j (k + 1) f xs (by omega) (by omega) (by omega) hx
        refine Eq.trans ih ?_
        have e : (l.drop f).take (k + 1 - f) = (l.drop f).take (k - f) ++ [l.getD k 0] := by
          have e1 : k + 1 - f = (k - f) + 1 := by omega
          rw [e1, List.take_add_one]
          congr 1
          rw [List.getElem?_drop, show f + (k - f) = k by omega]
          simp [List.getD_eq_getElem?_getD, h1]
        rw [e]
    · have hk' : k = l.length := by omega
      have c5 : (((k : Nat) : Int) == ((l.length : Nat) : Int)) = true := by rw [hk']; exact beq_iff_eq.2 rfl
      rw [c5, bif_t _ _ rfl, List.drop_of_length_le (show l.length ≤ k by omega)]
      obtain ⟨j', rfl⟩ : ∃ j', j = j' + 1 := ⟨j - 1, by omega⟩
      show R66 n (j' + 1) _ _ = _
      unfold R66
      rw [rounds_succ, ic66]
      simp only [sizeM]
      rw [bif_f _ _ (decide_eq_false (by omega))]
      have e : consH ((l.drop f).take (k - f)) (splitL c []) = [(l.drop f).take (k - f)] := by
        show [(l.drop f).take (k - f) ++ []] = _
        rw [List.append_nil]
      rw [e]
      rfl
theorem g66 (hg : OnGlobals I ng) : Kw I ng B66 := known_add (g77 hg) (contract_of aL66 hg (hok_of (g77 hg)) fun cargs rv outs h => by
  unfold L66 at h
  split at h <;> first | (cases h; done) | skip
  rename_i s c
  refine ⟨12000, loop1 rfl (by kernel_rfl) (by kernel_rfl) (by kernel_rfl) (hd := hL66) (by kernel_rfl) ?_⟩
  by_cases hs : s.size ≤ 10000 ∧ 0 ≤ c ∧ c < 256
  · obtain ⟨hs, h0, h1⟩ := hs
    obtain ⟨C, rfl⟩ := Int.eq_ofNat_of_zero_le h0
    obtain ⟨l, rfl⟩ : ∃ l, s = mkS l := ⟨_, (mkS_bl s).symm⟩
    simp only [picked, pickAlt, decide_eq_true hs, decide_eq_true h0, decide_eq_true h1, Bool.true_and, natM] at h
    cases h
    rw [sizeM] at hs
    refine (ib66 (mkS l) C 12000 (R66 12000 12000)).trans ?_
    have e : (C : Int) = (C.toUInt8.toNat : Int) := by
      have : C.toUInt8.toNat = C := by simp; omega
      rw [this]
    rw [e]
    refine (lo66 12000 l C.toUInt8 hs 12000 0 0 [] (by omega) (by omega) (by omega) (by simp)).trans ?_
    rw [List.drop_zero, Nat.sub_self, List.take_zero, consH_nil, List.nil_append]
    have e2 : ((C.toUInt8.toNat : Int).toNat).toUInt8 = C.toUInt8 := u8_cast _
    unfold spS
    simp only [dataM]
    try rfl
  · exfalso
    have hc : (decide (s.size ≤ 10000) && (decide (0 ≤ c) && decide (c < 256))) = false := by
      refine Bool.eq_false_iff.2 fun hh => hs ?_
      simpa [Bool.and_eq_true] using hh
    simp only [picked, pickAlt, hc] at h
    cases h)

/-! ### An IPv4 -/
theorem g57 (hg : OnGlobals I ng) : Kw I ng B57 := known_add (g66 hg) (contract_of (fun _ => none) hg (hok_of (g66 hg)) fun cargs rv outs h => by
  unfold L57 at h
  split at h
  · cases h; exact ⟨1, ir57 _ _ _ _⟩
  · cases h)
theorem g64 (hg : OnGlobals I ng) : Kw I ng B64 := known_add (g57 hg) (contract_of (fun _ => none) hg (hok_of (g57 hg)) fun cargs rv outs h => by
  unfold L64 at h
  split at h <;> first | (cases h; done) | skip
  rename_i m
  by_cases hm : 0 ≤ m ∧ m < 18446744073709551616
  · simp only [picked, pickAlt, decide_eq_true hm.1, decide_eq_true hm.2, Bool.true_and] at h
    cases h
    refine ⟨6, ?_⟩
    obtain ⟨h0, h1⟩ := hm
    rw [ir64]
    have t : ∀ {x : Int}, 0 ≤ x → x.tdiv 256 = x / 256 := fun h => Int.tdiv_eq_ediv_of_nonneg h
    have t2 : ∀ {x : Int}, 0 ≤ x → x.tmod 256 = x % 256 := fun h => Int.tmod_eq_emod_of_nonneg h
    rw [t h0, wrapU (n := m / 256) (by omega) (by omega), t (x := m / 256) (by omega), wrapU (n := m / 256 / 256) (by omega) (by omega), t (x := m / 256 / 256) (by omega), wrapU (n := m / 256 / 256 / 256) (by omega) (by omega)]
    rw [t2 h0, t2 (x := m / 256) (by omega), t2 (x := m / 256 / 256) (by omega), t2 (x := m / 256 / 256 / 256) (by omega)]
    simp only [wrap8]
    have e1 : m / 256 / 256 / 256 % 256 % 256 = m / 16777216 % 256 := by omega
    have e2 : m / 256 / 256 % 256 % 256 = m / 65536 % 256 := by omega
    have e3 : m / 256 % 256 % 256 = m / 256 % 256 := by omega
    have e4 : m % 256 % 256 = m % 256 := by omega
    rw [e1, e2, e3, e4]
    rfl
  · exfalso
    have hc : (decide (0 ≤ m) && decide (m < 18446744073709551616)) = false := by
      refine Bool.eq_false_iff.2 fun hh => hm ?_
      simpa [Bool.and_eq_true] using hh
    simp only [picked, pickAlt, hc] at h
    cases h)

end Go.Pv

/- A function's text in pieces: between two pieces what is no longer needed is let go. -/
namespace Go.Pv
set_option linter.unusedVariables false
open Go

/-- As aexec, from behind the first region's head on. -/
def aexecB (P : Program) (tb : Handler) (an : Ann) (fuel : Nat) : Code → Env → Hp → KX → Res
  | .region _ ops draw, env, H, K => if draw && !drawOk P ops env then none else aops P tb ops (List.range ops.size) env H (K .normal)
  | .seq a b, env, H, K => aexecB P tb an fuel a env H (thenK (fun env H => aexec P tb an fuel b env H K) K)
  | .block id b, env, H, K => aexecB P tb an fuel b env H (blockK id K)
  | c, env, H, K => aexec P tb an fuel c env H K
/-- The first region's head. -/
def headAt (an : Ann) : Code → Option Head
  | .region id _ _ => an (id + 500000)
  | .seq a _ => headAt an a
  | .block _ b => headAt an b
  | _ => none
/-- The first k parts; what is behind them; are there so many? -/
def prefC : Nat → Code → Code
  | 0, c => .skip
  | 1, .seq a b => a
  | k + 1, .seq a b => .seq a (prefC k b)
  | _, c => c
def tailC : Nat → Code → Code
  | 0, c => c
  | k + 1, .seq a b => tailC k b
  | _, c => c
def spine : Nat → Code → Bool
  | 0, _ => true
  | k + 1, .seq a b => spine k b
  | _, _ => false
def armC (t : Bool) : Code → Code
  | .cond _ a b => bif t then a else b
  | c => c
/-- The first arm left by the number 2000000. -/
def holeC : Code → Code
  | .seq a (.cond c x y) => .seq a (.cond c (.exit 2000000) y)
  | c => c
def lastArm : Code → Code
  | .seq a (.cond c x y) => x
  | c => c
def armK (L : Env → Hp → Res) (K : KX) : KX := fun e env H => match e with
  | .exit id => if Nat.beq id 2000000 then L env H else K (.exit id) env H
  | e => K e env H
/-- As parts, from behind the first region's head on. -/
def partsB (P : Program) (tb : Handler) (an : Ann) (fuel : Nat) (c : Code) (env : Env) (H : Hp) (L : Nat → Env → Hp → Res) (K : KX) : Res := aexecB P tb an fuel (cutN 0 c) env H (cutNK L K)
--MKX

variable {P : Program} {tb : Handler} {an : Ann} {fuel : Nat}
theorem seq_eq {a b : Code} {env : Env} {H : Hp} {K : KX} : aexec P tb an fuel (.seq a b) env H K = aexec P tb an fuel a env H (thenK (fun env H => aexec P tb an fuel b env H K) K) := by
  show aexec P tb an fuel a env H _ = aexec P tb an fuel a env H _
  congr 1
theorem block_eq {id : Nat} {b : Code} {env : Env} {H : Hp} {K : KX} : aexec P tb an fuel (.block id b) env H K = aexec P tb an fuel b env H (blockK id K) := by
  show aexec P tb an fuel b env H _ = aexec P tb an fuel b env H _
  congr 1
theorem headed {hd : Head} : ∀ {c : Code} {env : Env} {H : Hp} {K : KX}, headAt an c = some hd → aexec P tb an fuel c env H K = headK hd (fun e H => aexecB P tb an fuel c e H K) env H := by
  intro c
  induction c with
  | region id ops draw =>
    intro env H K h
    have h' : an (id + 500000) = some hd := h
    unfold aexec atHead
    rw [h']
    rfl
  | seq a b iha ihb =>
    intro env H K h
    rw [seq_eq, iha h]
    rfl
  | block id b ih =>
    intro env H K h
    rw [block_eq, ih h]
    rfl
  | _ => intro env H K h; cases h
theorem thenK_thenK {T : Env → Hp → Res} {K : KX} {X : Env → Hp → Res} : thenK X (thenK T K) = thenK X K := by
  funext e env H
  cases e <;> rfl
theorem pref_eq : ∀ {k : Nat} {c : Code} {env : Env} {H : Hp} {K : KX}, 0 < k → spine k c = true →
    aexec P tb an fuel c env H K = aexec P tb an fuel (prefC k c) env H (thenK (fun e H => aexec P tb an fuel (tailC k c) e H K) K)
  | 0, _, _, _, _, h, _ => by omega
  | 1, .seq a b, env, H, K, _, h => seq_eq
  | k + 2, .seq a b, env, H, K, _, h => by
    have ih : ∀ env H, aexec P tb an fuel b env H K = _ := fun env H => pref_eq (k := k + 1) (by omega) h
    show aexec P tb an fuel (.seq a b) env H K = aexec P tb an fuel (.seq a (prefC (k + 1) b)) env H _
    rw [seq_eq, seq_eq, thenK_thenK]
    simp only [ih]
    rfl
  | _ + 1, .skip, _, _, _, _, h | _ + 1, .label _, _, _, _, _, h | _ + 1, .region _ _ _, _, _, _, _, h | _ + 1, .cond _ _ _, _, _, _, _, h
  | _ + 1, .block _ _, _, _, _, _, h | _ + 1, .loop _, _, _, _, _, h | _ + 1, .exit _, _, _, _, _, h | _ + 1, .ret, _, _, _, _, h => by cases h
theorem prefB_eq : ∀ {k : Nat} {c : Code} {env : Env} {H : Hp} {K : KX}, 0 < k → spine k c = true →
    aexecB P tb an fuel c env H K = aexecB P tb an fuel (prefC k c) env H (thenK (fun e H => aexec P tb an fuel (tailC k c) e H K) K)
  | 0, _, _, _, _, h, _ => by omega
  | 1, .seq a b, env, H, K, _, h => rfl
  | k + 2, .seq a b, env, H, K, _, h => by
    have ih : ∀ env H, aexec P tb an fuel b env H K = _ := fun env H => pref_eq (k := k + 1) (by omega) h
    show aexecB P tb an fuel (.seq a b) env H K = aexecB P tb an fuel (.seq a (prefC (k + 1) b)) env H _
    unfold aexecB
    rw [thenK_thenK]
    simp only [ih]
    rfl
  | _ + 1, .skip, _, _, _, _, h | _ + 1, .label _, _, _, _, _, h | _ + 1, .region _ _ _, _, _, _, _, h | _ + 1, .cond _ _ _, _, _, _, _, h
  | _ + 1, .block _ _, _, _, _, _, h | _ + 1, .loop _, _, _, _, _, h | _ + 1, .exit _, _, _, _, _, h | _ + 1, .ret, _, _, _, _, h => by cases h
/-- Cut behind the first k parts. -/
theorem seg_a {k : Nat} {c : Code} {hd : Head} {env : Env} {H : Hp} {K : KX} (hk : 0 < k) (hs : spine k c = true) (hh : headAt an (tailC k c) = some hd) :
    aexec P tb an fuel c env H K = aexec P tb an fuel (prefC k c) env H (thenK (headK hd fun e H => aexecB P tb an fuel (tailC k c) e H K) K) := by
  rw [pref_eq hk hs]
  have : (fun e H => aexec P tb an fuel (tailC k c) e H K) = headK hd fun e H => aexecB P tb an fuel (tailC k c) e H K := by
    funext e H
    exact headed hh
  rw [this]
theorem seg_b {k : Nat} {c : Code} {hd : Head} {env : Env} {H : Hp} {K : KX} (hk : 0 < k) (hs : spine k c = true) (hh : headAt an (tailC k c) = some hd) :
    aexecB P tb an fuel c env H K = aexecB P tb an fuel (prefC k c) env H (thenK (headK hd fun e H => aexecB P tb an fuel (tailC k c) e H K) K) := by
  rw [prefB_eq hk hs]
  have : (fun e H => aexec P tb an fuel (tailC k c) e H K) = headK hd fun e H => aexecB P tb an fuel (tailC k c) e H K := by
    funext e H
    exact headed hh
  rw [this]

/-- A statement 'if': its arm by itself. -/
def isHole : Code → Bool
  | .seq (.region _ _ _) (.cond _ _ .skip) => true
  | _ => false
theorem hole_eq {c : Code} {env : Env} {H : Hp} {K : KX} {hd : Head} (h : isHole c = true) (hh : headAt an (lastArm c) = some hd) :
    aexecB P tb an fuel c env H K = aexecB P tb an fuel (holeC c) env H (armK (headK hd fun e H => aexecB P tb an fuel (lastArm c) e H K) K) := by
  match c, h with
  | .seq (.region id ops draw) (.cond x a .skip), _ =>
    have hh' : ∀ env H, aexec P tb an fuel a env H K = headK hd (fun e H => aexecB P tb an fuel a e H K) env H := fun env H => headed hh
    show aexecB P tb an fuel (.region id ops draw) env H (thenK (fun env H => aexec P tb an fuel (.cond x a .skip) env H K) K) =
      aexecB P tb an fuel (.region id ops draw) env H (thenK (fun env H => aexec P tb an fuel (.cond x (.exit 2000000) .skip) env H _) _)
    unfold aexecB
    congr 2
    funext env H
    show aexec P tb an fuel (.cond x a .skip) env H K = aexec P tb an fuel (.cond x (.exit 2000000) .skip) env H _
    unfold aexec
    split
    · split
      · rw [hh']; rfl
      · rw [hh']; rfl
    · rfl
theorem segc_eq : ∀ (c : Code) (n : Nat) (L : Nat → Env → Hp → Res) (K : KX) (env : Env) (H : Hp), idsOk c = true → (firstRegion c).isSome = true → (match c with | .loop _ => false | .cond _ _ _ => false | _ => true) = true →
    (∀ i env H, i < nLoops c → L (n + i) env H = aexec P tb an fuel (.loop (bodyN i c)) env H (restN P tb an fuel i c K)) →
    (match c with | .seq (.region _ _ _) _ => true | _ => false) = true →
    aexecB P tb an fuel c env H K = aexecB P tb an fuel (cutN n c) env H (cutNK L K) := by
  intro c n L K env H ho _ _ hL hc
  match c, hc with
  | .seq (.region id ops draw) b, _ =>
    have ho' : idsOk b = true := by simpa [idsOk] using ho
    have hb : ∀ env H, aexec P tb an fuel b env H K = aexec P tb an fuel (cutN n b) env H (cutNK L K) := fun env H => cut_eq b n K env H ho' fun i env H hi => by
      have := hL i env H (by simpa [nLoops] using hi)
      rw [this]
      simp [bodyN, restN, nLoops]
    show aexecB P tb an fuel (.region id ops draw) env H (thenK (fun env H => aexec P tb an fuel b env H K) K) = aexecB P tb an fuel (.region id ops draw) env H (thenK (fun env H => aexec P tb an fuel (cutN (n + nLoops (.region id ops draw)) b) env H (cutNK L K)) (cutNK L K))
    unfold aexecB
    congr 2
    funext env H
    exact hb env H
/-- A piece that is one region and code with one loop. -/
def isLoopPiece : Code → Bool
  | .seq (.region _ _ _) b => true
  | _ => false
theorem loopB {c : Code} {env : Env} {H : Hp} {K : KX} {hd : Head} (h : isLoopPiece c = true) (hi : idsOk c = true) (hl : nLoops c = 1) (hh : (firstRegion (bodyN 0 c)).bind an = some hd) :
    aexecB P tb an fuel c env H K = partsB P tb an fuel c env H (fun _ => headK hd fun env H => rounds P tb an fuel hd (bodyN 0 c) fuel env H (restN P tb an fuel 0 c K)) K := by
  unfold partsB
  refine segc_eq c 0 _ K env H hi ?_ ?_ (fun i env H hlt => ?_) ?_
  · cases c with
    | seq a b => cases a <;> first | rfl | (cases h; done)
    | _ => cases h
  · cases c with
    | seq a b => rfl
    | _ => cases h
  · rw [hl] at hlt
    obtain rfl : i = 0 := by omega
    exact (loop_eq hh).symm
  · cases c with
    | seq a b => cases a <;> first | rfl | (cases h; done)
    | _ => cases h

end Go.Pv

/- Pieces that begin with a region, whatever stands behind it. -/
namespace Go.Pv
set_option linter.unusedVariables false
open Go

variable {P : Program} {tb : Handler} {an : Ann} {fuel : Nat}
def startsR : Code → Bool
  | .region _ _ _ => true
  | .seq a _ => startsR a
  | _ => false
theorem segc_eq' : ∀ (c : Code) (n : Nat) (L : Nat → Env → Hp → Res) (K : KX) (env : Env) (H : Hp), idsOk c = true → startsR c = true →
    (∀ i env H, i < nLoops c → L (n + i) env H = aexec P tb an fuel (.loop (bodyN i c)) env H (restN P tb an fuel i c K)) →
    aexecB P tb an fuel c env H K = aexecB P tb an fuel (cutN n c) env H (cutNK L K) := by
  intro c
  induction c with
  | region id ops draw =>
    intro n L K env H _ _ _
    show aexecB P tb an fuel (.region id ops draw) env H K = aexecB P tb an fuel (.region id ops draw) env H (cutNK L K)
    unfold aexecB
    rfl
  | seq a b iha ihb =>
    intro n L K env H ho hs hL
    simp only [idsOk, Bool.and_eq_true] at ho
    have hb : ∀ env H, aexec P tb an fuel b env H K = aexec P tb an fuel (cutN (n + nLoops a) b) env H (cutNK L K) := fun env H => cut_eq b (n + nLoops a) K env H ho.2 fun i env H hi => by
      rw [Nat.add_assoc, hL (nLoops a + i) env H (by simp only [nLoops]; omega)]
      simp only [bodyN, restN, if_neg (show ¬ nLoops a + i < nLoops a by omega), Nat.add_sub_cancel_left]
    have ha := iha n L (thenK (fun env H => aexec P tb an fuel b env H K) K) env H ho.1 hs fun i env H hi => by
      rw [hL i env H (by simp only [nLoops]; omega)]
      simp only [bodyN, restN, if_pos hi]
    show aexecB P tb an fuel a env H (thenK (fun env H => aexec P tb an fuel b env H K) K) = aexecB P tb an fuel (cutN n a) env H (thenK (fun env H => aexec P tb an fuel (cutN (n + nLoops a) b) env H (cutNK L K)) (cutNK L K))
    rw [ha]
    congr 1
    funext e env H
    cases e with
    | normal => exact hb env H
    | exit id =>
      simp only [cutNK, thenK]
    | ret => rfl
  | _ => intro n L K env H _ hs _; cases hs
theorem loopB' {c : Code} {env : Env} {H : Hp} {K : KX} {hd : Head} (h : startsR c = true) (hi : idsOk c = true) (hl : nLoops c = 1) (hh : (firstRegion (bodyN 0 c)).bind an = some hd) :
    aexecB P tb an fuel c env H K = partsB P tb an fuel c env H (fun _ => headK hd fun env H => rounds P tb an fuel hd (bodyN 0 c) fuel env H (restN P tb an fuel 0 c K)) K := by
  unfold partsB
  refine segc_eq' c 0 _ K env H hi h (fun i env H hlt => ?_)
  rw [hl] at hlt
  obtain rfl : i = 0 := by omega
  exact (loop_eq hh).symm

end Go.Pv

/- Addresses: four numbers, groups: specs and trees. -/
namespace Go.Pv
set_option linter.unusedVariables false
set_option maxRecDepth 100000
open Go Go.Proofs

def octOk (p : List UInt8) : Bool := numOk 10 p && (decide (numL 10 p < 256) && !(decide (1 < p.length) && (p.getD 0 0 == 48)))
def goF : List (List UInt8) → List Nat × Bool
  | [] => ([], true)
  | p :: ps => if octOk p then (numL 10 p :: (goF ps).1, (goF ps).2) else ([], false)
def fourP (ps : List (List UInt8)) : List Nat × Bool := if ps.length = 4 then goF ps else ([], false)
def f4 (s : ByteArray) : Bool := (fourP (splitL 46 s.data.toList)).2
def f4b (s : ByteArray) (i : Nat) : Int := (((fourP (splitL 46 s.data.toList)).1.getD i 0 : Nat) : Int)
def f4r (s : ByteArray) : Int := if f4 s then ((f4b s 0 * 256 + f4b s 1) * 256 + f4b s 2) * 256 + f4b s 3 else -1
def grpOk (p : List UInt8) : Bool := numOk 16 p && (decide (numL 16 p < 65536) && decide (p.length ≤ 4))
/-- The bytes of groups; the last may be an IPv4, if that is let. -/
def grL (tail : Bool) : List (List UInt8) → Option (List Nat)
  | [] => some []
  | p :: ps => if tail && (ps.isEmpty && (fourP (splitL 46 p)).2) then some (fourP (splitL 46 p)).1 else if grpOk p then (match grL tail ps with
    | some r => some (numL 16 p / 256 :: numL 16 p % 256 :: r)
    | none => none) else none
def byCV (n : Nat) : CV := .int .u8 (n : Int)
def gOk (s : ByteArray) (t : Bool) : Bool := (grL t (splitL 58 s.data.toList)).isSome
def gB (s : ByteArray) (t : Bool) : List CV := ((grL t (splitL 58 s.data.toList)).getD []).map byCV
def L70 : Fn1 := fun x => match x with
  | [.str s, .str ⟨⟨[c]⟩⟩] => some [(decide (s.size ≤ 10000), .sl false false 1 (spS s c), [])]
  | _ => none
def L56 : Fn1 := fun x => match x with
  | [.str s] => some [(decide (s.size ≤ 10000), .tup [.agg [.int .u8 (f4b s 0), .int .u8 (f4b s 1), .int .u8 (f4b s 2), .int .u8 (f4b s 3)], .bool (f4 s)], [])]
  | _ => none
def L63 : Fn1 := fun x => match x with
  | [.str s] => some [(decide (s.size ≤ 10000), .int .i64 (f4r s), [])]
  | _ => none
def L72 : Fn1 := fun x => match x with
  | [.str s, .bool t] => some [(decide (s.size ≤ 10000) && decide (s.size = 0), .tup [.nilsl, .bool true], []), (decide (s.size ≤ 10000) && gOk s t, .tup [.sl true false 1 (gB s t), .bool true], []), (decide (s.size ≤ 10000), .tup [.nilsl, .bool false], [])]
  | _ => none
def B70 : Table := fun g => if Nat.beq g 70 then L70 else B64 g
def B56 : Table := fun g => if Nat.beq g 56 then L56 else B70 g
def B63 : Table := fun g => if Nat.beq g 63 then L63 else B56 g
def B72 : Table := fun g => if Nat.beq g 72 then L72 else B63 g
def kA4 : Nat := 4 + 4294967296 * (80 + 1)
noncomputable def c56 : Code := codeOf Tryd.prog 56
noncomputable def c63 : Code := codeOf Tryd.prog 63
def h56 : Head := ⟨[2, 4, 5], [], 2⟩
def hL56 : Head := ⟨[2, 4, 16, 17, 18], [], 2⟩
def an56 : Ann := fun i => if Nat.beq i 500005 then some h56 else if Nat.beq i 6 then some hL56 else none
noncomputable def q56 : Code := prefC 1 (tailC 4 c56)
def h56b : Head := ⟨[2, 4], [], 2⟩
def h63 : Head := ⟨[3], [(3, 1)], 0⟩
def hL63 : Head := ⟨[3, 4, 5], [(3, 1)], 0⟩
def an63 : Ann := fun i => if Nat.beq i 500004 then some h63 else if Nat.beq i 6 then some hL63 else none
def hL72 : Head := ⟨[1, 6, 7, 18, 19, 20], [(6, 1)], 0⟩
def aL72 : Ann := fun i => if Nat.beq i 6 then some hL72 else none
abbrev zA4 : AO := .box (.c (.agg [.int .u8 0, .int .u8 0, .int .u8 0, .int .u8 0])) kA4
theorem ip56 (s : ByteArray) (n : Nat) (L : Env → Hp → Res) : aexec Tryd.prog (call' B70) (filt an56 0) n (prefC 4 c56) (envOf Tryd.prog 56 [.c (.str s)]) [] (thenK (headK h56 L) (endOf Tryd.prog 56 [])) =
    bif' (decide (s.size ≤ 10000))
      (bif' ((↑(spS s 46).length : Int) != 4)
        (some
          (CV.tup
              [CV.agg
                  [CV.int IntKind.u8 (Int.ofNat 0), CV.int IntKind.u8 (Int.ofNat 0), CV.int IntKind.u8 (Int.ofNat 0),
                    CV.int IntKind.u8 (Int.ofNat 0)],
                CV.bool false],
            []))
        (L (mkEnv 47 [(2, PV.bptr 0 0), (4, PV.bptr 1 0), (5, PV.c (CV.sl false false 1 (spS s 46)))])
          [AO.box
              (PV.c
                (CV.agg
                  [CV.int IntKind.u8 (Int.ofNat 0), CV.int IntKind.u8 (Int.ofNat 0), CV.int IntKind.u8 (Int.ofNat 0),
                    CV.int IntKind.u8 (Int.ofNat 0)]))
              kA4,
            AO.box
              (PV.c
                (CV.agg
                  [CV.int IntKind.u8 (Int.ofNat 0), CV.int IntKind.u8 (Int.ofNat 0), CV.int IntKind.u8 (Int.ofNat 0),
                    CV.int IntKind.u8 (Int.ofNat 0)]))
              kA4]))
      none := by kernel_rfl
theorem iq56 (xs : List CV) (n : Nat) (R : Env → Hp → Res) : partsB Tryd.prog (call' B70) (filt an56 0) n (tailC 4 c56) (mkEnv 47 [(2, .bptr 0 0), (4, .bptr 1 0), (5, .c (.sl false false 1 xs))]) [zA4, zA4] (fun _ => headK hL56 R) (endOf Tryd.prog 56 []) =
    R
      (mkEnv 47
        [(2, PV.bptr 0 0), (4, PV.bptr 1 0), (16, PV.c (CV.sl false false 1 xs)),
          (17, PV.c (CV.int IntKind.i64 (↑xs.length : Int))), (18, PV.c (CV.int IntKind.i64 (Int.ofNat 0)))])
      [AO.box
          (PV.c
            (CV.agg
              [CV.int IntKind.u8 (Int.ofNat 0), CV.int IntKind.u8 (Int.ofNat 0), CV.int IntKind.u8 (Int.ofNat 0),
                CV.int IntKind.u8 (Int.ofNat 0)]))
          kA4,
        AO.box
          (PV.c
            (CV.agg
              [CV.int IntKind.u8 (Int.ofNat 0), CV.int IntKind.u8 (Int.ofNat 0), CV.int IntKind.u8 (Int.ofNat 0),
                CV.int IntKind.u8 (Int.ofNat 0)]))
          kA4] := by kernel_rfl
theorem ic56 (xs cs : List CV) (m i : Int) (n : Nat) (R : Env → Hp → Res) : aexec Tryd.prog (call' B70) (filt an56 0) n (bodyN 0 (tailC 4 c56)) (mkEnv 47 [(2, .bptr 0 0), (4, .bptr 1 0), (16, .c (.sl false false 1 xs)), (17, .c (.int .i64 m)), (18, .c (.int .i64 i))]) [zA4, .box (.c (.agg cs)) kA4] (thenK (headK hL56 R) (restN Tryd.prog (call' B70) (filt an56 0) n 0 (tailC 4 c56) (endOf Tryd.prog 56 []))) =
    bif' (decide (i < m))
      (bif' (decide (0 ≤ i))
        (bif' (decide (i < (↑xs.length : Int)))
          (bif' (decide (0 < (xs.getD i.toNat CV.nilptr).cl.length))
            (bif' (okc (CV.str (ByteArray.mk #[])) ((xs.getD i.toNat CV.nilptr).cl.getD 0 CV.nilptr))
              (bif'
                (decide (((xs.getD i.toNat CV.nilptr).cl.getD 0 CV.nilptr).toStr.size ≤ 10000) &&
                  (true &&
                    (true &&
                      (true &&
                        (true &&
                          (nOk ((xs.getD i.toNat CV.nilptr).cl.getD 0 CV.nilptr).toStr 10 &&
                            decide ((↑(nV ((xs.getD i.toNat CV.nilptr).cl.getD 0 CV.nilptr).toStr 10) : Int) < 256)))))))
                (bif' (decide ((↑((xs.getD i.toNat CV.nilptr).cl.getD 0 CV.nilptr).toStr.size : Int) > 1))
                  (bif' (decide (0 < (↑((xs.getD i.toNat CV.nilptr).cl.getD 0 CV.nilptr).toStr.size : Int)))
                    (bif' (byteAt ((xs.getD i.toNat CV.nilptr).cl.getD 0 CV.nilptr).toStr 0 == 48)
                      (bif' (4 == (CV.agg cs).cl.length) (some (CV.tup [CV.agg cs, CV.bool false], [])) none)
                      (bif' (decide (0 ≤ i))
                        (bif' (decide (i < (↑4 : Int)))
                          (bif' (decide (0 + i.toNat * 1 + 1 ≤ 4))
                            (R
                              (mkEnv 47
                                [(2, PV.bptr 0 0), (4, PV.bptr 1 0), (16, PV.c (CV.sl false false 1 xs)),
                                  (17, PV.c (CV.int IntKind.i64 m)),
                                  (18, PV.c (CV.int IntKind.i64 (IntKind.i64.wrap (i + 1))))])
                              [AO.box
                                  (PV.c
                                    (CV.agg
                                      [CV.int IntKind.u8 (Int.ofNat 0), CV.int IntKind.u8 (Int.ofNat 0),
                                        CV.int IntKind.u8 (Int.ofNat 0), CV.int IntKind.u8 (Int.ofNat 0)]))
                                  kA4,
                                AO.box
                                  (PV.c
                                    (CV.agg
                                      (setRange (CV.agg cs).cl (0 + i.toNat * 1)
                                        (CV.int IntKind.u8
                                            (IntKind.u8.wrap
                                              (↑(nV ((xs.getD i.toNat CV.nilptr).cl.getD 0 CV.nilptr).toStr 10) :
                                                Int))).cl)))
                                  kA4])
                            none)
                          none)
                        none))
                    none)
                  (bif' (decide (0 ≤ i))
                    (bif' (decide (i < (↑4 : Int)))
                      (bif' (decide (0 + i.toNat * 1 + 1 ≤ 4))
                        (R
                          (mkEnv 47
                            [(2, PV.bptr 0 0), (4, PV.bptr 1 0), (16, PV.c (CV.sl false false 1 xs)),
                              (17, PV.c (CV.int IntKind.i64 m)),
                              (18, PV.c (CV.int IntKind.i64 (IntKind.i64.wrap (i + 1))))])
                          [AO.box
                              (PV.c
                                (CV.agg
                                  [CV.int IntKind.u8 (Int.ofNat 0), CV.int IntKind.u8 (Int.ofNat 0),
                                    CV.int IntKind.u8 (Int.ofNat 0), CV.int IntKind.u8 (Int.ofNat 0)]))
                              kA4,
                            AO.box
                              (PV.c
                                (CV.agg
                                  (setRange (CV.agg cs).cl (0 + i.toNat * 1)
                                    (CV.int IntKind.u8
                                        (IntKind.u8.wrap
                                          (↑(nV ((xs.getD i.toNat CV.nilptr).cl.getD 0 CV.nilptr).toStr 10) : Int))).cl)))
                              kA4])
                        none)
                      none)
                    none))
                (bif' (decide (((xs.getD i.toNat CV.nilptr).cl.getD 0 CV.nilptr).toStr.size ≤ 10000) && true)
                  (bif' (4 == (CV.agg cs).cl.length) (some (CV.tup [CV.agg cs, CV.bool false], [])) none) none))
              none)
            none)
          none)
        none)
      (bif' (4 == (CV.agg cs).cl.length) (some (CV.tup [CV.agg cs, CV.bool true], [])) none) := by kernel_rfl
theorem ip63 (s : ByteArray) (n : Nat) (L : Env → Hp → Res) : aexec Tryd.prog (call' B56) (filt an63 0) n (prefC 3 c63) (envOf Tryd.prog 63 [.c (.str s)]) [] (thenK (headK h63 L) (endOf Tryd.prog 63 [])) =
    bif' (decide (s.size ≤ 10000) && true)
      (bif' ((↑(spS s (Nat.toUInt8 46)).length : Int) != 4) (some (CV.int IntKind.i64 (Int.negSucc 0), []))
        (L (mkEnv 48 [(3, PV.rw 0 0)]) [AO.row (spS s (Nat.toUInt8 46)) 1 0 false]))
      none := by kernel_rfl
theorem iq63 (xs : List CV) (n : Nat) (R : Env → Hp → Res) : partsB Tryd.prog (call' B56) (filt an63 0) n (tailC 3 c63) (mkEnv 48 [(3, .rw 0 0)]) [.row xs 1 0 false] (fun _ => headK hL63 R) (endOf Tryd.prog 63 []) =
    R
      (mkEnv 48
        [(3, PV.rw 0 0), (4, PV.c (CV.int IntKind.i64 (Int.ofNat 0))), (5, PV.c (CV.int IntKind.i64 (Int.ofNat 0)))])
      [AO.row xs 1 0 false] := by kernel_rfl
theorem ic63 (xs : List CV) (v i : Int) (n : Nat) (R : Env → Hp → Res) : aexec Tryd.prog (call' B56) (filt an63 0) n (bodyN 0 (tailC 3 c63)) (mkEnv 48 [(3, .rw 0 0), (4, .c (.int .i64 v)), (5, .c (.int .i64 i))]) [.row xs 1 0 false] (thenK (headK hL63 R) (restN Tryd.prog (call' B56) (filt an63 0) n 0 (tailC 3 c63) (endOf Tryd.prog 63 []))) =
    bif' (decide (i < 4))
      (bif' (decide (0 ≤ i))
        (bif' (decide (i < (↑xs.length : Int)))
          (bif' (decide (i.toNat < xs.length))
            (bif' (decide (0 < (xs.getD i.toNat CV.nilptr).cl.length))
              (bif' (okc (CV.str (ByteArray.mk #[])) ((xs.getD i.toNat CV.nilptr).cl.getD 0 CV.nilptr))
                (bif' (decide (((xs.getD i.toNat CV.nilptr).cl.getD 0 CV.nilptr).toStr.size ≤ 10000) && true)
                  (bif' (decide (nR ((xs.getD i.toNat CV.nilptr).cl.getD 0 CV.nilptr).toStr 10 < 0))
                    (some (CV.int IntKind.i64 (Int.negSucc 0), []))
                    (bif' (decide (nR ((xs.getD i.toNat CV.nilptr).cl.getD 0 CV.nilptr).toStr 10 > 255))
                      (some (CV.int IntKind.i64 (Int.negSucc 0), []))
                      (bif' (decide (0 ≤ i))
                        (bif' (decide (i < (↑xs.length : Int)))
                          (bif' (decide (i.toNat < xs.length))
                            (bif' (decide (0 < (xs.getD i.toNat CV.nilptr).cl.length))
                              (bif' (okc (CV.str (ByteArray.mk #[])) ((xs.getD i.toNat CV.nilptr).cl.getD 0 CV.nilptr))
                                (bif' (decide ((↑((xs.getD i.toNat CV.nilptr).cl.getD 0 CV.nilptr).toStr.size : Int) > 1))
                                  (bif' (decide (0 ≤ i))
                                    (bif' (decide (i < (↑xs.length : Int)))
                                      (bif' (decide (i.toNat < xs.length))
                                        (bif' (decide (0 < (xs.getD i.toNat CV.nilptr).cl.length))
                                          (bif'
                                            (okc (CV.str (ByteArray.mk #[]))
                                              ((xs.getD i.toNat CV.nilptr).cl.getD 0 CV.nilptr))
                                            (bif'
                                              (decide
                                                (0 < (↑((xs.getD i.toNat CV.nilptr).cl.getD 0 CV.nilptr).toStr.size : Int)))
                                              (bif' (byteAt ((xs.getD i.toNat CV.nilptr).cl.getD 0 CV.nilptr).toStr 0 == 48)
                                                (some (CV.int IntKind.i64 (Int.negSucc 0), []))
                                                (R
                                                  (mkEnv 48
                                                    [(3, PV.rw 0 0),
                                                      (4,
                                                        PV.c
                                                          (CV.int IntKind.i64
                                                            (IntKind.i64.wrap
                                                              (IntKind.i64.wrap (v * 256) +
                                                                nR ((xs.getD i.toNat CV.nilptr).cl.getD 0 CV.nilptr).toStr
                                                                  10)))),
                                                      (5, PV.c (CV.int IntKind.i64 (IntKind.i64.wrap (i + 1))))])
                                                  [AO.row xs 1 0 false]))
                                              none)
                                            none)
                                          none)
                                        none)
                                      none)
                                    none)
                                  (R
                                    (mkEnv 48
                                      [(3, PV.rw 0 0),
                                        (4,
                                          PV.c
                                            (CV.int IntKind.i64
                                              (IntKind.i64.wrap
                                                (IntKind.i64.wrap (v * 256) +
                                                  nR ((xs.getD i.toNat CV.nilptr).cl.getD 0 CV.nilptr).toStr 10)))),
                                        (5, PV.c (CV.int IntKind.i64 (IntKind.i64.wrap (i + 1))))])
                                    [AO.row xs 1 0 false]))
                                none)
                              none)
                            none)
                          none)
                        none)))
                  none)
                none)
              none)
            none)
          none)
        none)
      (some (CV.int IntKind.i64 v, [])) := by kernel_rfl
theorem ib72 (s : ByteArray) (t : Bool) (n : Nat) (R : Env → Hp → Res) : parts Tryd.prog (call' B63) (filt aL72 0) n (codeOf Tryd.prog 72) (envOf Tryd.prog 72 [.c (.str s), .c (.bool t)]) [] (fun _ => headK hL72 R) (endOf Tryd.prog 72 []) =
    bif' (s.toList == (ByteArray.mk #[]).toList) (some (CV.tup [CV.nilsl, CV.bool true], []))
      (bif' (decide (s.size ≤ 10000))
        (R
          (mkEnv 66
            [(1, PV.c (CV.bool t)), (6, PV.rw 0 0), (7, PV.c (CV.sl false false 1 (spS s 58))),
              (18, PV.c (CV.sl false false 1 (spS s 58))), (19, PV.c (CV.int IntKind.i64 (↑(spS s 58).length : Int))),
              (20, PV.c (CV.int IntKind.i64 (Int.ofNat 0)))])
          [AO.row [] 1 0 false])
        none) := by kernel_rfl
theorem ic72 (t : Bool) (xs ys : List CV) (m i : Int) (n : Nat) (R : Env → Hp → Res) : aexec Tryd.prog (call' B63) (filt aL72 0) n (bodyN 0 (codeOf Tryd.prog 72)) (mkEnv 66 [(1, .c (.bool t)), (6, .rw 0 0), (7, .c (.sl false false 1 xs)), (18, .c (.sl false false 1 xs)), (19, .c (.int .i64 m)), (20, .c (.int .i64 i))]) [.row ys 1 0 false] (thenK (headK hL72 R) (restN Tryd.prog (call' B63) (filt aL72 0) n 0 (codeOf Tryd.prog 72) (endOf Tryd.prog 72 []))) =
    bif' (decide (i < m))
      (bif' (decide (0 ≤ i))
        (bif' (decide (i < (↑xs.length : Int)))
          (bif' (decide (0 < (xs.getD i.toNat CV.nilptr).cl.length))
            (bif' (okc (CV.str (ByteArray.mk #[])) ((xs.getD i.toNat CV.nilptr).cl.getD 0 CV.nilptr))
              (bif' (decide (((xs.getD i.toNat CV.nilptr).cl.getD 0 CV.nilptr).toStr.size ≤ 10000))
                (bif' (f4 ((xs.getD i.toNat CV.nilptr).cl.getD 0 CV.nilptr).toStr)
                  (bif' t
                    (bif' (i == IntKind.i64.wrap ((↑xs.length : Int) - 1))
                      (bif'
                        (decide
                          ((ys.length +
                                (List.take 4
                                    (List.drop 0
                                      [CV.int IntKind.u8 (f4b ((xs.getD i.toNat CV.nilptr).cl.getD 0 CV.nilptr).toStr 0),
                                        CV.int IntKind.u8 (f4b ((xs.getD i.toNat CV.nilptr).cl.getD 0 CV.nilptr).toStr 1),
                                        CV.int IntKind.u8 (f4b ((xs.getD i.toNat CV.nilptr).cl.getD 0 CV.nilptr).toStr 2),
                                        CV.int IntKind.u8
                                          (f4b ((xs.getD i.toNat CV.nilptr).cl.getD 0 CV.nilptr).toStr 3)])).length) *
                              1 ≤
                            70368744177664))
                        (some
                          (CV.tup
                              [CV.sl true false 1
                                  (ys ++
                                    List.take 4
                                      (List.drop 0
                                        [CV.int IntKind.u8 (f4b ((xs.getD i.toNat CV.nilptr).cl.getD 0 CV.nilptr).toStr 0),
                                          CV.int IntKind.u8 (f4b ((xs.getD i.toNat CV.nilptr).cl.getD 0 CV.nilptr).toStr 1),
                                          CV.int IntKind.u8 (f4b ((xs.getD i.toNat CV.nilptr).cl.getD 0 CV.nilptr).toStr 2),
                                          CV.int IntKind.u8
                                            (f4b ((xs.getD i.toNat CV.nilptr).cl.getD 0 CV.nilptr).toStr 3)])),
                                CV.bool true],
                            []))
                        none)
                      (bif'
                        (decide (((xs.getD i.toNat CV.nilptr).cl.getD 0 CV.nilptr).toStr.size ≤ 10000) &&
                          (true &&
                            (true &&
                              (true &&
                                (true &&
                                  (nOk ((xs.getD i.toNat CV.nilptr).cl.getD 0 CV.nilptr).toStr 16 &&
                                    decide
                                      ((↑(nV ((xs.getD i.toNat CV.nilptr).cl.getD 0 CV.nilptr).toStr 16) : Int) <
                                        65536)))))))
                        (bif' (decide ((↑((xs.getD i.toNat CV.nilptr).cl.getD 0 CV.nilptr).toStr.size : Int) > 4))
                          (some (CV.tup [CV.nilsl, CV.bool false], []))
                          (bif'
                            (decide
                              ((ys.length +
                                    (((List.replicate 2 (CV.int IntKind.u8 0)).set 0
                                            (CV.int IntKind.u8
                                              (IntKind.u8.wrap
                                                ((↑(nV ((xs.getD i.toNat CV.nilptr).cl.getD 0 CV.nilptr).toStr 16) :
                                                      Int).fdiv
                                                  (2 ^ 8))))).set
                                        1
                                        (CV.int IntKind.u8
                                          (IntKind.u8.wrap
                                            (↑(nV ((xs.getD i.toNat CV.nilptr).cl.getD 0 CV.nilptr).toStr 16) :
                                              Int)))).length) *
                                  1 ≤
                                70368744177664))
                            (R
                              (mkEnv 66
                                [(1, PV.c (CV.bool t)), (6, PV.rw 0 0), (7, PV.c (CV.sl false false 1 xs)),
                                  (18, PV.c (CV.sl false false 1 xs)), (19, PV.c (CV.int IntKind.i64 m)),
                                  (20, PV.c (CV.int IntKind.i64 (IntKind.i64.wrap (i + 1))))])
                              [AO.row
                                  (ys ++
                                    ((List.replicate 2 (CV.int IntKind.u8 0)).set 0
                                          (CV.int IntKind.u8
                                            (IntKind.u8.wrap
                                              ((↑(nV ((xs.getD i.toNat CV.nilptr).cl.getD 0 CV.nilptr).toStr 16) : Int).fdiv
                                                (2 ^ 8))))).set
                                      1
                                      (CV.int IntKind.u8
                                        (IntKind.u8.wrap
                                          (↑(nV ((xs.getD i.toNat CV.nilptr).cl.getD 0 CV.nilptr).toStr 16) : Int))))
                                  1 0 false])
                            none))
                        (bif' (decide (((xs.getD i.toNat CV.nilptr).cl.getD 0 CV.nilptr).toStr.size ≤ 10000) && true)
                          (some (CV.tup [CV.nilsl, CV.bool false], [])) none)))
                    (bif'
                      (decide (((xs.getD i.toNat CV.nilptr).cl.getD 0 CV.nilptr).toStr.size ≤ 10000) &&
                        (true &&
                          (true &&
                            (true &&
                              (true &&
                                (nOk ((xs.getD i.toNat CV.nilptr).cl.getD 0 CV.nilptr).toStr 16 &&
                                  decide
                                    ((↑(nV ((xs.getD i.toNat CV.nilptr).cl.getD 0 CV.nilptr).toStr 16) : Int) < 65536)))))))
                      (bif' (decide ((↑((xs.getD i.toNat CV.nilptr).cl.getD 0 CV.nilptr).toStr.size : Int) > 4))
                        (some (CV.tup [CV.nilsl, CV.bool false], []))
                        (bif'
                          (decide
                            ((ys.length +
                                  (((List.replicate 2 (CV.int IntKind.u8 0)).set 0
                                          (CV.int IntKind.u8
                                            (IntKind.u8.wrap
                                              ((↑(nV ((xs.getD i.toNat CV.nilptr).cl.getD 0 CV.nilptr).toStr 16) : Int).fdiv
                                                (2 ^ 8))))).set
                                      1
                                      (CV.int IntKind.u8
                                        (IntKind.u8.wrap
                                          (↑(nV ((xs.getD i.toNat CV.nilptr).cl.getD 0 CV.nilptr).toStr 16) :
                                            Int)))).length) *
                                1 ≤
                              70368744177664))
                          (R
                            (mkEnv 66
                              [(1, PV.c (CV.bool t)), (6, PV.rw 0 0), (7, PV.c (CV.sl false false 1 xs)),
                                (18, PV.c (CV.sl false false 1 xs)), (19, PV.c (CV.int IntKind.i64 m)),
                                (20, PV.c (CV.int IntKind.i64 (IntKind.i64.wrap (i + 1))))])
                            [AO.row
                                (ys ++
                                  ((List.replicate 2 (CV.int IntKind.u8 0)).set 0
                                        (CV.int IntKind.u8
                                          (IntKind.u8.wrap
                                            ((↑(nV ((xs.getD i.toNat CV.nilptr).cl.getD 0 CV.nilptr).toStr 16) : Int).fdiv
                                              (2 ^ 8))))).set
                                    1
                                    (CV.int IntKind.u8
                                      (IntKind.u8.wrap
                                        (↑(nV ((xs.getD i.toNat CV.nilptr).cl.getD 0 CV.nilptr).toStr 16) : Int))))
                                1 0 false])
                          none))
                      (bif' (decide (((xs.getD i.toNat CV.nilptr).cl.getD 0 CV.nilptr).toStr.size ≤ 10000) && true)
                        (some (CV.tup [CV.nilsl, CV.bool false], [])) none)))
                  (bif'
                    (decide (((xs.getD i.toNat CV.nilptr).cl.getD 0 CV.nilptr).toStr.size ≤ 10000) &&
                      (true &&
                        (true &&
                          (true &&
                            (true &&
                              (nOk ((xs.getD i.toNat CV.nilptr).cl.getD 0 CV.nilptr).toStr 16 &&
                                decide
                                  ((↑(nV ((xs.getD i.toNat CV.nilptr).cl.getD 0 CV.nilptr).toStr 16) : Int) < 65536)))))))
                    (bif' (decide ((↑((xs.getD i.toNat CV.nilptr).cl.getD 0 CV.nilptr).toStr.size : Int) > 4))
                      (some (CV.tup [CV.nilsl, CV.bool false], []))
                      (bif'
                        (decide
                          ((ys.length +
                                (((List.replicate 2 (CV.int IntKind.u8 0)).set 0
                                        (CV.int IntKind.u8
                                          (IntKind.u8.wrap
                                            ((↑(nV ((xs.getD i.toNat CV.nilptr).cl.getD 0 CV.nilptr).toStr 16) : Int).fdiv
                                              (2 ^ 8))))).set
                                    1
                                    (CV.int IntKind.u8
                                      (IntKind.u8.wrap
                                        (↑(nV ((xs.getD i.toNat CV.nilptr).cl.getD 0 CV.nilptr).toStr 16) :
                                          Int)))).length) *
                              1 ≤
                            70368744177664))
                        (R
                          (mkEnv 66
                            [(1, PV.c (CV.bool t)), (6, PV.rw 0 0), (7, PV.c (CV.sl false false 1 xs)),
                              (18, PV.c (CV.sl false false 1 xs)), (19, PV.c (CV.int IntKind.i64 m)),
                              (20, PV.c (CV.int IntKind.i64 (IntKind.i64.wrap (i + 1))))])
                          [AO.row
                              (ys ++
                                ((List.replicate 2 (CV.int IntKind.u8 0)).set 0
                                      (CV.int IntKind.u8
                                        (IntKind.u8.wrap
                                          ((↑(nV ((xs.getD i.toNat CV.nilptr).cl.getD 0 CV.nilptr).toStr 16) : Int).fdiv
                                            (2 ^ 8))))).set
                                  1
                                  (CV.int IntKind.u8
                                    (IntKind.u8.wrap
                                      (↑(nV ((xs.getD i.toNat CV.nilptr).cl.getD 0 CV.nilptr).toStr 16) : Int))))
                              1 0 false])
                        none))
                    (bif' (decide (((xs.getD i.toNat CV.nilptr).cl.getD 0 CV.nilptr).toStr.size ≤ 10000) && true)
                      (some (CV.tup [CV.nilsl, CV.bool false], [])) none)))
                none)
              none)
            none)
          none)
        none)
      (some (CV.tup [CV.sl true false 1 ys, CV.bool true], [])) := by kernel_rfl

end Go.Pv

/- Addresses: four numbers; groups. -/
namespace Go.Pv
set_option linter.unusedVariables false
set_option maxRecDepth 100000
set_option maxHeartbeats 200000
open Go Go.Proofs
variable {I : World → Prop} {ng : Nat}

theorem el_get (s : ByteArray) : (CV.str s).cl.getD 0 CV.nilptr = CV.str s := by cases s; rfl
theorem el_len (s : ByteArray) : (CV.str s).cl.length = 1 := by cases s; rfl
theorem el_okc (z s : ByteArray) : okc (CV.str z) (CV.str s) = true := by cases s; rfl
theorem el_str (s : ByteArray) : (CV.str s).toStr = s := by cases s; rfl
theorem xs_get (ps : List (List UInt8)) (k : Nat) (h : k < ps.length) : (ps.map strCV).getD k CV.nilptr = CV.str (mkS (ps.getD k [])) := by
  simp [List.getD_eq_getElem?_getD, h, strCV]
theorem ps_drop {ps : List (List UInt8)} {k : Nat} (h : k < ps.length) : ps.drop k = ps.getD k [] :: ps.drop (k + 1) := by
  rw [List.drop_eq_getElem_cons h]
  simp [List.getD_eq_getElem?_getD, h]
theorem ps_mem {ps : List (List UInt8)} {k : Nat} (h : k < ps.length) : ps.getD k [] ∈ ps := by
  simp [List.getD_eq_getElem?_getD, h]
theorem split_sz (c : UInt8) : ∀ (l : List UInt8), ∀ p ∈ splitL c l, p.length ≤ l.length
  | [], p, hp => by simp [splitL] at hp; subst hp; simp
  | b :: t, p, hp => by
    obtain ⟨q, qs, e⟩ := splitL_ne c t
    have ih := split_sz c t
    unfold splitL at hp
    split at hp
    · rcases List.mem_cons.1 hp with rfl | hp
      · simp
      · have := ih p hp; simp only [List.length_cons]; omega
    · rw [e] at hp ih
      simp only [List.mem_cons] at hp
      rcases hp with rfl | hp
      · have := ih q (by simp); simp only [List.length_cons]; omega
      · have := ih p (by simp [hp]); simp only [List.length_cons]; omega
theorem sp_len (s : ByteArray) (c : UInt8) : (spS s c).length = (splitL c s.data.toList).length := by unfold spS; rw [List.length_map]
theorem beq_by (c : UInt8) (d : UInt8) : (((c.toNat : Nat) : Int) == ((d.toNat : Nat) : Int)) = (c == d) := by
  rw [Bool.eq_iff_iff, beq_iff_eq, beq_iff_eq]
  exact u8_int
theorem beq48 (c : UInt8) : (((c.toNat : Nat) : Int) == 48) = (c == 48) := beq_by c 48

/-! ### four -/
theorem g70 (hg : OnGlobals I ng) (h70 : Cw I ng 70 L70) : Kw I ng B70 := known_add (g64 hg) h70
theorem set_pad (A : List CV) (m : Nat) (z x : CV) : setRange (A ++ List.replicate (m + 1) z) A.length [x] = A ++ [x] ++ List.replicate m z := by
  unfold setRange
  rw [List.take_left', List.drop_append]
  · simp
  try rfl
theorem goF_len : ∀ ps : List (List UInt8), (goF ps).1.length ≤ ps.length
  | [] => Nat.le_refl _
  | p :: ps => by
    unfold goF
    split
    · have := goF_len ps; simp only [List.length_cons]; omega
    · simp
theorem goF_all : ∀ ps : List (List UInt8), (goF ps).2 = true → (goF ps).1.length = ps.length
  | [], _ => rfl
  | p :: ps, h => by
    unfold goF at h ⊢
    split at h
    · rename_i ho
      rw [if_pos ho]
      have := goF_all ps h; simp only [List.length_cons]; omega
    · cases h
theorem oct_lt {p : List UInt8} (h : octOk p = true) : numL 10 p < 256 := by
  unfold octOk at h
  simp only [Bool.and_eq_true, decide_eq_true_eq] at h
  exact h.2.1
theorem pad4 : ∀ r : List Nat, r.length ≤ 4 → r.map byCV ++ List.replicate (4 - r.length) (CV.int .u8 (Int.ofNat 0)) = [.int .u8 ((r.getD 0 0 : Nat) : Int), .int .u8 ((r.getD 1 0 : Nat) : Int), .int .u8 ((r.getD 2 0 : Nat) : Int), .int .u8 ((r.getD 3 0 : Nat) : Int)]
  | [], _ => rfl
  | [_], _ => rfl
  | [_, _], _ => rfl
  | [_, _, _], _ => rfl
  | [_, _, _, _], _ => rfl
  | _ :: _ :: _ :: _ :: _ :: _, h => by simp at h
def E56 (ps : List (List UInt8)) (k : Nat) : Env := mkEnv 47 [(2, .bptr 0 0), (4, .bptr 1 0), (16, .c (.sl false false 1 (ps.map strCV))), (17, .c (.int .i64 ((ps.length : Nat) : Int))), (18, .c (.int .i64 (k : Int)))]
noncomputable abbrev R56 (n j : Nat) (env : Env) (H : Hp) : Res := rounds Tryd.prog (call' B70) (filt an56 0) n hL56 (bodyN 0 (tailC 4 c56)) j env H (restN Tryd.prog (call' B70) (filt an56 0) n 0 (tailC 4 c56) (endOf Tryd.prog 56 []))
theorem lo56 (n : Nat) (ps : List (List UInt8)) (h4 : ps.length = 4) (hsz : ∀ p ∈ ps, p.length ≤ 10000) : ∀ (j k : Nat) (dn : List Nat), 4 < j + k → k ≤ 4 → dn.length = k →
    R56 n j (E56 ps k) [zA4, .box (.c (.agg (dn.map byCV ++ List.replicate (4 - k) (CV.int .u8 (Int.ofNat 0))))) kA4] =
      some (.tup [.agg ((dn ++ (goF (ps.drop k)).1).map byCV ++ List.replicate (4 - (dn ++ (goF (ps.drop k)).1).length) (CV.int .u8 (Int.ofNat 0))), .bool (goF (ps.drop k)).2], [])
  | 0, k, dn, hj, hk, hd => by omega
  | j + 1, k, dn, hj, hk, hd => by
    have hcl : ∀ l : List CV, (CV.agg l).cl = l := fun _ => rfl
    have hlen : (dn.map byCV ++ List.replicate (4 - k) (CV.int .u8 (Int.ofNat 0))).length = 4 := by simp; omega
    unfold R56
    rw [E56, rounds_succ, ic56]
    simp only [natM, hcl, hlen, List.length_map]
    have c4 : ((4 : Nat) == 4) = true := rfl
    rw [c4]
    by_cases h1 : k < ps.length
    · have hp := xs_get ps k h1
      simp only [hp, el_get, el_len, el_okc, el_str, sizeM]
      have hsz1 := hsz _ (ps_mem h1)
      generalize hpe : ps.getD k [] = p at *
      have e1 : nOk (mkS p) 10 = numOk 10 p := rfl
      have e2 : nV (mkS p) 10 = numL 10 p := rfl
      rw [e1, e2, atM]
      have b1 : decide ((k : Int) < ((ps.length : Nat) : Int)) = true := decide_eq_true (by omega)
      have b2 : decide ((0 : Int) ≤ (k : Int)) = true := decide_eq_true (by omega)
      have b3 : decide (0 < 1) = true := rfl
      have b4 : decide (p.length ≤ 10000) = true := decide_eq_true hsz1
      have b5 : decide ((k : Int) < (4 : Int)) = true := decide_eq_true (by omega)
      have b6 : decide (0 + k * 1 + 1 ≤ 4) = true := decide_eq_true (by omega)
      rw [b1, b2, b3, b4, b5, b6, beq48, wrp1 (i := k) (by omega), ps_drop h1, hpe]
      simp only [Bool.true_and, Bool.and_self, bif_t _ _ (Eq.refl true)]
      have hbad : octOk p = false → some (CV.tup [CV.agg (dn.map byCV ++ List.replicate (4 - k) (CV.int .u8 (Int.ofNat 0))), CV.bool false], ([] : List CV)) =
          some (.tup [.agg ((dn ++ (goF (p :: ps.drop (k + 1))).1).map byCV ++ List.replicate (4 - (dn ++ (goF (p :: ps.drop (k + 1))).1).length) (CV.int .u8 (Int.ofNat 0))), .bool (goF (p :: ps.drop (k + 1))).2], []) := by
        intro ho
        unfold goF
        rw [ho, if_neg Bool.false_ne_true, List.append_nil, hd]
      have hgood : octOk p = true → R56 n j (E56 ps (k + 1)) [zA4, .box (.c (.agg (setRange (dn.map byCV ++ List.replicate (4 - k) (CV.int .u8 (Int.ofNat 0))) (0 + k * 1) (CV.int IntKind.u8 (IntKind.u8.wrap ((numL 10 p : Nat) : Int))).cl))) kA4] =
          some (.tup [.agg ((dn ++ (goF (p :: ps.drop (k + 1))).1).map byCV ++ List.replicate (4 - (dn ++ (goF (p :: ps.drop (k + 1))).1).length) (CV.int .u8 (Int.ofNat 0))), .bool (goF (p :: ps.drop (k + 1))).2], []) := by
        intro ho
        have hlt := oct_lt ho
        have e3 : (CV.int IntKind.u8 (IntKind.u8.wrap ((numL 10 p : Nat) : Int))).cl = [byCV (numL 10 p)] := by
          rw [wrap8, show ((numL 10 p : Nat) : Int) % 256 = ((numL 10 p : Nat) : Int) by omega]; rfl
        have e4 : 4 - k = (4 - (k + 1)) + 1 := by omega
        have e5 : 0 + k * 1 = (dn.map byCV).length := by simp; omega
        rw [e3, e4, e5, set_pad]
        have ih := lo56 n ps h4 hsz j (k + 1) (dn ++ [numL 10 p]) (by omega) (by omega) (by simp; omega)
        have e6 : (dn ++ [numL 10 p]).map byCV = dn.map byCV ++ [byCV (numL 10 p)] := by simp
        rw [e6] at ih
        refine Eq.trans ih ?_
        have e7 : (goF (p :: ps.drop (k + 1))) = (numL 10 p :: (goF (ps.drop (k + 1))).1, (goF (ps.drop (k + 1))).2) := by
          conv => lhs; unfold goF
          rw [if_pos ho]
        rw [e7]
        simp only [List.append_assoc, List.cons_append, List.nil_append]
      unfold octOk at hbad hgood
      cases hn : numOk 10 p with
      | false =>
        rw [hn] at hbad
        rw [Bool.false_and, bif_f _ _ rfl]
        exact hbad rfl
      | true =>
        rw [hn] at hbad hgood
        by_cases hv : numL 10 p < 256
        · have b7 : decide (((numL 10 p : Nat) : Int) < 256) = true := decide_eq_true (by omega)
          rw [b7]
          rw [decide_eq_true hv] at hbad hgood
          simp only [Bool.true_and, Bool.and_self, bif_t _ _ (Eq.refl true)] at hbad hgood ⊢
          by_cases hl : 1 < p.length
          · have b8 : decide (((p.length : Nat) : Int) > 1) = true := decide_eq_true (by omega)
            have b9 : decide ((0 : Int) < ((p.length : Nat) : Int)) = true := decide_eq_true (by omega)
            rw [b8, b9]
            rw [decide_eq_true hl] at hbad hgood
            simp only [Bool.true_and, bif_t _ _ (Eq.refl true)] at hbad hgood ⊢
            cases h48 : (p.getD 0 0 == 48) with
            | true => rw [h48] at hbad; rw [bif_t _ _ rfl]; exact hbad rfl
            | false => rw [h48] at hgood; rw [bif_f _ _ rfl]; exact hgood rfl
          · have b8 : decide (((p.length : Nat) : Int) > 1) = false := decide_eq_false (by omega)
            rw [b8, bif_f _ _ rfl]
            rw [decide_eq_false hl] at hgood
            exact hgood rfl
        · have b7 : decide (((numL 10 p : Nat) : Int) < 256) = false := decide_eq_false (by omega)
          rw [b7]
          rw [decide_eq_false hv] at hbad
          simp only [Bool.and_false, Bool.false_and] at hbad ⊢
          rw [bif_f _ _ rfl]
          exact hbad trivial
    · have b1 : decide ((k : Int) < ((ps.length : Nat) : Int)) = false := decide_eq_false (by omega)
      rw [b1, bif_f _ _ rfl, List.drop_of_length_le (by omega)]
      simp only [bif_t _ _ (Eq.refl true)]
      have e : goF [] = ([], true) := rfl
      rw [e, List.append_nil, hd]
theorem sp56 : spine 4 c56 = true := by kernel_rfl
theorem ha56 : headAt (filt an56 0) (tailC 4 c56) = some h56 := by kernel_rfl
theorem lp56 : startsR (tailC 4 c56) = true := by kernel_rfl
theorem id56 : idsOk (tailC 4 c56) = true := by kernel_rfl
theorem nl56 : nLoops (tailC 4 c56) = 1 := by kernel_rfl
theorem hh56 : (firstRegion (bodyN 0 (tailC 4 c56))).bind (filt an56 0) = some hL56 := by kernel_rfl
theorem g56 (hg : OnGlobals I ng) (h70 : Cw I ng 70 L70) : Kw I ng B56 := known_add (g70 hg h70) (contract_of an56 hg (hok_of (g70 hg h70)) fun cargs rv outs h => by
  unfold L56 at h
  split at h <;> first | (cases h; done) | skip
  rename_i s
  by_cases hs : s.size ≤ 10000
  · simp only [picked, pickAlt, decide_eq_true hs] at h
    cases h
    refine ⟨12000, ?_⟩
    rw [abody_eq rfl (by kernel_rfl)]
    show aexec Tryd.prog (call' B70) (filt an56 0) 12000 c56 (envOf Tryd.prog 56 [.c (.str s)]) [] (endOf Tryd.prog 56 []) = _
    rw [seg_a (k := 4) (by decide) sp56 ha56, ip56, decide_eq_true hs, bif_t _ _ rfl, sp_len]
    unfold f4 f4b fourP
    by_cases h4 : (splitL 46 s.data.toList).length = 4
    · have b : ((((splitL 46 s.data.toList).length : Nat) : Int) != 4) = false := by rw [h4]; rfl
      rw [b, bif_f _ _ rfl, if_pos h4]
      show aexecB Tryd.prog (call' B70) (filt an56 0) 12000 (tailC 4 c56) _ _ _ = _
      rw [loopB' lp56 id56 nl56 hh56]
      refine (iq56 (spS s 46) 12000 (R56 12000 12000)).trans ?_
      rw [sp_len]
      have hsz : ∀ p ∈ splitL 46 s.data.toList, p.length ≤ 10000 := fun p hp => by
        have := split_sz 46 _ p hp
        rw [data_len] at this; omega
      refine (lo56 12000 (splitL 46 s.data.toList) h4 hsz 12000 0 [] (by omega) (by omega) rfl).trans ?_
      rw [List.drop_zero, List.nil_append, pad4 _ (by have := goF_len (splitL 46 s.data.toList); omega)]
    · have b : ((((splitL 46 s.data.toList).length : Nat) : Int) != 4) = true := by
        rw [bne_iff_ne]; omega
      rw [b, bif_t _ _ rfl, if_neg h4]
      rfl
  · simp only [picked, pickAlt, decide_eq_false hs] at h; cases h)

end Go.Pv

/- Addresses: the document's four; groups. -/
namespace Go.Pv
set_option linter.unusedVariables false
set_option maxRecDepth 100000
set_option maxHeartbeats 200000
open Go Go.Proofs
variable {I : World → Prop} {ng : Nat}

/-! ### The document's four -/
def foldA (v : Nat) (r : List Nat) : Nat := r.foldl (fun a x => a * 256 + x) v
noncomputable abbrev R63 (n j : Nat) (env : Env) (H : Hp) : Res := rounds Tryd.prog (call' B56) (filt an63 0) n hL63 (bodyN 0 (tailC 3 c63)) j env H (restN Tryd.prog (call' B56) (filt an63 0) n 0 (tailC 3 c63) (endOf Tryd.prog 63 []))
theorem lo63 (n : Nat) (ps : List (List UInt8)) (h4 : ps.length = 4) (hsz : ∀ p ∈ ps, p.length ≤ 10000) : ∀ (j k v : Nat), 4 < j + k → k ≤ 4 → v < 256 ^ k →
    R63 n j (mkEnv 48 [(3, .rw 0 0), (4, .c (.int .i64 (v : Int))), (5, .c (.int .i64 (k : Int)))]) [.row (ps.map strCV) 1 0 false] =
      some (.int .i64 (if (goF (ps.drop k)).2 = true then ((foldA v (goF (ps.drop k)).1 : Nat) : Int) else -1), [])
  | 0, k, v, hj, hk, hd => by omega
  | j + 1, k, v, hj, hk, hd => by
    unfold R63
    rw [rounds_succ, ic63]
    simp only [natM, List.length_map]
    by_cases h1 : k < ps.length
    · have hp := xs_get ps k h1
      simp only [hp, el_get, el_len, el_okc, el_str, sizeM]
      have hsz1 := hsz _ (ps_mem h1)
      generalize hpe : ps.getD k [] = p at *
      have e1 : nR (mkS p) 10 = if numOk 10 p then ((min (numL 10 p) 4294967296 : Nat) : Int) else -1 := rfl
      rw [e1, atM]
      have b0 : decide ((k : Int) < 4) = true := decide_eq_true (by omega)
      have b1 : decide ((k : Int) < ((ps.length : Nat) : Int)) = true := decide_eq_true (by omega)
      have b2 : decide ((0 : Int) ≤ (k : Int)) = true := decide_eq_true (by omega)
      have b3 : decide (0 < 1) = true := rfl
      have b4 : decide (p.length ≤ 10000) = true := decide_eq_true hsz1
      have b5 : decide (k < ps.length) = true := decide_eq_true h1
      rw [b0, b1, b2, b3, b4, b5, beq48, wrp1 (i := k) (by omega), ps_drop h1, hpe]
      simp only [Bool.true_and, Bool.and_self, bif_t _ _ (Eq.refl true)]
      have hbad : octOk p = false → some (CV.int IntKind.i64 (Int.negSucc 0), ([] : List CV)) = some (.int .i64 (if (goF (p :: ps.drop (k + 1))).2 = true then ((foldA v (goF (p :: ps.drop (k + 1))).1 : Nat) : Int) else -1), []) := by
        intro ho
        unfold goF
        rw [ho, if_neg Bool.false_ne_true, if_neg Bool.false_ne_true]
        rfl
      have hpow : 256 ^ k ≤ 256 ^ 4 := Nat.pow_le_pow_right (by omega) hk
      have hpow1 : 256 ^ (k + 1) = 256 ^ k * 256 := Nat.pow_succ ..
      have hgood : octOk p = true → R63 n j (mkEnv 48 [(3, .rw 0 0), (4, .c (.int .i64 (IntKind.i64.wrap (IntKind.i64.wrap ((v : Int) * 256) + ((min (numL 10 p) 4294967296 : Nat) : Int))))), (5, .c (.int .i64 ((k + 1 : Nat) : Int)))]) [.row (ps.map strCV) 1 0 false] = some (.int .i64 (if (goF (p :: ps.drop (k + 1))).2 = true then ((foldA v (goF (p :: ps.drop (k + 1))).1 : Nat) : Int) else -1), []) := by
        intro ho
        have hlt := oct_lt ho
        have e2 : IntKind.i64.wrap (IntKind.i64.wrap ((v : Int) * 256) + ((min (numL 10 p) 4294967296 : Nat) : Int)) = ((v * 256 + numL 10 p : Nat) : Int) := by
          rw [wrap_id (n := (v : Int) * 256) (by omega) (by omega), wrap_id (by omega) (by omega)]; omega
        rw [e2]
        refine Eq.trans (lo63 n ps h4 hsz j (k + 1) (v * 256 + numL 10 p) (by omega) (by omega) (by rw [hpow1]; omega)) ?_
        have e7 : (goF (p :: ps.drop (k + 1))) = (numL 10 p :: (goF (ps.drop (k + 1))).1, (goF (ps.drop (k + 1))).2) := by
          conv => lhs; unfold goF
          rw [if_pos ho]
        rw [e7]
        rfl
      unfold octOk at hbad hgood
      cases hn : numOk 10 p with
      | false =>
        rw [hn] at hbad
        rw [if_neg Bool.false_ne_true, bif_t _ _ (decide_eq_true (by decide))]
        exact hbad rfl
      | true =>
        rw [hn] at hbad hgood
        rw [if_pos rfl, bif_f _ _ (decide_eq_false (by omega))]
        by_cases hv : numL 10 p < 256
        · rw [bif_f _ _ (decide_eq_false (by omega))]
          rw [decide_eq_true hv] at hbad hgood
          simp only [Bool.true_and, Bool.and_self] at hbad hgood
          by_cases hl : 1 < p.length
          · have b8 : decide (((p.length : Nat) : Int) > 1) = true := decide_eq_true (by omega)
            have b9 : decide ((0 : Int) < ((p.length : Nat) : Int)) = true := decide_eq_true (by omega)
            rw [b8, b9]
            rw [decide_eq_true hl] at hbad hgood
            simp only [Bool.true_and, bif_t _ _ (Eq.refl true)] at hbad hgood ⊢
            cases h48 : (p.getD 0 0 == 48) with
            | true => rw [h48] at hbad; rw [bif_t _ _ rfl]; exact hbad rfl
            | false => rw [h48] at hgood; rw [bif_f _ _ rfl]; exact hgood rfl
          · have b8 : decide (((p.length : Nat) : Int) > 1) = false := decide_eq_false (by omega)
            rw [b8, bif_f _ _ rfl]
            rw [decide_eq_false hl] at hgood
            exact hgood rfl
        · rw [bif_t _ _ (decide_eq_true (by omega))]
          rw [decide_eq_false hv] at hbad
          exact hbad rfl
    · have b0 : decide ((k : Int) < 4) = false := decide_eq_false (by omega)
      rw [b0, bif_f _ _ rfl, List.drop_of_length_le (by omega)]
      rfl
theorem sp63 : spine 3 c63 = true := by kernel_rfl
theorem ha63 : headAt (filt an63 0) (tailC 3 c63) = some h63 := by kernel_rfl
theorem lp63 : startsR (tailC 3 c63) = true := by kernel_rfl
theorem id63 : idsOk (tailC 3 c63) = true := by kernel_rfl
theorem nl63 : nLoops (tailC 3 c63) = 1 := by kernel_rfl
theorem hh63 : (firstRegion (bodyN 0 (tailC 3 c63))).bind (filt an63 0) = some hL63 := by kernel_rfl
theorem fold4 (r : List Nat) (h : r.length = 4) : ((foldA 0 r : Nat) : Int) = ((((r.getD 0 0 : Nat) : Int) * 256 + ((r.getD 1 0 : Nat) : Int)) * 256 + ((r.getD 2 0 : Nat) : Int)) * 256 + ((r.getD 3 0 : Nat) : Int) := by
  match r, h with
  | [a, b, c, d], _ =>
    show ((((( 0 * 256 + a) * 256 + b) * 256 + c) * 256 + d : Nat) : Int) = (((a : Int) * 256 + (b : Int)) * 256 + (c : Int)) * 256 + (d : Int)
    omega
theorem g63 (hg : OnGlobals I ng) (h70 : Cw I ng 70 L70) : Kw I ng B63 := known_add (g56 hg h70) (contract_of an63 hg (hok_of (g56 hg h70)) fun cargs rv outs h => by
  unfold L63 at h
  split at h <;> first | (cases h; done) | skip
  rename_i s
  by_cases hs : s.size ≤ 10000
  · simp only [picked, pickAlt, decide_eq_true hs] at h
    cases h
    refine ⟨12000, ?_⟩
    rw [abody_eq rfl (by kernel_rfl)]
    show aexec Tryd.prog (call' B56) (filt an63 0) 12000 c63 (envOf Tryd.prog 63 [.c (.str s)]) [] (endOf Tryd.prog 63 []) = _
    rw [seg_a (k := 3) (by decide) sp63 ha63, ip63, decide_eq_true hs, sp_len]
    simp only [Bool.true_and, bif_t _ _ (Eq.refl true)]
    have e46 : Nat.toUInt8 46 = (46 : UInt8) := rfl
    rw [e46]
    unfold f4r f4 f4b fourP
    by_cases h4 : (splitL 46 s.data.toList).length = 4
    · have b : ((((splitL 46 s.data.toList).length : Nat) : Int) != 4) = false := by rw [h4]; rfl
      rw [b, bif_f _ _ rfl, if_pos h4]
      show aexecB Tryd.prog (call' B56) (filt an63 0) 12000 (tailC 3 c63) _ _ _ = _
      rw [loopB' lp63 id63 nl63 hh63]
      refine (iq63 (spS s 46) 12000 (R63 12000 12000)).trans ?_
      have hsz : ∀ p ∈ splitL 46 s.data.toList, p.length ≤ 10000 := fun p hp => by
        have := split_sz 46 _ p hp
        rw [data_len] at this; omega
      refine (lo63 12000 (splitL 46 s.data.toList) h4 hsz 12000 0 0 (by omega) (by omega) (by decide)).trans ?_
      rw [List.drop_zero]
      cases hq : (goF (splitL 46 s.data.toList)).2 with
      | false => rfl
      | true =>
        rw [if_pos rfl, if_pos rfl, fold4 _ (by rw [goF_all _ hq, h4])]
    · have b : ((((splitL 46 s.data.toList).length : Nat) : Int) != 4) = true := by
        rw [bne_iff_ne]; omega
      rw [b, bif_t _ _ rfl, if_neg h4]
      rfl
  · simp only [picked, pickAlt, decide_eq_false hs] at h; cases h)

/-! ### groups -/
theorem four4 {p : List UInt8} (h : (fourP (splitL 46 p)).2 = true) : (fourP (splitL 46 p)).1.length = 4 := by
  unfold fourP at h ⊢
  split at h
  · rename_i h4
    rw [if_pos h4, goF_all _ h, h4]
  · cases h
theorem list4 (r : List Nat) (h : r.length = 4) : [CV.int .u8 ((r.getD 0 0 : Nat) : Int), CV.int .u8 ((r.getD 1 0 : Nat) : Int), CV.int .u8 ((r.getD 2 0 : Nat) : Int), CV.int .u8 ((r.getD 3 0 : Nat) : Int)] = r.map byCV := by
  match r, h with
  | [a, b, c, d], _ => rfl
theorem rep2 {α : Type} (a b c : α) : ((List.replicate 2 a).set 0 b).set 1 c = [b, c] := rfl
def E72 (t : Bool) (ps : List (List UInt8)) (k : Nat) : Env := mkEnv 66 [(1, .c (.bool t)), (6, .rw 0 0), (7, .c (.sl false false 1 (ps.map strCV))), (18, .c (.sl false false 1 (ps.map strCV))), (19, .c (.int .i64 ((ps.length : Nat) : Int))), (20, .c (.int .i64 (k : Int)))]
def res72 (ys : List CV) : Option (List Nat) → Res
  | some r => some (.tup [.sl true false 1 (ys ++ r.map byCV), .bool true], [])
  | none => some (.tup [.nilsl, .bool false], [])
noncomputable abbrev R72 (n j : Nat) (env : Env) (H : Hp) : Res := rounds Tryd.prog (call' B63) (filt aL72 0) n hL72 (bodyN 0 (codeOf Tryd.prog 72)) j env H (restN Tryd.prog (call' B63) (filt aL72 0) n 0 (codeOf Tryd.prog 72) (endOf Tryd.prog 72 []))
theorem lo72 (n : Nat) (t : Bool) (ps : List (List UInt8)) (hl : ps.length ≤ 20000) (hsz : ∀ p ∈ ps, p.length ≤ 10000) : ∀ (j k : Nat) (ys : List CV), ps.length < j + k → k ≤ ps.length → ys.length ≤ 2 * k →
    R72 n j (E72 t ps k) [.row ys 1 0 false] = res72 ys (grL t (ps.drop k))
  | 0, k, ys, hj, hk, hd => by omega
  | j + 1, k, ys, hj, hk, hd => by
    unfold R72
    rw [E72, rounds_succ, ic72]
    simp only [natM, List.length_map, rep2]
    by_cases h1 : k < ps.length
    · have hp := xs_get ps k h1
      simp only [hp, el_get, el_len, el_okc, el_str, sizeM]
      have hsz1 := hsz _ (ps_mem h1)
      generalize hpe : ps.getD k [] = p at *
      have e1 : nOk (mkS p) 16 = numOk 16 p := rfl
      have e2 : nV (mkS p) 16 = numL 16 p := rfl
      have e3 : f4 (mkS p) = (fourP (splitL 46 p)).2 := rfl
      have e4 : ∀ i, f4b (mkS p) i = (((fourP (splitL 46 p)).1.getD i 0 : Nat) : Int) := fun _ => rfl
      rw [e1, e2, e3, e4, e4, e4, e4]
      have b1 : decide ((k : Int) < ((ps.length : Nat) : Int)) = true := decide_eq_true (by omega)
      have b2 : decide ((0 : Int) ≤ (k : Int)) = true := decide_eq_true (by omega)
      have b3 : decide (0 < 1) = true := rfl
      have b4 : decide (p.length ≤ 10000) = true := decide_eq_true hsz1
      have hw : IntKind.i64.wrap (((ps.length : Nat) : Int) - 1) = ((ps.length - 1 : Nat) : Int) := by rw [wrap_id (by omega) (by omega)]; omega
      rw [b1, b2, b3, b4, hw, wrp1 (i := k) (by omega), ps_drop h1, hpe]
      simp only [Bool.true_and, Bool.and_self, bif_t _ _ (Eq.refl true)]
      -- what comes of a group
      have grp : (t && ((ps.drop (k + 1)).isEmpty && (fourP (splitL 46 p)).2)) = false →
          (bif' (numOk 16 p && decide (((numL 16 p : Nat) : Int) < 65536)) (bif' (decide (((p.length : Nat) : Int) > 4)) (some (CV.tup [CV.nilsl, CV.bool false], [])) (bif' (decide ((ys.length + [CV.int IntKind.u8 (IntKind.u8.wrap (((numL 16 p : Nat) : Int).fdiv (2 ^ 8))), CV.int IntKind.u8 (IntKind.u8.wrap ((numL 16 p : Nat) : Int))].length) * 1 ≤ 70368744177664)) (R72 n j (E72 t ps (k + 1)) [.row (ys ++ [CV.int IntKind.u8 (IntKind.u8.wrap (((numL 16 p : Nat) : Int).fdiv (2 ^ 8))), CV.int IntKind.u8 (IntKind.u8.wrap ((numL 16 p : Nat) : Int))]) 1 0 false]) none)) (some (CV.tup [CV.nilsl, CV.bool false], []))) = res72 ys (grL t (p :: ps.drop (k + 1))) := by
        intro hno
        have e5 : grL t (p :: ps.drop (k + 1)) = if grpOk p then (match grL t (ps.drop (k + 1)) with
            | some r => some (numL 16 p / 256 :: numL 16 p % 256 :: r)
            | none => none) else none := by
          conv => lhs; unfold grL
          rw [hno, if_neg Bool.false_ne_true]
          all_goals (cases grL t (ps.drop (k + 1)) <;> rfl)
        rw [e5]
        unfold grpOk
        cases hn : numOk 16 p with
        | false => rfl
        | true =>
          by_cases hv : numL 16 p < 65536
          · rw [decide_eq_true hv, decide_eq_true (show ((numL 16 p : Nat) : Int) < 65536 by omega)]
            by_cases hlen : p.length ≤ 4
            · rw [decide_eq_true hlen, decide_eq_false (show ¬ (((p.length : Nat) : Int) > 4) by omega)]
              have b5 : decide ((ys.length + [CV.int IntKind.u8 (IntKind.u8.wrap (((numL 16 p : Nat) : Int).fdiv (2 ^ 8))), CV.int IntKind.u8 (IntKind.u8.wrap ((numL 16 p : Nat) : Int))].length) * 1 ≤ 70368744177664) = true := decide_eq_true (by simp only [List.length_cons, List.length_nil]; omega)
              rw [b5]
              simp only [Bool.and_self, bif_t _ _ (Eq.refl true), bif_f _ _ (Eq.refl false), if_true]
              have e6 : (((numL 16 p : Nat) : Int).fdiv (2 ^ 8)) = ((numL 16 p / 256 : Nat) : Int) := by
                rw [Int.fdiv_eq_ediv_of_nonneg _ (by decide)]
                have : (2 ^ 8 : Int) = ((256 : Nat) : Int) := by decide
                rw [this, ← Int.natCast_ediv]
              have e7 : IntKind.u8.wrap ((numL 16 p / 256 : Nat) : Int) = ((numL 16 p / 256 : Nat) : Int) := by rw [wrap8]; omega
              have e8 : IntKind.u8.wrap ((numL 16 p : Nat) : Int) = ((numL 16 p % 256 : Nat) : Int) := by rw [wrap8]; omega
              rw [e6, e7, e8]
              refine Eq.trans (lo72 n t ps hl hsz j (k + 1) _ (by omega) (by omega) (by rw [List.length_append]; simp only [List.length_cons, List.length_nil]; omega)) ?_
              cases grL t (ps.drop (k + 1)) with
              | none => rfl
              | some r =>
                unfold res72
                simp only [List.append_assoc]
                rfl
            · rw [decide_eq_false hlen, decide_eq_true (show (((p.length : Nat) : Int) > 4) by omega)]
              rfl
          · rw [decide_eq_false hv, decide_eq_false (show ¬ ((numL 16 p : Nat) : Int) < 65536 by omega)]
            rfl
      have hlast : (((k : Nat) : Int) == ((ps.length - 1 : Nat) : Int)) = (ps.drop (k + 1)).isEmpty := by
        rw [Bool.eq_iff_iff, beq_iff_eq, List.isEmpty_iff, List.drop_eq_nil_iff]; omega
      rw [hlast]
      cases h4 : (fourP (splitL 46 p)).2 with
      | false =>
        rw [bif_f _ _ rfl]
        rw [h4] at grp
        exact grp (by simp)
      | true =>
        rw [h4] at grp
        rw [bif_t _ _ rfl]
        cases t with
        | false => rw [bif_f _ _ rfl]; exact grp rfl
        | true =>
          rw [bif_t _ _ rfl]
          cases he : (ps.drop (k + 1)).isEmpty with
          | false =>
            rw [bif_f _ _ rfl]
            exact grp (by rw [he]; rfl)
          | true =>
            have hl4 := four4 h4
            have e6 : grL true (p :: ps.drop (k + 1)) = some (fourP (splitL 46 p)).1 := by
              unfold grL
              rw [he, h4]; rfl
            rw [e6, list4 _ hl4, List.drop_zero, List.take_of_length_le (by simp; omega), bif_t _ _ rfl]
            rw [bif_t _ _ (decide_eq_true (by simp; omega))]
            rfl
    · have b1 : decide ((k : Int) < ((ps.length : Nat) : Int)) = false := decide_eq_false (by omega)
      rw [b1, bif_f _ _ rfl, List.drop_of_length_le (by omega)]
      have e : grL t [] = some [] := by unfold grL; rfl
      rw [e]
      show _ = some (CV.tup [CV.sl true false 1 (ys ++ ([] : List Nat).map byCV), .bool true], [])
      rw [List.map_nil, List.append_nil]
theorem split_len (c : UInt8) : ∀ l : List UInt8, (splitL c l).length ≤ l.length + 1
  | [] => Nat.le_refl _
  | b :: t => by
    obtain ⟨q, qs, e⟩ := splitL_ne c t
    have ih := split_len c t
    unfold splitL
    split
    · simp only [List.length_cons]; omega
    · rw [e] at ih ⊢
      simp only [List.length_cons] at *; omega
theorem g72 (hg : OnGlobals I ng) (h70 : Cw I ng 70 L70) : Kw I ng B72 := known_add (g63 hg h70) (contract_of aL72 hg (hok_of (g63 hg h70)) fun cargs rv outs h => by
  unfold L72 at h
  split at h <;> first | (cases h; done) | skip
  rename_i s t
  refine ⟨22000, loop1 rfl (by kernel_rfl) (by kernel_rfl) (by kernel_rfl) (hd := hL72) (by kernel_rfl) ?_⟩
  by_cases hs : s.size ≤ 10000
  · refine (ib72 s t 22000 (R72 22000 22000)).trans ?_
    obtain ⟨l, rfl⟩ : ∃ l, s = mkS l := ⟨_, (mkS_bl s).symm⟩
    rw [sizeM] at hs
    have e : ((mkS l).toList == (ByteArray.mk #[]).toList) = decide (l.length = 0) := by
      rw [toList_data, toList_data, mkS_data]
      cases l <;> rfl
    have e2 : (spS (mkS l) 58) = (splitL 58 l).map strCV := rfl
    rw [e, sizeM, decide_eq_true hs, e2, List.length_map]
    simp only [picked, pickAlt, sizeM, decide_eq_true hs, Bool.true_and] at h
    by_cases h0 : l.length = 0
    · rw [decide_eq_true h0] at h ⊢
      cases h
      rfl
    · rw [decide_eq_false h0] at h ⊢
      rw [bif_f _ _ rfl, bif_t _ _ rfl]
      have hsz : ∀ p ∈ splitL 58 l, p.length ≤ 10000 := fun p hp => by
        have := split_sz 58 _ p hp; omega
      have hl := split_len 58 l
      refine Eq.trans (lo72 22000 t (splitL 58 l) (by omega) hsz 22000 0 [] (by omega) (by omega) (by simp)) ?_
      rw [List.drop_zero]
      unfold gOk gB at h
      simp only [dataM] at h
      cases hq : grL t (splitL 58 l) with
      | none => rw [hq] at h; cases h; rfl
      | some r => rw [hq] at h; cases h; rfl
  · simp only [picked, pickAlt, decide_eq_false hs, Bool.false_and] at h; cases h)

end Go.Pv

/- Addresses: six, Parse, the document's groups: specs and trees. -/
namespace Go.Pv
set_option linter.unusedVariables false
set_option maxRecDepth 100000
open Go Go.Proofs

/-- A text ahead of the first '::', and behind it. -/
def cutDD : List UInt8 → Option (List UInt8 × List UInt8)
  | [] => none
  | a :: t => if a = 58 ∧ t.head? = some 58 then some ([], t.drop 1) else match cutDD t with
    | some (h, r) => some (a :: h, r)
    | none => none
def ddG (s : ByteArray) : Bool := (cutDD s.data.toList).isSome
def ddH (s : ByteArray) : ByteArray := match cutDD s.data.toList with
  | some (h, _) => mkS h
  | none => s
def ddT (s : ByteArray) : ByteArray := match cutDD s.data.toList with
  | some (_, t) => mkS t
  | none => mkS []
def hasB (s : ByteArray) (c : UInt8) : Bool := s.data.toList.any fun b => decide (b = c)
def grpL (tail : Bool) (l : List UInt8) : Option (List Nat) := if l.isEmpty then some [] else grL tail (splitL 58 l)
def sixL (l : List UInt8) : Option (List Nat) := match cutDD l with
  | none => match grpL true l with
    | some a => if a.length = 16 then some a else none
    | none => none
  | some (h, t) => match grpL false h, grpL true t with
    | some a, some b => if a.length + b.length ≤ 16 then some (a ++ List.replicate (16 - a.length - b.length) 0 ++ b) else none
    | _, _ => none
def s6 (s : ByteArray) : Bool := (sixL s.data.toList).isSome
def s6b (s : ByteArray) (i : Nat) : Int := ((((sixL s.data.toList).getD []).getD i 0 : Nat) : Int)
def ip4 (s : ByteArray) : Bool := decide (s.size ≤ 64) && f4 s
def ip6 (s : ByteArray) : Bool := decide (s.size ≤ 64) && (!f4 s && (s6 s && hasB s 58))
def ipB (s : ByteArray) (i : Nat) : Int := if f4 s then (if i < 12 then 0 else f4b s (i - 12)) else s6b s i
/-- The document's groups; -1 stands for the gap. -/
def refG (all : List (List UInt8)) : Nat → Bool → List (List UInt8) → Option (List Int)
  | _, _, [] => some []
  | i, gap, p :: ps => if p = [] then
      if i = 0 ∨ ps = [] then
        if all.length < 3 ∨ (i = 0 ∧ all.getD 1 [] ≠ []) ∨ (0 < i ∧ all.getD (all.length - 2) [] ≠ []) then none else refG all (i + 1) gap ps
      else if gap then none else match refG all (i + 1) true ps with
        | some r => some (-1 :: r)
        | none => none
    else if (fourP (splitL 46 p)).2 = true ∧ ps = [] then some [f4r (mkS p) / 65536, f4r (mkS p) % 65536]
    else if numOk 16 p = true ∧ p.length ≤ 4 then match refG all (i + 1) gap ps with
      | some r => some (((numL 16 p : Nat) : Int) :: r)
      | none => none
    else none
def intCV (n : Int) : CV := .int .i64 n
def gROk (s : ByteArray) : Bool := (refG (splitL 58 s.data.toList) 0 false (splitL 58 s.data.toList)).isSome
def rB (s : ByteArray) : List CV := ((refG (splitL 58 s.data.toList) 0 false (splitL 58 s.data.toList)).getD []).map intCV
def L28d : Fn1 := fun x => match x with
  | [.str s, .str ⟨⟨[58, 58]⟩⟩] => some [(decide (s.size ≤ 10000), .tup [.str (ddH s), .str (ddT s), .bool (ddG s)], [])]
  | _ => none
def L60d : Fn1 := fun x => match x with
  | [.str s, .str ⟨⟨[c]⟩⟩] => some [(decide (s.size ≤ 10000), .int .i64 (Lib.indexByte s.data.toList c), [])]
  | _ => none
def L59d : Fn1 := fun x => match x with
  | [.str s, .str ⟨⟨[c]⟩⟩] => some [(decide (s.size ≤ 10000), .bool (hasB s c), [])]
  | _ => none
def L58 : Fn1 := fun x => match x with
  | [.str s] => some [(decide (s.size ≤ 10000), .tup [.agg [.int .u8 (s6b s 0), .int .u8 (s6b s 1), .int .u8 (s6b s 2), .int .u8 (s6b s 3), .int .u8 (s6b s 4), .int .u8 (s6b s 5), .int .u8 (s6b s 6), .int .u8 (s6b s 7), .int .u8 (s6b s 8), .int .u8 (s6b s 9), .int .u8 (s6b s 10), .int .u8 (s6b s 11), .int .u8 (s6b s 12), .int .u8 (s6b s 13), .int .u8 (s6b s 14), .int .u8 (s6b s 15)], .bool (s6 s)], [])]
  | _ => none
def ipZero : CV := .agg [.bool false, .int .u8 0, .int .u8 0, .int .u8 0, .int .u8 0, .int .u8 0, .int .u8 0, .int .u8 0, .int .u8 0, .int .u8 0, .int .u8 0, .int .u8 0, .int .u8 0, .int .u8 0, .int .u8 0, .int .u8 0, .int .u8 0]
def ipAgg (v : Bool) (s : ByteArray) : CV := .agg [.bool v, .int .u8 (ipB s 0), .int .u8 (ipB s 1), .int .u8 (ipB s 2), .int .u8 (ipB s 3), .int .u8 (ipB s 4), .int .u8 (ipB s 5), .int .u8 (ipB s 6), .int .u8 (ipB s 7), .int .u8 (ipB s 8), .int .u8 (ipB s 9), .int .u8 (ipB s 10), .int .u8 (ipB s 11), .int .u8 (ipB s 12), .int .u8 (ipB s 13), .int .u8 (ipB s 14), .int .u8 (ipB s 15)]
def L47 : Fn1 := fun x => match x with
  | [.str s] => some [(decide (s.size ≤ 3000) && ip6 s, .tup [ipAgg true s, .int .i64 0], []), (decide (s.size ≤ 3000) && ip4 s, .tup [ipAgg false s, .int .i64 0], []), (decide (s.size ≤ 3000), .tup [ipZero, .int .i64 5], [])]
  | _ => none
def L65 : Fn1 := fun x => match x with
  | [.str s] => some [(decide (s.size ≤ 10000) && gROk s, .tup [.sl true false 1 (rB s), .bool true], []), (decide (s.size ≤ 10000), .tup [.nilsl, .bool false], [])]
  | _ => none
def B28 : Table := fun g => if Nat.beq g 28 then L28d else B72 g
def B60 : Table := fun g => if Nat.beq g 60 then L60d else B28 g
def B73 : Table := fun g => if Nat.beq g 73 then L60d else B60 g
def B59 : Table := fun g => if Nat.beq g 59 then L59d else B73 g
def B58 : Table := fun g => if Nat.beq g 58 then L58 else B59 g
def B65 : Table := fun g => if Nat.beq g 65 then L65 else B58 g
def kA16 : Nat := 16 + 4294967296 * (70 + 1)
noncomputable def c58 : Code := codeOf Tryd.prog 58
def h58a : Head := ⟨[2, 4, 5, 6, 7], [], 2⟩
def h58b : Head := ⟨[2, 4, 6, 7, 8, 9], [(8, 1)], 2⟩
def h58c : Head := ⟨[2, 4, 7, 8, 9, 10, 11], [(8, 1), (10, 1)], 2⟩
def h58d : Head := ⟨[2, 4, 8, 10], [(8, 1), (10, 1)], 2⟩
def an58 : Ann := fun i => if Nat.beq i 500003 then some h58a else if Nat.beq i 500004 then some h58b else if Nat.beq i 500005 then some h58c else if Nat.beq i 500007 then some h58d else none
abbrev zA16 : AO := .box (.c (.agg [.int .u8 0, .int .u8 0, .int .u8 0, .int .u8 0, .int .u8 0, .int .u8 0, .int .u8 0, .int .u8 0, .int .u8 0, .int .u8 0, .int .u8 0, .int .u8 0, .int .u8 0, .int .u8 0, .int .u8 0, .int .u8 0])) kA16
def hL65 : Head := ⟨[4, 5, 6, 7], [(5, 1), (4, 1)], 0⟩
def aL65 : Ann := fun i => if Nat.beq i 5 then some hL65 else none
theorem iq60 (s : ByteArray) (c : UInt8) : abody Tryd.prog (call' B28) (fun _ => none) 1 60 [.str s, .str ⟨⟨[c]⟩⟩] =
    bif' ((ByteArray.mk (Array.mk [c])).toList == s.toList) (some (CV.int IntKind.i64 (Int.ofNat 0), []))
      (some (CV.int IntKind.i64 (Lib.indexByte s.data.toList (byteAt (ByteArray.mk (Array.mk [c])) 0).toNat.toUInt8), [])) := by kernel_rfl
theorem iq73 (s : ByteArray) (c : UInt8) : abody Tryd.prog (call' B60) (fun _ => none) 1 73 [.str s, .str ⟨⟨[c]⟩⟩] =
    bif' (decide (s.size ≤ 10000)) (some (CV.int IntKind.i64 (Lib.indexByte s.data.toList c), [])) none := by kernel_rfl
theorem iq59 (s : ByteArray) (c : UInt8) : abody Tryd.prog (call' B73) (fun _ => none) 1 59 [.str s, .str ⟨⟨[c]⟩⟩] =
    bif' (decide (s.size ≤ 10000)) (some (CV.bool (decide (Lib.indexByte s.data.toList c ≥ 0)), [])) none := by kernel_rfl
theorem ip58 (s : ByteArray) (n : Nat) (L : Env → Hp → Res) : aexec Tryd.prog (call' B59) (filt an58 0) n (prefC 3 c58) (envOf Tryd.prog 58 [.c (.str s)]) [] (thenK (headK h58a L) (endOf Tryd.prog 58 [])) =
    bif' (decide (s.size ≤ 10000))
      (L
        (mkEnv 68
          [(2, PV.bptr 0 0), (4, PV.bptr 1 0), (5, PV.c (CV.str (ddH s))), (6, PV.c (CV.str (ddT s))),
            (7, PV.c (CV.bool (ddG s)))])
        [AO.box
            (PV.c
              (CV.agg
                [CV.int IntKind.u8 (Int.ofNat 0), CV.int IntKind.u8 (Int.ofNat 0), CV.int IntKind.u8 (Int.ofNat 0),
                  CV.int IntKind.u8 (Int.ofNat 0), CV.int IntKind.u8 (Int.ofNat 0), CV.int IntKind.u8 (Int.ofNat 0),
                  CV.int IntKind.u8 (Int.ofNat 0), CV.int IntKind.u8 (Int.ofNat 0), CV.int IntKind.u8 (Int.ofNat 0),
                  CV.int IntKind.u8 (Int.ofNat 0), CV.int IntKind.u8 (Int.ofNat 0), CV.int IntKind.u8 (Int.ofNat 0),
                  CV.int IntKind.u8 (Int.ofNat 0), CV.int IntKind.u8 (Int.ofNat 0), CV.int IntKind.u8 (Int.ofNat 0),
                  CV.int IntKind.u8 (Int.ofNat 0)]))
            kA16,
          AO.box
            (PV.c
              (CV.agg
                [CV.int IntKind.u8 (Int.ofNat 0), CV.int IntKind.u8 (Int.ofNat 0), CV.int IntKind.u8 (Int.ofNat 0),
                  CV.int IntKind.u8 (Int.ofNat 0), CV.int IntKind.u8 (Int.ofNat 0), CV.int IntKind.u8 (Int.ofNat 0),
                  CV.int IntKind.u8 (Int.ofNat 0), CV.int IntKind.u8 (Int.ofNat 0), CV.int IntKind.u8 (Int.ofNat 0),
                  CV.int IntKind.u8 (Int.ofNat 0), CV.int IntKind.u8 (Int.ofNat 0), CV.int IntKind.u8 (Int.ofNat 0),
                  CV.int IntKind.u8 (Int.ofNat 0), CV.int IntKind.u8 (Int.ofNat 0), CV.int IntKind.u8 (Int.ofNat 0),
                  CV.int IntKind.u8 (Int.ofNat 0)]))
            kA16])
      none := by kernel_rfl
theorem iq58 (h t : ByteArray) (g : Bool) (n : Nat) (L : Env → Hp → Res) : aexecB Tryd.prog (call' B59) (filt an58 0) n (prefC 1 (tailC 3 c58)) (mkEnv 68 [(2, .bptr 0 0), (4, .bptr 1 0), (5, .c (.str h)), (6, .c (.str t)), (7, .c (.bool g))]) [zA16, zA16] (thenK (headK h58b L) (endOf Tryd.prog 58 [])) =
    bif' (decide (h.size ≤ 10000) && decide (h.size = 0))
      (L
        (mkEnv 68
          [(2, PV.bptr 0 0), (4, PV.bptr 1 0), (6, PV.c (CV.str t)), (7, PV.c (CV.bool g)), (8, PV.rw 2 0),
            (9, PV.c (CV.bool true))])
        [AO.box
            (PV.c
              (CV.agg
                [CV.int IntKind.u8 (Int.ofNat 0), CV.int IntKind.u8 (Int.ofNat 0), CV.int IntKind.u8 (Int.ofNat 0),
                  CV.int IntKind.u8 (Int.ofNat 0), CV.int IntKind.u8 (Int.ofNat 0), CV.int IntKind.u8 (Int.ofNat 0),
                  CV.int IntKind.u8 (Int.ofNat 0), CV.int IntKind.u8 (Int.ofNat 0), CV.int IntKind.u8 (Int.ofNat 0),
                  CV.int IntKind.u8 (Int.ofNat 0), CV.int IntKind.u8 (Int.ofNat 0), CV.int IntKind.u8 (Int.ofNat 0),
                  CV.int IntKind.u8 (Int.ofNat 0), CV.int IntKind.u8 (Int.ofNat 0), CV.int IntKind.u8 (Int.ofNat 0),
                  CV.int IntKind.u8 (Int.ofNat 0)]))
            kA16,
          AO.box
            (PV.c
              (CV.agg
                [CV.int IntKind.u8 (Int.ofNat 0), CV.int IntKind.u8 (Int.ofNat 0), CV.int IntKind.u8 (Int.ofNat 0),
                  CV.int IntKind.u8 (Int.ofNat 0), CV.int IntKind.u8 (Int.ofNat 0), CV.int IntKind.u8 (Int.ofNat 0),
                  CV.int IntKind.u8 (Int.ofNat 0), CV.int IntKind.u8 (Int.ofNat 0), CV.int IntKind.u8 (Int.ofNat 0),
                  CV.int IntKind.u8 (Int.ofNat 0), CV.int IntKind.u8 (Int.ofNat 0), CV.int IntKind.u8 (Int.ofNat 0),
                  CV.int IntKind.u8 (Int.ofNat 0), CV.int IntKind.u8 (Int.ofNat 0), CV.int IntKind.u8 (Int.ofNat 0),
                  CV.int IntKind.u8 (Int.ofNat 0)]))
            kA16,
          AO.row [] 1 0 false])
      (bif' (decide (h.size ≤ 10000) && gOk h !g)
        (L
          (mkEnv 68
            [(2, PV.bptr 0 0), (4, PV.bptr 1 0), (6, PV.c (CV.str t)), (7, PV.c (CV.bool g)), (8, PV.rw 2 0),
              (9, PV.c (CV.bool true))])
          [AO.box
              (PV.c
                (CV.agg
                  [CV.int IntKind.u8 (Int.ofNat 0), CV.int IntKind.u8 (Int.ofNat 0), CV.int IntKind.u8 (Int.ofNat 0),
                    CV.int IntKind.u8 (Int.ofNat 0), CV.int IntKind.u8 (Int.ofNat 0), CV.int IntKind.u8 (Int.ofNat 0),
                    CV.int IntKind.u8 (Int.ofNat 0), CV.int IntKind.u8 (Int.ofNat 0), CV.int IntKind.u8 (Int.ofNat 0),
                    CV.int IntKind.u8 (Int.ofNat 0), CV.int IntKind.u8 (Int.ofNat 0), CV.int IntKind.u8 (Int.ofNat 0),
                    CV.int IntKind.u8 (Int.ofNat 0), CV.int IntKind.u8 (Int.ofNat 0), CV.int IntKind.u8 (Int.ofNat 0),
                    CV.int IntKind.u8 (Int.ofNat 0)]))
              kA16,
            AO.box
              (PV.c
                (CV.agg
                  [CV.int IntKind.u8 (Int.ofNat 0), CV.int IntKind.u8 (Int.ofNat 0), CV.int IntKind.u8 (Int.ofNat 0),
                    CV.int IntKind.u8 (Int.ofNat 0), CV.int IntKind.u8 (Int.ofNat 0), CV.int IntKind.u8 (Int.ofNat 0),
                    CV.int IntKind.u8 (Int.ofNat 0), CV.int IntKind.u8 (Int.ofNat 0), CV.int IntKind.u8 (Int.ofNat 0),
                    CV.int IntKind.u8 (Int.ofNat 0), CV.int IntKind.u8 (Int.ofNat 0), CV.int IntKind.u8 (Int.ofNat 0),
                    CV.int IntKind.u8 (Int.ofNat 0), CV.int IntKind.u8 (Int.ofNat 0), CV.int IntKind.u8 (Int.ofNat 0),
                    CV.int IntKind.u8 (Int.ofNat 0)]))
              kA16,
            AO.row (gB h !g) 1 0 false])
        (bif' (decide (h.size ≤ 10000))
          (L
            (mkEnv 68
              [(2, PV.bptr 0 0), (4, PV.bptr 1 0), (6, PV.c (CV.str t)), (7, PV.c (CV.bool g)), (8, PV.rw 2 0),
                (9, PV.c (CV.bool false))])
            [AO.box
                (PV.c
                  (CV.agg
                    [CV.int IntKind.u8 (Int.ofNat 0), CV.int IntKind.u8 (Int.ofNat 0), CV.int IntKind.u8 (Int.ofNat 0),
                      CV.int IntKind.u8 (Int.ofNat 0), CV.int IntKind.u8 (Int.ofNat 0), CV.int IntKind.u8 (Int.ofNat 0),
                      CV.int IntKind.u8 (Int.ofNat 0), CV.int IntKind.u8 (Int.ofNat 0), CV.int IntKind.u8 (Int.ofNat 0),
                      CV.int IntKind.u8 (Int.ofNat 0), CV.int IntKind.u8 (Int.ofNat 0), CV.int IntKind.u8 (Int.ofNat 0),
                      CV.int IntKind.u8 (Int.ofNat 0), CV.int IntKind.u8 (Int.ofNat 0), CV.int IntKind.u8 (Int.ofNat 0),
                      CV.int IntKind.u8 (Int.ofNat 0)]))
                kA16,
              AO.box
                (PV.c
                  (CV.agg
                    [CV.int IntKind.u8 (Int.ofNat 0), CV.int IntKind.u8 (Int.ofNat 0), CV.int IntKind.u8 (Int.ofNat 0),
                      CV.int IntKind.u8 (Int.ofNat 0), CV.int IntKind.u8 (Int.ofNat 0), CV.int IntKind.u8 (Int.ofNat 0),
                      CV.int IntKind.u8 (Int.ofNat 0), CV.int IntKind.u8 (Int.ofNat 0), CV.int IntKind.u8 (Int.ofNat 0),
                      CV.int IntKind.u8 (Int.ofNat 0), CV.int IntKind.u8 (Int.ofNat 0), CV.int IntKind.u8 (Int.ofNat 0),
                      CV.int IntKind.u8 (Int.ofNat 0), CV.int IntKind.u8 (Int.ofNat 0), CV.int IntKind.u8 (Int.ofNat 0),
                      CV.int IntKind.u8 (Int.ofNat 0)]))
                kA16,
              AO.row [] 1 0 false])
          none)) := by kernel_rfl
theorem ir58 (t : ByteArray) (g a : Bool) (xs : List CV) (n : Nat) (L : Env → Hp → Res) : aexecB Tryd.prog (call' B59) (filt an58 0) n (prefC 1 (tailC 4 c58)) (mkEnv 68 [(2, .bptr 0 0), (4, .bptr 1 0), (6, .c (.str t)), (7, .c (.bool g)), (8, .rw 2 0), (9, .c (.bool a))]) [zA16, zA16, .row xs 1 0 false] (thenK (headK h58c L) (endOf Tryd.prog 58 [])) =
    bif' (decide (t.size ≤ 10000) && decide (t.size = 0))
      (L
        (mkEnv 68
          [(2, PV.bptr 0 0), (4, PV.bptr 1 0), (7, PV.c (CV.bool g)), (8, PV.rw 2 0), (9, PV.c (CV.bool a)),
            (10, PV.rw 3 0), (11, PV.c (CV.bool true))])
        [AO.box
            (PV.c
              (CV.agg
                [CV.int IntKind.u8 (Int.ofNat 0), CV.int IntKind.u8 (Int.ofNat 0), CV.int IntKind.u8 (Int.ofNat 0),
                  CV.int IntKind.u8 (Int.ofNat 0), CV.int IntKind.u8 (Int.ofNat 0), CV.int IntKind.u8 (Int.ofNat 0),
                  CV.int IntKind.u8 (Int.ofNat 0), CV.int IntKind.u8 (Int.ofNat 0), CV.int IntKind.u8 (Int.ofNat 0),
                  CV.int IntKind.u8 (Int.ofNat 0), CV.int IntKind.u8 (Int.ofNat 0), CV.int IntKind.u8 (Int.ofNat 0),
                  CV.int IntKind.u8 (Int.ofNat 0), CV.int IntKind.u8 (Int.ofNat 0), CV.int IntKind.u8 (Int.ofNat 0),
                  CV.int IntKind.u8 (Int.ofNat 0)]))
            kA16,
          AO.box
            (PV.c
              (CV.agg
                [CV.int IntKind.u8 (Int.ofNat 0), CV.int IntKind.u8 (Int.ofNat 0), CV.int IntKind.u8 (Int.ofNat 0),
                  CV.int IntKind.u8 (Int.ofNat 0), CV.int IntKind.u8 (Int.ofNat 0), CV.int IntKind.u8 (Int.ofNat 0),
                  CV.int IntKind.u8 (Int.ofNat 0), CV.int IntKind.u8 (Int.ofNat 0), CV.int IntKind.u8 (Int.ofNat 0),
                  CV.int IntKind.u8 (Int.ofNat 0), CV.int IntKind.u8 (Int.ofNat 0), CV.int IntKind.u8 (Int.ofNat 0),
                  CV.int IntKind.u8 (Int.ofNat 0), CV.int IntKind.u8 (Int.ofNat 0), CV.int IntKind.u8 (Int.ofNat 0),
                  CV.int IntKind.u8 (Int.ofNat 0)]))
            kA16,
          AO.row xs 1 0 false, AO.row [] 1 0 false])
      (bif' (decide (t.size ≤ 10000) && gOk t true)
        (L
          (mkEnv 68
            [(2, PV.bptr 0 0), (4, PV.bptr 1 0), (7, PV.c (CV.bool g)), (8, PV.rw 2 0), (9, PV.c (CV.bool a)),
              (10, PV.rw 3 0), (11, PV.c (CV.bool true))])
          [AO.box
              (PV.c
                (CV.agg
                  [CV.int IntKind.u8 (Int.ofNat 0), CV.int IntKind.u8 (Int.ofNat 0), CV.int IntKind.u8 (Int.ofNat 0),
                    CV.int IntKind.u8 (Int.ofNat 0), CV.int IntKind.u8 (Int.ofNat 0), CV.int IntKind.u8 (Int.ofNat 0),
                    CV.int IntKind.u8 (Int.ofNat 0), CV.int IntKind.u8 (Int.ofNat 0), CV.int IntKind.u8 (Int.ofNat 0),
                    CV.int IntKind.u8 (Int.ofNat 0), CV.int IntKind.u8 (Int.ofNat 0), CV.int IntKind.u8 (Int.ofNat 0),
                    CV.int IntKind.u8 (Int.ofNat 0), CV.int IntKind.u8 (Int.ofNat 0), CV.int IntKind.u8 (Int.ofNat 0),
                    CV.int IntKind.u8 (Int.ofNat 0)]))
              kA16,
            AO.box
              (PV.c
                (CV.agg
                  [CV.int IntKind.u8 (Int.ofNat 0), CV.int IntKind.u8 (Int.ofNat 0), CV.int IntKind.u8 (Int.ofNat 0),
                    CV.int IntKind.u8 (Int.ofNat 0), CV.int IntKind.u8 (Int.ofNat 0), CV.int IntKind.u8 (Int.ofNat 0),
                    CV.int IntKind.u8 (Int.ofNat 0), CV.int IntKind.u8 (Int.ofNat 0), CV.int IntKind.u8 (Int.ofNat 0),
                    CV.int IntKind.u8 (Int.ofNat 0), CV.int IntKind.u8 (Int.ofNat 0), CV.int IntKind.u8 (Int.ofNat 0),
                    CV.int IntKind.u8 (Int.ofNat 0), CV.int IntKind.u8 (Int.ofNat 0), CV.int IntKind.u8 (Int.ofNat 0),
                    CV.int IntKind.u8 (Int.ofNat 0)]))
              kA16,
            AO.row xs 1 0 false, AO.row (gB t true) 1 0 false])
        (bif' (decide (t.size ≤ 10000))
          (L
            (mkEnv 68
              [(2, PV.bptr 0 0), (4, PV.bptr 1 0), (7, PV.c (CV.bool g)), (8, PV.rw 2 0), (9, PV.c (CV.bool a)),
                (10, PV.rw 3 0), (11, PV.c (CV.bool false))])
            [AO.box
                (PV.c
                  (CV.agg
                    [CV.int IntKind.u8 (Int.ofNat 0), CV.int IntKind.u8 (Int.ofNat 0), CV.int IntKind.u8 (Int.ofNat 0),
                      CV.int IntKind.u8 (Int.ofNat 0), CV.int IntKind.u8 (Int.ofNat 0), CV.int IntKind.u8 (Int.ofNat 0),
                      CV.int IntKind.u8 (Int.ofNat 0), CV.int IntKind.u8 (Int.ofNat 0), CV.int IntKind.u8 (Int.ofNat 0),
                      CV.int IntKind.u8 (Int.ofNat 0), CV.int IntKind.u8 (Int.ofNat 0), CV.int IntKind.u8 (Int.ofNat 0),
                      CV.int IntKind.u8 (Int.ofNat 0), CV.int IntKind.u8 (Int.ofNat 0), CV.int IntKind.u8 (Int.ofNat 0),
                      CV.int IntKind.u8 (Int.ofNat 0)]))
                kA16,
              AO.box
                (PV.c
                  (CV.agg
                    [CV.int IntKind.u8 (Int.ofNat 0), CV.int IntKind.u8 (Int.ofNat 0), CV.int IntKind.u8 (Int.ofNat 0),
                      CV.int IntKind.u8 (Int.ofNat 0), CV.int IntKind.u8 (Int.ofNat 0), CV.int IntKind.u8 (Int.ofNat 0),
                      CV.int IntKind.u8 (Int.ofNat 0), CV.int IntKind.u8 (Int.ofNat 0), CV.int IntKind.u8 (Int.ofNat 0),
                      CV.int IntKind.u8 (Int.ofNat 0), CV.int IntKind.u8 (Int.ofNat 0), CV.int IntKind.u8 (Int.ofNat 0),
                      CV.int IntKind.u8 (Int.ofNat 0), CV.int IntKind.u8 (Int.ofNat 0), CV.int IntKind.u8 (Int.ofNat 0),
                      CV.int IntKind.u8 (Int.ofNat 0)]))
                kA16,
              AO.row xs 1 0 false, AO.row [] 1 0 false])
          none)) := by kernel_rfl
theorem is58 (g a b : Bool) (xs ys : List CV) (n : Nat) (L : Env → Hp → Res) : aexecB Tryd.prog (call' B59) (filt an58 0) n (prefC 1 (tailC 5 c58)) (mkEnv 68 [(2, .bptr 0 0), (4, .bptr 1 0), (7, .c (.bool g)), (8, .rw 2 0), (9, .c (.bool a)), (10, .rw 3 0), (11, .c (.bool b))]) [zA16, zA16, .row xs 1 0 false, .row ys 1 0 false] (thenK (headK h58d L) (endOf Tryd.prog 58 [])) =
    bif' (!a)
      (some
        (CV.tup
            [CV.agg
                [CV.int IntKind.u8 (Int.ofNat 0), CV.int IntKind.u8 (Int.ofNat 0), CV.int IntKind.u8 (Int.ofNat 0),
                  CV.int IntKind.u8 (Int.ofNat 0), CV.int IntKind.u8 (Int.ofNat 0), CV.int IntKind.u8 (Int.ofNat 0),
                  CV.int IntKind.u8 (Int.ofNat 0), CV.int IntKind.u8 (Int.ofNat 0), CV.int IntKind.u8 (Int.ofNat 0),
                  CV.int IntKind.u8 (Int.ofNat 0), CV.int IntKind.u8 (Int.ofNat 0), CV.int IntKind.u8 (Int.ofNat 0),
                  CV.int IntKind.u8 (Int.ofNat 0), CV.int IntKind.u8 (Int.ofNat 0), CV.int IntKind.u8 (Int.ofNat 0),
                  CV.int IntKind.u8 (Int.ofNat 0)],
              CV.bool false],
          []))
      (bif' (!b)
        (some
          (CV.tup
              [CV.agg
                  [CV.int IntKind.u8 (Int.ofNat 0), CV.int IntKind.u8 (Int.ofNat 0), CV.int IntKind.u8 (Int.ofNat 0),
                    CV.int IntKind.u8 (Int.ofNat 0), CV.int IntKind.u8 (Int.ofNat 0), CV.int IntKind.u8 (Int.ofNat 0),
                    CV.int IntKind.u8 (Int.ofNat 0), CV.int IntKind.u8 (Int.ofNat 0), CV.int IntKind.u8 (Int.ofNat 0),
                    CV.int IntKind.u8 (Int.ofNat 0), CV.int IntKind.u8 (Int.ofNat 0), CV.int IntKind.u8 (Int.ofNat 0),
                    CV.int IntKind.u8 (Int.ofNat 0), CV.int IntKind.u8 (Int.ofNat 0), CV.int IntKind.u8 (Int.ofNat 0),
                    CV.int IntKind.u8 (Int.ofNat 0)],
                CV.bool false],
            []))
        (bif' (!g)
          (bif' ((↑xs.length : Int) != 16)
            (some
              (CV.tup
                  [CV.agg
                      [CV.int IntKind.u8 (Int.ofNat 0), CV.int IntKind.u8 (Int.ofNat 0), CV.int IntKind.u8 (Int.ofNat 0),
                        CV.int IntKind.u8 (Int.ofNat 0), CV.int IntKind.u8 (Int.ofNat 0), CV.int IntKind.u8 (Int.ofNat 0),
                        CV.int IntKind.u8 (Int.ofNat 0), CV.int IntKind.u8 (Int.ofNat 0), CV.int IntKind.u8 (Int.ofNat 0),
                        CV.int IntKind.u8 (Int.ofNat 0), CV.int IntKind.u8 (Int.ofNat 0), CV.int IntKind.u8 (Int.ofNat 0),
                        CV.int IntKind.u8 (Int.ofNat 0), CV.int IntKind.u8 (Int.ofNat 0), CV.int IntKind.u8 (Int.ofNat 0),
                        CV.int IntKind.u8 (Int.ofNat 0)],
                    CV.bool false],
                []))
            (bif' g
              (bif' (decide (IntKind.i64.wrap ((↑xs.length : Int) + (↑ys.length : Int)) > 16))
                (some
                  (CV.tup
                      [CV.agg
                          [CV.int IntKind.u8 (Int.ofNat 0), CV.int IntKind.u8 (Int.ofNat 0),
                            CV.int IntKind.u8 (Int.ofNat 0), CV.int IntKind.u8 (Int.ofNat 0),
                            CV.int IntKind.u8 (Int.ofNat 0), CV.int IntKind.u8 (Int.ofNat 0),
                            CV.int IntKind.u8 (Int.ofNat 0), CV.int IntKind.u8 (Int.ofNat 0),
                            CV.int IntKind.u8 (Int.ofNat 0), CV.int IntKind.u8 (Int.ofNat 0),
                            CV.int IntKind.u8 (Int.ofNat 0), CV.int IntKind.u8 (Int.ofNat 0),
                            CV.int IntKind.u8 (Int.ofNat 0), CV.int IntKind.u8 (Int.ofNat 0),
                            CV.int IntKind.u8 (Int.ofNat 0), CV.int IntKind.u8 (Int.ofNat 0)],
                        CV.bool false],
                    []))
                (L (mkEnv 68 [(2, PV.bptr 0 0), (4, PV.bptr 1 0), (8, PV.rw 2 0), (10, PV.rw 3 0)])
                  [AO.box
                      (PV.c
                        (CV.agg
                          [CV.int IntKind.u8 (Int.ofNat 0), CV.int IntKind.u8 (Int.ofNat 0),
                            CV.int IntKind.u8 (Int.ofNat 0), CV.int IntKind.u8 (Int.ofNat 0),
                            CV.int IntKind.u8 (Int.ofNat 0), CV.int IntKind.u8 (Int.ofNat 0),
                            CV.int IntKind.u8 (Int.ofNat 0), CV.int IntKind.u8 (Int.ofNat 0),
                            CV.int IntKind.u8 (Int.ofNat 0), CV.int IntKind.u8 (Int.ofNat 0),
                            CV.int IntKind.u8 (Int.ofNat 0), CV.int IntKind.u8 (Int.ofNat 0),
                            CV.int IntKind.u8 (Int.ofNat 0), CV.int IntKind.u8 (Int.ofNat 0),
                            CV.int IntKind.u8 (Int.ofNat 0), CV.int IntKind.u8 (Int.ofNat 0)]))
                      kA16,
                    AO.box
                      (PV.c
                        (CV.agg
                          [CV.int IntKind.u8 (Int.ofNat 0), CV.int IntKind.u8 (Int.ofNat 0),
                            CV.int IntKind.u8 (Int.ofNat 0), CV.int IntKind.u8 (Int.ofNat 0),
                            CV.int IntKind.u8 (Int.ofNat 0), CV.int IntKind.u8 (Int.ofNat 0),
                            CV.int IntKind.u8 (Int.ofNat 0), CV.int IntKind.u8 (Int.ofNat 0),
                            CV.int IntKind.u8 (Int.ofNat 0), CV.int IntKind.u8 (Int.ofNat 0),
                            CV.int IntKind.u8 (Int.ofNat 0), CV.int IntKind.u8 (Int.ofNat 0),
                            CV.int IntKind.u8 (Int.ofNat 0), CV.int IntKind.u8 (Int.ofNat 0),
                            CV.int IntKind.u8 (Int.ofNat 0), CV.int IntKind.u8 (Int.ofNat 0)]))
                      kA16,
                    AO.row xs 1 0 false, AO.row ys 1 0 false]))
              (L (mkEnv 68 [(2, PV.bptr 0 0), (4, PV.bptr 1 0), (8, PV.rw 2 0), (10, PV.rw 3 0)])
                [AO.box
                    (PV.c
                      (CV.agg
                        [CV.int IntKind.u8 (Int.ofNat 0), CV.int IntKind.u8 (Int.ofNat 0), CV.int IntKind.u8 (Int.ofNat 0),
                          CV.int IntKind.u8 (Int.ofNat 0), CV.int IntKind.u8 (Int.ofNat 0), CV.int IntKind.u8 (Int.ofNat 0),
                          CV.int IntKind.u8 (Int.ofNat 0), CV.int IntKind.u8 (Int.ofNat 0), CV.int IntKind.u8 (Int.ofNat 0),
                          CV.int IntKind.u8 (Int.ofNat 0), CV.int IntKind.u8 (Int.ofNat 0), CV.int IntKind.u8 (Int.ofNat 0),
                          CV.int IntKind.u8 (Int.ofNat 0), CV.int IntKind.u8 (Int.ofNat 0), CV.int IntKind.u8 (Int.ofNat 0),
                          CV.int IntKind.u8 (Int.ofNat 0)]))
                    kA16,
                  AO.box
                    (PV.c
                      (CV.agg
                        [CV.int IntKind.u8 (Int.ofNat 0), CV.int IntKind.u8 (Int.ofNat 0), CV.int IntKind.u8 (Int.ofNat 0),
                          CV.int IntKind.u8 (Int.ofNat 0), CV.int IntKind.u8 (Int.ofNat 0), CV.int IntKind.u8 (Int.ofNat 0),
                          CV.int IntKind.u8 (Int.ofNat 0), CV.int IntKind.u8 (Int.ofNat 0), CV.int IntKind.u8 (Int.ofNat 0),
                          CV.int IntKind.u8 (Int.ofNat 0), CV.int IntKind.u8 (Int.ofNat 0), CV.int IntKind.u8 (Int.ofNat 0),
                          CV.int IntKind.u8 (Int.ofNat 0), CV.int IntKind.u8 (Int.ofNat 0), CV.int IntKind.u8 (Int.ofNat 0),
                          CV.int IntKind.u8 (Int.ofNat 0)]))
                    kA16,
                  AO.row xs 1 0 false, AO.row ys 1 0 false])))
          (bif' g
            (bif' (decide (IntKind.i64.wrap ((↑xs.length : Int) + (↑ys.length : Int)) > 16))
              (some
                (CV.tup
                    [CV.agg
                        [CV.int IntKind.u8 (Int.ofNat 0), CV.int IntKind.u8 (Int.ofNat 0), CV.int IntKind.u8 (Int.ofNat 0),
                          CV.int IntKind.u8 (Int.ofNat 0), CV.int IntKind.u8 (Int.ofNat 0), CV.int IntKind.u8 (Int.ofNat 0),
                          CV.int IntKind.u8 (Int.ofNat 0), CV.int IntKind.u8 (Int.ofNat 0), CV.int IntKind.u8 (Int.ofNat 0),
                          CV.int IntKind.u8 (Int.ofNat 0), CV.int IntKind.u8 (Int.ofNat 0), CV.int IntKind.u8 (Int.ofNat 0),
                          CV.int IntKind.u8 (Int.ofNat 0), CV.int IntKind.u8 (Int.ofNat 0), CV.int IntKind.u8 (Int.ofNat 0),
                          CV.int IntKind.u8 (Int.ofNat 0)],
                      CV.bool false],
                  []))
              (L (mkEnv 68 [(2, PV.bptr 0 0), (4, PV.bptr 1 0), (8, PV.rw 2 0), (10, PV.rw 3 0)])
                [AO.box
                    (PV.c
                      (CV.agg
                        [CV.int IntKind.u8 (Int.ofNat 0), CV.int IntKind.u8 (Int.ofNat 0), CV.int IntKind.u8 (Int.ofNat 0),
                          CV.int IntKind.u8 (Int.ofNat 0), CV.int IntKind.u8 (Int.ofNat 0), CV.int IntKind.u8 (Int.ofNat 0),
                          CV.int IntKind.u8 (Int.ofNat 0), CV.int IntKind.u8 (Int.ofNat 0), CV.int IntKind.u8 (Int.ofNat 0),
                          CV.int IntKind.u8 (Int.ofNat 0), CV.int IntKind.u8 (Int.ofNat 0), CV.int IntKind.u8 (Int.ofNat 0),
                          CV.int IntKind.u8 (Int.ofNat 0), CV.int IntKind.u8 (Int.ofNat 0), CV.int IntKind.u8 (Int.ofNat 0),
                          CV.int IntKind.u8 (Int.ofNat 0)]))
                    kA16,
                  AO.box
                    (PV.c
                      (CV.agg
                        [CV.int IntKind.u8 (Int.ofNat 0), CV.int IntKind.u8 (Int.ofNat 0), CV.int IntKind.u8 (Int.ofNat 0),
                          CV.int IntKind.u8 (Int.ofNat 0), CV.int IntKind.u8 (Int.ofNat 0), CV.int IntKind.u8 (Int.ofNat 0),
                          CV.int IntKind.u8 (Int.ofNat 0), CV.int IntKind.u8 (Int.ofNat 0), CV.int IntKind.u8 (Int.ofNat 0),
                          CV.int IntKind.u8 (Int.ofNat 0), CV.int IntKind.u8 (Int.ofNat 0), CV.int IntKind.u8 (Int.ofNat 0),
                          CV.int IntKind.u8 (Int.ofNat 0), CV.int IntKind.u8 (Int.ofNat 0), CV.int IntKind.u8 (Int.ofNat 0),
                          CV.int IntKind.u8 (Int.ofNat 0)]))
                    kA16,
                  AO.row xs 1 0 false, AO.row ys 1 0 false]))
            (L (mkEnv 68 [(2, PV.bptr 0 0), (4, PV.bptr 1 0), (8, PV.rw 2 0), (10, PV.rw 3 0)])
              [AO.box
                  (PV.c
                    (CV.agg
                      [CV.int IntKind.u8 (Int.ofNat 0), CV.int IntKind.u8 (Int.ofNat 0), CV.int IntKind.u8 (Int.ofNat 0),
                        CV.int IntKind.u8 (Int.ofNat 0), CV.int IntKind.u8 (Int.ofNat 0), CV.int IntKind.u8 (Int.ofNat 0),
                        CV.int IntKind.u8 (Int.ofNat 0), CV.int IntKind.u8 (Int.ofNat 0), CV.int IntKind.u8 (Int.ofNat 0),
                        CV.int IntKind.u8 (Int.ofNat 0), CV.int IntKind.u8 (Int.ofNat 0), CV.int IntKind.u8 (Int.ofNat 0),
                        CV.int IntKind.u8 (Int.ofNat 0), CV.int IntKind.u8 (Int.ofNat 0), CV.int IntKind.u8 (Int.ofNat 0),
                        CV.int IntKind.u8 (Int.ofNat 0)]))
                  kA16,
                AO.box
                  (PV.c
                    (CV.agg
                      [CV.int IntKind.u8 (Int.ofNat 0), CV.int IntKind.u8 (Int.ofNat 0), CV.int IntKind.u8 (Int.ofNat 0),
                        CV.int IntKind.u8 (Int.ofNat 0), CV.int IntKind.u8 (Int.ofNat 0), CV.int IntKind.u8 (Int.ofNat 0),
                        CV.int IntKind.u8 (Int.ofNat 0), CV.int IntKind.u8 (Int.ofNat 0), CV.int IntKind.u8 (Int.ofNat 0),
                        CV.int IntKind.u8 (Int.ofNat 0), CV.int IntKind.u8 (Int.ofNat 0), CV.int IntKind.u8 (Int.ofNat 0),
                        CV.int IntKind.u8 (Int.ofNat 0), CV.int IntKind.u8 (Int.ofNat 0), CV.int IntKind.u8 (Int.ofNat 0),
                        CV.int IntKind.u8 (Int.ofNat 0)]))
                  kA16,
                AO.row xs 1 0 false, AO.row ys 1 0 false])))) := by kernel_rfl
theorem it58 (xs ys : List CV) (n : Nat) : aexecB Tryd.prog (call' B59) (filt an58 0) n (tailC 6 c58) (mkEnv 68 [(2, .bptr 0 0), (4, .bptr 1 0), (8, .rw 2 0), (10, .rw 3 0)]) [zA16, zA16, .row xs 1 0 false, .row ys 1 0 false] (endOf Tryd.prog 58 []) =
    bif' (decide (0 ≤ IntKind.i64.wrap (16 - (↑ys.length : Int))))
      (bif' (decide (IntKind.i64.wrap (16 - (↑ys.length : Int)) ≤ (↑16 : Int)))
        (bif'
          (decide
            (0 + (IntKind.i64.wrap (16 - (↑ys.length : Int))).toNat +
                (16 - (IntKind.i64.wrap (16 - (↑ys.length : Int))).toNat) ≤
              (setRange
                  [CV.int IntKind.u8 0, CV.int IntKind.u8 0, CV.int IntKind.u8 0, CV.int IntKind.u8 0, CV.int IntKind.u8 0,
                    CV.int IntKind.u8 0, CV.int IntKind.u8 0, CV.int IntKind.u8 0, CV.int IntKind.u8 0, CV.int IntKind.u8 0,
                    CV.int IntKind.u8 0, CV.int IntKind.u8 0, CV.int IntKind.u8 0, CV.int IntKind.u8 0, CV.int IntKind.u8 0,
                    CV.int IntKind.u8 0]
                  0 (elemCells' (List.take 16 xs))).length))
          (bif'
            (16 ==
              (CV.agg
                    (setRange
                      (setRange
                        [CV.int IntKind.u8 0, CV.int IntKind.u8 0, CV.int IntKind.u8 0, CV.int IntKind.u8 0,
                          CV.int IntKind.u8 0, CV.int IntKind.u8 0, CV.int IntKind.u8 0, CV.int IntKind.u8 0,
                          CV.int IntKind.u8 0, CV.int IntKind.u8 0, CV.int IntKind.u8 0, CV.int IntKind.u8 0,
                          CV.int IntKind.u8 0, CV.int IntKind.u8 0, CV.int IntKind.u8 0, CV.int IntKind.u8 0]
                        0 (elemCells' (List.take 16 xs)))
                      (0 + (IntKind.i64.wrap (16 - (↑ys.length : Int))).toNat)
                      (elemCells' (List.take (16 - (IntKind.i64.wrap (16 - (↑ys.length : Int))).toNat) ys)))).cl.length)
            (some
              (CV.tup
                  [CV.agg
                      (setRange
                        (setRange
                          [CV.int IntKind.u8 0, CV.int IntKind.u8 0, CV.int IntKind.u8 0, CV.int IntKind.u8 0,
                            CV.int IntKind.u8 0, CV.int IntKind.u8 0, CV.int IntKind.u8 0, CV.int IntKind.u8 0,
                            CV.int IntKind.u8 0, CV.int IntKind.u8 0, CV.int IntKind.u8 0, CV.int IntKind.u8 0,
                            CV.int IntKind.u8 0, CV.int IntKind.u8 0, CV.int IntKind.u8 0, CV.int IntKind.u8 0]
                          0 (elemCells' (List.take 16 xs)))
                        (0 + (IntKind.i64.wrap (16 - (↑ys.length : Int))).toNat)
                        (elemCells' (List.take (16 - (IntKind.i64.wrap (16 - (↑ys.length : Int))).toNat) ys))),
                    CV.bool true],
                []))
            none)
          none)
        none)
      none := by kernel_rfl
theorem ir47 (s : ByteArray) : abody Tryd.prog (call' B58) (fun _ => none) 1 47 [.str s] =
    bif' (decide ((↑s.size : Int) > 64))
      (some
        (CV.tup
            [CV.agg
                [CV.bool false, CV.int IntKind.u8 (Int.ofNat 0), CV.int IntKind.u8 (Int.ofNat 0),
                  CV.int IntKind.u8 (Int.ofNat 0), CV.int IntKind.u8 (Int.ofNat 0), CV.int IntKind.u8 (Int.ofNat 0),
                  CV.int IntKind.u8 (Int.ofNat 0), CV.int IntKind.u8 (Int.ofNat 0), CV.int IntKind.u8 (Int.ofNat 0),
                  CV.int IntKind.u8 (Int.ofNat 0), CV.int IntKind.u8 (Int.ofNat 0), CV.int IntKind.u8 (Int.ofNat 0),
                  CV.int IntKind.u8 (Int.ofNat 0), CV.int IntKind.u8 (Int.ofNat 0), CV.int IntKind.u8 (Int.ofNat 0),
                  CV.int IntKind.u8 (Int.ofNat 0), CV.int IntKind.u8 (Int.ofNat 0)],
              CV.int IntKind.i64 (Int.ofNat 5)],
          []))
      (bif' (decide (s.size ≤ 10000))
        (bif' (f4 s)
          (some
            (CV.tup
                [CV.agg
                    [CV.bool false, CV.int IntKind.u8 (Int.ofNat 0), CV.int IntKind.u8 (Int.ofNat 0),
                      CV.int IntKind.u8 (Int.ofNat 0), CV.int IntKind.u8 (Int.ofNat 0), CV.int IntKind.u8 (Int.ofNat 0),
                      CV.int IntKind.u8 (Int.ofNat 0), CV.int IntKind.u8 (Int.ofNat 0), CV.int IntKind.u8 (Int.ofNat 0),
                      CV.int IntKind.u8 (Int.ofNat 0), CV.int IntKind.u8 (Int.ofNat 0), CV.int IntKind.u8 (Int.ofNat 0),
                      CV.int IntKind.u8 (Int.ofNat 0), CV.int IntKind.u8 (f4b s 0), CV.int IntKind.u8 (f4b s 1),
                      CV.int IntKind.u8 (f4b s 2), CV.int IntKind.u8 (f4b s 3)],
                  CV.int IntKind.i64 (Int.ofNat 0)],
              []))
          (bif' (decide (s.size ≤ 10000))
            (bif' (s6 s)
              (bif' (decide (s.size ≤ 10000))
                (bif' (hasB s 58)
                  (some
                    (CV.tup
                        [CV.agg
                            [CV.bool true, CV.int IntKind.u8 (s6b s 0), CV.int IntKind.u8 (s6b s 1),
                              CV.int IntKind.u8 (s6b s 2), CV.int IntKind.u8 (s6b s 3), CV.int IntKind.u8 (s6b s 4),
                              CV.int IntKind.u8 (s6b s 5), CV.int IntKind.u8 (s6b s 6), CV.int IntKind.u8 (s6b s 7),
                              CV.int IntKind.u8 (s6b s 8), CV.int IntKind.u8 (s6b s 9), CV.int IntKind.u8 (s6b s 10),
                              CV.int IntKind.u8 (s6b s 11), CV.int IntKind.u8 (s6b s 12), CV.int IntKind.u8 (s6b s 13),
                              CV.int IntKind.u8 (s6b s 14), CV.int IntKind.u8 (s6b s 15)],
                          CV.int IntKind.i64 (Int.ofNat 0)],
                      []))
                  (some
                    (CV.tup
                        [CV.agg
                            [CV.bool false, CV.int IntKind.u8 (Int.ofNat 0), CV.int IntKind.u8 (Int.ofNat 0),
                              CV.int IntKind.u8 (Int.ofNat 0), CV.int IntKind.u8 (Int.ofNat 0),
                              CV.int IntKind.u8 (Int.ofNat 0), CV.int IntKind.u8 (Int.ofNat 0),
                              CV.int IntKind.u8 (Int.ofNat 0), CV.int IntKind.u8 (Int.ofNat 0),
                              CV.int IntKind.u8 (Int.ofNat 0), CV.int IntKind.u8 (Int.ofNat 0),
                              CV.int IntKind.u8 (Int.ofNat 0), CV.int IntKind.u8 (Int.ofNat 0),
                              CV.int IntKind.u8 (Int.ofNat 0), CV.int IntKind.u8 (Int.ofNat 0),
                              CV.int IntKind.u8 (Int.ofNat 0), CV.int IntKind.u8 (Int.ofNat 0)],
                          CV.int IntKind.i64 (Int.ofNat 5)],
                      [])))
                none)
              (some
                (CV.tup
                    [CV.agg
                        [CV.bool false, CV.int IntKind.u8 (Int.ofNat 0), CV.int IntKind.u8 (Int.ofNat 0),
                          CV.int IntKind.u8 (Int.ofNat 0), CV.int IntKind.u8 (Int.ofNat 0), CV.int IntKind.u8 (Int.ofNat 0),
                          CV.int IntKind.u8 (Int.ofNat 0), CV.int IntKind.u8 (Int.ofNat 0), CV.int IntKind.u8 (Int.ofNat 0),
                          CV.int IntKind.u8 (Int.ofNat 0), CV.int IntKind.u8 (Int.ofNat 0), CV.int IntKind.u8 (Int.ofNat 0),
                          CV.int IntKind.u8 (Int.ofNat 0), CV.int IntKind.u8 (Int.ofNat 0), CV.int IntKind.u8 (Int.ofNat 0),
                          CV.int IntKind.u8 (Int.ofNat 0), CV.int IntKind.u8 (Int.ofNat 0)],
                      CV.int IntKind.i64 (Int.ofNat 5)],
                  [])))
            none))
        none) := by kernel_rfl
theorem ib65 (s : ByteArray) (n : Nat) (R : Env → Hp → Res) : parts Tryd.prog (call' B58) (filt aL65 0) n (codeOf Tryd.prog 65) (envOf Tryd.prog 65 [.c (.str s)]) [] (fun _ => headK hL65 R) (endOf Tryd.prog 65 []) =
    bif' (decide (s.size ≤ 10000) && true)
      (R
        (mkEnv 107
          [(4, PV.rw 1 0), (5, PV.rw 0 0), (6, PV.c (CV.bool false)), (7, PV.c (CV.int IntKind.i64 (Int.ofNat 0)))])
        [AO.row [] 1 0 false, AO.row (spS s (Nat.toUInt8 58)) 1 0 false])
      none := by kernel_rfl
theorem ic65 (xs ys : List CV) (gap : Bool) (i : Int) (n : Nat) (R : Env → Hp → Res) : aexec Tryd.prog (call' B58) (filt aL65 0) n (bodyN 0 (codeOf Tryd.prog 65)) (mkEnv 107 [(4, .rw 1 0), (5, .rw 0 0), (6, .c (.bool gap)), (7, .c (.int .i64 i))]) [.row ys 1 0 false, .row xs 1 0 false] (thenK (headK hL65 R) (restN Tryd.prog (call' B58) (filt aL65 0) n 0 (codeOf Tryd.prog 65) (endOf Tryd.prog 65 []))) =
    bif' (decide (i < (↑xs.length : Int)))
      (bif' (decide (0 ≤ i))
        (bif' (decide (i < (↑xs.length : Int)))
          (bif' (decide (i.toNat < xs.length))
            (bif' (decide (0 < (xs.getD i.toNat CV.nilptr).cl.length))
              (bif' (okc (CV.str (ByteArray.mk #[])) ((xs.getD i.toNat CV.nilptr).cl.getD 0 CV.nilptr))
                (bif' (((xs.getD i.toNat CV.nilptr).cl.getD 0 CV.nilptr).toStr.toList == (ByteArray.mk #[]).toList)
                  (bif' (i == 0)
                    (bif' (decide ((↑xs.length : Int) < 3)) (some (CV.tup [CV.nilsl, CV.bool false], []))
                      (bif' (i == 0)
                        (bif' (decide (1 < (↑xs.length : Int)))
                          (bif' (decide (1 < xs.length))
                            (bif' (decide (0 < (xs.getD 1 CV.nilptr).cl.length))
                              (bif' (okc (CV.str (ByteArray.mk #[])) ((xs.getD 1 CV.nilptr).cl.getD 0 CV.nilptr))
                                (bif'
                                  (!((xs.getD 1 CV.nilptr).cl.getD 0 CV.nilptr).toStr.toList == (ByteArray.mk #[]).toList)
                                  (some (CV.tup [CV.nilsl, CV.bool false], []))
                                  (bif' (decide (i > 0))
                                    (bif' (decide (0 ≤ IntKind.i64.wrap ((↑xs.length : Int) - 2)))
                                      (bif' (decide (IntKind.i64.wrap ((↑xs.length : Int) - 2) < (↑xs.length : Int)))
                                        (bif' (decide ((IntKind.i64.wrap ((↑xs.length : Int) - 2)).toNat < xs.length))
                                          (bif'
                                            (decide
                                              (0 <
                                                (xs.getD (IntKind.i64.wrap ((↑xs.length : Int) - 2)).toNat
                                                      CV.nilptr).cl.length))
                                            (bif'
                                              (okc (CV.str (ByteArray.mk #[]))
                                                ((xs.getD (IntKind.i64.wrap ((↑xs.length : Int) - 2)).toNat
                                                        CV.nilptr).cl.getD
                                                  0 CV.nilptr))
                                              (bif'
                                                (!((xs.getD (IntKind.i64.wrap ((↑xs.length : Int) - 2)).toNat
                                                                CV.nilptr).cl.getD
                                                          0 CV.nilptr).toStr.toList ==
                                                    (ByteArray.mk #[]).toList)
                                                (some (CV.tup [CV.nilsl, CV.bool false], []))
                                                (R
                                                  (mkEnv 107
                                                    [(4, PV.rw 1 0), (5, PV.rw 0 0), (6, PV.c (CV.bool gap)),
                                                      (7, PV.c (CV.int IntKind.i64 (IntKind.i64.wrap (i + 1))))])
                                                  [AO.row ys 1 0 false, AO.row xs 1 0 false]))
                                              none)
                                            none)
                                          none)
                                        none)
                                      none)
                                    (R
                                      (mkEnv 107
                                        [(4, PV.rw 1 0), (5, PV.rw 0 0), (6, PV.c (CV.bool gap)),
                                          (7, PV.c (CV.int IntKind.i64 (IntKind.i64.wrap (i + 1))))])
                                      [AO.row ys 1 0 false, AO.row xs 1 0 false])))
                                none)
                              none)
                            none)
                          none)
                        (bif' (decide (i > 0))
                          (bif' (decide (0 ≤ IntKind.i64.wrap ((↑xs.length : Int) - 2)))
                            (bif' (decide (IntKind.i64.wrap ((↑xs.length : Int) - 2) < (↑xs.length : Int)))
                              (bif' (decide ((IntKind.i64.wrap ((↑xs.length : Int) - 2)).toNat < xs.length))
                                (bif'
                                  (decide
                                    (0 < (xs.getD (IntKind.i64.wrap ((↑xs.length : Int) - 2)).toNat CV.nilptr).cl.length))
                                  (bif'
                                    (okc (CV.str (ByteArray.mk #[]))
                                      ((xs.getD (IntKind.i64.wrap ((↑xs.length : Int) - 2)).toNat CV.nilptr).cl.getD 0
                                        CV.nilptr))
                                    (bif'
                                      (!((xs.getD (IntKind.i64.wrap ((↑xs.length : Int) - 2)).toNat CV.nilptr).cl.getD 0
                                                CV.nilptr).toStr.toList ==
                                          (ByteArray.mk #[]).toList)
                                      (some (CV.tup [CV.nilsl, CV.bool false], []))
                                      (R
                                        (mkEnv 107
                                          [(4, PV.rw 1 0), (5, PV.rw 0 0), (6, PV.c (CV.bool gap)),
                                            (7, PV.c (CV.int IntKind.i64 (IntKind.i64.wrap (i + 1))))])
                                        [AO.row ys 1 0 false, AO.row xs 1 0 false]))
                                    none)
                                  none)
                                none)
                              none)
                            none)
                          (R
                            (mkEnv 107
                              [(4, PV.rw 1 0), (5, PV.rw 0 0), (6, PV.c (CV.bool gap)),
                                (7, PV.c (CV.int IntKind.i64 (IntKind.i64.wrap (i + 1))))])
                            [AO.row ys 1 0 false, AO.row xs 1 0 false]))))
                    (bif' (!i == IntKind.i64.wrap ((↑xs.length : Int) - 1))
                      (bif' gap (some (CV.tup [CV.nilsl, CV.bool false], []))
                        (bif' (decide ((ys.length + 1) * 8 ≤ 70368744177664))
                          (R
                            (mkEnv 107
                              [(4, PV.rw 1 0), (5, PV.rw 0 0), (6, PV.c (CV.bool true)),
                                (7, PV.c (CV.int IntKind.i64 (IntKind.i64.wrap (i + 1))))])
                            [AO.row (ys ++ (List.replicate 1 (CV.int IntKind.i64 0)).set 0 (CV.int IntKind.i64 (-1))) 1 0
                                false,
                              AO.row xs 1 0 false])
                          none))
                      (bif' (decide ((↑xs.length : Int) < 3)) (some (CV.tup [CV.nilsl, CV.bool false], []))
                        (bif' (i == 0)
                          (bif' (decide (1 < (↑xs.length : Int)))
                            (bif' (decide (1 < xs.length))
                              (bif' (decide (0 < (xs.getD 1 CV.nilptr).cl.length))
                                (bif' (okc (CV.str (ByteArray.mk #[])) ((xs.getD 1 CV.nilptr).cl.getD 0 CV.nilptr))
                                  (bif'
                                    (!((xs.getD 1 CV.nilptr).cl.getD 0 CV.nilptr).toStr.toList == (ByteArray.mk #[]).toList)
                                    (some (CV.tup [CV.nilsl, CV.bool false], []))
                                    (bif' (decide (i > 0))
                                      (bif' (decide (0 ≤ IntKind.i64.wrap ((↑xs.length : Int) - 2)))
                                        (bif' (decide (IntKind.i64.wrap ((↑xs.length : Int) - 2) < (↑xs.length : Int)))
                                          (bif' (decide ((IntKind.i64.wrap ((↑xs.length : Int) - 2)).toNat < xs.length))
                                            (bif'
                                              (decide
                                                (0 <
                                                  (xs.getD (IntKind.i64.wrap ((↑xs.length : Int) - 2)).toNat
                                                        CV.nilptr).cl.length))
                                              (bif'
                                                (okc (CV.str (ByteArray.mk #[]))
                                                  ((xs.getD (IntKind.i64.wrap ((↑xs.length : Int) - 2)).toNat
                                                          CV.nilptr).cl.getD
                                                    0 CV.nilptr))
                                                (bif'
                                                  (!((xs.getD (IntKind.i64.wrap ((↑xs.length : Int) - 2)).toNat
                                                                  CV.nilptr).cl.getD
                                                            0 CV.nilptr).toStr.toList ==
                                                      (ByteArray.mk #[]).toList)
                                                  (some (CV.tup [CV.nilsl, CV.bool false], []))
                                                  (R
                                                    (mkEnv 107
                                                      [(4, PV.rw 1 0), (5, PV.rw 0 0), (6, PV.c (CV.bool gap)),
                                                        (7, PV.c (CV.int IntKind.i64 (IntKind.i64.wrap (i + 1))))])
                                                    [AO.row ys 1 0 false, AO.row xs 1 0 false]))
                                                none)
                                              none)
                                            none)
                                          none)
                                        none)
                                      (R
                                        (mkEnv 107
                                          [(4, PV.rw 1 0), (5, PV.rw 0 0), (6, PV.c (CV.bool gap)),
                                            (7, PV.c (CV.int IntKind.i64 (IntKind.i64.wrap (i + 1))))])
                                        [AO.row ys 1 0 false, AO.row xs 1 0 false])))
                                  none)
                                none)
                              none)
                            none)
                          (bif' (decide (i > 0))
                            (bif' (decide (0 ≤ IntKind.i64.wrap ((↑xs.length : Int) - 2)))
                              (bif' (decide (IntKind.i64.wrap ((↑xs.length : Int) - 2) < (↑xs.length : Int)))
                                (bif' (decide ((IntKind.i64.wrap ((↑xs.length : Int) - 2)).toNat < xs.length))
                                  (bif'
                                    (decide
                                      (0 < (xs.getD (IntKind.i64.wrap ((↑xs.length : Int) - 2)).toNat CV.nilptr).cl.length))
                                    (bif'
                                      (okc (CV.str (ByteArray.mk #[]))
                                        ((xs.getD (IntKind.i64.wrap ((↑xs.length : Int) - 2)).toNat CV.nilptr).cl.getD 0
                                          CV.nilptr))
                                      (bif'
                                        (!((xs.getD (IntKind.i64.wrap ((↑xs.length : Int) - 2)).toNat CV.nilptr).cl.getD 0
                                                  CV.nilptr).toStr.toList ==
                                            (ByteArray.mk #[]).toList)
                                        (some (CV.tup [CV.nilsl, CV.bool false], []))
                                        (R
                                          (mkEnv 107
                                            [(4, PV.rw 1 0), (5, PV.rw 0 0), (6, PV.c (CV.bool gap)),
                                              (7, PV.c (CV.int IntKind.i64 (IntKind.i64.wrap (i + 1))))])
                                          [AO.row ys 1 0 false, AO.row xs 1 0 false]))
                                      none)
                                    none)
                                  none)
                                none)
                              none)
                            (R
                              (mkEnv 107
                                [(4, PV.rw 1 0), (5, PV.rw 0 0), (6, PV.c (CV.bool gap)),
                                  (7, PV.c (CV.int IntKind.i64 (IntKind.i64.wrap (i + 1))))])
                              [AO.row ys 1 0 false, AO.row xs 1 0 false]))))))
                  (bif' (decide (0 ≤ i))
                    (bif' (decide (i < (↑xs.length : Int)))
                      (bif' (decide (i.toNat < xs.length))
                        (bif' (decide (0 < (xs.getD i.toNat CV.nilptr).cl.length))
                          (bif' (okc (CV.str (ByteArray.mk #[])) ((xs.getD i.toNat CV.nilptr).cl.getD 0 CV.nilptr))
                            (bif' (decide (((xs.getD i.toNat CV.nilptr).cl.getD 0 CV.nilptr).toStr.size ≤ 10000))
                              (bif' (decide (f4r ((xs.getD i.toNat CV.nilptr).cl.getD 0 CV.nilptr).toStr ≥ 0))
                                (bif' (i == IntKind.i64.wrap ((↑xs.length : Int) - 1))
                                  (bif'
                                    (decide
                                      ((ys.length +
                                            (((List.replicate 2 (CV.int IntKind.i64 0)).set 0
                                                    (CV.int IntKind.i64
                                                      (IntKind.i64.wrap
                                                        ((f4r ((xs.getD i.toNat CV.nilptr).cl.getD 0 CV.nilptr).toStr).tdiv
                                                          65536)))).set
                                                1
                                                (CV.int IntKind.i64
                                                  ((f4r ((xs.getD i.toNat CV.nilptr).cl.getD 0 CV.nilptr).toStr).tmod
                                                    65536))).length) *
                                          8 ≤
                                        70368744177664))
                                    (R
                                      (mkEnv 107
                                        [(4, PV.rw 1 0), (5, PV.rw 0 0), (6, PV.c (CV.bool gap)),
                                          (7, PV.c (CV.int IntKind.i64 (IntKind.i64.wrap (i + 1))))])
                                      [AO.row
                                          (ys ++
                                            ((List.replicate 2 (CV.int IntKind.i64 0)).set 0
                                                  (CV.int IntKind.i64
                                                    (IntKind.i64.wrap
                                                      ((f4r ((xs.getD i.toNat CV.nilptr).cl.getD 0 CV.nilptr).toStr).tdiv
                                                        65536)))).set
                                              1
                                              (CV.int IntKind.i64
                                                ((f4r ((xs.getD i.toNat CV.nilptr).cl.getD 0 CV.nilptr).toStr).tmod 65536)))
                                          1 0 false,
                                        AO.row xs 1 0 false])
                                    none)
                                  (bif' (decide (0 ≤ i))
                                    (bif' (decide (i < (↑xs.length : Int)))
                                      (bif' (decide (i.toNat < xs.length))
                                        (bif' (decide (0 < (xs.getD i.toNat CV.nilptr).cl.length))
                                          (bif'
                                            (okc (CV.str (ByteArray.mk #[]))
                                              ((xs.getD i.toNat CV.nilptr).cl.getD 0 CV.nilptr))
                                            (bif'
                                              (decide
                                                  (((xs.getD i.toNat CV.nilptr).cl.getD 0 CV.nilptr).toStr.size ≤ 10000) &&
                                                true)
                                              (bif'
                                                (decide (nR ((xs.getD i.toNat CV.nilptr).cl.getD 0 CV.nilptr).toStr 16 < 0))
                                                (some (CV.tup [CV.nilsl, CV.bool false], []))
                                                (bif' (decide (0 ≤ i))
                                                  (bif' (decide (i < (↑xs.length : Int)))
                                                    (bif' (decide (i.toNat < xs.length))
                                                      (bif' (decide (0 < (xs.getD i.toNat CV.nilptr).cl.length))
                                                        (bif'
                                                          (okc (CV.str (ByteArray.mk #[]))
                                                            ((xs.getD i.toNat CV.nilptr).cl.getD 0 CV.nilptr))
                                                          (bif'
                                                            (decide
                                                              ((↑((xs.getD i.toNat CV.nilptr).cl.getD 0
                                                                          CV.nilptr).toStr.size :
                                                                  Int) >
                                                                4))
                                                            (some (CV.tup [CV.nilsl, CV.bool false], []))
                                                            (bif'
                                                              (decide
                                                                ((ys.length +
                                                                      ((List.replicate 1 (CV.int IntKind.i64 0)).set 0
                                                                          (CV.int IntKind.i64
                                                                            (nR
                                                                              ((xs.getD i.toNat CV.nilptr).cl.getD 0
                                                                                  CV.nilptr).toStr
                                                                              16))).length) *
                                                                    8 ≤
                                                                  70368744177664))
                                                              (R
                                                                (mkEnv 107
                                                                  [(4, PV.rw 1 0), (5, PV.rw 0 0), (6, PV.c (CV.bool gap)),
                                                                    (7,
                                                                      PV.c
                                                                        (CV.int IntKind.i64 (IntKind.i64.wrap (i + 1))))])
                                                                [AO.row
                                                                    (ys ++
                                                                      (List.replicate 1 (CV.int IntKind.i64 0)).set 0
                                                                        (CV.int IntKind.i64
                                                                          (nR
                                                                            ((xs.getD i.toNat CV.nilptr).cl.getD 0
                                                                                CV.nilptr).toStr
                                                                            16)))
                                                                    1 0 false,
                                                                  AO.row xs 1 0 false])
                                                              none))
                                                          none)
                                                        none)
                                                      none)
                                                    none)
                                                  none))
                                              none)
                                            none)
                                          none)
                                        none)
                                      none)
                                    none))
                                (bif' (decide (0 ≤ i))
                                  (bif' (decide (i < (↑xs.length : Int)))
                                    (bif' (decide (i.toNat < xs.length))
                                      (bif' (decide (0 < (xs.getD i.toNat CV.nilptr).cl.length))
                                        (bif'
                                          (okc (CV.str (ByteArray.mk #[]))
                                            ((xs.getD i.toNat CV.nilptr).cl.getD 0 CV.nilptr))
                                          (bif'
                                            (decide
                                                (((xs.getD i.toNat CV.nilptr).cl.getD 0 CV.nilptr).toStr.size ≤ 10000) &&
                                              true)
                                            (bif'
                                              (decide (nR ((xs.getD i.toNat CV.nilptr).cl.getD 0 CV.nilptr).toStr 16 < 0))
                                              (some (CV.tup [CV.nilsl, CV.bool false], []))
                                              (bif' (decide (0 ≤ i))
                                                (bif' (decide (i < (↑xs.length : Int)))
                                                  (bif' (decide (i.toNat < xs.length))
                                                    (bif' (decide (0 < (xs.getD i.toNat CV.nilptr).cl.length))
                                                      (bif'
                                                        (okc (CV.str (ByteArray.mk #[]))
                                                          ((xs.getD i.toNat CV.nilptr).cl.getD 0 CV.nilptr))
                                                        (bif'
                                                          (decide
                                                            ((↑((xs.getD i.toNat CV.nilptr).cl.getD 0
                                                                        CV.nilptr).toStr.size :
                                                                Int) >
                                                              4))
                                                          (some (CV.tup [CV.nilsl, CV.bool false], []))
                                                          (bif'
                                                            (decide
                                                              ((ys.length +
                                                                    ((List.replicate 1 (CV.int IntKind.i64 0)).set 0
                                                                        (CV.int IntKind.i64
                                                                          (nR
                                                                            ((xs.getD i.toNat CV.nilptr).cl.getD 0
                                                                                CV.nilptr).toStr
                                                                            16))).length) *
                                                                  8 ≤
                                                                70368744177664))
                                                            (R
                                                              (mkEnv 107
                                                                [(4, PV.rw 1 0), (5, PV.rw 0 0), (6, PV.c (CV.bool gap)),
                                                                  (7,
                                                                    PV.c (CV.int IntKind.i64 (IntKind.i64.wrap (i + 1))))])
                                                              [AO.row
                                                                  (ys ++
                                                                    (List.replicate 1 (CV.int IntKind.i64 0)).set 0
                                                                      (CV.int IntKind.i64
                                                                        (nR
                                                                          ((xs.getD i.toNat CV.nilptr).cl.getD 0
                                                                              CV.nilptr).toStr
                                                                          16)))
                                                                  1 0 false,
                                                                AO.row xs 1 0 false])
                                                            none))
                                                        none)
                                                      none)
                                                    none)
                                                  none)
                                                none))
                                            none)
                                          none)
                                        none)
                                      none)
                                    none)
                                  none))
                              none)
                            none)
                          none)
                        none)
                      none)
                    none))
                none)
              none)
            none)
          none)
        none)
      (some (CV.tup [CV.sl true false 1 ys, CV.bool true], [])) := by kernel_rfl

end Go.Pv

/- Addresses: six; Parse. -/
namespace Go.Pv
set_option linter.unusedVariables false
set_option maxRecDepth 100000
set_option maxHeartbeats 200000
open Go Go.Proofs
variable {I : World → Prop} {ng : Nat}

theorem g28d (hg : OnGlobals I ng) (h70 : Cw I ng 70 L70) (h28 : Cw I ng 28 L28d) : Kw I ng B28 := known_add (g72 hg h70) h28
theorem g60d (hg : OnGlobals I ng) (h70 : Cw I ng 70 L70) (h28 : Cw I ng 28 L28d) : Kw I ng B60 := known_add (g28d hg h70 h28) (contract_of (fun _ => none) hg (hok_of (g28d hg h70 h28)) fun cargs rv outs h => by
  unfold L60d at h
  split at h <;> first | (cases h; done) | skip
  rename_i s c
  by_cases hs : s.size ≤ 10000
  · simp only [picked, pickAlt, decide_eq_true hs] at h
    cases h
    refine ⟨1, ?_⟩
    rw [iq60]
    have e : (byteAt (ByteArray.mk (Array.mk [c])) 0).toNat.toUInt8 = c := u8_cast c
    rw [e]
    cases hq : (ByteArray.mk (Array.mk [c])).toList == s.toList with
    | false => rfl
    | true =>
      have := eq_of_beq hq
      rw [toList_data, toList_data] at this
      have e2 : s.data.toList = [c] := this.symm
      rw [e2]
      unfold Lib.indexByte
      simp
      rfl
  · simp only [picked, pickAlt, decide_eq_false hs] at h; cases h)
theorem g73 (hg : OnGlobals I ng) (h70 : Cw I ng 70 L70) (h28 : Cw I ng 28 L28d) : Kw I ng B73 := known_add (g60d hg h70 h28) (contract_of (fun _ => none) hg (hok_of (g60d hg h70 h28)) fun cargs rv outs h => by
  unfold L60d at h
  split at h <;> first | (cases h; done) | skip
  rename_i s c
  by_cases hs : s.size ≤ 10000
  · simp only [picked, pickAlt, decide_eq_true hs] at h
    cases h
    refine ⟨1, ?_⟩
    rw [iq73, decide_eq_true hs, bif_t _ _ rfl]
  · simp only [picked, pickAlt, decide_eq_false hs] at h; cases h)
theorem g59 (hg : OnGlobals I ng) (h70 : Cw I ng 70 L70) (h28 : Cw I ng 28 L28d) : Kw I ng B59 := known_add (g73 hg h70 h28) (contract_of (fun _ => none) hg (hok_of (g73 hg h70 h28)) fun cargs rv outs h => by
  unfold L59d at h
  split at h <;> first | (cases h; done) | skip
  rename_i s c
  by_cases hs : s.size ≤ 10000
  · simp only [picked, pickAlt, decide_eq_true hs] at h
    cases h
    refine ⟨1, ?_⟩
    rw [iq59, decide_eq_true hs, bif_t _ _ rfl, index_mem]
    rfl
  · simp only [picked, pickAlt, decide_eq_false hs] at h; cases h)

/-! ### six -/
theorem grL_len (t : Bool) : ∀ (ps : List (List UInt8)) (r : List Nat), grL t ps = some r → r.length ≤ 4 * ps.length
  | [], r, h => by unfold grL at h; cases h; simp
  | p :: ps, r, h => by
    unfold grL at h
    split at h
    · rename_i hc
      cases h
      simp only [Bool.and_eq_true] at hc
      have := four4 hc.2.2
      simp only [List.length_cons]; omega
    · split at h
      · split at h
        · rename_i r' hr
          cases h
          have := grL_len t ps r' hr
          simp only [List.length_cons]; omega
        · cases h
      · cases h
def grD (t : Bool) (l : List UInt8) : List Nat := (grpL t l).getD []
theorem grD_len (t : Bool) (l : List UInt8) (hl : l.length ≤ 10000) : (grD t l).length ≤ 40004 := by
  unfold grD grpL
  split
  · simp
  · have := split_len 58 l
    cases h : grL t (splitL 58 l) with
    | none => simp
    | some r =>
      have := grL_len t _ r h
      simp only [Option.getD_some]; omega
theorem q58 (h t : List UInt8) (g : Bool) (n : Nat) (L : Env → Hp → Res) (hs : h.length ≤ 10000) :
    aexecB Tryd.prog (call' B59) (filt an58 0) n (prefC 1 (tailC 3 c58)) (mkEnv 68 [(2, .bptr 0 0), (4, .bptr 1 0), (5, .c (.str (mkS h))), (6, .c (.str (mkS t))), (7, .c (.bool g))]) [zA16, zA16] (thenK (headK h58b L) (endOf Tryd.prog 58 [])) =
      L (mkEnv 68 [(2, .bptr 0 0), (4, .bptr 1 0), (6, .c (.str (mkS t))), (7, .c (.bool g)), (8, .rw 2 0), (9, .c (.bool (grpL (!g) h).isSome))]) [zA16, zA16, .row ((grD (!g) h).map byCV) 1 0 false] := by
  rw [iq58]
  have e1 : gOk (mkS h) (!g) = (grL (!g) (splitL 58 h)).isSome := rfl
  have e2 : gB (mkS h) (!g) = ((grL (!g) (splitL 58 h)).getD []).map byCV := rfl
  simp only [sizeM]
  rw [decide_eq_true hs, Bool.true_and, Bool.true_and, e1, e2]
  unfold grD grpL
  cases h with
  | nil => rfl
  | cons a r =>
    have e3 : decide ((a :: r).length = 0) = false := rfl
    have e4 : (a :: r).isEmpty = false := rfl
    rw [e3, e4, bif_f _ _ rfl, if_neg Bool.false_ne_true]
    cases grL (!g) (splitL 58 (a :: r)) with
    | none => rfl
    | some x => rfl
theorem r58 (t : List UInt8) (g a : Bool) (xs : List CV) (n : Nat) (L : Env → Hp → Res) (hs : t.length ≤ 10000) :
    aexecB Tryd.prog (call' B59) (filt an58 0) n (prefC 1 (tailC 4 c58)) (mkEnv 68 [(2, .bptr 0 0), (4, .bptr 1 0), (6, .c (.str (mkS t))), (7, .c (.bool g)), (8, .rw 2 0), (9, .c (.bool a))]) [zA16, zA16, .row xs 1 0 false] (thenK (headK h58c L) (endOf Tryd.prog 58 [])) =
      L (mkEnv 68 [(2, .bptr 0 0), (4, .bptr 1 0), (7, .c (.bool g)), (8, .rw 2 0), (9, .c (.bool a)), (10, .rw 3 0), (11, .c (.bool (grpL true t).isSome))]) [zA16, zA16, .row xs 1 0 false, .row ((grD true t).map byCV) 1 0 false] := by
  rw [ir58]
  have e1 : gOk (mkS t) true = (grL true (splitL 58 t)).isSome := rfl
  have e2 : gB (mkS t) true = ((grL true (splitL 58 t)).getD []).map byCV := rfl
  simp only [sizeM]
  rw [decide_eq_true hs, Bool.true_and, Bool.true_and, e1, e2]
  unfold grD grpL
  cases t with
  | nil => rfl
  | cons a r =>
    have e3 : decide ((a :: r).length = 0) = false := rfl
    have e4 : (a :: r).isEmpty = false := rfl
    rw [e3, e4, bif_f _ _ rfl, if_neg Bool.false_ne_true]
    cases grL true (splitL 58 (a :: r)) with
    | none => rfl
    | some x => rfl
def bad58 : Res := some (.tup [.agg (List.replicate 16 (CV.int .u8 (Int.ofNat 0))), .bool false], [])
theorem s58 (g a b : Bool) (xs ys : List CV) (n : Nat) (L : Env → Hp → Res) (hx : xs.length ≤ 50000) (hy : ys.length ≤ 50000) :
    aexecB Tryd.prog (call' B59) (filt an58 0) n (prefC 1 (tailC 5 c58)) (mkEnv 68 [(2, .bptr 0 0), (4, .bptr 1 0), (7, .c (.bool g)), (8, .rw 2 0), (9, .c (.bool a)), (10, .rw 3 0), (11, .c (.bool b))]) [zA16, zA16, .row xs 1 0 false, .row ys 1 0 false] (thenK (headK h58d L) (endOf Tryd.prog 58 [])) =
      if a = true ∧ b = true ∧ (g = false → xs.length = 16) ∧ (g = true → xs.length + ys.length ≤ 16) then L (mkEnv 68 [(2, .bptr 0 0), (4, .bptr 1 0), (8, .rw 2 0), (10, .rw 3 0)]) [zA16, zA16, .row xs 1 0 false, .row ys 1 0 false] else bad58 := by
  rw [is58]
  have hw : IntKind.i64.wrap (((xs.length : Nat) : Int) + ((ys.length : Nat) : Int)) = ((xs.length + ys.length : Nat) : Int) := by
    rw [wrap_id (by omega) (by omega)]; omega
  rw [hw]
  cases a with
  | false => rw [if_neg (by simp)]; rfl
  | true =>
    cases b with
    | false => rw [if_neg (by simp)]; rfl
    | true =>
      cases g with
      | false =>
        by_cases h : xs.length = 16
        · have c : (((xs.length : Nat) : Int) != 16) = false := by rw [h]; rfl
          rw [c, if_pos ⟨rfl, rfl, fun _ => h, (fun q => by cases q)⟩]; rfl
        · have c : (((xs.length : Nat) : Int) != 16) = true := by rw [bne_iff_ne]; omega
          rw [c, if_neg (fun q => h (q.2.2.1 rfl))]; rfl
      | true =>
        by_cases h : xs.length + ys.length ≤ 16
        · have c : decide (((xs.length + ys.length : Nat) : Int) > 16) = false := decide_eq_false (by omega)
          rw [c, if_pos ⟨rfl, rfl, (fun q => by cases q), fun _ => h⟩]; rfl
        · have c : decide (((xs.length + ys.length : Nat) : Int) > 16) = true := decide_eq_true (by omega)
          rw [c, if_neg (fun q => h (q.2.2.2 rfl))]; rfl
theorem copy16 (z : CV) (xs ys : List CV) (h : xs.length + ys.length ≤ 16) : setRange (setRange (List.replicate 16 z) 0 xs) (16 - ys.length) ys = xs ++ List.replicate (16 - xs.length - ys.length) z ++ ys := by
  have e1 : setRange (List.replicate 16 z) 0 xs = xs ++ List.replicate (16 - xs.length) z := by
    unfold setRange
    rw [List.take_zero, List.nil_append, List.drop_replicate, Nat.zero_add]
  rw [e1]
  unfold setRange
  have e2 : (xs ++ List.replicate (16 - xs.length) z).take (16 - ys.length) = xs ++ List.replicate (16 - xs.length - ys.length) z := by
    rw [List.take_append, List.take_of_length_le (by omega), List.take_replicate]
    congr 2; omega
  have e3 : (xs ++ List.replicate (16 - xs.length) z).drop (16 - ys.length + ys.length) = [] := List.drop_of_length_le (by rw [List.length_append, List.length_replicate]; omega)
  rw [e2, e3, List.append_nil]
theorem flat_by : ∀ r : List Nat, elemCells' (r.map byCV) = r.map byCV
  | [] => rfl
  | a :: r => by
    have ih := flat_by r
    unfold elemCells' at *
    rw [List.map_cons, List.flatMap_cons, ih]; rfl
theorem t58 (a b : List Nat) (n : Nat) (h : a.length + b.length ≤ 16) :
    aexecB Tryd.prog (call' B59) (filt an58 0) n (tailC 6 c58) (mkEnv 68 [(2, .bptr 0 0), (4, .bptr 1 0), (8, .rw 2 0), (10, .rw 3 0)]) [zA16, zA16, .row (a.map byCV) 1 0 false, .row (b.map byCV) 1 0 false] (endOf Tryd.prog 58 []) =
      some (.tup [.agg ((a ++ List.replicate (16 - a.length - b.length) 0 ++ b).map byCV), .bool true], []) := by
  rw [it58]
  have hw : IntKind.i64.wrap (16 - (((b.map byCV).length : Nat) : Int)) = ((16 - b.length : Nat) : Int) := by
    rw [List.length_map, wrap_id (by omega) (by omega)]; omega
  have hcl : ∀ l : List CV, (CV.agg l).cl = l := fun _ => rfl
  have e1 : (a.map byCV).take 16 = a.map byCV := List.take_of_length_le (by simp; omega)
  have e2 : (b.map byCV).take (16 - (16 - b.length)) = b.map byCV := List.take_of_length_le (by simp; omega)
  have e3 : ([CV.int IntKind.u8 0, CV.int IntKind.u8 0, CV.int IntKind.u8 0, CV.int IntKind.u8 0, CV.int IntKind.u8 0, CV.int IntKind.u8 0, CV.int IntKind.u8 0, CV.int IntKind.u8 0, CV.int IntKind.u8 0, CV.int IntKind.u8 0, CV.int IntKind.u8 0, CV.int IntKind.u8 0, CV.int IntKind.u8 0, CV.int IntKind.u8 0, CV.int IntKind.u8 0, CV.int IntKind.u8 0] : List CV) = List.replicate 16 (CV.int IntKind.u8 0) := rfl
  rw [hw]
  simp only [hcl, natM, Nat.zero_add]
  rw [e1, e2, flat_by, flat_by, e3]
  have hbl : 16 - b.length = 16 - (b.map byCV).length := by rw [List.length_map]
  rw [hbl, copy16 _ _ _ (by simp; omega)]
  have e4 : (setRange (List.replicate 16 (CV.int IntKind.u8 0)) 0 (a.map byCV)).length = 16 := by
    unfold setRange
    rw [List.take_zero, List.nil_append, List.drop_replicate, List.length_append, List.length_replicate, List.length_map]; omega
  have e5 : (a.map byCV ++ List.replicate (16 - (a.map byCV).length - (b.map byCV).length) (CV.int IntKind.u8 0) ++ b.map byCV) = (a ++ List.replicate (16 - a.length - b.length) 0 ++ b).map byCV := by
    simp only [List.map_append, List.map_replicate, List.length_map]
    rfl
  rw [e5, e4]
  have e6 : ((a ++ List.replicate (16 - a.length - b.length) 0 ++ b).map byCV).length = 16 := by
    simp only [List.length_map, List.length_append, List.length_replicate]; omega
  rw [e6, List.length_map]
  rw [bif_t _ _ (decide_eq_true (by omega)), bif_t _ _ (decide_eq_true (by omega)), bif_t _ _ (decide_eq_true (by omega))]
  rfl

theorem cutDD_sz : ∀ (l h t : List UInt8), cutDD l = some (h, t) → h.length ≤ l.length ∧ t.length ≤ l.length
  | [], h, t, e => by cases e
  | a :: l, h, t, e => by
    unfold cutDD at e
    split at e
    · cases e; simp; omega
    · split at e
      · rename_i h' r hr
        cases e
        have := cutDD_sz l h' t hr
        simp only [List.length_cons]; omega
      · cases e
def v16 (f : Nat → Int) : List CV := [.int .u8 (f 0), .int .u8 (f 1), .int .u8 (f 2), .int .u8 (f 3), .int .u8 (f 4), .int .u8 (f 5), .int .u8 (f 6), .int .u8 (f 7), .int .u8 (f 8), .int .u8 (f 9), .int .u8 (f 10), .int .u8 (f 11), .int .u8 (f 12), .int .u8 (f 13), .int .u8 (f 14), .int .u8 (f 15)]
theorem list16 (r : List Nat) (h : r.length = 16) : v16 (fun i => ((r.getD i 0 : Nat) : Int)) = r.map byCV := by
  match r, h with
  | [_, _, _, _, _, _, _, _, _, _, _, _, _, _, _, _], _ => rfl
theorem six_len {l : List UInt8} {r : List Nat} (h : sixL l = some r) : r.length = 16 := by
  unfold sixL at h
  split at h
  · split at h
    · split at h
      · cases h; assumption
      · cases h
    · cases h
  · split at h
    · split at h
      · cases h
        simp only [List.length_append, List.length_replicate]; omega
      · cases h
    · cases h
theorem sp58a : spine 3 c58 = true := by kernel_rfl
theorem ha58a : headAt (filt an58 0) (tailC 3 c58) = some h58a := by kernel_rfl
theorem sp58b : spine 1 (tailC 3 c58) = true := by kernel_rfl
theorem ha58b : headAt (filt an58 0) (tailC 1 (tailC 3 c58)) = some h58b := by kernel_rfl
theorem fo58b : tailC 1 (tailC 3 c58) = tailC 4 c58 := eq_of_heq (heq_of_eq (by kernel_rfl))
theorem sp58c : spine 1 (tailC 4 c58) = true := by kernel_rfl
theorem ha58c : headAt (filt an58 0) (tailC 1 (tailC 4 c58)) = some h58c := by kernel_rfl
theorem fo58c : tailC 1 (tailC 4 c58) = tailC 5 c58 := eq_of_heq (heq_of_eq (by kernel_rfl))
theorem sp58d : spine 1 (tailC 5 c58) = true := by kernel_rfl
theorem ha58d : headAt (filt an58 0) (tailC 1 (tailC 5 c58)) = some h58d := by kernel_rfl
theorem fo58d : tailC 1 (tailC 5 c58) = tailC 6 c58 := eq_of_heq (heq_of_eq (by kernel_rfl))
theorem u58 (h t : List UInt8) (g : Bool) (n : Nat) (hs : h.length ≤ 10000) (ht : t.length ≤ 10000) (hg : g = false → t = []) :
    aexecB Tryd.prog (call' B59) (filt an58 0) n (tailC 3 c58) (mkEnv 68 [(2, .bptr 0 0), (4, .bptr 1 0), (5, .c (.str (mkS h))), (6, .c (.str (mkS t))), (7, .c (.bool g))]) [zA16, zA16] (endOf Tryd.prog 58 []) =
      if (grpL (!g) h).isSome = true ∧ (grpL true t).isSome = true ∧ (g = false → (grD (!g) h).length = 16) ∧ (g = true → (grD (!g) h).length + (grD true t).length ≤ 16) then
        some (.tup [.agg ((grD (!g) h ++ List.replicate (16 - (grD (!g) h).length - (grD true t).length) 0 ++ grD true t).map byCV), .bool true], []) else bad58 := by
  rw [seg_b (k := 1) (by decide) sp58b ha58b, q58 h t g n _ hs, fo58b]
  rw [seg_b (k := 1) (by decide) sp58c ha58c, r58 t g _ _ n _ ht, fo58c]
  rw [seg_b (k := 1) (by decide) sp58d ha58d, s58 g _ _ _ _ n _ (by rw [List.length_map]; have := grD_len (!g) h hs; omega) (by rw [List.length_map]; have := grD_len true t ht; omega), fo58d]
  simp only [List.length_map]
  split
  · rename_i hc
    refine t58 _ _ n ?_
    cases g with
    | true => exact hc.2.2.2 rfl
    | false =>
      have h1 := hc.2.2.1 rfl
      have h2 := hg rfl
      subst h2
      have : grD true [] = [] := rfl
      rw [this]
      have h1' : (grD (!false) h).length = 16 := h1
      simp only [List.length_nil]; omega
  · rfl
def out58 : Option (List Nat) → Res
  | some r => some (.tup [.agg (r.map byCV), .bool true], [])
  | none => bad58
def mid58 : Bool → Option (List Nat) → Option (List Nat) → Option (List Nat)
  | false, some a, some b => if a.length = 16 then some (a ++ List.replicate (16 - a.length - b.length) 0 ++ b) else none
  | true, some a, some b => if a.length + b.length ≤ 16 then some (a ++ List.replicate (16 - a.length - b.length) 0 ++ b) else none
  | _, _, _ => none
theorem fin58 (g : Bool) (o q : Option (List Nat)) : (if o.isSome = true ∧ q.isSome = true ∧ (g = false → (o.getD []).length = 16) ∧ (g = true → (o.getD []).length + (q.getD []).length ≤ 16) then
        some (CV.tup [.agg ((o.getD [] ++ List.replicate (16 - (o.getD []).length - (q.getD []).length) 0 ++ q.getD []).map byCV), .bool true], ([] : List CV)) else bad58) = out58 (mid58 g o q) := by
  cases o with
  | none => rw [if_neg (by simp)]; cases g <;> rfl
  | some a =>
    cases q with
    | none => rw [if_neg (by simp)]; cases g <;> rfl
    | some b =>
      simp only [Option.getD_some]
      cases g with
      | false =>
        have e : mid58 false (some a) (some b) = if a.length = 16 then some (a ++ List.replicate (16 - a.length - b.length) 0 ++ b) else none := rfl
        rw [e]
        by_cases ha : a.length = 16
        · rw [if_pos ⟨rfl, rfl, fun _ => ha, (fun q => by cases q)⟩, if_pos ha]; rfl
        · rw [if_neg (fun q => ha (q.2.2.1 rfl)), if_neg ha]; rfl
      | true =>
        have e : mid58 true (some a) (some b) = if a.length + b.length ≤ 16 then some (a ++ List.replicate (16 - a.length - b.length) 0 ++ b) else none := rfl
        rw [e]
        by_cases ha : a.length + b.length ≤ 16
        · rw [if_pos ⟨rfl, rfl, (fun q => by cases q), fun _ => ha⟩, if_pos ha]; rfl
        · rw [if_neg (fun q => ha (q.2.2.2 rfl)), if_neg ha]; rfl
theorem g58 (hg : OnGlobals I ng) (h70 : Cw I ng 70 L70) (h28 : Cw I ng 28 L28d) : Kw I ng B58 := known_add (g59 hg h70 h28) (contract_of an58 hg (hok_of (g59 hg h70 h28)) fun cargs rv outs h => by
  unfold L58 at h
  split at h <;> first | (cases h; done) | skip
  rename_i s
  by_cases hs : s.size ≤ 10000
  · simp only [picked, pickAlt, decide_eq_true hs] at h
    cases h
    refine ⟨1, ?_⟩
    rw [abody_eq rfl (by kernel_rfl)]
    show aexec Tryd.prog (call' B59) (filt an58 0) 1 c58 (envOf Tryd.prog 58 [.c (.str s)]) [] (endOf Tryd.prog 58 []) = _
    rw [seg_a (k := 3) (by decide) sp58a ha58a, ip58, decide_eq_true hs, bif_t _ _ rfl]
    obtain ⟨l, rfl⟩ : ∃ l, s = mkS l := ⟨_, (mkS_bl s).symm⟩
    rw [sizeM] at hs
    have goal : ∀ (o : Option (List Nat)), o = sixL l → out58 o = some (.tup [.agg (v16 (s6b (mkS l))), .bool (s6 (mkS l))], []) := by
      intro o ho
      have e1 : s6 (mkS l) = (sixL l).isSome := rfl
      have e2 : s6b (mkS l) = fun i => ((((sixL l).getD []).getD i 0 : Nat) : Int) := rfl
      rw [e1, e2, ← ho]
      cases o with
      | none => rfl
      | some r =>
        have := list16 r (six_len ho.symm)
        simp only [Option.getD_some, this]
        rfl
    refine Eq.trans ?_ (goal (sixL l) rfl)
    cases hc : cutDD l with
    | none =>
      have e1 : ddH (mkS l) = mkS l := by unfold ddH; rw [mkS_data, hc]
      have e2 : ddT (mkS l) = mkS [] := by unfold ddT; rw [mkS_data, hc]
      have e3 : ddG (mkS l) = false := by unfold ddG; rw [mkS_data, hc]; rfl
      rw [e1, e2, e3]
      refine (u58 l [] false 1 hs (by simp) (fun _ => rfl)).trans ?_
      unfold grD
      rw [fin58]
      congr 1
      have e5 : grpL true [] = some [] := rfl
      rw [e5]
      unfold sixL
      rw [hc]
      show mid58 false (grpL true l) (some []) = match grpL true l with
        | some a => if a.length = 16 then some a else none
        | none => none
      cases grpL true l with
      | none => rfl
      | some a =>
        show (if a.length = 16 then some (a ++ List.replicate (16 - a.length - 0) 0 ++ []) else none) = if a.length = 16 then some a else none
        by_cases ha : a.length = 16
        · rw [if_pos ha, if_pos ha, ha]; simp
        · rw [if_neg ha, if_neg ha]
    | some ht =>
      obtain ⟨hd, tl⟩ := ht
      have e1 : ddH (mkS l) = mkS hd := by unfold ddH; rw [mkS_data, hc]
      have e2 : ddT (mkS l) = mkS tl := by unfold ddT; rw [mkS_data, hc]
      have e3 : ddG (mkS l) = true := by unfold ddG; rw [mkS_data, hc]; rfl
      have hsz := cutDD_sz l hd tl hc
      rw [e1, e2, e3]
      refine (u58 hd tl true 1 (by omega) (by omega) (fun h => by cases h)).trans ?_
      unfold grD
      rw [fin58]
      congr 1
      unfold sixL
      rw [hc]
      show mid58 true (grpL false hd) (grpL true tl) = match grpL false hd, grpL true tl with
        | some a, some b => if a.length + b.length ≤ 16 then some (a ++ List.replicate (16 - a.length - b.length) 0 ++ b) else none
        | _, _ => none
      cases grpL false hd with
      | none => rfl
      | some a =>
        cases grpL true tl with
        | none => rfl
        | some b => rfl
  · simp only [picked, pickAlt, decide_eq_false hs] at h; cases h)

/-! ### Parse -/
theorem h47 (hg : OnGlobals I ng) (h70 : Cw I ng 70 L70) (h28 : Cw I ng 28 L28d) : Cw I ng 47 L47 := contract_of (fun _ => none) hg (hok_of (g58 hg h70 h28)) fun cargs rv outs h => by
  unfold L47 at h
  split at h <;> first | (cases h; done) | skip
  rename_i s
  by_cases hs : s.size ≤ 3000
  · refine ⟨1, ?_⟩
    rw [ir47]
    simp only [picked, pickAlt, decide_eq_true hs, Bool.true_and] at h
    rw [decide_eq_true (show s.size ≤ 10000 by omega)]
    unfold ip6 ip4 at h
    by_cases h64 : s.size ≤ 64
    · rw [bif_f _ _ (decide_eq_false (by omega))]
      rw [decide_eq_true h64] at h
      simp only [Bool.true_and, bif_t _ _ (Eq.refl true)] at h ⊢
      cases hf : f4 s with
      | true =>
        rw [hf] at h
        cases h
        unfold ipAgg ipB
        simp only [hf, if_true]
        rfl
      | false =>
        rw [hf] at h
        simp only [Bool.not_false, Bool.true_and] at h
        rw [bif_f _ _ rfl]
        cases h6 : s6 s with
        | false => rw [h6] at h; cases h; rfl
        | true =>
          cases h58 : hasB s 58 with
          | false => rw [h6, h58] at h; cases h; rfl
          | true =>
            rw [h6, h58] at h
            cases h
            unfold ipAgg ipB
            simp only [hf, Bool.false_eq_true, if_false]
            rfl
    · rw [bif_t _ _ (decide_eq_true (by omega))]
      rw [decide_eq_false h64] at h
      cases h
      rfl
  · simp only [picked, pickAlt, decide_eq_false hs, Bool.false_and] at h; cases h

end Go.Pv

/- Addresses: the document's groups. -/
namespace Go.Pv
set_option linter.unusedVariables false
set_option maxRecDepth 100000
set_option maxHeartbeats 400000
open Go Go.Proofs
variable {I : World → Prop} {ng : Nat}

theorem bT {α : Type} (x y : Option α) : bif' true x y = x := bif_t x y (Eq.refl true)
theorem bF {α : Type} (x y : Option α) : bif' false x y = y := bif_f x y (Eq.refl false)
theorem f4b_lt (s : ByteArray) (i : Nat) : 0 ≤ f4b s i ∧ f4b s i < 256 := by
  have key : ∀ (ps : List (List UInt8)) (i : Nat), (goF ps).1.getD i 0 < 256 := by
    intro ps
    induction ps with
    | nil => intro i; simp [goF]
    | cons p ps ih =>
      intro i
      unfold goF
      split
      · rename_i ho
        cases i with
        | zero => exact oct_lt ho
        | succ i => exact ih i
      · simp
  unfold f4b fourP
  split
  · have := key (splitL 46 s.data.toList) i; omega
  · simp
theorem f4r_b (s : ByteArray) : (f4 s = true → 0 ≤ f4r s ∧ f4r s < 4294967296) ∧ (f4 s = false → f4r s = -1) := by
  have h0 := f4b_lt s 0
  have h1 := f4b_lt s 1
  have h2 := f4b_lt s 2
  have h3 := f4b_lt s 3
  unfold f4r
  constructor
  · intro h
    rw [h, if_pos rfl]
    omega
  · intro h
    rw [h, if_neg Bool.false_ne_true]
theorem fold16 : ∀ (l : List UInt8) (v : Nat), (l.all fun c => decide (hexv c < 16)) = true → l.foldl (fun n c => n * 16 + hexv c) v < (v + 1) * 16 ^ l.length
  | [], v, _ => by simp
  | c :: t, v, h => by
    rw [List.all_cons, Bool.and_eq_true, decide_eq_true_eq] at h
    rw [List.foldl_cons]
    have ih := fold16 t (v * 16 + hexv c) h.2
    have e : 16 ^ (c :: t).length = 16 * 16 ^ t.length := by rw [List.length_cons, Nat.pow_succ, Nat.mul_comm]
    rw [e, ← Nat.mul_assoc]
    refine Nat.lt_of_lt_of_le ih (Nat.mul_le_mul_right _ ?_)
    omega
theorem num16 {p : List UInt8} (h : numOk 16 p = true) (hl : p.length ≤ 4) : numL 16 p < 65536 := by
  unfold numOk at h
  rw [Bool.and_eq_true] at h
  have := fold16 p 0 h.2
  have h2 : 16 ^ p.length ≤ 16 ^ 4 := Nat.pow_le_pow_right (by omega) hl
  unfold numL
  omega
theorem isE (p : List UInt8) : ((mkS p).toList == (ByteArray.mk #[]).toList) = p.isEmpty := by
  rw [toList_data, toList_data, mkS_data]
  cases p <;> rfl
def res65 (ys : List CV) : Option (List Int) → Res
  | some r => some (.tup [.sl true false 1 (ys ++ r.map intCV), .bool true], [])
  | none => some (.tup [.nilsl, .bool false], [])
def E65 (gap : Bool) (k : Nat) : Env := mkEnv 107 [(4, .rw 1 0), (5, .rw 0 0), (6, .c (.bool gap)), (7, .c (.int .i64 (k : Int)))]
noncomputable abbrev R65 (n j : Nat) (env : Env) (H : Hp) : Res := rounds Tryd.prog (call' B58) (filt aL65 0) n hL65 (bodyN 0 (codeOf Tryd.prog 65)) j env H (restN Tryd.prog (call' B58) (filt aL65 0) n 0 (codeOf Tryd.prog 65) (endOf Tryd.prog 65 []))
theorem refG_e (all : List (List UInt8)) (i : Nat) (gap : Bool) (ps : List (List UInt8)) : refG all i gap ([] :: ps) = if i = 0 ∨ ps = [] then
        if all.length < 3 ∨ (i = 0 ∧ all.getD 1 [] ≠ []) ∨ (0 < i ∧ all.getD (all.length - 2) [] ≠ []) then none else refG all (i + 1) gap ps
      else if gap then none else match refG all (i + 1) true ps with
        | some r => some (-1 :: r)
        | none => none := by
  conv => lhs; unfold refG
  rw [if_pos rfl]
  all_goals rfl
theorem refG_n (all : List (List UInt8)) (i : Nat) (gap : Bool) (p : List UInt8) (hp : p ≠ []) (ps : List (List UInt8)) : refG all i gap (p :: ps) = if (fourP (splitL 46 p)).2 = true ∧ ps = [] then some [f4r (mkS p) / 65536, f4r (mkS p) % 65536]
    else if numOk 16 p = true ∧ p.length ≤ 4 then match refG all (i + 1) gap ps with
      | some r => some (((numL 16 p : Nat) : Int) :: r)
      | none => none
    else none := by
  conv => lhs; unfold refG
  rw [if_neg hp]
  all_goals rfl
theorem res_cons (ys : List CV) (x : Int) (o : Option (List Int)) : res65 (ys ++ [CV.int .i64 x]) o = res65 ys (match o with
    | some r => some (x :: r)
    | none => none) := by
  cases o with
  | none => rfl
  | some r =>
    unfold res65
    simp only [List.append_assoc]
    rfl
theorem lo65 (n : Nat) (ps : List (List UInt8)) (hl : ps.length ≤ 20000) (hsz : ∀ p ∈ ps, p.length ≤ 10000) : ∀ (j k : Nat) (gap : Bool) (ys : List CV), ps.length < j + k → k ≤ ps.length → ys.length ≤ 2 * k →
    R65 n j (E65 gap k) [.row ys 1 0 false, .row (ps.map strCV) 1 0 false] = res65 ys (refG ps k gap (ps.drop k))
  | 0, k, gap, ys, hj, hk, hd => by omega
  | j + 1, k, gap, ys, hj, hk, hd => by
    unfold R65
    rw [E65, rounds_succ, ic65]
    simp only [natM, List.length_map, rep1, rep2, List.length_cons, List.length_nil]
    by_cases h1 : k < ps.length
    · have hp := xs_get ps k h1
      have hdr := ps_drop h1
      have hsz1 := hsz _ (ps_mem h1)
      have b1 : decide ((k : Int) < ((ps.length : Nat) : Int)) = true := decide_eq_true (by omega)
      have b2 : decide ((0 : Int) ≤ (k : Int)) = true := decide_eq_true (by omega)
      have b3 : decide (0 < 1) = true := rfl
      have b5 : decide (k < ps.length) = true := decide_eq_true h1
      have hw1 : IntKind.i64.wrap (((ps.length : Nat) : Int) - 1) = ((ps.length - 1 : Nat) : Int) := by rw [wrap_id (by omega) (by omega)]; omega
      have hlast : (((k : Nat) : Int) == ((ps.length - 1 : Nat) : Int)) = (ps.drop (k + 1)).isEmpty := by
        rw [Bool.eq_iff_iff, beq_iff_eq, List.isEmpty_iff, List.drop_eq_nil_iff]; omega
      have ih : ∀ gap ys', ys'.length ≤ 2 * (k + 1) → R65 n j (E65 gap (k + 1)) [.row ys' 1 0 false, .row (ps.map strCV) 1 0 false] = res65 ys' (refG ps (k + 1) gap (ps.drop (k + 1))) := fun gap ys' h => lo65 n ps hl hsz j (k + 1) gap ys' (by omega) (by omega) h
      simp only [hp, el_get, el_len, el_okc, el_str, sizeM, isE]
      rw [b1, b2, b3, b5, hw1, hlast, wrp1 (i := k) (by omega), hdr]
      generalize ps.getD k [] = p at *
      have b4 : decide (p.length ≤ 10000) = true := decide_eq_true hsz1
      rw [b4]
      simp only [Bool.and_self, bT]
      by_cases hpe : p = []
      · subst hpe
        rw [refG_e]
        have e0 : ([] : List UInt8).isEmpty = true := rfl
        rw [e0, bT]
        by_cases hk0 : k = 0
        · have c0 : (((k : Nat) : Int) == 0) = true := by rw [hk0]; rfl
          have c1 : decide ((k : Int) > 0) = false := decide_eq_false (by omega)
          rw [c0, c1, if_pos (.inl hk0)]
          simp only [bT, bF]
          by_cases h3 : ps.length < 3
          · rw [decide_eq_true (show ((ps.length : Nat) : Int) < 3 by omega), bT, if_pos (.inl h3)]; rfl
          · have hq := xs_get ps 1 (by omega)
            simp only [hq, el_get, el_len, el_okc, el_str, sizeM, isE]
            rw [decide_eq_false (show ¬ ((ps.length : Nat) : Int) < 3 by omega), decide_eq_true (show (1 : Int) < ((ps.length : Nat) : Int) by omega), decide_eq_true (show 1 < ps.length by omega), decide_eq_true (show 0 < 1 by omega)]
            simp only [bT, bF]
            cases hq1 : (ps.getD 1 []).isEmpty with
            | true =>
              have hn : ps.getD 1 [] = [] := List.isEmpty_iff.1 hq1
              rw [if_neg (by rintro (h | h | h); · omega
                             · exact h.2 hn
                             · omega)]
              exact ih gap ys (by omega)
            | false =>
              have hn : ps.getD 1 [] ≠ [] := fun h => by rw [h] at hq1; cases hq1
              rw [if_pos (.inr (.inl ⟨hk0, hn⟩))]
              rfl
        · have c0 : (((k : Nat) : Int) == 0) = false := by
            refine Bool.eq_false_iff.2 fun h => hk0 ?_
            have := eq_of_beq h; omega
          have c1 : decide ((k : Int) > 0) = true := decide_eq_true (by omega)
          rw [c0, c1]
          simp only [bT, bF]
          cases hla : (ps.drop (k + 1)).isEmpty with
          | false =>
            have hne : ps.drop (k + 1) ≠ [] := fun h => by rw [h] at hla; cases hla
            rw [if_neg (by rintro (h | h); · exact hk0 h
                           · exact hne h)]
            have e1 : (!false) = true := rfl
            rw [e1, bT]
            cases gap with
            | true => rw [bT]; rfl
            | false =>
              rw [bF, decide_eq_true (show (ys.length + 1) * 8 ≤ 70368744177664 by omega), bT]
              refine Eq.trans (ih true _ (by rw [List.length_append]; simp; omega)) ?_
              rw [res_cons]
              rfl
          | true =>
            have hne : ps.drop (k + 1) = [] := List.isEmpty_iff.1 hla
            rw [if_pos (.inr hne)]
            have e1 : (!true) = false := rfl
            rw [e1, bF]
            by_cases h3 : ps.length < 3
            · rw [decide_eq_true (show ((ps.length : Nat) : Int) < 3 by omega), bT, if_pos (.inl h3)]; rfl
            · have hw2 : IntKind.i64.wrap (((ps.length : Nat) : Int) - 2) = ((ps.length - 2 : Nat) : Int) := by rw [wrap_id (by omega) (by omega)]; omega
              rw [hw2]
              simp only [natM]
              have hq := xs_get ps (ps.length - 2) (by omega)
              simp only [hq, el_get, el_len, el_okc, el_str, sizeM, isE]
              rw [decide_eq_false (show ¬ ((ps.length : Nat) : Int) < 3 by omega), decide_eq_true (show (0 : Int) ≤ ((ps.length - 2 : Nat) : Int) by omega), decide_eq_true (show ((ps.length - 2 : Nat) : Int) < ((ps.length : Nat) : Int) by omega), decide_eq_true (show ps.length - 2 < ps.length by omega), decide_eq_true (show 0 < 1 by omega)]
              simp only [bT, bF]
              cases hq1 : (ps.getD (ps.length - 2) []).isEmpty with
              | true =>
                have hn : ps.getD (ps.length - 2) [] = [] := List.isEmpty_iff.1 hq1
                rw [if_neg (by rintro (h | h | h); · omega
                               · omega
                               · exact h.2 hn)]
                exact ih gap ys (by omega)
              | false =>
                have hn : ps.getD (ps.length - 2) [] ≠ [] := fun h => by rw [h] at hq1; cases hq1
                rw [if_pos (.inr (.inr ⟨by omega, hn⟩))]
                rfl
      · rw [refG_n _ _ _ _ hpe]
        have e0 : p.isEmpty = false := by cases p with | nil => exact (hpe rfl).elim | cons a t => rfl
        rw [e0, bF]
        have e1 : nR (mkS p) 16 = if numOk 16 p then ((min (numL 16 p) 4294967296 : Nat) : Int) else -1 := rfl
        have e2 : f4 (mkS p) = (fourP (splitL 46 p)).2 := rfl
        have hf := f4r_b (mkS p)
        rw [e2] at hf
        rw [e1]
        have grp : (bif' (decide ((if numOk 16 p = true then ((min (numL 16 p) 4294967296 : Nat) : Int) else -1) < 0)) (some (CV.tup [CV.nilsl, CV.bool false], ([] : List CV))) (bif' (decide (((p.length : Nat) : Int) > 4)) (some (CV.tup [CV.nilsl, CV.bool false], [])) (bif' (decide ((ys.length + (0 + 1)) * 8 ≤ 70368744177664)) (R65 n j (E65 gap (k + 1)) [.row (ys ++ [CV.int .i64 (if numOk 16 p = true then ((min (numL 16 p) 4294967296 : Nat) : Int) else -1)]) 1 0 false, .row (ps.map strCV) 1 0 false]) none))) =
            res65 ys (if numOk 16 p = true ∧ p.length ≤ 4 then match refG ps (k + 1) gap (ps.drop (k + 1)) with
              | some r => some (((numL 16 p : Nat) : Int) :: r)
              | none => none
            else none) := by
          cases hn : numOk 16 p with
          | false =>
            rw [if_neg Bool.false_ne_true, decide_eq_true (by decide), bT, if_neg (fun q => Bool.false_ne_true q.1)]; rfl
          | true =>
            rw [if_pos rfl, decide_eq_false (by omega), bF]
            by_cases h4 : p.length ≤ 4
            · have hlt := num16 hn h4
              rw [decide_eq_false (by omega), bF, decide_eq_true (by omega), bT, if_pos ⟨rfl, h4⟩]
              have e3 : min (numL 16 p) 4294967296 = numL 16 p := by omega
              rw [e3]
              refine Eq.trans (ih gap _ (by rw [List.length_append]; simp; omega)) ?_
              rw [res_cons]
            · rw [decide_eq_true (by omega), bT, if_neg (fun q => h4 q.2)]; rfl
        cases h4 : (fourP (splitL 46 p)).2 with
        | false =>
          rw [h4] at hf
          have hv := hf.2 rfl
          rw [hv, decide_eq_false (by omega), bF, if_neg (show ¬ (false = true ∧ ps.drop (k + 1) = []) from fun q => Bool.false_ne_true q.1)]
          exact grp
        | true =>
          rw [h4] at hf
          obtain ⟨v0, v1⟩ := hf.1 rfl
          rw [decide_eq_true (show f4r (mkS p) ≥ 0 from v0), bT]
          cases hla : (ps.drop (k + 1)).isEmpty with
          | false =>
            have hne : ps.drop (k + 1) ≠ [] := fun h => by rw [h] at hla; cases hla
            rw [bF, if_neg (show ¬ (true = true ∧ ps.drop (k + 1) = []) from fun q => hne q.2)]
            exact grp
          | true =>
            have hne : ps.drop (k + 1) = [] := List.isEmpty_iff.1 hla
            rw [bT, if_pos ⟨rfl, hne⟩, decide_eq_true (by omega), bT]
            have d1 : (f4r (mkS p)).tdiv 65536 = f4r (mkS p) / 65536 := Int.tdiv_eq_ediv_of_nonneg v0
            have d2 : (f4r (mkS p)).tmod 65536 = f4r (mkS p) % 65536 := Int.tmod_eq_emod_of_nonneg v0
            rw [d1, d2, wrap_id (n := f4r (mkS p) / 65536) (by omega) (by omega)]
            refine Eq.trans (ih gap _ (by rw [List.length_append]; simp; omega)) ?_
            rw [hne]
            have e3 : refG ps (k + 1) gap [] = some [] := by unfold refG; rfl
            rw [e3]
            show some (CV.tup [CV.sl true false 1 (ys ++ [_, _] ++ ([] : List Int).map intCV), .bool true], ([] : List CV)) = _
            rw [List.map_nil, List.append_nil]
            rfl
    · rw [decide_eq_false (show ¬ (k : Int) < ((ps.length : Nat) : Int) by omega), bF, List.drop_of_length_le (by omega)]
      have e3 : refG ps k gap [] = some [] := by unfold refG; rfl
      rw [e3]
      show _ = some (CV.tup [CV.sl true false 1 (ys ++ ([] : List Int).map intCV), .bool true], ([] : List CV))
      rw [List.map_nil, List.append_nil]
theorem g65 (hg : OnGlobals I ng) (h70 : Cw I ng 70 L70) (h28 : Cw I ng 28 L28d) : Kw I ng B65 := known_add (g58 hg h70 h28) (contract_of aL65 hg (hok_of (g58 hg h70 h28)) fun cargs rv outs h => by
  unfold L65 at h
  split at h <;> first | (cases h; done) | skip
  rename_i s
  refine ⟨22000, loop1 rfl (by kernel_rfl) (by kernel_rfl) (by kernel_rfl) (hd := hL65) (by kernel_rfl) ?_⟩
  by_cases hs : s.size ≤ 10000
  · refine (ib65 s 22000 (R65 22000 22000)).trans ?_
    obtain ⟨l, rfl⟩ : ∃ l, s = mkS l := ⟨_, (mkS_bl s).symm⟩
    rw [sizeM] at hs
    have e2 : (spS (mkS l) (Nat.toUInt8 58)) = (splitL 58 l).map strCV := rfl
    rw [sizeM, decide_eq_true hs, e2]
    simp only [Bool.and_self, bT]
    simp only [picked, pickAlt, sizeM, decide_eq_true hs, Bool.true_and] at h
    have hsz : ∀ p ∈ splitL 58 l, p.length ≤ 10000 := fun p hp => by
      have := split_sz 58 _ p hp; omega
    have hl := split_len 58 l
    refine Eq.trans (lo65 22000 (splitL 58 l) (by omega) hsz 22000 0 false [] (by omega) (by omega) (by simp)) ?_
    rw [List.drop_zero]
    unfold gROk rB at h
    simp only [dataM] at h
    cases hq : refG (splitL 58 l) 0 false (splitL 58 l) with
    | none => rw [hq] at h; cases h; rfl
    | some r => rw [hq] at h; cases h; rfl
  · simp only [picked, pickAlt, decide_eq_false hs, Bool.false_and] at h; cases h)

end Go.Pv

/- Addresses: the document's Parse: trees. -/
namespace Go.Pv
set_option linter.unusedVariables false
set_option maxRecDepth 100000
open Go Go.Proofs

def L51 : Fn1 := fun x => match x with
  | [.str s] => some [(decide (s.size ≤ 3000) && ip6 s, .tup [ipAgg true s, .bool true], []), (decide (s.size ≤ 3000) && ip4 s, .tup [ipAgg false s, .bool true], []), (decide (s.size ≤ 3000), .tup [ipZero, .bool false], [])]
  | _ => none
def kIp : Nat := 17 + 4294967296 * (72 + 1)
abbrev zIp : AO := .box (.c ipZero) kIp
noncomputable def c51 : Code := codeOf Tryd.prog 51
noncomputable def q51 : Code := prefC 2 (tailC 4 c51)
def h51a : Head := ⟨[2, 5], [(5, 1)], 1⟩
def hL51a : Head := ⟨[2, 5, 7, 8, 9], [(5, 1)], 1⟩
def h51b : Head := ⟨[2, 5, 7, 8], [(5, 1)], 1⟩
def h51c : Head := ⟨[2, 5, 7, 10, 11], [(5, 1)], 3⟩
def hL51b : Head := ⟨[2, 5, 7, 10, 11, 12], [(5, 1)], 3⟩
def an51 : Ann := fun i => if Nat.beq i 500007 then some h51a else if Nat.beq i 9 then some hL51a else if Nat.beq i 500014 then some h51b else if Nat.beq i 500018 then some h51c else if Nat.beq i 19 then some hL51b else none
theorem ip51 (s : ByteArray) (n : Nat) (L : Env → Hp → Res) : aexec Tryd.prog (call' B65) (filt an51 0) n (prefC 4 c51) (envOf Tryd.prog 51 [.c (.str s)]) [] (thenK (headK h51a L) (endOf Tryd.prog 51 [])) =
    bif' (decide (s.size ≤ 10000))
      (bif' (decide (f4r s ≥ 0))
        (bif' (decide (0 ≤ IntKind.u64.wrap (f4r s)) && decide (IntKind.u64.wrap (f4r s) < 18446744073709551616))
          (some
            (CV.tup
                [CV.agg
                    [CV.bool false, CV.int IntKind.u8 (Int.ofNat 0), CV.int IntKind.u8 (Int.ofNat 0),
                      CV.int IntKind.u8 (Int.ofNat 0), CV.int IntKind.u8 (Int.ofNat 0), CV.int IntKind.u8 (Int.ofNat 0),
                      CV.int IntKind.u8 (Int.ofNat 0), CV.int IntKind.u8 (Int.ofNat 0), CV.int IntKind.u8 (Int.ofNat 0),
                      CV.int IntKind.u8 (Int.ofNat 0), CV.int IntKind.u8 (Int.ofNat 0), CV.int IntKind.u8 (Int.ofNat 0),
                      CV.int IntKind.u8 (Int.ofNat 0), CV.int IntKind.u8 (IntKind.u64.wrap (f4r s) / 16777216 % 256),
                      CV.int IntKind.u8 (IntKind.u64.wrap (f4r s) / 65536 % 256),
                      CV.int IntKind.u8 (IntKind.u64.wrap (f4r s) / 256 % 256),
                      CV.int IntKind.u8 (IntKind.u64.wrap (f4r s) % 256)],
                  CV.bool true],
              []))
          none)
        (bif' (decide (s.size ≤ 10000) && gROk s)
          (bif' (decide (s.size ≤ 10000) && true)
            (bif' (decide ((↑(spS s (Nat.toUInt8 58)).length : Int) < 3))
              (some
                (CV.tup
                    [CV.agg
                        [CV.bool false, CV.int IntKind.u8 (Int.ofNat 0), CV.int IntKind.u8 (Int.ofNat 0),
                          CV.int IntKind.u8 (Int.ofNat 0), CV.int IntKind.u8 (Int.ofNat 0), CV.int IntKind.u8 (Int.ofNat 0),
                          CV.int IntKind.u8 (Int.ofNat 0), CV.int IntKind.u8 (Int.ofNat 0), CV.int IntKind.u8 (Int.ofNat 0),
                          CV.int IntKind.u8 (Int.ofNat 0), CV.int IntKind.u8 (Int.ofNat 0), CV.int IntKind.u8 (Int.ofNat 0),
                          CV.int IntKind.u8 (Int.ofNat 0), CV.int IntKind.u8 (Int.ofNat 0), CV.int IntKind.u8 (Int.ofNat 0),
                          CV.int IntKind.u8 (Int.ofNat 0), CV.int IntKind.u8 (Int.ofNat 0)],
                      CV.bool false],
                  []))
              (L (mkEnv 97 [(2, PV.bptr 0 0), (5, PV.rw 1 0)])
                [AO.box
                    (PV.c
                      (CV.agg
                        [CV.bool false, CV.int IntKind.u8 (Int.ofNat 0), CV.int IntKind.u8 (Int.ofNat 0),
                          CV.int IntKind.u8 (Int.ofNat 0), CV.int IntKind.u8 (Int.ofNat 0), CV.int IntKind.u8 (Int.ofNat 0),
                          CV.int IntKind.u8 (Int.ofNat 0), CV.int IntKind.u8 (Int.ofNat 0), CV.int IntKind.u8 (Int.ofNat 0),
                          CV.int IntKind.u8 (Int.ofNat 0), CV.int IntKind.u8 (Int.ofNat 0), CV.int IntKind.u8 (Int.ofNat 0),
                          CV.int IntKind.u8 (Int.ofNat 0), CV.int IntKind.u8 (Int.ofNat 0), CV.int IntKind.u8 (Int.ofNat 0),
                          CV.int IntKind.u8 (Int.ofNat 0), CV.int IntKind.u8 (Int.ofNat 0)]))
                    kIp,
                  AO.row (rB s) 1 0 false]))
            none)
          (bif' (decide (s.size ≤ 10000))
            (some
              (CV.tup
                  [CV.agg
                      [CV.bool false, CV.int IntKind.u8 (Int.ofNat 0), CV.int IntKind.u8 (Int.ofNat 0),
                        CV.int IntKind.u8 (Int.ofNat 0), CV.int IntKind.u8 (Int.ofNat 0), CV.int IntKind.u8 (Int.ofNat 0),
                        CV.int IntKind.u8 (Int.ofNat 0), CV.int IntKind.u8 (Int.ofNat 0), CV.int IntKind.u8 (Int.ofNat 0),
                        CV.int IntKind.u8 (Int.ofNat 0), CV.int IntKind.u8 (Int.ofNat 0), CV.int IntKind.u8 (Int.ofNat 0),
                        CV.int IntKind.u8 (Int.ofNat 0), CV.int IntKind.u8 (Int.ofNat 0), CV.int IntKind.u8 (Int.ofNat 0),
                        CV.int IntKind.u8 (Int.ofNat 0), CV.int IntKind.u8 (Int.ofNat 0)],
                    CV.bool false],
                []))
            none)))
      none := by kernel_rfl
theorem iq51 (xs : List CV) (n : Nat) (L R : Env → Hp → Res) : partsB Tryd.prog (call' B65) (filt an51 0) n q51 (mkEnv 97 [(2, .bptr 0 0), (5, .rw 1 0)]) [zIp, .row xs 1 0 false] (fun _ => headK hL51a R) (thenK (headK h51b L) (endOf Tryd.prog 51 [])) =
    R
      (mkEnv 97
        [(2, PV.bptr 0 0), (5, PV.rw 1 0), (7, PV.c (CV.int IntKind.i64 (Int.ofNat 0))), (8, PV.c (CV.bool false)),
          (9, PV.c (CV.int IntKind.i64 (Int.ofNat 0)))])
      [AO.box
          (PV.c
            (CV.agg
              [CV.bool false, CV.int IntKind.u8 (Int.ofNat 0), CV.int IntKind.u8 (Int.ofNat 0),
                CV.int IntKind.u8 (Int.ofNat 0), CV.int IntKind.u8 (Int.ofNat 0), CV.int IntKind.u8 (Int.ofNat 0),
                CV.int IntKind.u8 (Int.ofNat 0), CV.int IntKind.u8 (Int.ofNat 0), CV.int IntKind.u8 (Int.ofNat 0),
                CV.int IntKind.u8 (Int.ofNat 0), CV.int IntKind.u8 (Int.ofNat 0), CV.int IntKind.u8 (Int.ofNat 0),
                CV.int IntKind.u8 (Int.ofNat 0), CV.int IntKind.u8 (Int.ofNat 0), CV.int IntKind.u8 (Int.ofNat 0),
                CV.int IntKind.u8 (Int.ofNat 0), CV.int IntKind.u8 (Int.ofNat 0)]))
          kIp,
        AO.row xs 1 0 false] := by kernel_rfl
theorem ic51 (xs : List CV) (m i : Int) (gap : Bool) (n : Nat) (L R : Env → Hp → Res) : aexec Tryd.prog (call' B65) (filt an51 0) n (bodyN 0 q51) (mkEnv 97 [(2, .bptr 0 0), (5, .rw 1 0), (7, .c (.int .i64 m)), (8, .c (.bool gap)), (9, .c (.int .i64 i))]) [zIp, .row xs 1 0 false] (thenK (headK hL51a R) (restN Tryd.prog (call' B65) (filt an51 0) n 0 q51 (thenK (headK h51b L) (endOf Tryd.prog 51 [])))) =
    bif' (decide (i < (↑xs.length : Int)))
      (bif' (decide (0 ≤ i))
        (bif' (decide (i < (↑xs.length : Int)))
          (bif' (decide (i.toNat < xs.length))
            (bif' (decide (0 < (xs.getD i.toNat CV.nilptr).cl.length))
              (bif' (okc (CV.int IntKind.i64 0) ((xs.getD i.toNat CV.nilptr).cl.getD 0 CV.nilptr))
                (bif' (decide (((xs.getD i.toNat CV.nilptr).cl.getD 0 CV.nilptr).toInt < 0))
                  (R
                    (mkEnv 97
                      [(2, PV.bptr 0 0), (5, PV.rw 1 0), (7, PV.c (CV.int IntKind.i64 m)), (8, PV.c (CV.bool true)),
                        (9, PV.c (CV.int IntKind.i64 (IntKind.i64.wrap (i + 1))))])
                    [AO.box
                        (PV.c
                          (CV.agg
                            [CV.bool false, CV.int IntKind.u8 (Int.ofNat 0), CV.int IntKind.u8 (Int.ofNat 0),
                              CV.int IntKind.u8 (Int.ofNat 0), CV.int IntKind.u8 (Int.ofNat 0),
                              CV.int IntKind.u8 (Int.ofNat 0), CV.int IntKind.u8 (Int.ofNat 0),
                              CV.int IntKind.u8 (Int.ofNat 0), CV.int IntKind.u8 (Int.ofNat 0),
                              CV.int IntKind.u8 (Int.ofNat 0), CV.int IntKind.u8 (Int.ofNat 0),
                              CV.int IntKind.u8 (Int.ofNat 0), CV.int IntKind.u8 (Int.ofNat 0),
                              CV.int IntKind.u8 (Int.ofNat 0), CV.int IntKind.u8 (Int.ofNat 0),
                              CV.int IntKind.u8 (Int.ofNat 0), CV.int IntKind.u8 (Int.ofNat 0)]))
                        kIp,
                      AO.row xs 1 0 false])
                  (R
                    (mkEnv 97
                      [(2, PV.bptr 0 0), (5, PV.rw 1 0), (7, PV.c (CV.int IntKind.i64 (IntKind.i64.wrap (m + 1)))),
                        (8, PV.c (CV.bool gap)), (9, PV.c (CV.int IntKind.i64 (IntKind.i64.wrap (i + 1))))])
                    [AO.box
                        (PV.c
                          (CV.agg
                            [CV.bool false, CV.int IntKind.u8 (Int.ofNat 0), CV.int IntKind.u8 (Int.ofNat 0),
                              CV.int IntKind.u8 (Int.ofNat 0), CV.int IntKind.u8 (Int.ofNat 0),
                              CV.int IntKind.u8 (Int.ofNat 0), CV.int IntKind.u8 (Int.ofNat 0),
                              CV.int IntKind.u8 (Int.ofNat 0), CV.int IntKind.u8 (Int.ofNat 0),
                              CV.int IntKind.u8 (Int.ofNat 0), CV.int IntKind.u8 (Int.ofNat 0),
                              CV.int IntKind.u8 (Int.ofNat 0), CV.int IntKind.u8 (Int.ofNat 0),
                              CV.int IntKind.u8 (Int.ofNat 0), CV.int IntKind.u8 (Int.ofNat 0),
                              CV.int IntKind.u8 (Int.ofNat 0), CV.int IntKind.u8 (Int.ofNat 0)]))
                        kIp,
                      AO.row xs 1 0 false]))
                none)
              none)
            none)
          none)
        none)
      (L (mkEnv 97 [(2, PV.bptr 0 0), (5, PV.rw 1 0), (7, PV.c (CV.int IntKind.i64 m)), (8, PV.c (CV.bool gap))])
        [AO.box
            (PV.c
              (CV.agg
                [CV.bool false, CV.int IntKind.u8 (Int.ofNat 0), CV.int IntKind.u8 (Int.ofNat 0),
                  CV.int IntKind.u8 (Int.ofNat 0), CV.int IntKind.u8 (Int.ofNat 0), CV.int IntKind.u8 (Int.ofNat 0),
                  CV.int IntKind.u8 (Int.ofNat 0), CV.int IntKind.u8 (Int.ofNat 0), CV.int IntKind.u8 (Int.ofNat 0),
                  CV.int IntKind.u8 (Int.ofNat 0), CV.int IntKind.u8 (Int.ofNat 0), CV.int IntKind.u8 (Int.ofNat 0),
                  CV.int IntKind.u8 (Int.ofNat 0), CV.int IntKind.u8 (Int.ofNat 0), CV.int IntKind.u8 (Int.ofNat 0),
                  CV.int IntKind.u8 (Int.ofNat 0), CV.int IntKind.u8 (Int.ofNat 0)]))
            kIp,
          AO.row xs 1 0 false]) := by kernel_rfl
theorem ir51 (xs : List CV) (m : Int) (gap : Bool) (n : Nat) (L : Env → Hp → Res) : aexecB Tryd.prog (call' B65) (filt an51 0) n (prefC 3 (tailC 6 c51)) (mkEnv 97 [(2, .bptr 0 0), (5, .rw 1 0), (7, .c (.int .i64 m)), (8, .c (.bool gap))]) [zIp, .row xs 1 0 false] (thenK (headK h51c L) (endOf Tryd.prog 51 [])) =
    bif' (decide (m > 8))
      (some
        (CV.tup
            [CV.agg
                [CV.bool false, CV.int IntKind.u8 (Int.ofNat 0), CV.int IntKind.u8 (Int.ofNat 0),
                  CV.int IntKind.u8 (Int.ofNat 0), CV.int IntKind.u8 (Int.ofNat 0), CV.int IntKind.u8 (Int.ofNat 0),
                  CV.int IntKind.u8 (Int.ofNat 0), CV.int IntKind.u8 (Int.ofNat 0), CV.int IntKind.u8 (Int.ofNat 0),
                  CV.int IntKind.u8 (Int.ofNat 0), CV.int IntKind.u8 (Int.ofNat 0), CV.int IntKind.u8 (Int.ofNat 0),
                  CV.int IntKind.u8 (Int.ofNat 0), CV.int IntKind.u8 (Int.ofNat 0), CV.int IntKind.u8 (Int.ofNat 0),
                  CV.int IntKind.u8 (Int.ofNat 0), CV.int IntKind.u8 (Int.ofNat 0)],
              CV.bool false],
          []))
      (bif' (!gap)
        (bif' (m != 8)
          (some
            (CV.tup
                [CV.agg
                    [CV.bool false, CV.int IntKind.u8 (Int.ofNat 0), CV.int IntKind.u8 (Int.ofNat 0),
                      CV.int IntKind.u8 (Int.ofNat 0), CV.int IntKind.u8 (Int.ofNat 0), CV.int IntKind.u8 (Int.ofNat 0),
                      CV.int IntKind.u8 (Int.ofNat 0), CV.int IntKind.u8 (Int.ofNat 0), CV.int IntKind.u8 (Int.ofNat 0),
                      CV.int IntKind.u8 (Int.ofNat 0), CV.int IntKind.u8 (Int.ofNat 0), CV.int IntKind.u8 (Int.ofNat 0),
                      CV.int IntKind.u8 (Int.ofNat 0), CV.int IntKind.u8 (Int.ofNat 0), CV.int IntKind.u8 (Int.ofNat 0),
                      CV.int IntKind.u8 (Int.ofNat 0), CV.int IntKind.u8 (Int.ofNat 0)],
                  CV.bool false],
              []))
          (L
            (mkEnv 97
              [(2, PV.bptr 0 0), (5, PV.rw 3 0), (7, PV.c (CV.int IntKind.i64 m)), (10, PV.bptr 2 0),
                (11, PV.c (CV.int IntKind.i64 (Int.ofNat 0)))])
            [AO.box
                (PV.c
                  (CV.agg
                    [CV.bool false, CV.int IntKind.u8 (Int.ofNat 0), CV.int IntKind.u8 (Int.ofNat 0),
                      CV.int IntKind.u8 (Int.ofNat 0), CV.int IntKind.u8 (Int.ofNat 0), CV.int IntKind.u8 (Int.ofNat 0),
                      CV.int IntKind.u8 (Int.ofNat 0), CV.int IntKind.u8 (Int.ofNat 0), CV.int IntKind.u8 (Int.ofNat 0),
                      CV.int IntKind.u8 (Int.ofNat 0), CV.int IntKind.u8 (Int.ofNat 0), CV.int IntKind.u8 (Int.ofNat 0),
                      CV.int IntKind.u8 (Int.ofNat 0), CV.int IntKind.u8 (Int.ofNat 0), CV.int IntKind.u8 (Int.ofNat 0),
                      CV.int IntKind.u8 (Int.ofNat 0), CV.int IntKind.u8 (Int.ofNat 0)]))
                kIp,
              AO.dead,
              AO.box
                (PV.c
                  (CV.agg
                    [CV.bool true, CV.int IntKind.u8 (Int.ofNat 0), CV.int IntKind.u8 (Int.ofNat 0),
                      CV.int IntKind.u8 (Int.ofNat 0), CV.int IntKind.u8 (Int.ofNat 0), CV.int IntKind.u8 (Int.ofNat 0),
                      CV.int IntKind.u8 (Int.ofNat 0), CV.int IntKind.u8 (Int.ofNat 0), CV.int IntKind.u8 (Int.ofNat 0),
                      CV.int IntKind.u8 (Int.ofNat 0), CV.int IntKind.u8 (Int.ofNat 0), CV.int IntKind.u8 (Int.ofNat 0),
                      CV.int IntKind.u8 (Int.ofNat 0), CV.int IntKind.u8 (Int.ofNat 0), CV.int IntKind.u8 (Int.ofNat 0),
                      CV.int IntKind.u8 (Int.ofNat 0), CV.int IntKind.u8 (Int.ofNat 0)]))
                kIp,
              AO.row xs 1 0 false]))
        (L
          (mkEnv 97
            [(2, PV.bptr 0 0), (5, PV.rw 3 0), (7, PV.c (CV.int IntKind.i64 m)), (10, PV.bptr 2 0),
              (11, PV.c (CV.int IntKind.i64 (Int.ofNat 0)))])
          [AO.box
              (PV.c
                (CV.agg
                  [CV.bool false, CV.int IntKind.u8 (Int.ofNat 0), CV.int IntKind.u8 (Int.ofNat 0),
                    CV.int IntKind.u8 (Int.ofNat 0), CV.int IntKind.u8 (Int.ofNat 0), CV.int IntKind.u8 (Int.ofNat 0),
                    CV.int IntKind.u8 (Int.ofNat 0), CV.int IntKind.u8 (Int.ofNat 0), CV.int IntKind.u8 (Int.ofNat 0),
                    CV.int IntKind.u8 (Int.ofNat 0), CV.int IntKind.u8 (Int.ofNat 0), CV.int IntKind.u8 (Int.ofNat 0),
                    CV.int IntKind.u8 (Int.ofNat 0), CV.int IntKind.u8 (Int.ofNat 0), CV.int IntKind.u8 (Int.ofNat 0),
                    CV.int IntKind.u8 (Int.ofNat 0), CV.int IntKind.u8 (Int.ofNat 0)]))
              kIp,
            AO.dead,
            AO.box
              (PV.c
                (CV.agg
                  [CV.bool true, CV.int IntKind.u8 (Int.ofNat 0), CV.int IntKind.u8 (Int.ofNat 0),
                    CV.int IntKind.u8 (Int.ofNat 0), CV.int IntKind.u8 (Int.ofNat 0), CV.int IntKind.u8 (Int.ofNat 0),
                    CV.int IntKind.u8 (Int.ofNat 0), CV.int IntKind.u8 (Int.ofNat 0), CV.int IntKind.u8 (Int.ofNat 0),
                    CV.int IntKind.u8 (Int.ofNat 0), CV.int IntKind.u8 (Int.ofNat 0), CV.int IntKind.u8 (Int.ofNat 0),
                    CV.int IntKind.u8 (Int.ofNat 0), CV.int IntKind.u8 (Int.ofNat 0), CV.int IntKind.u8 (Int.ofNat 0),
                    CV.int IntKind.u8 (Int.ofNat 0), CV.int IntKind.u8 (Int.ofNat 0)]))
              kIp,
            AO.row xs 1 0 false])) := by kernel_rfl
theorem is51 (xs cs : List CV) (m a : Int) (n : Nat) (R : Env → Hp → Res) : partsB Tryd.prog (call' B65) (filt an51 0) n (tailC 9 c51) (mkEnv 97 [(2, .bptr 0 0), (5, .rw 3 0), (7, .c (.int .i64 m)), (10, .bptr 2 0), (11, .c (.int .i64 a))]) [zIp, .dead, .box (.c (.agg cs)) kIp, .row xs 1 0 false] (fun _ => headK hL51b R) (endOf Tryd.prog 51 []) =
    R
      (mkEnv 97
        [(2, PV.bptr 0 0), (5, PV.rw 3 0), (7, PV.c (CV.int IntKind.i64 m)), (10, PV.bptr 2 0),
          (11, PV.c (CV.int IntKind.i64 a)), (12, PV.c (CV.int IntKind.i64 (Int.ofNat 0)))])
      [AO.box
          (PV.c
            (CV.agg
              [CV.bool false, CV.int IntKind.u8 (Int.ofNat 0), CV.int IntKind.u8 (Int.ofNat 0),
                CV.int IntKind.u8 (Int.ofNat 0), CV.int IntKind.u8 (Int.ofNat 0), CV.int IntKind.u8 (Int.ofNat 0),
                CV.int IntKind.u8 (Int.ofNat 0), CV.int IntKind.u8 (Int.ofNat 0), CV.int IntKind.u8 (Int.ofNat 0),
                CV.int IntKind.u8 (Int.ofNat 0), CV.int IntKind.u8 (Int.ofNat 0), CV.int IntKind.u8 (Int.ofNat 0),
                CV.int IntKind.u8 (Int.ofNat 0), CV.int IntKind.u8 (Int.ofNat 0), CV.int IntKind.u8 (Int.ofNat 0),
                CV.int IntKind.u8 (Int.ofNat 0), CV.int IntKind.u8 (Int.ofNat 0)]))
          kIp,
        AO.dead, AO.box (PV.c (CV.agg cs)) kIp, AO.row xs 1 0 false] := by kernel_rfl
theorem id51 (xs cs : List CV) (m a i : Int) (n : Nat) (R : Env → Hp → Res) : aexec Tryd.prog (call' B65) (filt an51 0) n (bodyN 0 (tailC 9 c51)) (mkEnv 97 [(2, .bptr 0 0), (5, .rw 3 0), (7, .c (.int .i64 m)), (10, .bptr 2 0), (11, .c (.int .i64 a)), (12, .c (.int .i64 i))]) [zIp, .dead, .box (.c (.agg cs)) kIp, .row xs 1 0 false] (thenK (headK hL51b R) (restN Tryd.prog (call' B65) (filt an51 0) n 0 (tailC 9 c51) (endOf Tryd.prog 51 []))) =
    bif' (decide (i < (↑xs.length : Int)))
      (bif' (decide (0 ≤ i))
        (bif' (decide (i < (↑xs.length : Int)))
          (bif' (decide (i.toNat < xs.length))
            (bif' (decide (0 < (xs.getD i.toNat CV.nilptr).cl.length))
              (bif' (okc (CV.int IntKind.i64 0) ((xs.getD i.toNat CV.nilptr).cl.getD 0 CV.nilptr))
                (bif' (decide (((xs.getD i.toNat CV.nilptr).cl.getD 0 CV.nilptr).toInt < 0))
                  (R
                    (mkEnv 97
                      [(2, PV.bptr 0 0), (5, PV.rw 3 0), (7, PV.c (CV.int IntKind.i64 m)), (10, PV.bptr 2 0),
                        (11,
                          PV.c
                            (CV.int IntKind.i64 (IntKind.i64.wrap (a + IntKind.i64.wrap (2 * IntKind.i64.wrap (8 - m)))))),
                        (12, PV.c (CV.int IntKind.i64 (IntKind.i64.wrap (i + 1))))])
                    [AO.box
                        (PV.c
                          (CV.agg
                            [CV.bool false, CV.int IntKind.u8 (Int.ofNat 0), CV.int IntKind.u8 (Int.ofNat 0),
                              CV.int IntKind.u8 (Int.ofNat 0), CV.int IntKind.u8 (Int.ofNat 0),
                              CV.int IntKind.u8 (Int.ofNat 0), CV.int IntKind.u8 (Int.ofNat 0),
                              CV.int IntKind.u8 (Int.ofNat 0), CV.int IntKind.u8 (Int.ofNat 0),
                              CV.int IntKind.u8 (Int.ofNat 0), CV.int IntKind.u8 (Int.ofNat 0),
                              CV.int IntKind.u8 (Int.ofNat 0), CV.int IntKind.u8 (Int.ofNat 0),
                              CV.int IntKind.u8 (Int.ofNat 0), CV.int IntKind.u8 (Int.ofNat 0),
                              CV.int IntKind.u8 (Int.ofNat 0), CV.int IntKind.u8 (Int.ofNat 0)]))
                        kIp,
                      AO.dead, AO.box (PV.c (CV.agg cs)) kIp, AO.row xs 1 0 false])
                  (bif' (decide (0 ≤ i))
                    (bif' (decide (i < (↑xs.length : Int)))
                      (bif' (decide (i.toNat < xs.length))
                        (bif' (decide (0 < (xs.getD i.toNat CV.nilptr).cl.length))
                          (bif' (okc (CV.int IntKind.i64 0) ((xs.getD i.toNat CV.nilptr).cl.getD 0 CV.nilptr))
                            (bif' (decide (0 ≤ a))
                              (bif' (decide (a < (↑16 : Int)))
                                (bif' (decide (1 + a.toNat * 1 + 1 ≤ 17))
                                  (bif' (decide (0 ≤ i))
                                    (bif' (decide (i < (↑xs.length : Int)))
                                      (bif' (decide (i.toNat < xs.length))
                                        (bif' (decide (0 < (xs.getD i.toNat CV.nilptr).cl.length))
                                          (bif'
                                            (okc (CV.int IntKind.i64 0) ((xs.getD i.toNat CV.nilptr).cl.getD 0 CV.nilptr))
                                            (bif' (decide (0 ≤ IntKind.i64.wrap (a + 1)))
                                              (bif' (decide (IntKind.i64.wrap (a + 1) < (↑16 : Int)))
                                                (bif' (decide (1 + (IntKind.i64.wrap (a + 1)).toNat * 1 + 1 ≤ 17))
                                                  (R
                                                    (mkEnv 97
                                                      [(2, PV.bptr 0 0), (5, PV.rw 3 0), (7, PV.c (CV.int IntKind.i64 m)),
                                                        (10, PV.bptr 2 0),
                                                        (11, PV.c (CV.int IntKind.i64 (IntKind.i64.wrap (a + 2)))),
                                                        (12, PV.c (CV.int IntKind.i64 (IntKind.i64.wrap (i + 1))))])
                                                    [AO.box
                                                        (PV.c
                                                          (CV.agg
                                                            [CV.bool false, CV.int IntKind.u8 (Int.ofNat 0),
                                                              CV.int IntKind.u8 (Int.ofNat 0),
                                                              CV.int IntKind.u8 (Int.ofNat 0),
                                                              CV.int IntKind.u8 (Int.ofNat 0),
                                                              CV.int IntKind.u8 (Int.ofNat 0),
                                                              CV.int IntKind.u8 (Int.ofNat 0),
                                                              CV.int IntKind.u8 (Int.ofNat 0),
                                                              CV.int IntKind.u8 (Int.ofNat 0),
                                                              CV.int IntKind.u8 (Int.ofNat 0),
                                                              CV.int IntKind.u8 (Int.ofNat 0),
                                                              CV.int IntKind.u8 (Int.ofNat 0),
                                                              CV.int IntKind.u8 (Int.ofNat 0),
                                                              CV.int IntKind.u8 (Int.ofNat 0),
                                                              CV.int IntKind.u8 (Int.ofNat 0),
                                                              CV.int IntKind.u8 (Int.ofNat 0),
                                                              CV.int IntKind.u8 (Int.ofNat 0)]))
                                                        kIp,
                                                      AO.dead,
                                                      AO.box
                                                        (PV.c
                                                          (CV.agg
                                                            (setRange
                                                              (CV.agg
                                                                  (setRange (CV.agg cs).cl (1 + a.toNat * 1)
                                                                    (CV.int IntKind.u8
                                                                        (IntKind.u8.wrap
                                                                          (IntKind.i64.wrap
                                                                            (((xs.getD i.toNat CV.nilptr).cl.getD 0
                                                                                    CV.nilptr).toInt.tdiv
                                                                              256)))).cl)).cl
                                                              (1 + (IntKind.i64.wrap (a + 1)).toNat * 1)
                                                              (CV.int IntKind.u8
                                                                  (IntKind.u8.wrap
                                                                    (((xs.getD i.toNat CV.nilptr).cl.getD 0
                                                                            CV.nilptr).toInt.tmod
                                                                      256))).cl)))
                                                        kIp,
                                                      AO.row xs 1 0 false])
                                                  none)
                                                none)
                                              none)
                                            none)
                                          none)
                                        none)
                                      none)
                                    none)
                                  none)
                                none)
                              none)
                            none)
                          none)
                        none)
                      none)
                    none))
                none)
              none)
            none)
          none)
        none)
      (bif' (17 == (CV.agg cs).cl.length) (some (CV.tup [CV.agg cs, CV.bool true], [])) none) := by kernel_rfl

end Go.Pv
