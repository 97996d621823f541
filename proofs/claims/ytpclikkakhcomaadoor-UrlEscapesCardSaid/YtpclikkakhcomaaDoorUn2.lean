/- Unhex, Unescape: contracts. -/
import Derived.Test.YtpclikkakhcomaaDoorUn1
set_option linter.unusedVariables false
set_option maxRecDepth 100000
namespace Go.Pv
open Go Go.Proofs

def I0 : World → Prop := fun _ => True
theorem on0 : OnGlobals I0 0 := fun _ _ _ _ => trivial
abbrev Kn (tb : Table) : Prop := Known Tryd.prog I0 0 tb
abbrev Ct (f : FuncId) (F : Fn1) : Prop := Contract Tryd.prog I0 0 f F

theorem bif_dec {α : Type} {p : Prop} [Decidable p] (x y : Option α) : bif' (decide p) x y = if p then x else y := by
  by_cases h : p
  · rw [if_pos h, decide_eq_true h]; rfl
  · rw [if_neg h, decide_eq_false h]; rfl
theorem bif_t {α : Type} {b : Bool} (x y : Option α) (h : b = true) : bif' b x y = x := by subst h; rfl
theorem bif_f {α : Type} {b : Bool} (x y : Option α) (h : b = false) : bif' b x y = y := by subst h; rfl

theorem k0 : Kn T0 := known_no
theorem c49 : Ct 49 F29 := contract_of (fun _ => none) on0 k0 fun cargs rv outs h => by
  unfold F29 at h
  split at h
  · cases h; exact ⟨1, tree49 _ _⟩
  · cases h
theorem k49 : Kn T49 := known_add k0 c49
theorem c29 : Ct 29 F29 := contract_of (fun _ => none) on0 k49 fun cargs rv outs h => by
  unfold F29 at h
  split at h
  · cases h; exact ⟨1, tree29 _ _⟩
  · cases h
theorem k29 : Kn T29 := known_add k49 c29

def ib (c : Int) : Int := Lib.indexByte [48, 49, 50, 51, 52, 53, 54, 55, 56, 57, 97, 98, 99, 100, 101, 102] c.toNat.toUInt8
def d34 (c : Int) : Int := if c ≥ 65 then if c ≤ 70 then ib (IntKind.u8.wrap (c + 32)) else ib c else ib c
theorem d34_hx : ∀ n : Nat, n < 256 → d34 (n : Int) = hx (n : Int) := by decide +kernel
def d35 (c : Int) : Int := if c ≥ 48 then if c ≤ 57 then IntKind.i64.wrap (IntKind.u8.wrap (c - 48)) else
    if c ≥ 97 then if c ≤ 102 then IntKind.i64.wrap (IntKind.i64.wrap (IntKind.u8.wrap (c - 97)) + 10) else
      if c ≥ 65 then if c ≤ 70 then IntKind.i64.wrap (IntKind.i64.wrap (IntKind.u8.wrap (c - 65)) + 10) else -1 else -1
    else if c ≥ 65 then if c ≤ 70 then IntKind.i64.wrap (IntKind.i64.wrap (IntKind.u8.wrap (c - 65)) + 10) else -1 else -1
  else if c ≥ 97 then if c ≤ 102 then IntKind.i64.wrap (IntKind.i64.wrap (IntKind.u8.wrap (c - 97)) + 10) else
      if c ≥ 65 then if c ≤ 70 then IntKind.i64.wrap (IntKind.i64.wrap (IntKind.u8.wrap (c - 65)) + 10) else -1 else -1
    else if c ≥ 65 then if c ≤ 70 then IntKind.i64.wrap (IntKind.i64.wrap (IntKind.u8.wrap (c - 65)) + 10) else -1 else -1
theorem d35_hx : ∀ n : Nat, n < 256 → d35 (n : Int) = hx (n : Int) := by decide +kernel
theorem as_nat {c : Int} (h0 : 0 ≤ c) (h1 : c < 256) : ∃ n : Nat, n < 256 ∧ c = n := ⟨c.toNat, by omega, by omega⟩
theorem val34 (c : Int) : abody Tryd.prog T29 (fun _ => none) 1 34 [.int .u8 c] = some (.int .i64 (d34 c), []) := by
  rw [tree34]
  simp only [bif_dec]
  unfold d34 ib
  split
  · split <;> rfl
  · rfl
theorem val35 (c : Int) : abody Tryd.prog T34 (fun _ => none) 1 35 [.int .u8 c] = some (.int .i64 (d35 c), []) := by
  rw [tree35]
  simp only [bif_dec]
  unfold d35
  repeat' split
  all_goals rfl
theorem f34_cases {cargs : List CV} {rv : CV} {outs : List CV} (h : picked (F34 cargs) = some (rv, outs)) : ∃ n : Nat, n < 256 ∧ cargs = [.int .u8 n] ∧ rv = .int .i64 (hx n) ∧ outs = [] := by
  unfold F34 at h
  split at h
  · rename_i c
    simp only [picked, pickAlt] at h
    split at h
    · rename_i hb
      cases h
      simp only [Bool.and_eq_true, decide_eq_true_eq] at hb
      obtain ⟨n, h1, rfl⟩ := as_nat hb.1 hb.2
      exact ⟨n, h1, rfl, rfl, rfl⟩
    · cases h
  · cases h
theorem c34 : Ct 34 F34 := contract_of (fun _ => none) on0 k29 fun cargs rv outs h => by
  obtain ⟨n, h1, rfl, rfl, rfl⟩ := f34_cases h
  exact ⟨1, by rw [val34, d34_hx n h1]⟩
theorem k34 : Kn T34 := known_add k29 c34
theorem c35 : Ct 35 F34 := contract_of (fun _ => none) on0 k34 fun cargs rv outs h => by
  obtain ⟨n, h1, rfl, rfl, rfl⟩ := f34_cases h
  exact ⟨1, by rw [val35, d35_hx n h1]⟩
theorem k35 : Kn T35 := known_add k34 c35

/-! ### Unhex -/
theorem hx_le (c : Int) : -1 ≤ hx c ∧ hx c ≤ 15 := by
  unfold hx
  split
  · omega
  · split
    · omega
    · split <;> omega
theorem two_of {s : ByteArray} (h : s.size = 2) : ∃ a b, s = ⟨#[a, b]⟩ := by
  obtain ⟨⟨l⟩⟩ := s
  match l, h with
  | [a, b], _ => exact ⟨a, b, rfl⟩
theorem nib18 : ∀ x : Nat, x < 16 → ∀ y : Nat, y < 16 → IntKind.u8.wrap (IntKind.i64.wrap (((BitVec.ofInt IntKind.i64.bits (IntKind.i64.wrap ((x : Int) * 2 ^ min (Int.toNat 4) IntKind.i64.bits)) ||| BitVec.ofInt IntKind.i64.bits (y : Int)).toNat : Nat) : Int)) = 16 * (x : Int) + y := by decide +kernel
theorem nib19 : ∀ x : Nat, x < 16 → ∀ y : Nat, y < 16 → IntKind.u8.wrap (IntKind.i64.wrap (IntKind.i64.wrap (16 * (x : Int)) + (y : Int))) = 16 * (x : Int) + y := by decide +kernel
theorem byte_lt (s : ByteArray) (i : Nat) : 0 ≤ byteAt s i ∧ byteAt s i < 256 := by
  unfold byteAt
  have := (s.data.toList.getD i 0).toNat_lt
  omega
theorem wrap01 : (IntKind.i64.wrap (0 + 1)).toNat = 1 := by decide +kernel

theorem c18 : Ct 18 F18 := contract_of an18 on0 k35 fun cargs rv outs h => by
  unfold F18 at h
  split at h <;> first | (cases h; done) | skip
  rename_i s
  have hs : s.size = 2 := by
    simp only [picked, pickAlt] at h
    split at h
    · rename_i hb; simp only [Bool.and_eq_true, decide_eq_true_eq] at hb; exact hb.1
    · split at h
      · rename_i hb; exact of_decide_eq_true hb
      · cases h
  obtain ⟨a, b, rfl⟩ := two_of hs
  refine ⟨3, ?_⟩
  rw [tree18]
  have h0 := byte_lt ⟨#[a, b]⟩ 0
  have h1 := byte_lt ⟨#[a, b]⟩ 1
  simp only [wrap01, show (Int.toNat 0) = 0 from rfl]
  rw [bif_t _ _ (by simp [h0]), bif_t _ _ (by simp [h1])]
  have hx0 := hx_le (byteAt ⟨#[a, b]⟩ 0)
  have hx1 := hx_le (byteAt ⟨#[a, b]⟩ 1)
  generalize hx (byteAt ⟨#[a, b]⟩ 0) = x at *
  generalize hx (byteAt ⟨#[a, b]⟩ 1) = y at *
  simp only [bif_dec]
  simp only [picked, pickAlt, hs, decide_true, Bool.true_and] at h
  by_cases c0 : x < 0
  · rw [if_pos c0]
    rw [show (decide (0 ≤ x) && decide (0 ≤ y)) = false by simp; omega] at h
    exact h
  · rw [if_neg c0]
    by_cases c1 : y < 0
    · rw [if_pos c1]
      rw [show (decide (0 ≤ x) && decide (0 ≤ y)) = false by simp; omega] at h
      exact h
    · rw [if_neg c1]
      rw [show (decide (0 ≤ x) && decide (0 ≤ y)) = true by simp; omega] at h
      obtain ⟨m, rfl⟩ : ∃ m : Nat, x = m := ⟨x.toNat, by omega⟩
      obtain ⟨k, rfl⟩ : ∃ k : Nat, y = k := ⟨y.toNat, by omega⟩
      rw [nib18 m (by omega) k (by omega)]
      exact h
theorem k18 : Kn T18 := known_add k35 c18
theorem c19 : Ct 19 F19 := contract_of an18 on0 k18 fun cargs rv outs h => by
  unfold F19 at h
  split at h <;> first | (cases h; done) | skip
  rename_i s
  have hs : s.size = 2 := by
    simp only [picked, pickAlt] at h
    split at h
    · rename_i hb; simp only [Bool.and_eq_true, decide_eq_true_eq] at hb; exact hb.1
    · split at h
      · rename_i hb; exact of_decide_eq_true hb
      · cases h
  obtain ⟨a, b, rfl⟩ := two_of hs
  refine ⟨3, ?_⟩
  rw [tree19]
  have h0 := byte_lt ⟨#[a, b]⟩ 0
  have h1 := byte_lt ⟨#[a, b]⟩ 1
  simp only [wrap01, show (Int.toNat 0) = 0 from rfl]
  rw [bif_t _ none (by simp [h0])]
  have hx0 := hx_le (byteAt ⟨#[a, b]⟩ 0)
  have hx1 := hx_le (byteAt ⟨#[a, b]⟩ 1)
  rw [show (decide (0 ≤ byteAt ⟨#[a, b]⟩ 0) && decide (byteAt ⟨#[a, b]⟩ 0 < 256)) = true by simp [h0], show (decide (0 ≤ byteAt ⟨#[a, b]⟩ 1) && decide (byteAt ⟨#[a, b]⟩ 1 < 256)) = true by simp [h1]]
  simp only [show ∀ x y : Res, bif' true x y = x from fun _ _ => rfl]
  generalize hx (byteAt ⟨#[a, b]⟩ 0) = x at *
  generalize hx (byteAt ⟨#[a, b]⟩ 1) = y at *
  simp only [bif_dec]
  simp only [picked, pickAlt, hs, decide_true, Bool.true_and] at h
  by_cases c0 : x < 0
  · rw [if_pos c0]
    rw [show (decide (0 ≤ x) && decide (0 ≤ y)) = false by simp; omega] at h
    exact h
  · rw [if_neg c0]
    by_cases c1 : y < 0
    · rw [if_pos c1]
      rw [show (decide (0 ≤ x) && decide (0 ≤ y)) = false by simp; omega] at h
      exact h
    · rw [if_neg c1]
      rw [show (decide (0 ≤ x) && decide (0 ≤ y)) = true by simp; omega] at h
      obtain ⟨m, rfl⟩ : ∃ m : Nat, x = m := ⟨x.toNat, by omega⟩
      obtain ⟨k, rfl⟩ : ∃ k : Nat, y = k := ⟨y.toNat, by omega⟩
      rw [nib19 m (by omega) k (by omega)]
      exact h
theorem k19 : Kn T19 := known_add k18 c19

end Go.Pv
