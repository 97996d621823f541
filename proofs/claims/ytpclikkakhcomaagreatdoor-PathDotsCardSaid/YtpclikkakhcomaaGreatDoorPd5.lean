/- Paths without dots: the plain laws: both ways come to one; done twice is done once. -/
import Derived.Test.YtpclikkakhcomaaGreatDoorPd4
set_option linter.unusedVariables false
namespace Go.Pv
open Go Go.Proofs

def special (e : List UInt8) : Prop := e = [46] ∨ e = [46, 46] ∨ e = [47, 46] ∨ e = [47, 46, 46]
/-- A part of a path without dots. -/
def part1 (e : List UInt8) : Prop := ∃ c r, e = c :: r ∧ 47 ∉ r ∧ ¬ special e
def slash (s : List UInt8) : Prop := s = [] ∨ ∃ t, s = 47 :: t
structure Parts (l : List (List UInt8)) : Prop where
  each : ∀ e ∈ l, part1 e
  rest : ∀ e ∈ l.drop 1, ∃ t, e = 47 :: t

def plain7 (s : List UInt8) : Prop := ¬ [46, 46, 47].isPrefixOf s = true ∧ ¬ [46, 47].isPrefixOf s = true ∧ ¬ [47, 46, 47].isPrefixOf s = true ∧ ¬ s = [47, 46] ∧ ¬ [47, 46, 46, 47].isPrefixOf s = true ∧ ¬ s = [47, 46, 46] ∧ ¬ (s = [46] ∨ s = [46, 46])
theorem plain7_iff {c : UInt8} {r R : List UInt8} (hr : 47 ∉ r) (hR : slash R) : plain7 (c :: (r ++ R)) ↔ ¬ special (c :: r) := by
  unfold plain7 special
  have h47 : ∀ x : UInt8, x ∈ r → ¬ (47 : UInt8) = x := fun x hx e => hr (e ▸ hx)
  rcases r with _ | ⟨x, _ | ⟨y, _ | ⟨z, r1⟩⟩⟩
  · rcases hR with rfl | ⟨t, rfl⟩ <;> simp [List.isPrefixOf] <;> grind
  · have hx := h47 x (by simp)
    rcases hR with rfl | ⟨t, rfl⟩ <;> simp [List.isPrefixOf, hx] <;> grind
  · have hx := h47 x (by simp)
    have hy := h47 y (by simp)
    rcases hR with rfl | ⟨t, rfl⟩ <;> simp [List.isPrefixOf, hx, hy] <;> grind
  · have hx := h47 x (by simp)
    have hy := h47 y (by simp)
    have hz := h47 z (by simp)
    simp [List.isPrefixOf, hx, hy, hz]

theorem tw_split : ∀ t : List UInt8, t.takeWhile (· != 47) ++ t.dropWhile (· != 47) = t := fun t => List.takeWhile_append_dropWhile
theorem tw_no : ∀ t : List UInt8, 47 ∉ t.takeWhile (· != 47)
  | [] => by simp
  | b :: t => by
    by_cases hb : b = 47
    · subst hb; simp
    · rw [List.takeWhile_cons_of_pos (by simpa using hb)]
      intro h
      rcases List.mem_cons.1 h with h | h
      · exact hb h.symm
      · exact tw_no t h
theorem dw_slash : ∀ t : List UInt8, slash (t.dropWhile (· != 47))
  | [] => .inl rfl
  | b :: t => by
    by_cases hb : b = 47
    · subst hb; exact .inr ⟨t, by simp⟩
    · rw [List.dropWhile_cons_of_pos (by simpa using hb)]
      exact dw_slash t
theorem seg_cut (b : UInt8) (t : List UInt8) : (b :: t).take (seg (b :: t)) = b :: t.takeWhile (· != 47) ∧ (b :: t).drop (seg (b :: t)) = t.dropWhile (· != 47) := by
  have h : seg (b :: t) = (t.takeWhile (· != 47)).length + 1 := by unfold seg; simp; omega
  rw [h, List.take_succ_cons, List.drop_succ_cons]
  have hs := tw_split t
  have h1 := @List.take_left _ (t.takeWhile (· != 47)) (t.dropWhile (· != 47))
  have h2 := @List.drop_left _ (t.takeWhile (· != 47)) (t.dropWhile (· != 47))
  rw [hs] at h1 h2
  exact ⟨by rw [h1], h2⟩
/-- The first part of e ++ R is e. -/
theorem seg_of {c : UInt8} {r R : List UInt8} (hr : 47 ∉ r) (hR : slash R) : seg (c :: (r ++ R)) = (c :: r).length := by
  unfold seg
  have : (r ++ R).takeWhile (· != 47) = r := by
    rw [List.takeWhile_append_of_pos (by intro x hx; simp; intro e; subst e; exact hr hx)]
    rcases hR with rfl | ⟨t, rfl⟩ <;> simp
  simp [this]; omega

/-! ### A text cut ahead of its last slash -/
theorem cutAt_skip {t : List UInt8} {p : Nat} : ∀ d, (∀ j, p ≤ j → j < p + d → t.getD j 0 ≠ 47) → cutAt (p + d) t = cutAt p t
  | 0, _ => rfl
  | d + 1, h => by
    show cutAt ((p + d) + 1) t = _
    rw [cutAt, if_neg (h (p + d) (by omega) (by omega))]
    exact cutAt_skip d fun j h1 h2 => h j h1 (by omega)
theorem cut_parts {l : List (List UInt8)} (h : Parts l) : l.flatten.take (cutAt l.flatten.length l.flatten) = l.dropLast.flatten := by
  rcases List.eq_nil_or_concat l with rfl | ⟨l', e, rfl⟩
  · rfl
  rw [List.concat_eq_append] at h ⊢
  obtain ⟨c, r, rfl, hr, _⟩ := h.each e (by simp)
  have hfl : (l' ++ [c :: r]).flatten = l'.flatten ++ c :: r := by simp
  rw [hfl, List.dropLast_concat]
  have hlen : (l'.flatten ++ c :: r).length = l'.flatten.length + 1 + r.length := by simp; omega
  rw [hlen, cutAt_skip (p := l'.flatten.length + 1) r.length (by
    intro j h1 h2
    rw [List.getD_eq_getElem?_getD, List.getElem?_append_right (by omega)]
    obtain ⟨i, hi⟩ : ∃ i, j - l'.flatten.length = i + 1 := ⟨j - l'.flatten.length - 1, by omega⟩
    rw [hi, List.getElem?_cons_succ]
    have hil : i < r.length := by omega
    rw [List.getElem?_eq_getElem hil]
    intro e
    exact hr (by rw [← e]; simp))]
  unfold cutAt
  have hat : (l'.flatten ++ c :: r).getD l'.flatten.length 0 = c := by
    rw [List.getD_eq_getElem?_getD, List.getElem?_append_right (Nat.le_refl _)]; simp
  rw [hat]
  by_cases hc : c = 47
  · rw [if_pos hc, List.take_left]
  · rw [if_neg hc]
    have : l' = [] := by
      cases l' with
      | nil => rfl
      | cons x l'' =>
        obtain ⟨t, ht⟩ := h.rest (c :: r) (by simp)
        cases ht
        exact absurd rfl hc
    subst this
    rfl

theorem Parts.dropLast {l : List (List UInt8)} (h : Parts l) : Parts l.dropLast := by
  refine ⟨fun e he => h.each e (List.dropLast_subset l he), fun e he => h.rest e ?_⟩
  rw [List.dropLast_eq_take, List.drop_take] at he
  exact List.mem_of_mem_take he
theorem Parts.add {l : List (List UInt8)} (h : Parts l) {b : UInt8} {t : List UInt8} (hl : l ≠ [] → slash (b :: t)) (hp : plain7 (b :: t)) : Parts (l ++ [(b :: t).take (seg (b :: t))]) := by
  rw [(seg_cut b t).1]
  refine ⟨fun e he => ?_, fun e he => ?_⟩
  · rcases List.mem_append.1 he with he | he
    · exact h.each e he
    · simp only [List.mem_singleton] at he
      subst he
      refine ⟨b, _, rfl, tw_no t, ?_⟩
      rw [← plain7_iff (tw_no t) (dw_slash t), tw_split]
      exact hp
  · by_cases hn : l = []
    · subst hn; simp at he
    · have hd : (l ++ [b :: t.takeWhile (· != 47)]).drop 1 = l.drop 1 ++ [b :: t.takeWhile (· != 47)] := by
        cases l with
        | nil => exact absurd rfl hn
        | cons _ _ => rfl
      rw [hd] at he
      rcases List.mem_append.1 he with he | he
      · exact h.rest e he
      · simp only [List.mem_singleton] at he
        subst he
        rcases hl hn with h1 | ⟨t', h1⟩
        · cases h1
        · cases h1; exact ⟨_, rfl⟩

theorem slash_no {s : List UInt8} {p : List UInt8} (h : slash s) (hp : (46 :: p).isPrefixOf s = true) : False := by
  rcases h with rfl | ⟨t, rfl⟩
  · simp [List.isPrefixOf] at hp
  · simp [List.isPrefixOf] at hp

/-- Both ways come to one, in parts. -/
theorem dots_eq : ∀ (k : Nat) (s : List UInt8) (l : List (List UInt8)), Parts l → (l ≠ [] → slash s) → refD k s l.flatten = (und k s l).flatten ∧ Parts (und k s l) ∧ (und k s l).flatten.length ≤ s.length + l.flatten.length
  | 0, s, l, hp, hl => ⟨rfl, hp, by simp only [und]; omega⟩
  | k + 1, s, l, hp, hl => by
    have ih := dots_eq k
    have hcut := cut_parts hp
    have hf : l.dropLast.flatten.length ≤ l.flatten.length := by rw [← hcut, List.length_take]; omega
    unfold refD und
    by_cases c0 : s = []
    · rw [if_pos c0, if_pos c0]; exact ⟨rfl, hp, by omega⟩
    rw [if_neg c0, if_neg c0]
    by_cases c1 : [46, 46, 47].isPrefixOf s = true
    · have hn : l = [] := Classical.byContradiction fun hn => slash_no (hl hn) c1
      rw [if_pos c1, if_pos c1]
      obtain ⟨a1, a2, a3⟩ := ih (s.drop 3) l hp (fun h => absurd hn h)
      exact ⟨a1, a2, by rw [List.length_drop] at a3; omega⟩
    rw [if_neg c1, if_neg c1]
    by_cases c2 : [46, 47].isPrefixOf s = true
    · have hn : l = [] := Classical.byContradiction fun hn => slash_no (hl hn) c2
      rw [if_pos c2, if_pos c2]
      obtain ⟨a1, a2, a3⟩ := ih (s.drop 2) l hp (fun h => absurd hn h)
      exact ⟨a1, a2, by rw [List.length_drop] at a3; omega⟩
    rw [if_neg c2, if_neg c2]
    by_cases c3 : [47, 46, 47].isPrefixOf s = true
    · rw [if_pos c3, if_pos c3]
      obtain ⟨t, ht⟩ := List.isPrefixOf_iff_prefix.1 c3
      obtain ⟨a1, a2, a3⟩ := ih (s.drop 2) l hp (fun _ => .inr ⟨t, by rw [← ht]; rfl⟩)
      exact ⟨a1, a2, by rw [List.length_drop] at a3; omega⟩
    rw [if_neg c3, if_neg c3]
    by_cases c4 : s = [47, 46]
    · rw [if_pos c4, if_pos c4]
      obtain ⟨a1, a2, a3⟩ := ih [47] l hp (fun _ => .inr ⟨[], rfl⟩)
      refine ⟨a1, a2, ?_⟩
      subst c4
      simp only [List.length_cons, List.length_nil] at a3 ⊢; omega
    rw [if_neg c4, if_neg c4]
    by_cases c5 : [47, 46, 46, 47].isPrefixOf s = true
    · rw [if_pos c5, if_pos c5, hcut]
      obtain ⟨t, ht⟩ := List.isPrefixOf_iff_prefix.1 c5
      obtain ⟨a1, a2, a3⟩ := ih (s.drop 3) l.dropLast hp.dropLast (fun _ => .inr ⟨t, by rw [← ht]; rfl⟩)
      exact ⟨a1, a2, by rw [List.length_drop] at a3; omega⟩
    rw [if_neg c5, if_neg c5]
    by_cases c6 : s = [47, 46, 46]
    · rw [if_pos c6, if_pos c6, hcut]
      obtain ⟨a1, a2, a3⟩ := ih [47] l.dropLast hp.dropLast (fun _ => .inr ⟨[], rfl⟩)
      refine ⟨a1, a2, ?_⟩
      subst c6
      simp only [List.length_cons, List.length_nil] at a3 ⊢; omega
    rw [if_neg c6, if_neg c6]
    by_cases c7 : s = [46] ∨ s = [46, 46]
    · rw [if_pos c7, if_pos c7]
      obtain ⟨a1, a2, a3⟩ := ih [] l hp (fun _ => .inl rfl)
      exact ⟨a1, a2, by simp only [List.length_nil] at a3; omega⟩
    rw [if_neg c7, if_neg c7]
    obtain ⟨b, t, rfl⟩ : ∃ b t, s = b :: t := by cases s with | nil => exact absurd rfl c0 | cons b t => exact ⟨b, t, rfl⟩
    have hadd := hp.add hl ⟨c1, c2, c3, c4, c5, c6, c7⟩
    obtain ⟨a1, a2, a3⟩ := ih ((b :: t).drop (seg (b :: t))) (l ++ [(b :: t).take (seg (b :: t))]) hadd (fun _ => by rw [(seg_cut b t).2]; exact dw_slash t)
    refine ⟨?_, a2, ?_⟩
    · rw [← a1]
      congr 1
      simp
    · refine Nat.le_trans a3 ?_
      simp only [List.length_drop, List.flatten_append, List.length_append, List.flatten_cons, List.flatten_nil, List.append_nil, List.length_take]
      omega

/-- What has no dots stays. -/
theorem dots_id : ∀ (r l : List (List UInt8)) (k : Nat), Parts (l ++ r) → r.flatten.length < k → und k r.flatten l = l ++ r
  | [], l, k + 1, hp, hk => by simp [und]
  | e :: r, l, k + 1, hp, hk => by
    obtain ⟨c, r0, rfl, hr0, hsp⟩ := hp.each e (by simp)
    have hR : slash r.flatten := by
      cases r with
      | nil => exact .inl rfl
      | cons e' r' =>
        have hmem : e' ∈ (l ++ (c :: r0) :: e' :: r').drop 1 := by
          cases l with
          | nil => simp
          | cons x l => simp
        obtain ⟨t, rfl⟩ := hp.rest e' hmem
        exact .inr ⟨t ++ r'.flatten, by simp⟩
    have hs : ((c :: r0) :: r).flatten = c :: (r0 ++ r.flatten) := by simp
    obtain ⟨c1, c2, c3, c4, c5, c6, c7⟩ := (plain7_iff hr0 hR).2 hsp
    rw [hs] at hk ⊢
    unfold und
    rw [if_neg (by simp), if_neg c1, if_neg c2, if_neg c3, if_neg c4, if_neg c5, if_neg c6, if_neg c7, seg_of hr0 hR]
    have h1 : (c :: (r0 ++ r.flatten)).drop (c :: r0).length = r.flatten := by
      show ((c :: r0) ++ r.flatten).drop _ = _
      rw [List.drop_left]
    have h2 : (c :: (r0 ++ r.flatten)).take (c :: r0).length = c :: r0 := by
      show ((c :: r0) ++ r.flatten).take _ = _
      rw [List.take_left]
    rw [h1, h2, dots_id r (l ++ [c :: r0]) k (by simpa using hp) (by simp only [List.length_cons, List.length_append] at hk; omega)]
    simp

def dotsL (s : List UInt8) : List UInt8 := (und 12000 s []).flatten
theorem parts_nil : Parts [] := ⟨by simp, by simp⟩
theorem dotsL_ref (s : List UInt8) : refD 12000 s [] = dotsL s := (dots_eq 12000 s [] parts_nil (by simp)).1
theorem dotsL_len (s : List UInt8) : (dotsL s).length ≤ s.length := by
  have := (dots_eq 12000 s [] parts_nil (by simp)).2.2
  simp only [List.flatten_nil, List.length_nil, Nat.add_zero] at this
  exact this
theorem dotsL_id (s : List UInt8) (hs : s.length ≤ 10000) : dotsL (dotsL s) = dotsL s := by
  have h := (dots_eq 12000 s [] parts_nil (by simp)).2.1
  have := dots_id (und 12000 s []) [] 12000 (by simpa using h) (by have := dotsL_len s; unfold dotsL at this; omega)
  show (und 12000 (und 12000 s []).flatten []).flatten = _
  rw [this]; rfl

end Go.Pv
