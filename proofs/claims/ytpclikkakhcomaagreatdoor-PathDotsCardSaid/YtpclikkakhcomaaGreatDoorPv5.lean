/- Steps between states: what is made, written, sealed, given up. -/
import Derived.Test.YtpclikkakhcomaaGreatDoorPv4
set_option linter.unusedVariables false
namespace Go.Pv
open Go

/-- What a run leaves alone. -/
structure Keeps (S S' : St) : Prop where
  os : S'.w.os = S.w.os
  tape : S'.w.tape = S.w.tape
  output : S'.w.output = S.w.output
  size : S.w.heap.size ≤ S'.w.heap.size
  blk : ∀ b, b < S.w.heap.size → (∀ r, S.ι r ≠ some b) → S'.w.heap[b]? = S.w.heap[b]?
  own : ∀ r b, S'.ι r = some b → (∃ r0, S.ι r0 = some b) ∨ S.w.heap.size ≤ b
  F : S'.F = S.F
  n0 : S'.n0 = S.n0
  ng : S'.ng = S.ng

theorem Keeps.refl (S : St) : Keeps S S := ⟨rfl, rfl, rfl, Nat.le_refl _, fun _ _ _ => rfl, fun r b h => .inl ⟨r, h⟩, rfl, rfl, rfl⟩
theorem Keeps.trans {S1 S2 S3 : St} (h : Keeps S1 S2) (h' : Keeps S2 S3) : Keeps S1 S3 where
  os := h'.os.trans h.os
  tape := h'.tape.trans h.tape
  output := h'.output.trans h.output
  size := Nat.le_trans h.size h'.size
  blk b hb hn := by
    rw [h'.blk b (Nat.lt_of_lt_of_le hb h.size) ?_, h.blk b hb hn]
    intro r hr
    rcases h.own r b hr with ⟨r0, h0⟩ | h0
    · exact hn r0 h0
    · omega
  own r b hr := by
    rcases h'.own r b hr with ⟨r0, h0⟩ | h0
    · exact h.own r0 b h0
    · exact .inr (Nat.le_trans h.size h0)
  F := h'.F.trans h.F
  n0 := h'.n0.trans h.n0
  ng := h'.ng.trans h.ng

structure Good (S S' : St) : Prop where
  ok : Ok S'
  ext : Ext S S'
  keeps : Keeps S S'
theorem Good.refl {S : St} (h : Ok S) : Good S S := ⟨h, .refl S, .refl S⟩
theorem Good.trans {S1 S2 S3 : St} (h : Good S1 S2) (h' : Good S2 S3) : Good S1 S3 := ⟨h'.ok, h.ext.trans h'.ext, h.keeps.trans h'.keeps⟩

theorem ObOk.mono {S S' : St} (E : Ext S S') {r : Nat} {o : AO} (h : ObOk S r o) (hi : S'.ι r = S.ι r) (hc : S'.cp r = S.cp r) (hb : ∀ b, S.ι r = some b → S'.w.heap[b]? = S.w.heap[b]?) : ObOk S' r o := by
  cases o with
  | box e k =>
    obtain ⟨b, cs, T, fr, v, h1, h2, h3, h4, h5, h6, h7⟩ := h
    exact ⟨b, cs, T, fr, v, hi.trans h1, (hb b h1).trans h2, h3, h4, h5.mono E, h6, h7⟩
  | row xs k g s =>
    obtain ⟨h0, h1, h⟩ := h
    refine ⟨h0, h1, ?_⟩
    rcases h with ⟨a1, a2, a3⟩ | ⟨b, cs, T, fr, vs, a1, a2, a3, a4, a5, a6, a7⟩
    · exact .inl ⟨hi.trans a1, a2, hc.trans a3⟩
    · exact .inr ⟨b, cs, T, fr, vs, hi.trans a1, (hb b a1).trans a2, a3, by rw [hc]; exact a4, by rw [hc]; exact a5, a6.imp fun _ _ _ h => h.mono E, a7⟩
  | iter s pos =>
    obtain ⟨b, h1, h2⟩ := h
    exact ⟨b, hi.trans h1, (hb b h1).trans h2⟩
  | dead => exact hi.trans h

theorem cell?_heap {w w' : World} {b off : Nat} (h : w'.heap[b]? = w.heap[b]?) : w'.cell? ⟨b, off, none⟩ = w.cell? ⟨b, off, none⟩ := by
  unfold World.cell?; simp only [h]

/-! ### A new object -/
def St.push (S : St) (o : Obj) (ao : AO) (c : Nat) : St :=
  { w := S.w.alloc o, ι := fun r => if r = S.H.length then some S.w.heap.size else S.ι r, cp := fun r => if r = S.H.length then c else S.cp r, H := S.H ++ [ao], F := S.F, n0 := S.n0, ng := S.ng }

theorem getElem?_snoc_lt {α : Type} {l : List α} {a : α} {i : Nat} (h : i < l.length) : (l ++ [a])[i]? = l[i]? := List.getElem?_append_left h
theorem heap_alloc_lt {w : World} {o : Obj} {b : Nat} (h : b < w.heap.size) : (w.alloc o).heap[b]? = w.heap[b]? := RowKit.Below.heap_alloc w o b h
theorem heap_alloc_new {w : World} {o : Obj} : (w.alloc o).heap[w.heap.size]? = some o := by
  show (w.heap.push o)[w.heap.size]? = _
  simp

theorem push_ext {S : St} (ok : Ok S) (o : Obj) (ao : AO) (c : Nat) : Ext S (S.push o ao c) where
  st b off v hs hc := by
    have hb : b < S.w.heap.size := World.block_lt_of_cell? S.w _ hc
    refine ⟨⟨hs.1, fun r hr => ?_⟩, ?_⟩
    · simp only [St.push] at hr
      split at hr
      · simp at hr; omega
      · obtain ⟨xs, k, g, h1, h2⟩ := hs.2 r hr
        refine ⟨xs, k, g, ?_, h2⟩
        show (S.H ++ [ao])[r]? = _
        rw [getElem?_snoc_lt (List.getElem?_eq_some_iff.1 h1).1]; exact h1
    · rw [← hc]; exact cell?_heap (heap_alloc_lt hb)
  len := by simp [St.push]
  box r e k hr hb := by
    have h1 : S.H[r]? = some (.box e k) := by rw [← hb]; exact (getElem?_snoc_lt hr).symm
    refine ⟨e, k, h1, ?_⟩
    simp only [St.push]; rw [if_neg (by omega)]
  iter r e k hr hb := by
    have h1 : S.H[r]? = some (.iter e k) := by rw [← hb]; exact (getElem?_snoc_lt hr).symm
    refine ⟨e, k, h1, ?_⟩
    simp only [St.push]; rw [if_neg (by omega)]
  row r xs k g s hr hb := by
    have h1 : S.H[r]? = some (.row xs k g s) := by rw [← hb]; exact (getElem?_snoc_lt hr).symm
    refine ⟨xs, k, g, s, h1, Nat.le_refl _, fun _ => ⟨rfl, rfl, ?_, ?_⟩⟩
    · simp only [St.push]; rw [if_neg (by omega)]
    · simp only [St.push]; rw [if_neg (by omega)]

theorem push_good {S : St} (ok : Ok S) (o : Obj) (ao : AO) (c : Nat) (h : ObOk (S.push o ao c) S.H.length ao) : Good S (S.push o ao c) := by
  have E := push_ext ok o ao c
  refine ⟨⟨?_, ?_, ?_, ?_, ?_, ?_, ?_, ?_, ok.ng⟩, E, ⟨rfl, rfl, rfl, by simp [St.push], fun b hb _ => heap_alloc_lt hb, ?_, rfl, rfl, rfl⟩⟩
  · intro r a hr
    have hlt : r < (S.H ++ [ao]).length := (List.getElem?_eq_some_iff.1 hr).1
    simp at hlt
    rcases Nat.lt_or_ge r S.H.length with h1 | h1
    · have h2 : S.H[r]? = some a := by rw [← hr]; exact (getElem?_snoc_lt h1).symm
      refine (ok.ob r a h2).mono E ?_ ?_ fun b hb => heap_alloc_lt (ok.old r b hb)
      · simp only [St.push]; rw [if_neg (by omega)]
      · simp only [St.push]; rw [if_neg (by omega)]
    · obtain rfl : r = S.H.length := by omega
      have : (S.H ++ [ao])[S.H.length]? = some ao := by simp
      have e : a = ao := by
        have hr' : (S.H ++ [ao])[S.H.length]? = some a := hr
        rw [this] at hr'; exact (Option.some.inj hr').symm
      subst e; exact h
  · intro r hr
    simp only [St.push, List.length_append, List.length_cons, List.length_nil] at hr ⊢
    rw [if_neg (by omega)]; exact ok.out r (by omega)
  · intro r r' b h1 h2
    simp only [St.push] at h1 h2
    split at h1 <;> split at h2
    · omega
    · simp at h1; have := ok.old r' b h2; omega
    · simp at h2; have := ok.old r b h1; omega
    · exact ok.inj r r' b h1 h2
  · intro r b hr
    simp only [St.push] at hr ⊢
    rw [World.size_alloc]
    split at hr
    · simp at hr; omega
    · have := ok.old r b hr; omega
  · intro r b off hr
    simp only [St.push] at hr ⊢
    split at hr
    · simp at hr; subst hr
      intro hf
      have := ok.forb _ _ hf; have := ok.n0; omega
    · exact ok.free r b off hr
  · exact ok.forb
  · simp only [St.push, World.size_alloc]; have := ok.n0; omega
  · intro r b hr
    simp only [St.push] at hr ⊢
    split at hr
    · simp at hr; have := ok.ng; have := ok.n0; omega
    · exact ok.glob r b hr
  · intro r b hr
    simp only [St.push] at hr
    split at hr
    · simp at hr; exact .inr (by omega)
    · exact .inl ⟨r, hr⟩

/-! ### A change of one object -/
/-- Object r becomes ao; nothing but its block may change, which may become another (new) one. -/
structure Turn (S S' : St) (r : Nat) (ao : AO) : Prop where
  lt : r < S.H.length
  H : S'.H = S.H.set r ao
  ι : ∀ r', r' ≠ r → S'.ι r' = S.ι r'
  cp : ∀ r', r' ≠ r → S'.cp r' = S.cp r'
  ιr : S'.ι r = S.ι r ∨ S'.ι r = none ∨ (∃ b, S'.ι r = some b ∧ S.w.heap.size ≤ b ∧ b < S'.w.heap.size)
  os : S'.w.os = S.w.os
  tape : S'.w.tape = S.w.tape
  output : S'.w.output = S.w.output
  size : S.w.heap.size ≤ S'.w.heap.size
  blk : ∀ b, b < S.w.heap.size → S.ι r ≠ some b → S'.w.heap[b]? = S.w.heap[b]?
  F : S'.F = S.F
  n0 : S'.n0 = S.n0
  ng : S'.ng = S.ng
  /-- what was stable in its block is stable still -/
  st : ∀ b off v, S.ι r = some b → (∃ xs k g, S.H[r]? = some (.row xs k g true) ∧ off < xs.length * k) → S.w.cell? ⟨b, off, none⟩ = some v →
    (S'.ι r = some b → ∃ xs k g, ao = .row xs k g true ∧ off < xs.length * k) ∧ S'.w.cell? ⟨b, off, none⟩ = some v
  box : ∀ e' k', ao = .box e' k' → ∃ e k, S.H[r]? = some (.box e k) ∧ S'.ι r = S.ι r
  iter : ∀ s' p', ao = .iter s' p' → ∃ s p, S.H[r]? = some (.iter s p) ∧ S'.ι r = S.ι r
  row : ∀ xs' k' g' s', ao = .row xs' k' g' s' → ∃ xs k g s, S.H[r]? = some (.row xs k g s) ∧ g ≤ g' ∧
    (g = g' → k' = k ∧ xs'.length = xs.length ∧ S'.ι r = S.ι r ∧ S'.cp r = S.cp r)

theorem set_get_self {α : Type} {l : List α} {r : Nat} {a : α} (h : r < l.length) : (l.set r a)[r]? = some a := by simp [h]
theorem set_get_ne {α : Type} {l : List α} {r r' : Nat} {a : α} (h : r' ≠ r) : (l.set r a)[r']? = l[r']? := List.getElem?_set_ne (fun e => h e.symm)

theorem Turn.ext {S S' : St} (ok : Ok S) {r : Nat} {ao : AO} (h : Turn S S' r ao) : Ext S S' where
  st b off v hs hc := by
    have hb : b < S.w.heap.size := World.block_lt_of_cell? S.w _ hc
    by_cases hrb : S.ι r = some b
    · have h1 := hs.2 r hrb
      obtain ⟨h2, h3⟩ := h.st b off v hrb h1 hc
      refine ⟨⟨by rw [h.F]; exact hs.1, fun r' hr' => ?_⟩, h3⟩
      by_cases e : r' = r
      · subst e
        obtain ⟨xs, k, g, h4, h5⟩ := h2 hr'
        exact ⟨xs, k, g, by rw [h.H, h4]; exact set_get_self h.lt, h5⟩
      · rw [h.ι r' e] at hr'
        exact absurd (ok.inj r' r b hr' hrb) e
    · refine ⟨⟨by rw [h.F]; exact hs.1, fun r' hr' => ?_⟩, by rw [cell?_heap (h.blk b hb hrb)]; exact hc⟩
      by_cases e : r' = r
      · subst e
        rcases h.ιr with h1 | h1 | ⟨b', h1, h2, _⟩
        · rw [h1] at hr'; exact absurd hr' hrb
        · rw [h1] at hr'; cases hr'
        · rw [h1] at hr'; cases hr'; omega
      · rw [h.ι r' e] at hr'
        obtain ⟨xs, k, g, h4, h5⟩ := hs.2 r' hr'
        exact ⟨xs, k, g, by rw [h.H, set_get_ne e]; exact h4, h5⟩
  len := by rw [h.H]; simp
  box r' e k hr hb := by
    rw [h.H] at hb
    by_cases he : r' = r
    · subst he
      rw [set_get_self h.lt] at hb
      exact h.box e k (Option.some.inj hb)
    · rw [set_get_ne he] at hb
      exact ⟨e, k, hb, h.ι r' he⟩
  iter r' e k hr hb := by
    rw [h.H] at hb
    by_cases he : r' = r
    · subst he
      rw [set_get_self h.lt] at hb
      exact h.iter e k (Option.some.inj hb)
    · rw [set_get_ne he] at hb
      exact ⟨e, k, hb, h.ι r' he⟩
  row r' xs k g s hr hb := by
    rw [h.H] at hb
    by_cases he : r' = r
    · subst he
      rw [set_get_self h.lt] at hb
      exact h.row xs k g s (Option.some.inj hb)
    · rw [set_get_ne he] at hb
      exact ⟨xs, k, g, s, hb, Nat.le_refl _, fun _ => ⟨rfl, rfl, h.ι r' he, h.cp r' he⟩⟩

theorem Turn.good {S S' : St} (ok : Ok S) {r : Nat} {ao : AO} (h : Turn S S' r ao) (ho : ObOk S' r ao) : Good S S' := by
  have E := h.ext ok
  have hlen : S'.H.length = S.H.length := by rw [h.H]; simp
  refine ⟨⟨?_, ?_, ?_, ?_, ?_, ?_, ?_, ?_, ?_⟩, E, ⟨h.os, h.tape, h.output, h.size, fun b hb hn => h.blk b hb (hn r), ?_, h.F, h.n0, h.ng⟩⟩
  · intro r' a hr
    rw [h.H] at hr
    by_cases he : r' = r
    · subst he
      rw [set_get_self h.lt] at hr
      obtain rfl := Option.some.inj hr
      exact ho
    · rw [set_get_ne he] at hr
      refine (ok.ob r' a hr).mono E (h.ι r' he) (h.cp r' he) fun b hb => h.blk b (ok.old r' b hb) fun hb' => he (ok.inj r' r b hb hb')
  · intro r' hr
    rw [hlen] at hr
    have := h.lt
    rw [h.ι r' (by omega)]; exact ok.out r' hr
  · intro r1 r2 b h1 h2
    by_cases e1 : r1 = r <;> by_cases e2 : r2 = r
    · omega
    · subst e1
      rw [h.ι r2 e2] at h2
      rcases h.ιr with h3 | h3 | ⟨b', h3, h4, _⟩
      · rw [h3] at h1; exact ok.inj r1 r2 b h1 h2
      · rw [h3] at h1; cases h1
      · rw [h3] at h1; cases h1; have := ok.old r2 b h2; omega
    · subst e2
      rw [h.ι r1 e1] at h1
      rcases h.ιr with h3 | h3 | ⟨b', h3, h4, _⟩
      · rw [h3] at h2; exact ok.inj r1 r2 b h1 h2
      · rw [h3] at h2; cases h2
      · rw [h3] at h2; cases h2; have := ok.old r1 b h1; omega
    · rw [h.ι r1 e1] at h1; rw [h.ι r2 e2] at h2; exact ok.inj r1 r2 b h1 h2
  · intro r' b hr
    by_cases e : r' = r
    · subst e
      rcases h.ιr with h3 | h3 | ⟨b', h3, h4, h5⟩
      · rw [h3] at hr; have := ok.old r' b hr; have := h.size; omega
      · rw [h3] at hr; cases hr
      · rw [h3] at hr; cases hr; exact h5
    · rw [h.ι r' e] at hr; have := ok.old r' b hr; have := h.size; omega
  · intro r' b off hr
    rw [h.F]
    by_cases e : r' = r
    · subst e
      rcases h.ιr with h3 | h3 | ⟨b', h3, h4, h5⟩
      · rw [h3] at hr; exact ok.free r' b off hr
      · rw [h3] at hr; cases hr
      · rw [h3] at hr; cases hr
        intro hf; have := ok.forb _ _ hf; have := ok.n0; omega
    · rw [h.ι r' e] at hr; exact ok.free r' b off hr
  · rw [h.F, h.n0]; exact ok.forb
  · rw [h.n0]; have := ok.n0; have := h.size; omega
  · intro r' b hr
    rw [h.ng]
    by_cases e : r' = r
    · subst e
      rcases h.ιr with h3 | h3 | ⟨b', h3, h4, h5⟩
      · rw [h3] at hr; exact ok.glob r' b hr
      · rw [h3] at hr; cases hr
      · rw [h3] at hr; cases hr; have := ok.ng; have := ok.n0; omega
    · rw [h.ι r' e] at hr; exact ok.glob r' b hr
  · rw [h.ng, h.n0]; exact ok.ng
  · intro r' b hr
    by_cases e : r' = r
    · subst e
      rcases h.ιr with h3 | h3 | ⟨b', h3, h4, h5⟩
      · rw [h3] at hr; exact .inl ⟨r', hr⟩
      · rw [h3] at hr; cases hr
      · rw [h3] at hr; cases hr; exact .inr h4
    · rw [h.ι r' e] at hr; exact .inl ⟨r', hr⟩

/-! ### A draw -/
def St.drawn (S : St) (n : Nat) : St := { S with w := { S.w with drawn := n } }
theorem drawn_good {S : St} (ok : Ok S) (n : Nat) : Good S (S.drawn n) := by
  have E : Ext S (S.drawn n) := ⟨fun _ _ _ h h' => ⟨h, h'⟩, Nat.le_refl _, fun _ e k _ h => ⟨e, k, h, rfl⟩, fun _ s p _ h => ⟨s, p, h, rfl⟩, fun _ xs k g s _ h => ⟨xs, k, g, s, h, Nat.le_refl _, fun _ => ⟨rfl, rfl, rfl, rfl⟩⟩⟩
  exact ⟨⟨fun r o h => (ok.ob r o h).mono E rfl rfl fun _ _ => rfl, ok.out, ok.inj, ok.old, ok.free, ok.forb, ok.n0, ok.glob, ok.ng⟩, E, ⟨rfl, rfl, rfl, Nat.le_refl _, fun _ _ _ => rfl, fun r b h => .inl ⟨r, h⟩, rfl, rfl, rfl⟩⟩

end Go.Pv
