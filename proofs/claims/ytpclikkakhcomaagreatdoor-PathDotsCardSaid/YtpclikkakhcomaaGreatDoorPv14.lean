/- Appends to what is owned; the operation append. -/
import Derived.Test.YtpclikkakhcomaaGreatDoorPv13
set_option linter.unusedVariables false
namespace Go.Pv
open Go

theorem gok_ok {e g : Nat} (h : gok e g = true) : gty (g + 1) = gty g ∧ (gty g = 0 ∨ e + 1 = gty g) := by
  simp only [gok, Bool.and_eq_true, Bool.or_eq_true, Nat.beq_eq] at h
  omega

section
variable {P : Program} {t ty e u : TypeId} {n b : Nat}

theorem row_append {K : KV} {res : CV × List CV} {S : St} (ok : Ok S) {r g L : Nat} {xs ys : List CV} {sl : Bool} {v va : Value} {vy : List Value} (hr : S.H[r]? = some (.row xs n g sl)) (hL : L ≤ xs.length) (hsl : sl = true → L = xs.length) (hv : RowV S r 0 L n va)
    (ht : P.underlying t = some (.slice e)) (hn : tySize P e = some n) (hb : tyBytes P e = some b) (hu : ∃ d, P.underlying u = some d ∧ ∀ k, d ≠ .int k)
    {z : CV} (hz : tyZero P e = some z) (hzn : z.cl.length = n) (hb0 : 0 < b) (hs : SrcAt P S.w n ys v vy) (hfit : (L + ys.length) * b ≤ 70368744177664) (hgk : gok e g = true)
    (hy : ∀ e ∈ ys, e.cl.length = n) (ry : All2 (Vc S) (elemCells ys) vy) (oy : ∀ u ∈ vy, u.oneCell' = true)
    (h : K (.rw r (g + 1)) (S.H.set r (.row (xs.take L ++ ys) n (g + 1) sl)) = some res) :
    Does P (Builtin.append_ #[t, u] ty #[va, v]) S K res := by
  have hlt : r < S.H.length := (List.getElem?_eq_some_iff.1 hr).1
  obtain ⟨hg1, hg2⟩ := gok_ok hgk
  obtain ⟨hn0, hk, hblk⟩ := ok.ob r _ hr
  have hxs : ∀ e ∈ xs.take L, e.cl.length = n := fun e he => hk e (List.mem_of_mem_take he)
  have hzs : ∀ e ∈ xs.take L ++ ys, e.cl.length = n := by
    intro e he
    rcases List.mem_append.1 he with he | he
    · exact hxs e he
    · exact hy e he
  have hll : (xs.take L).length = L := by simp; omega
  have hvy : vy.length = ys.length * n := by rw [← ry.length, flat_len hy]
  -- the old cells
  obtain ⟨vs, hvs, hvo, hold⟩ : ∃ vs : List Value, All2 (Vc S) (elemCells xs) vs ∧ (∀ u ∈ vs, u.oneCell' = true) ∧ ∀ b cs T fr, S.ι r = some b → S.w.heap[b]? = some (.cells cs T fr) → ∀ (j : Nat) (v : Value), vs[j]? = some v → cs[j]? = some v := by
    rcases hblk with ⟨a1, rfl, a3⟩ | ⟨b', cs, T, fr, vs, a1, a2, a3, a4, a5, a6, a7, a8⟩
    · exact ⟨[], .nil, by simp, by simp⟩
    · refine ⟨vs, a6, a8, fun b cs' T' fr' h1 h2 => ?_⟩
      rw [a1] at h1; cases h1
      rw [a2] at h2; cases h2
      exact a7
  have hvl : vs.length = xs.length * n := by rw [← hvs.length, flat_len hk]
  have rx : All2 (Vc S) (elemCells (xs.take L)) (vs.take (L * n)) := by rw [flat_take L hk]; exact hvs.take _
  have ox : ∀ u ∈ vs.take (L * n), u.oneCell' = true := fun u hu => hvo u (List.mem_of_mem_take hu)
  have hLn : L * n ≤ xs.length * n := Nat.mul_le_mul_right _ hL
  have hvtl : (vs.take (L * n)).length = L * n := by simp; omega
  -- the slice's form
  obtain ⟨base, hva, hnone, hsome⟩ : ∃ base, va = .slice base L (S.cp r) ∧ (base = none → S.ι r = none ∧ L = 0 ∧ S.cp r = 0) ∧ (∀ a, base = some a → ∃ b, S.ι r = some b ∧ (0 < S.cp r → a = ⟨b, 0, none⟩)) := by
    rcases hv with ⟨b, a, h1, h2, h3⟩ | ⟨h1, _, h3, h4⟩
    · exact ⟨some a, by simpa using h2, by simp, fun a' ha => by cases ha; exact ⟨b, h1, fun hc => by simpa using h3 (by omega)⟩⟩
    · have hc : S.cp r = 0 := by
        rcases hblk with ⟨_, _, a3⟩ | ⟨b', cs, T, fr, vs, a1, _⟩
        · exact a3
        · rw [a1] at h1; cases h1
      exact ⟨none, by rw [h4, h3, hc], fun _ => ⟨h1, h3, hc⟩, by simp⟩
  subst hva
  have hrowT : ∀ xs' k' g' s', AO.row (xs.take L ++ ys) n (g + 1) sl = .row xs' k' g' s' → ∃ xs0 k g0 s, S.H[r]? = some (.row xs0 k g0 s) ∧ g0 ≤ g' ∧ (g0 = g' → False) := by
    intro xs' k' g' s' he
    cases he
    exact ⟨xs, n, g, sl, hr, by omega, by omega⟩
  by_cases hf : L + ys.length ≤ S.cp r
  · -- there is room
    cases base with
    | none =>
      obtain ⟨h1, h2, h3⟩ := hnone rfl
      subst h2
      have hys : ys = [] := by cases ys with | nil => rfl | cons _ _ => simp at hf; omega
      subst hys
      let S' : St := { S with H := S.H.set r (.row (xs.take 0 ++ []) n (g + 1) sl) }
      have T' : Turn S S' r (.row (xs.take 0 ++ []) n (g + 1) sl) := by
        refine ⟨hlt, rfl, fun _ _ => rfl, fun _ _ => rfl, .inl rfl, rfl, rfl, rfl, Nat.le_refl _, fun _ _ _ => rfl, rfl, rfl, rfl, ?_, ?_, ?_, ?_⟩
        · intro b off v hb; rw [h1] at hb; cases hb
        · intro e1 k1 he; cases he
        · intro s p he; cases he
        · intro xs' k' g' s' he
          obtain ⟨x0, k0, g0, s0, q1, q2, q3⟩ := hrowT xs' k' g' s' he
          exact ⟨x0, k0, g0, s0, q1, q2, fun e => (q3 e).elim⟩
      have G := T'.good ok ⟨hn0, by simp, .inl ⟨h1, by simp, h3⟩⟩
      refine ⟨.slice none 0 0, S', .rw r (g + 1), ?_, G, ?_, h⟩
      · have := run_fit (ty := ty) (base := none) (sLen := 0) (sCap := S.cp r) ht hn hu hs hf (w' := S.w) (by simp) (fun _ => rfl)
        rw [this, h3]; rfl
      · refine .rw _ _ _ rfl ⟨by show r < (S.H.set r _).length; simpa using hlt, ?_⟩ ?_
        · intro xs' k' g' s' he
          have he' : (S.H.set r (.row (xs.take 0 ++ []) n (g + 1) sl))[r]? = some (.row xs' k' g' s') := he
          rw [set_get_self hlt] at he'; cases he'; omega
        · intro xs' k' s' he
          have he' : (S.H.set r (.row (xs.take 0 ++ []) n (g + 1) sl))[r]? = some (.row xs' k' (g + 1) s') := he
          rw [set_get_self hlt] at he'; cases he'
          exact .inr ⟨h1, rfl, by simp, rfl⟩
    | some a =>
      obtain ⟨bl, hι, ha⟩ := hsome a rfl
      rcases hblk with ⟨a1, _, _⟩ | ⟨b', cs, T, fr, vs0, a1, a2, a3, a4, a5, a6, a7, a8⟩
      · rw [a1] at hι; cases hι
      rw [a1] at hι; cases hι
      have hcap : (L + ys.length) * n ≤ cs.size := by rw [a4]; exact Nat.mul_le_mul_right _ hf
      rw [Nat.add_mul] at hcap
      have hold' := hold bl cs T fr a1 a2
      -- the store
      obtain ⟨w', r1, r2, r3, r4, r5, r6, r7⟩ : ∃ w', (storeCells (a.add (L * n)) vy).run P S.w = .ok () w' ∧ w'.heap[bl]? = some (.cells (cellsSet cs (L * n) vy) T fr) ∧ (∀ b', b' ≠ bl → w'.heap[b']? = S.w.heap[b']?) ∧ w'.heap.size = S.w.heap.size ∧ w'.os = S.w.os ∧ w'.tape = S.w.tape ∧ w'.output = S.w.output := by
        rcases Nat.eq_zero_or_pos (S.cp r) with h0 | h0
        · have : vy = [] := by
            have : ys.length = 0 := by omega
            rw [this] at hvy
            cases vy with | nil => rfl | cons _ _ => simp at hvy
          subst this
          exact ⟨S.w, rfl, by simpa [cellsSet] using a2, fun _ _ => rfl, rfl, rfl, rfl, rfl⟩
        · have := ha h0
          subst this
          rw [add_at]
          obtain ⟨w', q⟩ := run_storeCells (P := P) vy S.w cs (0 + L * n) 0 a2 a3.1 (by omega) oy
          refine ⟨w', ?_⟩
          simpa using q
      let S' : St := { S with w := w', H := S.H.set r (.row (xs.take L ++ ys) n (g + 1) sl) }
      have T' : Turn S S' r (.row (xs.take L ++ ys) n (g + 1) sl) := by
        refine ⟨hlt, rfl, fun _ _ => rfl, fun _ _ => rfl, .inl rfl, r5, r6, r7, by show _ ≤ w'.heap.size; omega, fun b' _ hb' => r3 b' (fun e => hb' (by rw [e]; exact a1)), rfl, rfl, rfl, ?_, ?_, ?_, ?_⟩
        · intro b0 off v hb0' hs0 hc
          rw [a1] at hb0'; cases hb0'
          obtain ⟨x0, k0, g0, q1, q2⟩ := hs0
          rw [hr] at q1; cases q1
          have hLL := hsl rfl
          have hcell : w'.cell? ⟨bl, off, none⟩ = some v := by
            rw [heap_cell r2, cellsSet_get, if_neg (by rw [hLL]; omega)]
            rw [heap_cell a2] at hc; exact hc
          refine ⟨fun _ => ⟨_, n, g + 1, rfl, ?_⟩, hcell⟩
          rw [List.length_append, hll, Nat.add_mul, hLL]; omega
        · intro e1 k1 he; cases he
        · intro s p he; cases he
        · intro xs' k' g' s' he
          obtain ⟨x0, k0, g0, s0, q1, q2, q3⟩ := hrowT xs' k' g' s' he
          exact ⟨x0, k0, g0, s0, q1, q2, fun e => (q3 e).elim⟩
      have E := T'.ext ok
      have G := T'.good ok ⟨hn0, hzs, .inr ⟨bl, _, T, fr, vs.take (L * n) ++ vy, a1, r2, by rw [cellsSet_size]; exact ⟨a3.1, by have := a3.2; rw [hg1]; exact this⟩, by rw [cellsSet_size]; exact a4, by rw [List.length_append, hll]; exact hf,
        by rw [flat_append]; exact (rx.append ry).imp fun _ _ _ h => h.mono E, ?_, by intro u hu; rcases List.mem_append.1 hu with hu | hu; exact ox u hu; exact oy u hu⟩⟩
      · refine ⟨.slice (some a) (L + ys.length) (S.cp r), S', .rw r (g + 1), run_fit (ty := ty) ht hn hu hs hf (fun a' ha' => by cases ha'; exact r1) (by simp), G, ?_, h⟩
        refine .rw _ _ _ rfl ⟨by show r < (S.H.set r _).length; simpa using hlt, ?_⟩ ?_
        · intro xs' k' g' s' he
          have he' : (S.H.set r (.row (xs.take L ++ ys) n (g + 1) sl))[r]? = some (.row xs' k' g' s') := he
          rw [set_get_self hlt] at he'; cases he'; omega
        · intro xs' k' s' he
          have he' : (S.H.set r (.row (xs.take L ++ ys) n (g + 1) sl))[r]? = some (.row xs' k' (g + 1) s') := he
          rw [set_get_self hlt] at he'; cases he'
          exact .inl ⟨bl, a, a1, by simp [hll]; rfl, fun hc => by simpa using ha (by simpa using hc)⟩
      · intro j v hj
        rw [cellsSet_get]
        by_cases q : j < L * n
        · rw [if_neg (by omega)]
          rw [List.getElem?_append_left (by omega), List.getElem?_take, if_pos q] at hj
          exact hold' j v hj
        · rw [List.getElem?_append_right (by omega), hvtl] at hj
          have := (List.getElem?_eq_some_iff.1 hj).1
          rw [if_pos (by omega)]; exact hj
  · -- a new array
    have hg : S.cp r < L + ys.length := by omega
    obtain ⟨zv, hz1, hz2⟩ := run_zero hz
    have hzsz : zv.cells.size = n := by have := (hz2 S).cells.1.length; simp at this; omega
    have hfirst : ∀ w', (∀ a, S.w.cell? a = w'.cell? a) → (Builtin.firstCells n L (.slice base L (S.cp r))).run P w' = .ok (vs.take (L * n)).toArray w' := by
      intro w' hw
      cases base with
      | none =>
        obtain ⟨_, h2, _⟩ := hnone rfl
        subst h2
        simp [Builtin.firstCells]
      | some a =>
        obtain ⟨bl, hι, ha⟩ := hsome a rfl
        refine run_firstCells_some w' n L a L (S.cp r) _ hvtl fun j v hj => ?_
        have hjl := (List.getElem?_eq_some_iff.1 hj).1
        rcases hblk with ⟨a1, _, _⟩ | ⟨b', cs, T, fr, vs0, a1, a2, a3, a4, a5, a6, a7, a8⟩
        · rw [a1] at hι; cases hι
        rw [a1] at hι; cases hι
        have hL0 : 0 < L := by
          rcases Nat.eq_zero_or_pos L with h | h
          · subst h; simp at hjl
          · exact h
        have := ha (by omega)
        subst this
        rw [add_at, ← hw, heap_cell a2]
        rw [List.getElem?_take] at hj
        split at hj <;> first | (cases hj; done) | skip
        simpa using hold bl cs T fr a1 a2 j v hj
    have hrun := run_grow (ty := ty) ht hn hb hu hz1 hs hg hb0 hfit hfirst
    have hge := grownCap_ge S.w (L + ys.length) (S.cp r) e
    let cap := grownCap S.w (L + ys.length) (S.cp r) e
    let cs' : Array Value := (vs.take (L * n)).toArray ++ vy.toArray ++ Builtin.zeroCells zv.cells (cap - (L + ys.length))
    let S' : St := { w := S.w.drew.alloc (.cells cs' e), ι := fun r' => if r' = r then some S.w.heap.size else S.ι r', cp := fun r' => if r' = r then cap else S.cp r', H := S.H.set r (.row (xs.take L ++ ys) n (g + 1) sl), F := S.F, n0 := S.n0, ng := S.ng }
    have hsz : S'.w.heap.size = S.w.heap.size + 1 := by show (S.w.drew.alloc _).heap.size = _; simp
    have hblkold : ∀ b, b < S.w.heap.size → S'.w.heap[b]? = S.w.heap[b]? := fun b hb => heap_alloc_lt (w := S.w.drew) hb
    have T' : Turn S S' r (.row (xs.take L ++ ys) n (g + 1) sl) := by
      refine ⟨hlt, rfl, fun r' hr' => by simp [S', hr'], fun r' hr' => by simp [S', hr'], .inr (.inr ⟨S.w.heap.size, by simp [S'], Nat.le_refl _, by omega⟩), rfl, rfl, rfl, by omega, fun b hb _ => hblkold b hb, rfl, rfl, rfl, ?_, ?_, ?_, ?_⟩
      · intro b0 off v hb0' hs0 hc
        have hlt0 : b0 < S.w.heap.size := ok.old r b0 hb0'
        refine ⟨fun he => ?_, by rw [cell?_heap (hblkold b0 hlt0)]; exact hc⟩
        simp [S'] at he; omega
      · intro e1 k1 he; cases he
      · intro s p he; cases he
      · intro xs' k' g' s' he
        obtain ⟨x0, k0, g0, s0, q1, q2, q3⟩ := hrowT xs' k' g' s' he
        exact ⟨x0, k0, g0, s0, q1, q2, fun e => (q3 e).elim⟩
    have E := T'.ext ok
    have hnew : S'.w.heap[S.w.heap.size]? = some (.cells cs' e) := heap_alloc_new (w := S.w.drew)
    have G := T'.good ok ⟨hn0, hzs, .inr ⟨S.w.heap.size, cs', e, (0, 0), vs.take (L * n) ++ vy, by simp [S'], hnew, ⟨unfrozen_none _, by rw [hg1]; exact hg2⟩, by
        show cs'.size = (if r = r then cap else S.cp r) * n
        have e1 : ((vs.take (L * n)).toArray ++ vy.toArray).size = (L + ys.length) * n := by
          rw [Nat.add_mul, ← hvy, ← hvtl]; simp
        rw [if_pos rfl, Array.size_append, zero_cells hzsz, e1, ← Nat.add_mul]
        congr 1; omega, by
        show (xs.take L ++ ys).length ≤ (if r = r then cap else S.cp r)
        rw [if_pos rfl, List.length_append, hll]; exact hge,
      by rw [flat_append]; exact (rx.append ry).imp fun _ _ _ h => h.mono E, fun j v hj => grown_cells (S := S) (xs := xs) (ys := ys) hj, by intro u hu; rcases List.mem_append.1 hu with hu | hu; exact ox u hu; exact oy u hu⟩⟩
    refine ⟨_, S', .rw r (g + 1), by rw [hrun], G, ?_, h⟩
    refine .rw _ _ _ rfl ⟨by show r < (S.H.set r _).length; simpa using hlt, ?_⟩ ?_
    · intro xs' k' g' s' he
      have he' : (S.H.set r (.row (xs.take L ++ ys) n (g + 1) sl))[r]? = some (.row xs' k' g' s') := he
      rw [set_get_self hlt] at he'; cases he'; omega
    · intro xs' k' s' he
      have he' : (S.H.set r (.row (xs.take L ++ ys) n (g + 1) sl))[r]? = some (.row xs' k' (g + 1) s') := he
      rw [set_get_self hlt] at he'; cases he'
      exact .inl ⟨S.w.heap.size, ⟨S.w.heap.size, 0, none⟩, by simp [S'], by simp [S', hll]; rfl, fun _ => by simp⟩

theorem append_ok {K : KV} {res : CV × List CV} {S : St} (ok : Ok S) {s x : PV} {vs vx : Value} (hs : Vr S s vs) (hx : Vr S x vx) (hu : ∃ d, P.underlying u = some d ∧ ∀ k, d ≠ .int k) (h : append' P t s x S.H K = some res) :
    Does P (Builtin.append_ #[t, u] ty #[vs, vx]) S K res := by
  unfold append' at h
  split at h <;> first | (cases h; done) | skip
  rename_i e ht
  split at h <;> first | (cases h; done) | skip
  rename_i n b z k ys hn hb hz hsrc
  split at h <;> first | (cases h; done) | skip
  rename_i hc
  obtain ⟨hkn, hn0, hb0, hzn⟩ := hc
  obtain ⟨vy, hsa, hy, ry, oy⟩ := src_ok (n := n) ok hx hsrc hkn
  split at h <;> first | (cases h; done) | skip
  · obtain ⟨hfit, h⟩ := bif_true h
    have hfit : ys.length * b ≤ 70368744177664 := of_decide_eq_true hfit
    cases c_of hs
    rcases bif_some h with ⟨h0, h⟩ | ⟨h0, h⟩
    · have hys : ys = [] := by simpa using h0
      subst hys
      refine .same ok (v := .slice none 0 0) ?_ (.c .nilsl) h
      exact run_fit (ty := ty) ht hn hu hsa (by simp) (by simp) (fun _ => rfl)
    · have hys : ys ≠ [] := by simpa using h0
      have : 0 < ys.length := by cases ys with | nil => exact absurd rfl hys | cons _ _ => simp
      exact append_new (xs := []) (vx := []) ok (gOf e) (.inr (by simp [gty, gOf])) ht hn hb hu hz hzn hn0 hb0 hsa (by omega) (by simpa using hfit) rfl (by simp) hy .nil ry (by simp) oy (fun w' _ => by simp [Builtin.firstCells]) h
  · rename_i own k' xs
    dsimp only at h
    split at h <;> first | (cases h; done) | skip
    rename_i hk'; subst hk'
    obtain ⟨hfit, h⟩ := bif_true h
    have hfit : (xs.length + ys.length) * b ≤ 70368744177664 := of_decide_eq_true hfit
    cases c_of hs with
    | sl full k xs a c vs h1 h2 h3 h4 h5 =>
      have hc := h5 rfl
      subst hc
      rcases bif_some h with ⟨h0, h⟩ | ⟨h0, h⟩
      · have hys : ys = [] := by simpa using h0
        subst hys
        have hvy : vy = [] := by
          cases vy with | nil => rfl | cons _ _ => cases ry
        subst hvy
        refine .same ok (v := .slice (some a) xs.length xs.length) ?_ hs h
        exact run_fit (ty := ty) ht hn hu hsa (by simp) (fun a' _ => rfl) (by simp)
      · have hys : ys ≠ [] := by simpa using h0
        have : 0 < ys.length := by cases ys with | nil => exact absurd rfl hys | cons _ _ => simp
        refine append_new (xs := xs) (vx := vs) ok 0 (.inl rfl) ht hn hb hu hz hzn hn0 hb0 hsa (by omega) hfit rfl h1 hy h2 ry h3.one oy (fun w' hw => ?_) h
        have hl : vs.length = xs.length * k' := by rw [← h2.length, flat_len h1]
        exact run_firstCells_some w' k' xs.length a _ _ vs hl fun j u hu => by rw [← hw]; exact h3.cell hu
  · rename_i r g
    dsimp only at h
    split at h <;> first | (cases h; done) | skip
    rename_i xs k' sl hr0
    have hr := getRow_some hr0
    split at h <;> first | (cases h; done) | skip
    rename_i hk'
    obtain ⟨hk', hgk⟩ := hk'; subst hk'
    obtain ⟨hfit, h⟩ := bif_true h
    have hfit : (xs.length + ys.length) * b ≤ 70368744177664 := of_decide_eq_true hfit
    cases hs with
    | rw r g v h1 hg hv =>
      exact row_append ok hr (Nat.le_refl _) (fun _ => rfl) (hv _ _ _ hr) ht hn hb hu hz hzn hb0 hsa hfit hgk hy ry oy (by rw [List.take_of_length_le (Nat.le_refl _)]; exact h)
  · rename_i r g len
    split at h <;> first | (cases h; done) | skip
    rename_i xs k' hr0
    have hr := getRow_some hr0
    split at h <;> first | (cases h; done) | skip
    rename_i hk'
    obtain ⟨hk', hgk⟩ := hk'; subst hk'
    obtain ⟨hfit, h⟩ := bif_true h
    have hfit : (len + ys.length) * b ≤ 70368744177664 := of_decide_eq_true hfit
    cases hs with
    | row r g off len v h1 hg hv =>
      obtain ⟨hle, hv⟩ := hv _ _ _ hr
      exact row_append ok hr (by omega) (fun h => by cases h) hv ht hn hb hu hz hzn hb0 hsa hfit hgk hy ry oy h

end
end Go.Pv
