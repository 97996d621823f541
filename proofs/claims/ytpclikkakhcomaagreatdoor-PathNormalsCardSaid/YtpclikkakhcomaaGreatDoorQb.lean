/- Appends to what is owned; the operation append. -/
import Derived.Test.YtpclikkakhcomaaGreatDoorQa
import Derived.Lib.Builder
import Derived.Lib.UnsafeStr
set_option linter.unusedSimpArgs false
set_option linter.unusedVariables false
namespace Go.Pv
open Go
theorem gok_ok {e g : Nat} (h : gok e g = true) : gty (g + 1) = gty g ∧ (gty g = 0 ∨ e + 1 = gty g) := by
 simp only [gok, Bool.and_eq_true, Bool.or_eq_true, Nat.beq_eq] at h
 omega
section
variable {P : Program} {t ty e u : TypeId} {n b : Nat}
theorem row_append {K : KV} {res : CV × List CV} {S : St} (ok : Ok S) {r g L : Nat} {xs ys : List CV} {sl : Bool} {v va : Value} {vy : List Value} (hr : S.H[r]? = some (.row xs n g sl)) (hL : L ≤ xs.length) (hsl : sl = true → L = xs.length) (hv : RowV S r 0 L n va)
   (ht : P.underlying t = some (.slice e)) (hn : tySize P e = some n) (hb : tyBytes P e = some b) (hu : ∃ d, P.underlying u = some d ∧ ∀ k, d ≠ .int k)
   {z : CV} (hz : tyZero P e = some z) (hzn : z.cl.length = n) (hb0 : 0 < b) (hs : SrcAt P S.w n ys v vy) (hfit : (L + ys.length) * b ≤ 70368744177664) (hgk : gok e g = true)
   (hy : ∀ e ∈ ys, e.cl.length = n) (ry : All2 (Vc S) (elemCells ys) vy) (oy : ∀ u ∈ vy, u.oneCell' = true)
   (h : K (.rw r (g + 1)) (S.H.set r (.row (xs.take L ++ ys) n (g + 1) sl)) = some res) :
   Does P (Builtin.append_ #[t, u] ty #[va, v]) S K res := by
 have hlt : r < S.H.length := (List.getElem?_eq_some_iff.1 hr).1
 obtain ⟨hg1, hg2⟩ := gok_ok hgk
 obtain ⟨hn0, hk, hblk⟩ := ok.ob r _ hr
 have hxs : ∀ e ∈ xs.take L, e.cl.length = n := fun e he => hk e (List.mem_of_mem_take he)
 have hzs : ∀ e ∈ xs.take L ++ ys, e.cl.length = n := by
   intro e he
   rcases List.mem_append.1 he with he | he
   · exact hxs e he
   · exact hy e he
 have hll : (xs.take L).length = L := by simp; omega
 have hvy : vy.length = ys.length * n := by rw [← ry.length, flat_len hy]
 obtain ⟨vs, hvs, hvo, hold⟩ : ∃ vs : List Value, All2 (Vc S) (elemCells xs) vs ∧ (∀ u ∈ vs, u.oneCell' = true) ∧ ∀ b cs T fr, S.ι r = some b → S.w.heap[b]? = some (.cells cs T fr) → ∀ (j : Nat) (v : Value), vs[j]? = some v → cs[j]? = some v := by
   rcases hblk with ⟨a1, rfl, a3⟩ | ⟨b', cs, T, fr, vs, a1, a2, a3, a4, a5, a6, a7, a8⟩
   · exact ⟨[], .nil, by simp, by simp⟩
   · refine ⟨vs, a6, a8, fun b cs' T' fr' h1 h2 => ?_⟩
     rw [a1] at h1; cases h1
     rw [a2] at h2; cases h2
     exact a7
 have hvl : vs.length = xs.length * n := by rw [← hvs.length, flat_len hk]
 have rx : All2 (Vc S) (elemCells (xs.take L)) (vs.take (L * n)) := by rw [flat_take L hk]; exact hvs.take _
 have ox : ∀ u ∈ vs.take (L * n), u.oneCell' = true := fun u hu => hvo u (List.mem_of_mem_take hu)
 have hLn : L * n ≤ xs.length * n := Nat.mul_le_mul_right _ hL
 have hvtl : (vs.take (L * n)).length = L * n := by simp; omega
 obtain ⟨base, hva, hnone, hsome⟩ : ∃ base, va = .slice base L (S.cp r) ∧ (base = none → S.ι r = none ∧ L = 0 ∧ S.cp r = 0) ∧ (∀ a, base = some a → ∃ b, S.ι r = some b ∧ (0 < S.cp r → a = ⟨b, 0, none⟩)) := by
   rcases hv with ⟨b, a, h1, h2, h3⟩ | ⟨h1, _, h3, h4⟩
   · exact ⟨some a, by simpa using h2, by simp, fun a' ha => by cases ha; exact ⟨b, h1, fun hc => by simpa using h3 (by omega)⟩⟩
   · have hc : S.cp r = 0 := by
       rcases hblk with ⟨_, _, a3⟩ | ⟨b', cs, T, fr, vs, a1, _⟩
       · exact a3
       · rw [a1] at h1; cases h1
     exact ⟨none, by rw [h4, h3, hc], fun _ => ⟨h1, h3, hc⟩, by simp⟩
 subst hva
 have hrowT : ∀ xs' k' g' s', AO.row (xs.take L ++ ys) n (g + 1) sl = .row xs' k' g' s' → ∃ xs0 k g0 s, S.H[r]? = some (.row xs0 k g0 s) ∧ g0 ≤ g' ∧ (g0 = g' → False) := by
   intro xs' k' g' s' he
   cases he
   exact ⟨xs, n, g, sl, hr, by omega, by omega⟩
 by_cases hf : L + ys.length ≤ S.cp r
 · -- there is room
   cases base with
   | none =>
     obtain ⟨h1, h2, h3⟩ := hnone rfl
     subst h2
     have hys : ys = [] := by cases ys with | nil => rfl | cons _ _ => simp at hf; omega
     subst hys
     let S' : St := { S with H := S.H.set r (.row (xs.take 0 ++ []) n (g + 1) sl) }
     have T' : Turn S S' r (.row (xs.take 0 ++ []) n (g + 1) sl) := by
       refine ⟨hlt, rfl, fun _ _ => rfl, fun _ _ => rfl, .inl rfl, rfl, rfl, rfl, Nat.le_refl _, fun _ _ _ => rfl, rfl, rfl, rfl, ?_, ?_, ?_, ?_⟩
       · intro b off v hb; rw [h1] at hb; cases hb
       · intro e1 k1 he; cases he
       · intro s p he; cases he
       · intro xs' k' g' s' he
         obtain ⟨x0, k0, g0, s0, q1, q2, q3⟩ := hrowT xs' k' g' s' he
         exact ⟨x0, k0, g0, s0, q1, q2, fun e => (q3 e).elim⟩
     have G := T'.good ok ⟨hn0, by simp, .inl ⟨h1, by simp, h3⟩⟩
     refine ⟨.slice none 0 0, S', .rw r (g + 1), ?_, G, ?_, h⟩
     · have := run_fit (ty := ty) (base := none) (sLen := 0) (sCap := S.cp r) ht hn hu hs hf (w' := S.w) (by simp) (fun _ => rfl)
       rw [this, h3]; rfl
     · refine .rw _ _ _ rfl ⟨by show r < (S.H.set r _).length; simpa using hlt, ?_⟩ ?_
       · intro xs' k' g' s' he
         have he' : (S.H.set r (.row (xs.take 0 ++ []) n (g + 1) sl))[r]? = some (.row xs' k' g' s') := he
         rw [set_get_self hlt] at he'; cases he'; omega
       · intro xs' k' s' he
         have he' : (S.H.set r (.row (xs.take 0 ++ []) n (g + 1) sl))[r]? = some (.row xs' k' (g + 1) s') := he
         rw [set_get_self hlt] at he'; cases he'
         exact .inr ⟨h1, rfl, by simp, rfl⟩
   | some a =>
     obtain ⟨bl, hι, ha⟩ := hsome a rfl
     rcases hblk with ⟨a1, _, _⟩ | ⟨b', cs, T, fr, vs0, a1, a2, a3, a4, a5, a6, a7, a8⟩
     · rw [a1] at hι; cases hι
     rw [a1] at hι; cases hι
     have hcap : (L + ys.length) * n ≤ cs.size := by rw [a4]; exact Nat.mul_le_mul_right _ hf
     rw [Nat.add_mul] at hcap
     have hold' := hold bl cs T fr a1 a2
     obtain ⟨w', r1, r2, r3, r4, r5, r6, r7⟩ : ∃ w', (storeCells (a.add (L * n)) vy).run P S.w = .ok () w' ∧ w'.heap[bl]? = some (.cells (cellsSet cs (L * n) vy) T fr) ∧ (∀ b', b' ≠ bl → w'.heap[b']? = S.w.heap[b']?) ∧ w'.heap.size = S.w.heap.size ∧ w'.os = S.w.os ∧ w'.tape = S.w.tape ∧ w'.output = S.w.output := by
       rcases Nat.eq_zero_or_pos (S.cp r) with h0 | h0
       · have : vy = [] := by
           have : ys.length = 0 := by omega
           rw [this] at hvy
           cases vy with | nil => rfl | cons _ _ => simp at hvy
         subst this
         exact ⟨S.w, rfl, by simpa [cellsSet] using a2, fun _ _ => rfl, rfl, rfl, rfl, rfl⟩
       · have := ha h0
         subst this
         rw [add_at]
         obtain ⟨w', q⟩ := run_storeCells (P := P) vy S.w cs (0 + L * n) 0 a2 a3.1 (by omega) oy
         refine ⟨w', ?_⟩
         simpa using q
     let S' : St := { S with w := w', H := S.H.set r (.row (xs.take L ++ ys) n (g + 1) sl) }
     have T' : Turn S S' r (.row (xs.take L ++ ys) n (g + 1) sl) := by
       refine ⟨hlt, rfl, fun _ _ => rfl, fun _ _ => rfl, .inl rfl, r5, r6, r7, by show _ ≤ w'.heap.size; omega, fun b' _ hb' => r3 b' (fun e => hb' (by rw [e]; exact a1)), rfl, rfl, rfl, ?_, ?_, ?_, ?_⟩
       · intro b0 off v hb0' hs0 hc
         rw [a1] at hb0'; cases hb0'
         obtain ⟨x0, k0, g0, q1, q2⟩ := hs0
         rw [hr] at q1; cases q1
         have hLL := hsl rfl
         have hcell : w'.cell? ⟨bl, off, none⟩ = some v := by
           rw [heap_cell r2, cellsSet_get, if_neg (by rw [hLL]; omega)]
           rw [heap_cell a2] at hc; exact hc
         refine ⟨fun _ => ⟨_, n, g + 1, rfl, ?_⟩, hcell⟩
         rw [List.length_append, hll, Nat.add_mul, hLL]; omega
       · intro e1 k1 he; cases he
       · intro s p he; cases he
       · intro xs' k' g' s' he
         obtain ⟨x0, k0, g0, s0, q1, q2, q3⟩ := hrowT xs' k' g' s' he
         exact ⟨x0, k0, g0, s0, q1, q2, fun e => (q3 e).elim⟩
     have E := T'.ext ok
     have G := T'.good ok ⟨hn0, hzs, .inr ⟨bl, _, T, fr, vs.take (L * n) ++ vy, a1, r2, by rw [cellsSet_size]; exact ⟨a3.1, by have := a3.2; rw [hg1]; exact this⟩, by rw [cellsSet_size]; exact a4, by rw [List.length_append, hll]; exact hf,
       by rw [flat_append]; exact (rx.append ry).imp fun _ _ _ h => h.mono E, ?_, by intro u hu; rcases List.mem_append.1 hu with hu | hu; exact ox u hu; exact oy u hu⟩⟩
     · refine ⟨.slice (some a) (L + ys.length) (S.cp r), S', .rw r (g + 1), run_fit (ty := ty) ht hn hu hs hf (fun a' ha' => by cases ha'; exact r1) (by simp), G, ?_, h⟩
       refine .rw _ _ _ rfl ⟨by show r < (S.H.set r _).length; simpa using hlt, ?_⟩ ?_
       · intro xs' k' g' s' he
         have he' : (S.H.set r (.row (xs.take L ++ ys) n (g + 1) sl))[r]? = some (.row xs' k' g' s') := he
         rw [set_get_self hlt] at he'; cases he'; omega
       · intro xs' k' s' he
         have he' : (S.H.set r (.row (xs.take L ++ ys) n (g + 1) sl))[r]? = some (.row xs' k' (g + 1) s') := he
         rw [set_get_self hlt] at he'; cases he'
         exact .inl ⟨bl, a, a1, by simp [hll]; rfl, fun hc => by simpa using ha (by simpa using hc)⟩
     · intro j v hj
       rw [cellsSet_get]
       by_cases q : j < L * n
       · rw [if_neg (by omega)]
         rw [List.getElem?_append_left (by omega), List.getElem?_take, if_pos q] at hj
         exact hold' j v hj
       · rw [List.getElem?_append_right (by omega), hvtl] at hj
         have := (List.getElem?_eq_some_iff.1 hj).1
         rw [if_pos (by omega)]; exact hj
 · -- a new array
   have hg : S.cp r < L + ys.length := by omega
   obtain ⟨zv, hz1, hz2⟩ := run_zero hz
   have hzsz : zv.cells.size = n := by have := (hz2 S).cells.1.length; simp at this; omega
   have hfirst : ∀ w', (∀ a, S.w.cell? a = w'.cell? a) → (Builtin.firstCells n L (.slice base L (S.cp r))).run P w' = .ok (vs.take (L * n)).toArray w' := by
     intro w' hw
     cases base with
     | none =>
       obtain ⟨_, h2, _⟩ := hnone rfl
       subst h2
       simp [Builtin.firstCells]
     | some a =>
       obtain ⟨bl, hι, ha⟩ := hsome a rfl
       refine run_firstCells_some w' n L a L (S.cp r) _ hvtl fun j v hj => ?_
       have hjl := (List.getElem?_eq_some_iff.1 hj).1
       rcases hblk with ⟨a1, _, _⟩ | ⟨b', cs, T, fr, vs0, a1, a2, a3, a4, a5, a6, a7, a8⟩
       · rw [a1] at hι; cases hι
       rw [a1] at hι; cases hι
       have hL0 : 0 < L := by
         rcases Nat.eq_zero_or_pos L with h | h
         · subst h; simp at hjl
         · exact h
       have := ha (by omega)
       subst this
       rw [add_at, ← hw, heap_cell a2]
       rw [List.getElem?_take] at hj
       split at hj <;> first | (cases hj; done) | skip
       simpa using hold bl cs T fr a1 a2 j v hj
   have hrun := run_grow (ty := ty) ht hn hb hu hz1 hs hg hb0 hfit hfirst
   have hge := grownCap_ge S.w (L + ys.length) (S.cp r) e
   let cap := grownCap S.w (L + ys.length) (S.cp r) e
   let cs' : Array Value := (vs.take (L * n)).toArray ++ vy.toArray ++ Builtin.zeroCells zv.cells (cap - (L + ys.length))
   let S' : St := { w := S.w.drew.alloc (.cells cs' e), ι := fun r' => if r' = r then some S.w.heap.size else S.ι r', cp := fun r' => if r' = r then cap else S.cp r', H := S.H.set r (.row (xs.take L ++ ys) n (g + 1) sl), F := S.F, n0 := S.n0, ng := S.ng }
   have hsz : S'.w.heap.size = S.w.heap.size + 1 := by show (S.w.drew.alloc _).heap.size = _; simp
   have hblkold : ∀ b, b < S.w.heap.size → S'.w.heap[b]? = S.w.heap[b]? := fun b hb => heap_alloc_lt (w := S.w.drew) hb
   have T' : Turn S S' r (.row (xs.take L ++ ys) n (g + 1) sl) := by
     refine ⟨hlt, rfl, fun r' hr' => by simp [S', hr'], fun r' hr' => by simp [S', hr'], .inr (.inr ⟨S.w.heap.size, by simp [S'], Nat.le_refl _, by omega⟩), rfl, rfl, rfl, by omega, fun b hb _ => hblkold b hb, rfl, rfl, rfl, ?_, ?_, ?_, ?_⟩
     · intro b0 off v hb0' hs0 hc
       have hlt0 : b0 < S.w.heap.size := ok.old r b0 hb0'
       refine ⟨fun he => ?_, by rw [cell?_heap (hblkold b0 hlt0)]; exact hc⟩
       simp [S'] at he; omega
     · intro e1 k1 he; cases he
     · intro s p he; cases he
     · intro xs' k' g' s' he
       obtain ⟨x0, k0, g0, s0, q1, q2, q3⟩ := hrowT xs' k' g' s' he
       exact ⟨x0, k0, g0, s0, q1, q2, fun e => (q3 e).elim⟩
   have E := T'.ext ok
   have hnew : S'.w.heap[S.w.heap.size]? = some (.cells cs' e) := heap_alloc_new (w := S.w.drew)
   have G := T'.good ok ⟨hn0, hzs, .inr ⟨S.w.heap.size, cs', e, (0, 0), vs.take (L * n) ++ vy, by simp [S'], hnew, ⟨unfrozen_none _, by rw [hg1]; exact hg2⟩, by
       show cs'.size = (if r = r then cap else S.cp r) * n
       have e1 : ((vs.take (L * n)).toArray ++ vy.toArray).size = (L + ys.length) * n := by
         rw [Nat.add_mul, ← hvy, ← hvtl]; simp
       rw [if_pos rfl, Array.size_append, zero_cells hzsz, e1, ← Nat.add_mul]
       congr 1; omega, by
       show (xs.take L ++ ys).length ≤ (if r = r then cap else S.cp r)
       rw [if_pos rfl, List.length_append, hll]; exact hge,
     by rw [flat_append]; exact (rx.append ry).imp fun _ _ _ h => h.mono E, fun j v hj => grown_cells (S := S) (xs := xs) (ys := ys) hj, by intro u hu; rcases List.mem_append.1 hu with hu | hu; exact ox u hu; exact oy u hu⟩⟩
   refine ⟨_, S', .rw r (g + 1), by rw [hrun], G, ?_, h⟩
   refine .rw _ _ _ rfl ⟨by show r < (S.H.set r _).length; simpa using hlt, ?_⟩ ?_
   · intro xs' k' g' s' he
     have he' : (S.H.set r (.row (xs.take L ++ ys) n (g + 1) sl))[r]? = some (.row xs' k' g' s') := he
     rw [set_get_self hlt] at he'; cases he'; omega
   · intro xs' k' s' he
     have he' : (S.H.set r (.row (xs.take L ++ ys) n (g + 1) sl))[r]? = some (.row xs' k' (g + 1) s') := he
     rw [set_get_self hlt] at he'; cases he'
     exact .inl ⟨S.w.heap.size, ⟨S.w.heap.size, 0, none⟩, by simp [S'], by simp [S', hll]; rfl, fun _ => by simp⟩
theorem append_ok {K : KV} {res : CV × List CV} {S : St} (ok : Ok S) {s x : PV} {vs vx : Value} (hs : Vr S s vs) (hx : Vr S x vx) (hu : ∃ d, P.underlying u = some d ∧ ∀ k, d ≠ .int k) (h : append' P t s x S.H K = some res) :
   Does P (Builtin.append_ #[t, u] ty #[vs, vx]) S K res := by
 unfold append' at h
 split at h <;> first | (cases h; done) | skip
 rename_i e ht
 split at h <;> first | (cases h; done) | skip
 rename_i n b z k ys hn hb hz hsrc
 split at h <;> first | (cases h; done) | skip
 rename_i hc
 obtain ⟨hkn, hn0, hb0, hzn⟩ := hc
 obtain ⟨vy, hsa, hy, ry, oy⟩ := src_ok (n := n) ok hx hsrc hkn
 split at h <;> first | (cases h; done) | skip
 · obtain ⟨hfit, h⟩ := bif_true h
   have hfit : ys.length * b ≤ 70368744177664 := of_decide_eq_true hfit
   cases c_of hs
   rcases bif_some h with ⟨h0, h⟩ | ⟨h0, h⟩
   · have hys : ys = [] := by simpa using h0
     subst hys
     refine .same ok (v := .slice none 0 0) ?_ (.c .nilsl) h
     exact run_fit (ty := ty) ht hn hu hsa (by simp) (by simp) (fun _ => rfl)
   · have hys : ys ≠ [] := by simpa using h0
     have : 0 < ys.length := by cases ys with | nil => exact absurd rfl hys | cons _ _ => simp
     exact append_new (xs := []) (vx := []) ok (gOf e) (.inr (by simp [gty, gOf])) ht hn hb hu hz hzn hn0 hb0 hsa (by omega) (by simpa using hfit) rfl (by simp) hy .nil ry (by simp) oy (fun w' _ => by simp [Builtin.firstCells]) h
 · rename_i own k' xs
   dsimp only at h
   split at h <;> first | (cases h; done) | skip
   rename_i hk'; subst hk'
   obtain ⟨hfit, h⟩ := bif_true h
   have hfit : (xs.length + ys.length) * b ≤ 70368744177664 := of_decide_eq_true hfit
   cases c_of hs with
   | sl full k xs a c vs h1 h2 h3 h4 h5 =>
     have hc := h5 rfl
     subst hc
     rcases bif_some h with ⟨h0, h⟩ | ⟨h0, h⟩
     · have hys : ys = [] := by simpa using h0
       subst hys
       have hvy : vy = [] := by
         cases vy with | nil => rfl | cons _ _ => cases ry
       subst hvy
       refine .same ok (v := .slice (some a) xs.length xs.length) ?_ hs h
       exact run_fit (ty := ty) ht hn hu hsa (by simp) (fun a' _ => rfl) (by simp)
     · have hys : ys ≠ [] := by simpa using h0
       have : 0 < ys.length := by cases ys with | nil => exact absurd rfl hys | cons _ _ => simp
       refine append_new (xs := xs) (vx := vs) ok 0 (.inl rfl) ht hn hb hu hz hzn hn0 hb0 hsa (by omega) hfit rfl h1 hy h2 ry h3.one oy (fun w' hw => ?_) h
       have hl : vs.length = xs.length * k' := by rw [← h2.length, flat_len h1]
       exact run_firstCells_some w' k' xs.length a _ _ vs hl fun j u hu => by rw [← hw]; exact h3.cell hu
 · rename_i r g
   dsimp only at h
   split at h <;> first | (cases h; done) | skip
   rename_i xs k' sl hr0
   have hr := getRow_some hr0
   split at h <;> first | (cases h; done) | skip
   rename_i hk'
   obtain ⟨hk', hgk⟩ := hk'; subst hk'
   obtain ⟨hfit, h⟩ := bif_true h
   have hfit : (xs.length + ys.length) * b ≤ 70368744177664 := of_decide_eq_true hfit
   cases hs with
   | rw r g v h1 hg hv =>
     exact row_append ok hr (Nat.le_refl _) (fun _ => rfl) (hv _ _ _ hr) ht hn hb hu hz hzn hb0 hsa hfit hgk hy ry oy (by rw [List.take_of_length_le (Nat.le_refl _)]; exact h)
 · rename_i r g len
   split at h <;> first | (cases h; done) | skip
   rename_i xs k' hr0
   have hr := getRow_some hr0
   split at h <;> first | (cases h; done) | skip
   rename_i hk'
   obtain ⟨hk', hgk⟩ := hk'; subst hk'
   obtain ⟨hfit, h⟩ := bif_true h
   have hfit : (len + ys.length) * b ≤ 70368744177664 := of_decide_eq_true hfit
   cases hs with
   | row r g off len v h1 hg hv =>
     obtain ⟨hle, hv⟩ := hv _ _ _ hr
     exact row_append ok hr (by omega) (fun h => by cases h) hv ht hn hb hu hz hzn hb0 hsa hfit hgk hy ry oy h
end
theorem copy_src {P : Program} {S : St} (ok : Ok S) {p : PV} {v : Value} {k : Nat} {ys : List CV} (hv : Vr S p v) (h : srcOf p S.H = some (k, ys)) (hkn : k = 1 ∨ ys = []) (m : Nat) (hm : m ≤ ys.length) :
   ∃ vs, (Builtin.firstCells 1 m v).run P S.w = .ok (vs.take m).toArray S.w ∧ (Builtin.lenOf v).run P S.w = .ok ys.length S.w ∧ (∀ e ∈ ys, e.cl.length = 1) ∧ All2 (Vc S) (elemCells ys) vs ∧ (∀ u ∈ vs, u.oneCell' = true) := by
 unfold srcOf at h
 split at h
 · rename_i s
   simp only [Option.some.injEq, Prod.mk.injEq] at h
   obtain ⟨rfl, rfl⟩ := h
   obtain rfl := str_of hv
   have hlen := bytes_len s
   refine ⟨s.data.toList.map fun b => Value.int .u8 b.toNat, ?_, by simp [Builtin.lenOf, hlen], ?_, by rw [bytes_flat]; exact bytes_rel S s, ?_⟩
   · simp only [Builtin.firstCells, Sem.run_pure]
     congr 1
     apply Array.ext'
     simp [List.extract_eq_take_drop]
   · intro e he
     simp only [strBytes, List.mem_map] at he
     obtain ⟨b, _, rfl⟩ := he; rfl
   · intro u hu
     simp only [List.mem_map] at hu
     obtain ⟨b, _, rfl⟩ := hu; rfl
 · obtain ⟨base, cap, vs, rfl, h1, h2, h3, h4, h5⟩ := elemsOf_ok ok hv h
   have h1' : ∀ e ∈ ys, e.cl.length = 1 := by
     rcases hkn with rfl | h0
     · exact h1
     · rw [h0]; simp
   have hl : vs.length = ys.length * 1 := by rw [← h2.length, flat_len h1']
   refine ⟨vs, ?_, by simp [Builtin.lenOf], h1', h2, h3⟩
   cases base with
   | none =>
     have := h5 rfl
     subst this
     have : vs = [] := by cases vs with | nil => rfl | cons _ _ => simp at hl
     subst this
     simp [Builtin.firstCells]
   | some a =>
     have hlm : (vs.take m).length = m * 1 := by rw [List.length_take]; omega
     exact run_firstCells_some S.w 1 m a _ cap (vs.take m) hlm fun j u hu => by
       rw [List.getElem?_take] at hu
       split at hu
       · exact h4 a rfl j u hu
       · cases hu
theorem take_min {α : Type} (ys : List α) (n : Nat) : ys.take (min ys.length n) = ys.take n := by
 by_cases h : n ≤ ys.length
 · rw [Nat.min_eq_right h]
 · rw [Nat.min_eq_left (by omega), List.take_of_length_le (Nat.le_refl _), List.take_of_length_le (by omega)]
theorem copy_ok {P : Program} {t u ty : TypeId} {S : St} {K : KV} {res : CV × List CV} (ok : Ok S) {d x : PV} {vd vx : Value} (hd : Vr S d vd) (hx : Vr S x vx) (h : copy' P t d x S.H K = some res) :
   Does P (Builtin.copy_ #[t, u] ty #[vd, vx]) S K res := by
 unfold copy' at h
 split at h <;> first | (cases h; done) | skip
 rename_i e r off len hu
 split at h <;> first | (cases h; done) | skip
 rename_i cs k k' ys hs hr hsrc
 split at h <;> first | (cases h; done) | skip
 rename_i hk
 obtain ⟨hle, h⟩ := bif_true h
 have hle : off + len ≤ cs.length := of_decide_eq_true hle
 have hlt : r < S.H.length := (List.getElem?_eq_some_iff.1 hr).1
 obtain ⟨b, cells, T, fr, ve, a1, a2, a3, a4, a5, a6, a7⟩ := ok.ob r _ hr
 cases hd with
 | asl r off len v h1 hlt hb =>
   obtain ⟨b', a, c, hb1, rfl, hc, ha⟩ := hb _ _ hr
   rw [a1] at hb1; cases hb1
   have hmin : Nat.min ys.length len ≤ ys.length := Nat.min_le_left _ _
   obtain ⟨vs, f1, f2, f3, f4, f5⟩ := copy_src (P := P) ok hx hsrc hk (Nat.min ys.length len) hmin
   have hvl : vs.length = ys.length * 1 := by rw [← f4.length, flat_len f3]
   have hrun : ∀ w', ((if 0 = 0 then storeCells a (vs.take (Nat.min ys.length len)) else pure ()) : Sem Unit).run P S.w = .ok () w' → (Builtin.copy_ #[t, u] ty #[.slice (some a) len c, vx]).run P S.w = .ok (.int .i64 (Nat.min ys.length len : Nat)) w' := by
     intro w' hw
     simp only [if_true] at hw
     simp [Builtin.copy_, run_underlying hu, run_size hs, f1, f2, hw, goInt]
   have hE : elemCells' (ys.take len) = (elemCells ys).take (Nat.min ys.length len) := by
     have e1 : elemCells' (ys.take len) = elemCells (ys.take len) := rfl
     have e2 := take_min ys len
     rw [e1, ← e2, flat_take _ f3, Nat.mul_one]
     try rfl
   have hrel : All2 (Vc S) (elemCells' (ys.take len)) (vs.take (Nat.min ys.length len)) := by rw [hE]; exact f4.take _
   have hun : (elemCells' (ys.take len)).length = Nat.min ys.length len := by
     rw [hrel.length, List.length_take]
     have := Nat.min_le_left ys.length len
     show min (Nat.min ys.length len) vs.length = _
     have e : Nat.min ys.length len ≤ vs.length := by rw [hvl]; omega
     omega
   have hmlen : Nat.min ys.length len ≤ len := Nat.min_le_right _ _
   cases a5 with
   | c a5 => cases a5 with
     | agg cs vc b1 b2 =>
       have hcells : cells = vc := a6.symm
       subst hcells
       have hsz : cells.size = cs.length := by have := b1.length; simp at this; omega
       have hone : ∀ u ∈ vs.take (Nat.min ys.length len), u.oneCell' = true := fun u hu => f5 u (List.mem_of_mem_take hu)
       have hst : ∃ w', (storeCells a (vs.take (Nat.min ys.length len))).run P S.w = .ok () w' ∧ w'.heap[b]? = some (.cells (cellsSet cells off (vs.take (Nat.min ys.length len))) T fr) ∧ (∀ b', b' ≠ b → w'.heap[b']? = S.w.heap[b']?) ∧ w'.heap.size = S.w.heap.size ∧ w'.os = S.w.os ∧ w'.tape = S.w.tape ∧ w'.output = S.w.output := by
         by_cases hm : Nat.min ys.length len = 0
         · rw [hm]
           exact ⟨S.w, rfl, a2, fun _ _ => rfl, rfl, rfl, rfl, rfl⟩
         · have ha := ha (by omega)
           subst ha
           obtain ⟨w', r1, r2, r3⟩ := run_storeCells (P := P) (vs.take (Nat.min ys.length len)) S.w cells off 0 a2 a3.1 (by rw [List.length_take]; omega) hone
           exact ⟨w', r1, by simpa using r2, r3⟩
       obtain ⟨w', r1, r2, r3, r4, r5, r6, r7⟩ := hst
       let S' : St := { S with w := w', H := S.H.set r (.box (.c (.agg (setRange cs off (elemCells' (ys.take len))))) k) }
       have T' : Turn S S' r (.box (.c (.agg (setRange cs off (elemCells' (ys.take len))))) k) := by
         refine ⟨hlt, rfl, fun _ _ => rfl, fun _ _ => rfl, .inl rfl, r5, r6, r7, by show _ ≤ w'.heap.size; omega, fun b' _ hb' => r3 b' (fun e => hb' (by rw [e]; exact a1)), rfl, rfl, rfl, ?_, ?_, ?_, ?_⟩
         · intro b' off' v' _ hs
           obtain ⟨xs, k', g, hrow, _⟩ := hs
           rw [hr] at hrow; cases hrow
         · intro e1 k1 he; exact ⟨_, k, hr, rfl⟩
         · intro s p he; cases he
         · intro xs k g s he; cases he
       have E := T'.ext ok
       have hset : (cellsSet cells off (vs.take (Nat.min ys.length len))).toList = setRange cells.toList off (vs.take (Nat.min ys.length len)) := cellsSet_list _ _ _ (by rw [List.length_take]; omega)
       have hones : ∀ u ∈ (cellsSet cells off (vs.take (Nat.min ys.length len))).toList, u.oneCell' = true := by
         rw [hset]
         intro u' hu'
         simp only [setRange, List.mem_append] at hu'
         rcases hu' with (hu' | hu') | hu'
         · exact b2 u' (List.mem_of_mem_take hu')
         · exact hone u' hu'
         · exact b2 u' (List.mem_of_mem_drop hu')
       refine ⟨_, S', _, hrun w' (by simp only [if_true]; exact r1), T'.good ok ⟨b, _, T, fr, .agg (cellsSet cells off (vs.take (Nat.min ys.length len))), a1, r2, ?_, ?_, ?_, rfl, hones⟩, ?_, h⟩
       · rw [cellsSet_size]; exact a3
       · rw [← a4]
         show some (setRange cs off (elemCells' (ys.take len))).length = some cs.length
         simp only [setRange, List.length_append, List.length_take, List.length_drop, hun]
         congr 1; omega
       · refine .c (.agg _ _ ?_ hones)
         rw [hset]
         exact (b1.setRange hrel).imp fun _ _ _ h => h.mono E
       · exact .c (.int _ _)
end Go.Pv
namespace Go.Pv
open Go
section
variable {P : Program} {t : TypeId}
theorem fill_elems {S : St} {n : Nat} : ∀ {ps : List (Nat × PV)} {vs : List (Nat × Value)} {xs xs' : List CV} {cells : Array Value} {b : Bool} {H' : Hp}, Ok S → PartsR S ps vs → fillE n ps xs S.H = some (b, xs', H') → b = true →
   (∀ e ∈ xs, e.cl.length = n) → All2 (Vc S) (elemCells xs) cells.toList → (∀ u ∈ cells.toList, u.oneCell' = true) →
   ∃ S' cells', S'.H = H' ∧ Marked S S' ∧ Instr.fill (fun i => some (i * n, n)) cells vs = some cells' ∧ xs'.length = xs.length ∧ (∀ e ∈ xs', e.cl.length = n) ∧ All2 (Vc S') (elemCells xs') cells'.toList ∧ (∀ u ∈ cells'.toList, u.oneCell' = true)
 | [], vs, xs, xs', cells, b, H', ok, hp, h, hb, hk, hc, h1 => by
   cases hp
   simp [fillE] at h
   obtain ⟨_, rfl, rfl⟩ := h
   exact ⟨S, cells, rfl, .refl ok, rfl, rfl, hk, hc, h1⟩
 | (i, p) :: ps, vs, xs, xs', cells, b, H', ok, hp, h, hb, hk, hc, h1 => by
   cases hp with
   | cons h2 h3 =>
     rename_i q vs
     obtain ⟨j, v⟩ := q
     obtain ⟨e, hv⟩ := h2
     simp only at e hv; subst e
     simp only [fillE] at h
     split at h <;> first | (cases h; done) | skip
     rename_i x H1 hcl
     split at h <;> first | (cases h; done) | skip
     rename_i b' xs'' H2 hf
     split at h <;> first | (cases h; done) | skip
     rename_i hi
     cases h
     simp only [Bool.and_eq_true, beq_iff_eq] at hb
     obtain ⟨S1, e1, M1, c1⟩ := closeVal_ok ok hv hcl
     subst e1
     obtain ⟨d1, d2⟩ := c1.cells
     have hn : v.cells.size = n := by have := d1.length; simp at this; omega
     have hcl' := hc.length
     rw [flat_len hk] at hcl'
     have hin : i * n + n ≤ xs.length * n := by
       have : (i + 1) * n ≤ xs.length * n := Nat.mul_le_mul_right _ hi
       rw [Nat.add_mul] at this; omega
     have hl : i * n + n ≤ cells.size := by simp at hcl'; omega
     have hset := cellsSet_list v.cells.toList cells (i * n) (by simp; omega)
     have hk' : ∀ e ∈ xs.set i x, e.cl.length = n := by
       intro e he
       rcases List.mem_or_eq_of_mem_set he with he | rfl
       · exact hk e he
       · exact hb.1
     have hrel : All2 (Vc S1) (elemCells (xs.set i x)) (cellsSet cells (i * n) v.cells.toList).toList := by
       have hc1 := hc.imp (fun _ _ _ h => h.mono M1.good.ext)
       have : elemCells (xs.set i x) = setRange (elemCells xs) (i * n) x.cl := by
         rw [flat_set hi, flat_take i hk, flat_drop (i + 1) hk]
         simp only [setRange, hb.1]
         rw [show i * n + n = (i + 1) * n by rw [Nat.add_mul]; omega]
       rw [this, hset]
       exact hc1.setRange d1
     obtain ⟨S2, cells', e2, M2, f1, f2, f3, f4, f5⟩ := fill_elems (cells := cellsSet cells (i * n) v.cells.toList) M1.good.ok (h3.imp fun _ _ _ h => ⟨h.1, h.2.mono M1.good.ext⟩) hf hb.2 hk' hrel (by
       intro u hu
       rw [hset] at hu
       simp only [setRange, List.mem_append] at hu
       rcases hu with (hu | hu) | hu
       · exact h1 u (List.mem_of_mem_take hu)
       · exact d2 u hu
       · exact h1 u (List.mem_of_mem_drop hu))
     exact ⟨S2, cells', e2, M1.trans M2, by rw [fill_cons (off := i * n) (n := n) rfl hn hl]; exact f1, by rw [f2]; simp, f3, f4, f5⟩
theorem buildSlice_ok {S : St} {len : Nat} {ps : List (Nat × PV)} {vs : Array (Nat × Value)} {K : KV} {res : CV × List CV} (ok : Ok S) (hp : PartsR S ps vs.toList) (h : buildSlice' P t len ps S.H K = some res) : Does P (Instr.buildSlice t len vs) S K res := by
 unfold buildSlice' at h
 split at h <;> first | (cases h; done) | skip
 rename_i e hu
 split at h <;> first | (cases h; done) | skip
 rename_i z n hz hn
 split at h <;> first | (cases h; done) | skip
 rename_i hc
 obtain ⟨hle, hzn, hn0⟩ := hc
 split at h <;> first | (cases h; done) | skip
 rename_i b xs H1 hf
 obtain ⟨hb, h⟩ := bif_true h
 obtain ⟨zv, hz1, hz2⟩ := run_zero hz
 obtain ⟨z1, z2⟩ := (hz2 S).cells
 have hzs : zv.cells.size = n := by have := z1.length; simp at this; omega
 let cs : Array Value := (Array.range (len * n)).map (zv.cells[· % zv.cells.size]!)
 have hcsl : cs.toList = (List.replicate len zv.cells.toList).flatten := by
   apply List.ext_getElem?
   intro j
   rw [get_flatten (by simpa using hzs) hn0]
   simp only [cs, Array.getElem?_toList, Array.getElem?_map, Array.getElem?_range, hzs]
   split
   · have : j % n < zv.cells.size := by rw [hzs]; exact Nat.mod_lt _ hn0
     simp [this]
   · rfl
 obtain ⟨S1, cells', e1, M, f1, f2, f3, f4, f5⟩ := fill_elems (cells := cs) ok hp hf hb (fun x hx => by rw [List.eq_of_mem_replicate hx]; exact hzn) (by rw [hcsl]; exact All2.flat_rep z1 len) (by
   intro u hu
   rw [hcsl, List.mem_flatten] at hu
   obtain ⟨l', h1, h2⟩ := hu
   rw [List.eq_of_mem_replicate h1] at h2
   exact z2 u h2)
 subst e1
 have hxl : xs.length = len := by rw [f2]; simp
 have hcl : cells'.size = len * n := by have := f4.length; rw [flat_len f3, hxl] at this; simpa using this.symm
 obtain ⟨G, hv⟩ := new_row (T := e) (fr := (0, 0)) (cap := len) M.good.ok hn0 f3 f4 f5 (cs := cells') (fun j v hj => by simpa using hj) hcl (by omega) (unfrozen_none _)
 rw [hxl] at hv
 refine ⟨_, _, _, ?_, M.good.trans G, hv, h⟩
 simp only [Instr.buildSlice, Sem.run_bind, run_underlying hu, Result.andThen_ok, run_size hn]
 rw [if_neg (by show ¬ len * n > 2 ^ 24; omega)]
 by_cases h0 : len * n = 0
 · rw [if_pos h0]
   have hcs' : (Array.range (len * n)).map ((#[] : Array Value)[· % (#[] : Array Value).size]!) = cs := by simp [cs, h0]
   simp only [Sem.run_bind, Sem.run_pure, Result.andThen_ok, hcs', f1, newRow, run_newObj, M.w, St.push]
   rfl
 · rw [if_neg h0]
   have hcs' : (Array.range (len * n)).map (zv.cells[· % zv.cells.size]!) = cs := rfl
   simp only [Sem.run_bind, hz1, Sem.run_pure, Result.andThen_ok, hcs', f1, newRow, run_newObj, M.w, St.push]
   rfl
theorem u8_cells {S : St} : ∀ {xs : List CV} {vs : List Value}, All2 (Vc S) xs vs → xs.all isU8 = true → vs = (xs.map CV.toInt).map (Value.int .u8)
 | [], _, .nil, _ => rfl
 | x :: xs, _, .cons h1 h2, h => by
   simp only [List.all_cons, Bool.and_eq_true] at h
   have ih := u8_cells h2 h.2
   cases x <;> simp [isU8] at h
   rename_i k n
   cases k <;> simp at h
   cases h1
   simp [CV.toInt, ih]
theorem u8_flat : ∀ {xs : List CV}, xs.all isU8 = true → elemCells xs = xs
 | [], _ => rfl
 | x :: xs, h => by
   simp only [List.all_cons, Bool.and_eq_true] at h
   have ih := u8_flat h.2
   cases x <;> simp [isU8] at h
   show _ :: elemCells xs = _
   rw [ih]
theorem run_toStr {w : World} {src dst e : TypeId} {a : Addr} {cap : Nat} {ns : List Int} (hs : P.underlying src = some (.slice e)) (he : P.underlying e = some (.int .u8)) (hd : P.underlying dst = some .string)
   (hc : ∀ j v, (ns.map (Value.int .u8))[j]? = some v → w.cell? (a.add j) = some v) :
   (convert src dst (.slice (some a) ns.length cap)).run P w = .ok (.string ⟨(ns.map fun n => UInt8.ofNat n.toNat).toArray⟩) w := by
 have hl := run_loadCells_list (P := P) w a (ns.map (Value.int .u8)) hc
 rw [List.length_map] at hl
 rw [run_convert_bytes_string w src dst e _ ns.length cap hs he hd, run_bytesToString w a ns.length cap ns hl, foldl_push_bytes]
 congr 2
 simp [ByteArray.empty, ByteArray.emptyWithCapacity]
 rfl
theorem convert_ok {S : St} {src dst : TypeId} {p : PV} {v : Value} {K : KV} {res : CV × List CV} (ok : Ok S) (hv : Vr S p v) (h : convert' P src dst p S.H K = some res) : Does P (convert src dst v) S K res := by
 unfold convert' at h
 split at h <;> first | (cases h; done) | skip
 · rename_i k0 k k1 n hs hd
   obtain rfl := int_of hv
   exact .same ok (by simp [convert, run_underlying hs, run_underlying hd, Conv.intToInt]) (Vi ..) h
 · rename_i s hs hd
   obtain rfl := str_of hv
   exact .same ok (by simp [convert, run_underlying hs, run_underlying hd]) (Vs ..) h
 · rename_i e s hs hd
   split at h <;> first | (cases h; done) | skip
   rename_i he
   obtain rfl := str_of hv
   have D := drawn_good ok (S.w.drawn + 1)
   have hge := grownCap_ge S.w s.size 0 e
   have hrun := Lib.run_convert_string_bytes (P := P) S.w src dst e s hs hd he
   have hsz : (Lib.bytesCells S.w e s).size = grownCap S.w s.size 0 e := by
     simp [Lib.bytesCells]
     have : s.data.size = s.size := rfl
     omega
   let S' : St := { w := Lib.bytesWorld S.w e s, ι := fun r => if r = S.H.length then some S.w.heap.size else S.ι r, cp := fun r => if r = S.H.length then grownCap S.w s.size 0 e else S.cp r, H := S.H ++ [.row (strBytes s) 1 0 false], F := S.F, n0 := S.n0, ng := S.ng }
   have hold : ∀ b, b < S.w.heap.size → S'.w.heap[b]? = S.w.heap[b]? := fun b hb => Lib.bytesWorld_at_old S.w e s b hb
   have hnew := Lib.bytesWorld_at_new S.w e s
   let S0 : St := (S.drawn (S.w.drawn + 1)).push (.cells (Lib.bytesCells S.w e s) e ((Lib.bytesCells S.w e s).size, (Lib.bytesCells S.w e s).size + 1)) (.row (strBytes s) 1 0 false) (grownCap S.w s.size 0 e)
   have hw : S0.w = S'.w := by
     show (S.w.drew.alloc _) = Lib.bytesWorld S.w e s
     have h1 : (Lib.bytesWorld S.w e s).heap = (S.w.drew.alloc (.cells (Lib.bytesCells S.w e s) e ((Lib.bytesCells S.w e s).size, (Lib.bytesCells S.w e s).size + 1))).heap := by
       apply Array.ext_getElem?
       intro i
       rcases Nat.lt_trichotomy i S.w.heap.size with h | h | h
       · rw [hold i h]; exact (heap_alloc_lt (w := S.w.drew) h).symm
       · subst h; rw [hnew]; exact (heap_alloc_new (w := S.w.drew)).symm
       · rw [Array.getElem?_eq_none (by rw [Lib.bytesWorld_size]; omega), Array.getElem?_eq_none (by rw [World.size_alloc]; show S.w.heap.size + 1 ≤ i; omega)]
     have h2 : Lib.bytesWorld S.w e s = { (S.w.drew.alloc (.cells (Lib.bytesCells S.w e s) e ((Lib.bytesCells S.w e s).size, (Lib.bytesCells S.w e s).size + 1))) with heap := (Lib.bytesWorld S.w e s).heap } := by
       simp [Lib.bytesWorld, World.freeze, World.alloc, World.drew, -World.alloc_eq, -World.drew_eq]
     rw [h2, h1]
   obtain ⟨G, hp⟩ := new_row (S := S.drawn (S.w.drawn + 1)) (T := e) (fr := ((Lib.bytesCells S.w e s).size, (Lib.bytesCells S.w e s).size + 1)) (cap := grownCap S.w s.size 0 e) D.ok (k := 1) (by omega) (xs := strBytes s) (fun x hx => by
       simp only [strBytes, List.mem_map] at hx
       obtain ⟨b, _, rfl⟩ := hx; rfl) (by rw [bytes_flat]; exact bytes_rel _ s) (by
       intro u hu
       simp only [List.mem_map] at hu
       obtain ⟨b, _, rfl⟩ := hu; rfl) (cs := Lib.bytesCells S.w e s) (fun j u hj => by
       have hjl := (List.getElem?_eq_some_iff.1 hj).1
       simp only [List.length_map] at hjl
       simp only [Lib.bytesCells]
       rw [Array.getElem?_append_left (by simpa using hjl)]
       simpa using hj) (by rw [hsz]; omega) (by rw [bytes_len]; exact hge) (fun i hi => by simp; omega)
   rw [bytes_len] at hp
   refine ⟨_, S0, .rw S.H.length 0, ?_, D.trans G, hp, h⟩
   rw [hrun, hw]; rfl
 · rename_i t0 r o hs hd
   split at h <;> first | (cases h; done) | skip
   rename_i e k sz hr hsz
   split at h <;> first | (cases h; done) | skip
   rename_i hlt
   have hv0 := hv
   cases hv with
   | bptr r o v o1 hl hb =>
     obtain ⟨b, hb1, rfl⟩ := hb _ _ hr
     obtain ⟨b', cs, T, fr, ve, q1, q2, q3, q4, q5, q6, q7⟩ := ok.ob r _ hr
     rw [hb1] at q1; cases q1
     have hcs : cs.size = ksz k := by rw [← q6]; exact q5.size q4
     obtain ⟨i, hi⟩ : ∃ i, P.info? t0 = some i := by
       unfold tySize at hsz
       cases hi : P.info? t0 with
       | none => rw [hi] at hsz; simp at hsz
       | some i => exact ⟨i, rfl⟩
     have hi0 : i.size ≠ 0 := by
       unfold tySize at hsz
       rw [hi] at hsz
       simp at hsz
       omega
     exact .same ok (Lib.run_to_unsafe S.w (cells := cs.size) (e := T) ⟨b, o, none⟩ hs hd hi hi0 (by simp [World.shape?, q2]) (by rw [hcs]; exact hlt)) hv0 h
 · rename_i u r hs hd
   split at h <;> first | (cases h; done) | skip
   rename_i e k hr
   split at h <;> first | (cases h; done) | skip
   rename_i hc
   obtain ⟨hk, hsm, hlies⟩ := hc
   have hv0 := hv
   cases hv with
   | bptr r o v o1 hl hb =>
     obtain ⟨b, hb1, rfl⟩ := hb _ _ hr
     obtain ⟨b', cs, T, fr, ve, q1, q2, q3, q4, q5, q6, q7⟩ := ok.ob r _ hr
     rw [hb1] at q1; cases q1
     have hcs : cs.size = ksz k := by rw [← q6]; exact q5.size q4
     have hT : T = u := by
       rcases q3.2 with h2 | h2
       · rw [hk] at h2; cases h2
       · exact Nat.succ.inj (h2.trans hk)
     subst hT
     obtain ⟨i, hi⟩ := Option.isSome_iff_exists.1 hsm
     exact .same ok (Lib.run_from_unsafe S.w (cells := cs.size) (e := T) ⟨b, 0, none⟩ hs hd hi (by simp [World.shape?, q2]) (by rw [hcs]; exact hlies)) hv0 h
 · rename_i e hs hd
   split at h <;> first | (cases h; done) | skip
   rename_i xs he hel
   obtain ⟨hall, h⟩ := bif_true h
   obtain ⟨base, cap, vs, rfl, h1, h2, h3, h4, h5⟩ := elemsOf_ok ok hv hel
   rw [u8_flat hall] at h2
   have hvs := u8_cells h2 hall
   refine .same ok (v := .string (bytesOf xs)) ?_ (Vs ..) h
   cases base with
   | none =>
     have := h5 rfl
     subst this
     rw [run_convert_bytes_string S.w src dst e _ _ _ hs he hd]
     simp [Conv.bytesToString, bytesOf]
     rfl
   | some a =>
     have := run_toStr (P := P) (w := S.w) (a := a) (cap := cap) (ns := xs.map CV.toInt) hs he hd (fun j u hj => h4 a rfl j u (by rw [hvs]; exact hj))
     rw [List.length_map] at this
     rw [this]
     simp [bytesOf, Function.comp_def]
theorem sliceData_ok {S : St} {ts : Array TypeId} {ty : TypeId} {x : PV} {v : Value} {K : KV} {res : CV × List CV} (ok : Ok S) (hv : Vr S x v) (h : sliceData' x S.H K = some res) : Does P (Builtin.unsafeSliceData_ ts ty #[v]) S K res := by
 unfold sliceData' at h
 split at h <;> first | (cases h; done) | skip
 · cases c_of hv
   exact .same ok (v := .pointer none) rfl (.c .nilptr) h
 · rename_i r g
   split at h <;> first | (cases h; done) | skip
   rename_i xs k s hr0
   have hr := getRow_some hr0
   obtain ⟨hne, h⟩ := bif_true h
   cases hv with
   | rw r g v o1 hg hrow =>
     obtain ⟨h0, hk, hb⟩ := ok.ob r _ hr
     rcases hb with ⟨_, rfl, _⟩ | ⟨b, cs, T, fr, vs, q1, q2, q3, q4, q5, _⟩
     · simp at hne
     · have hx : 0 < xs.length := by cases xs with | nil => simp at hne | cons _ _ => simp
       rcases hrow _ _ _ hr with ⟨b', a, e1, rfl, e2⟩ | ⟨e1, _⟩
       · rw [q1] at e1; cases e1
         have ha := e2 (by omega)
         have hc : S.cp r - 0 ≠ 0 := by omega
         refine .same ok (v := .pointer (some a)) (Lib.run_unsafeSliceData_row S.w ts ty a _ _ hc) (.rptr _ _ _ _ _ rfl hg fun xs' k' s' hr' => ?_) h
         exact ⟨b, q1, by rw [ha]; simp⟩
       · rw [q1] at e1; cases e1
theorem freeze_other {w : World} {a : Addr} {n b : Nat} (h : b ≠ a.block) : (w.freeze a n).heap[b]? = w.heap[b]? := by
 unfold World.freeze
 split
 · rfl
 · simp only [Array.getElem?_modify, if_neg (show ¬ a.block = b from fun e => h e.symm)]
theorem freeze_size {w : World} {a : Addr} {n : Nat} : (w.freeze a n).heap.size = w.heap.size := by
 unfold World.freeze
 split
 · rfl
 · simp
theorem freeze_same {w : World} {a : Addr} {n : Nat} : (w.freeze a n).os = w.os ∧ (w.freeze a n).tape = w.tape ∧ (w.freeze a n).output = w.output := by
 unfold World.freeze
 split <;> exact ⟨rfl, rfl, rfl⟩
theorem freeze_cell {w : World} {a c : Addr} {n : Nat} : (w.freeze a n).cell? c = w.cell? c := by
 by_cases hn : n = 0
 · unfold World.freeze; rw [if_pos hn]
 by_cases h : c.block = a.block
 · unfold World.freeze World.cell?
   rw [if_neg hn]
   simp only [Array.getElem?_modify, if_pos h.symm]
   cases hc : w.heap[c.block]? with
   | none => rfl
   | some o => cases o <;> rfl
 · unfold World.cell?
   rw [freeze_other h]
theorem run_loadInts {w : World} : ∀ (ns : List Int) (a : Addr) (acc : ByteArray), (∀ j v, (ns.map (Value.int .u8))[j]? = some v → w.cell? (a.add j) = some v) →
   (loadBytes a acc ns.length).run P w = .ok ⟨acc.data ++ (ns.map fun n => UInt8.ofNat n.toNat).toArray⟩ w
 | [], a, acc, _ => by simp [loadBytes]
 | x :: l, a, acc, h => by
   have h0 : w.cell? a = some (.int .u8 x) := by
     have := h 0 _ rfl
     simpa [Addr.add] using this
   have ih := run_loadInts l (a.add 1) (acc.push (UInt8.ofNat x.toNat)) (fun j y hy => by
     have := h (j + 1) y (by simpa using hy)
     have e : (a.add 1).add j = a.add (j + 1) := by
       unfold Addr.add
       by_cases hj : j = 0
       · subst hj; simp
       · simp [hj]; omega
     rw [e]; exact this)
   have hx : (x.toNat).toUInt8 = UInt8.ofNat x.toNat := rfl
   simp only [List.length_cons, loadBytes, Sem.run_bind, run_load, h0, Result.andThen, hx]
   rw [ih]
   congr 1
   apply ByteArray.ext
   simp [ByteArray.push]
theorem run_unsafeString {w : World} {pt it ty e : TypeId} (hp : P.underlying pt = some (.pointer e)) (hc : P.cellsOf e = 1) {g cells : Nat} (hsh : w.shape? g = some (e, cells)) {ns : List Int} (h0 : 0 < ns.length) (hn : ns.length ≤ cells) (h63 : ns.length ≤ 9223372036854775807) {k : IntKind}
   (hcell : ∀ j v, (ns.map (Value.int .u8))[j]? = some v → w.cell? ((⟨g, 0, none⟩ : Addr).add j) = some v) :
   (Builtin.unsafeString_ #[pt, it] ty #[.pointer (some ⟨g, 0, none⟩), .int k ns.length]).run P w = .ok (.string ⟨(ns.map fun n => UInt8.ofNat n.toNat).toArray⟩) (w.freeze ⟨g, 0, none⟩ ns.length) := by
 have hl : ns.length ≠ 0 := by omega
 have hlb := run_loadInts (P := P) ns ⟨g, 0, none⟩ .empty hcell
 have hlies := Lib.liesAt_bytes (P := P) hc (cells / P.cellsOf e) ns.length (by rw [hc]; simpa using hn)
 have h63' : ¬ (9223372036854775807 : Int) < (ns.length : Int) := by omega
 have hdef : Builtin.unsafeString_ #[pt, it] ty #[.pointer (some ⟨g, 0, none⟩), .int k ns.length] =
     (do
       let n ← asInt (.int k ns.length)
       if n < 0 then runtimePanic (.error "unsafe.String: len out of range")
       if n > IntKind.i64.max then unsupported (.unsafePointer "String: a length above the largest int")
       if n = 0 then pure (.string .empty)
       else if ← variablesAt ⟨g, 0, none⟩ (← elemOf pt) n.toNat then do
         let s ← loadBytes ⟨g, 0, none⟩ .empty n.toNat
         freeze ⟨g, 0, none⟩ n.toNat
         pure (.string s)
       else unsupported (.unsafePointer "String: not so many bytes at ptr")) := rfl
 rw [hdef]
 have hmax : IntKind.i64.max = 9223372036854775807 := rfl
 have hneg : ¬ (ns.length : Int) < 0 := by omega
 simp [asInt, asIntOf, hmax, h63', hneg, hl, variablesAt, hsh, elemOf, run_underlying hp, hlies, hlb]
theorem run_unsafeString_zero {w : World} {pt it ty : TypeId} {k : IntKind} : (Builtin.unsafeString_ #[pt, it] ty #[.pointer none, .int k 0]).run P w = .ok (.string .empty) w := by
 have hmax : IntKind.i64.max = 9223372036854775807 := rfl
 have hdef : Builtin.unsafeString_ #[pt, it] ty #[.pointer none, .int k 0] =
     (do
       let n ← asInt (.int k 0)
       if n < 0 then runtimePanic (.error "unsafe.String: len out of range")
       if n > IntKind.i64.max then unsupported (.unsafePointer "String: a length above the largest int")
       if n = 0 then pure (.string .empty)
       else runtimePanic (.error "unsafe.String: ptr is nil and len is not zero")) := rfl
 rw [hdef]
 simp [asInt, asIntOf, hmax]
theorem unsafeString_ok {S : St} {pt it ty : TypeId} {x n : PV} {v u : Value} {K : KV} {res : CV × List CV} (ok : Ok S) (hv : Vr S x v) (hu : Vr S n u) (h : unsafeString' P pt x n S.H K = some res) : Does P (Builtin.unsafeString_ #[pt, it] ty #[v, u]) S K res := by
 unfold unsafeString' at h
 split at h <;> first | (cases h; done) | skip
 · rename_i k n
   obtain ⟨h0, h⟩ := bif_true h
   have h0 : n = 0 := of_decide_eq_true h0
   subst h0
   cases c_of hv
   cases c_of hu
   exact .same ok (v := .string .empty) run_unsafeString_zero (Vs ..) h
 · rename_i r g k n
   split at h <;> first | (cases h; done) | skip
   rename_i e xs s hp hr0
   have hr := getRow_some hr0
   split at h <;> first | (cases h; done) | skip
   rename_i hc
   obtain ⟨hg, hcell⟩ := hc
   obtain ⟨p1, h⟩ := bif_true h
   obtain ⟨p2, h⟩ := bif_true h
   obtain ⟨p3, h⟩ := bif_true h
   obtain ⟨p4, h⟩ := bif_true h
   have p1 : 0 < n := of_decide_eq_true p1
   have p2 : n ≤ (xs.length : Int) := of_decide_eq_true p2
   have p3 : n ≤ 9223372036854775807 := of_decide_eq_true p3
   cases c_of hu
   have hlt : r < S.H.length := (List.getElem?_eq_some_iff.1 hr).1
   obtain ⟨h0, hk, hb⟩ := ok.ob r _ hr
   rcases hb with ⟨_, rfl, _⟩ | ⟨b, cs, T, fr, vs, q1, q2, q3, q4, q5, q6, q7, q8⟩
   · simp at p2; omega
   have hT : T = e := by
     rcases q3.2 with h2 | h2
     · rw [hg] at h2; cases h2
     · exact Nat.succ.inj (h2.trans hg)
   subst hT
   cases hv with
   | rptr _ _ _ _ v o1 hgen hptr =>
     obtain ⟨b', hb', rfl⟩ := hptr _ _ _ hr
     rw [q1] at hb'; cases hb'
     have hlen : ((xs.take n.toNat).map CV.toInt).length = n.toNat := by simp; omega
     have hk' : ∀ e ∈ xs.take n.toNat, e.cl.length = 1 := fun e he => hk e (List.mem_of_mem_take he)
     have hfl : elemCells (xs.take n.toNat) = (elemCells xs).take n.toNat := by have := flat_take n.toNat hk; rwa [Nat.mul_one] at this
     have hvs := u8_cells (by have := q6.take n.toNat; rw [← hfl, u8_flat p4] at this; exact this) p4
     have hcells : ∀ j v, (((xs.take n.toNat).map CV.toInt).map (Value.int .u8))[j]? = some v → S.w.cell? ((⟨b, 0, none⟩ : Addr).add j) = some v := by
       intro j v hj
       rw [← hvs, List.getElem?_take] at hj
       split at hj <;> first | (cases hj; done) | skip
       rw [add_at, heap_cell q2]
       simpa using q7 j v hj
     have hrun := run_unsafeString (P := P) (w := S.w) (it := it) (ty := ty) (k := k) hp hcell (g := b) (cells := cs.size) (by simp [World.shape?, q2]) (ns := (xs.take n.toNat).map CV.toInt) (by rw [hlen]; omega) (by rw [hlen, q4]; omega) (by rw [hlen]; omega) hcells
     rw [hlen] at hrun
     rw [show ((n.toNat : Nat) : Int) = n by omega] at hrun
     let S' : St := { S with w := S.w.freeze ⟨b, 0, none⟩ n.toNat, ι := fun r' => if r' = r then none else S.ι r', H := S.H.set r .dead }
     have T' : Turn S S' r .dead := by
       refine ⟨hlt, rfl, fun r' hr' => by simp [S', hr'], fun _ _ => rfl, .inr (.inl (by simp [S'])), freeze_same.1, freeze_same.2.1, freeze_same.2.2, by show _ ≤ (S.w.freeze _ _).heap.size; rw [freeze_size]; exact Nat.le_refl _, fun b0 _ hb0 => freeze_other (fun e => hb0 (by rw [e]; exact q1)), rfl, rfl, rfl, ?_, ?_, ?_, ?_⟩
       · intro b0 off v hb0 _ hc
         exact ⟨fun he => by simp [S'] at he, by show (S.w.freeze _ _).cell? _ = _; rw [freeze_cell]; exact hc⟩
       · intro e1 k1 he; cases he
       · intro s p he; cases he
       · intro xs k g s he; cases he
     have G := T'.good ok (by show (if r = r then none else S.ι r) = none; rw [if_pos rfl])
     refine ⟨.string (bytesOf (xs.take n.toNat)), S', _, ?_, G, Vs .., h⟩
     have e0 : (⟨b, 0 * 1 + 0, none⟩ : Addr) = ⟨b, 0, none⟩ := rfl
     rw [e0, hrun]
     simp [bytesOf, Function.comp_def, S']
theorem range_ok {S : St} {s : ByteArray} {K : KV} {res : CV × List CV} (ok : Ok S) (hu : P.underlying t = some .string) (h : K (.iter S.H.length) (S.H ++ [.iter s 0]) = some res) : Does P (Instr.range t (.string s)) S K res := by
 have G := push_good ok (.stringIter s 0) (.iter s 0) 0 ⟨S.w.heap.size, by simp [St.push], heap_alloc_new⟩
 refine ⟨_, _, .iter S.H.length, ?_, G, .iter _ _ rfl (by simp [St.push]) fun _ _ _ => ⟨S.w.heap.size, by simp [St.push], rfl⟩, h⟩
 simp [Instr.range, run_underlying hu, St.push]
theorem next_ok {S : St} {r pos : Nat} {ty : TypeId} {s : ByteArray} {v : Value} {K : KV} {res : CV × List CV} (ok : Ok S) (hv : Vr S (.iter r) v) (hr : S.H[r]? = some (.iter s pos))
   (h : bif' (decide (pos < s.size)) (K (.tup [.c (.bool true), .c (.int .i64 pos), .c (.int .i32 (Utf8.decode s pos).1)]) (S.H.set r (.iter s (pos + (Utf8.decode s pos).2)))) (K (.tup [.c (.bool false)]) S.H) = some res) :
   Does P (Instr.next v true ty) S K res := by
 have hlt : r < S.H.length := (List.getElem?_eq_some_iff.1 hr).1
 obtain ⟨b, h1, h2⟩ := ok.ob r _ hr
 cases hv with
 | iter r v h1' hlt' hb =>
   obtain ⟨b', hb1, rfl⟩ := hb _ _ hr
   rw [h1] at hb1; cases hb1
   have hget : (getObj b).run P S.w = .ok (.stringIter s pos) S.w := by simp [getObj, Sem.run, h2]
   rcases bif_some h with ⟨h0, h⟩ | ⟨h0, h⟩
   · have h0 : pos < s.size := by simpa using h0
     let w' : World := { S.w with heap := S.w.heap.setIfInBounds b (.stringIter s (pos + (Utf8.decode s pos).2)) }
     have hset : (setObj b (.stringIter s (pos + (Utf8.decode s pos).2))).run P S.w = .ok () w' := by simp [setObj, Sem.run, h2, w']
     have hbl : b < S.w.heap.size := ok.old r b h1
     let S' : St := { S with w := w', H := S.H.set r (.iter s (pos + (Utf8.decode s pos).2)) }
     have hoth : ∀ b', b' ≠ b → w'.heap[b']? = S.w.heap[b']? := fun b' hb' => by
       show (S.w.heap.setIfInBounds b _)[b']? = _
       rw [Array.getElem?_setIfInBounds_ne (fun e => hb' e.symm)]
     have T' : Turn S S' r (.iter s (pos + (Utf8.decode s pos).2)) := by
       refine ⟨hlt, rfl, fun _ _ => rfl, fun _ _ => rfl, .inl rfl, rfl, rfl, rfl, by simp [S', w'], fun b' _ hb' => hoth b' (fun e => hb' (by rw [e]; exact h1)), rfl, rfl, rfl, ?_, ?_, ?_, ?_⟩
       · intro b' off' v' _ hs
         obtain ⟨xs, k', g, hrow, _⟩ := hs
         rw [hr] at hrow; cases hrow
       · intro e1 k1 he; cases he
       · intro s p he; exact ⟨_, _, hr, rfl⟩
       · intro xs k g s he; cases he
     have G := T'.good ok ⟨b, h1, by show (S.w.heap.setIfInBounds b _)[b]? = _; simp [hbl]⟩
     refine ⟨.tuple #[.bool true, .int .i64 pos, .int .i32 (Utf8.decode s pos).1], S', _, ?_, G, .tup _ _ (.cons (Vb ..) (.cons (Vi ..) (.cons (Vi ..) .nil))), h⟩
     simp only [Instr.next, Sem.run_bind, hget, Result.andThen_ok]
     rw [if_pos h0]
     simp only [Sem.run_bind, hset, Result.andThen_ok, Sem.run_pure, goInt]
     rfl
   · have h0 : ¬ pos < s.size := by simpa using h0
     refine .same ok (v := .tuple #[.bool false]) ?_ (.tup _ _ (.cons (Vb ..) .nil)) h
     simp only [Instr.next, Sem.run_bind, hget, Result.andThen_ok]
     rw [if_neg h0]; rfl
end
end Go.Pv
namespace Go.Pv
open Go
def Killed (H : Hp) (used : List Nat) (Hd : Hp) : Prop := Hd.length = H.length ∧ ∀ i : Nat, Hd[i]? = if i ∈ used then (H[i]?.map fun _ => AO.dead) else H[i]?
theorem Killed.refl (H : Hp) : Killed H [] H := ⟨rfl, fun i => by simp⟩
theorem Killed.live {H Hd : Hp} {used : List Nat} (h : Killed H used Hd) {r : Nat} {o : AO} (hr : Hd[r]? = some o) (ho : o ≠ .dead) : H[r]? = some o ∧ r ∉ used := by
 have := h.2 r
 rw [hr] at this
 split at this
 · rename_i hm
   cases hh : H[r]? with
   | none => rw [hh] at this; simp at this
   | some x => rw [hh] at this; simp at this; exact absurd this ho
 · rename_i hm; exact ⟨this.symm, hm⟩
theorem Killed.kill {H Hd : Hp} {used : List Nat} (h : Killed H used Hd) {r : Nat} (hr : r < H.length) : Killed H (used ++ [r]) (Hd.set r .dead) := by
 refine ⟨by simp [h.1], fun i => ?_⟩
 by_cases e : i = r
 · subst e
   rw [set_get_self (by rw [h.1]; exact hr), if_pos (by simp)]
   simp [List.getElem?_eq_getElem hr]
 · rw [set_get_ne e, h.2 i]
   have : (i ∈ used ++ [r]) ↔ i ∈ used := by simp [e]
   simp only [this]
theorem Killed.set {H Hd : Hp} {used : List Nat} (h : Killed H used Hd) {r : Nat} {o : AO} (hu : r ∉ used) : Killed (H.set r o) used (Hd.set r o) := by
 refine ⟨by simp [h.1], fun i => ?_⟩
 by_cases e : i = r
 · subst e
   rw [if_neg hu]
   by_cases hl : i < H.length
   · rw [set_get_self (by rw [h.1]; exact hl), set_get_self hl]
   · rw [List.getElem?_eq_none (by simp [h.1]; omega), List.getElem?_eq_none (by simp; omega)]
 · rw [set_get_ne e, set_get_ne e, h.2 i]
inductive CellR (S : St) : CV → Value → List Nat → Prop where
 | data {x : CV} {v : Value} : Vc S x v → CellR S x v []
 | own {r k g : Nat} {xs : List CV} {v : Value} : S.H[r]? = some (.row xs k g false) → RowV S r 0 xs.length k v → v.oneCell' = true → CellR S (.sl true false k xs) v [r]
inductive CellsR (S : St) : List CV → List Value → List Nat → Prop where
 | nil : CellsR S [] [] []
 | cons {x xs v vs u us} : CellR S x v u → CellsR S xs vs us → CellsR S (x :: xs) (v :: vs) (u ++ us)
inductive ValR (S : St) : CV → Value → List Nat → Prop where
 | cell {x v u} : CellR S x v u → ValR S x v u
 | agg {xs : List CV} {vs : Array Value} {u : List Nat} : CellsR S xs vs.toList u → (∀ v ∈ vs.toList, v.oneCell' = true) → ValR S (.aggO xs) (.agg vs) u
inductive ResR (S : St) : CV → Value → List Nat → Prop where
 | val {x v u} : ValR S x v u → ResR S x v u
 | box {x : CV} {ve : Value} {u : List Nat} {r k b : Nat} {e : PV} {T : TypeId} {fr : Nat × Nat} : S.H[r]? = some (.box e k) → S.ι r = some b → S.w.heap[b]? = some (.cells ve.cells T fr) → bOk T fr ve.cells.size k → ve.cells.size = ksz k → (∀ v ∈ ve.cells.toList, v.oneCell' = true) → ValR S x ve u → ResR S (.boxv k x) (.pointer (some ⟨b, 0, none⟩)) (r :: u)
inductive TupR (S : St) : List CV → List Value → List Nat → Prop where
 | nil : TupR S [] [] []
 | cons {x xs v vs u us} : ResR S x v u → TupR S xs vs us → TupR S (x :: xs) (v :: vs) (u ++ us)
inductive AllR (S : St) : CV → Value → List Nat → Prop where
 | res {x v u} : ResR S x v u → AllR S x v u
 | tup {xs : List CV} {vs : Array Value} {u : List Nat} : TupR S xs vs.toList u → AllR S (.tup xs) (.tuple vs) u
theorem closeCell_killed {H Hd Hd' : Hp} {used : List Nat} {p : PV} {x : CV} (k : Killed H used Hd) (h : closeCell p Hd = some (x, Hd')) : ∃ H', closeCell p H = some (x, H') ∧ Killed H' used Hd' := by
 have row : ∀ {r g : Nat} {xs : List CV} {n : Nat} {s : Bool}, getRow Hd r g = some (xs, n, s) → getRow H r g = some (xs, n, s) ∧ Killed (sealRow H r) used (sealRow Hd r) := by
   intro r g xs n s hr0
   have hr := getRow_some hr0
   obtain ⟨h1, h2⟩ := k.live hr (by simp)
   refine ⟨by simp [getRow, h1], ?_⟩
   rw [sealRow_eq h1, sealRow_eq hr]
   exact k.set h2
 unfold closeCell at h
 split at h <;> first | (cases h; done) | skip
 · rename_i y
   split at h <;> first | (cases h; done) | skip
   rename_i hna
   cases h
   refine ⟨H, ?_, k⟩
   cases x <;> first | rfl | exact (hna _ rfl).elim
 · split at h <;> first | (cases h; done) | skip
   rename_i xs n s hr0
   cases h
   obtain ⟨h1, h2⟩ := row hr0
   exact ⟨_, by simp [closeCell, h1], h2⟩
 · split at h <;> first | (cases h; done) | skip
   rename_i xs n s hr0
   cases h
   obtain ⟨h1, h2⟩ := row hr0
   exact ⟨_, by simp [closeCell, h1], h2⟩
 · cases h
   exact ⟨H, rfl, k⟩
theorem CellR.mono {S S' : St} (M : Marked S S') {used : List Nat} {x : CV} {v : Value} {u : List Nat} (h : CellR S x v u) (hk : ∀ r, r ∈ u → S'.H[r]? = S.H[r]?) : CellR S' x v u := by
 cases h with
 | data h => exact .data (h.mono M.good.ext)
 | own h1 h2 h3 => exact .own (by rw [hk _ (by simp)]; exact h1) (h2.same (by rw [M.ι]) (by rw [M.cp])) h3
theorem CellsR.mono {S S' : St} (M : Marked S S') {x : List CV} {v : List Value} {u : List Nat} (h : CellsR S x v u) (hk : ∀ r, r ∈ u → S'.H[r]? = S.H[r]?) : CellsR S' x v u := by
 induction h with
 | nil => exact .nil
 | cons h1 h2 ih => exact .cons (h1.mono (used := []) M fun r hr => hk r (by simp [hr])) (ih fun r hr => hk r (by simp [hr]))
theorem ValR.mono {S S' : St} (M : Marked S S') {x : CV} {v : Value} {u : List Nat} (h : ValR S x v u) (hk : ∀ r, r ∈ u → S'.H[r]? = S.H[r]?) : ValR S' x v u := by
 cases h with
 | cell h => exact .cell (h.mono (used := []) M hk)
 | agg h h1 => exact .agg (h.mono M hk) h1
theorem ResR.mono {S S' : St} (M : Marked S S') {x : CV} {v : Value} {u : List Nat} (h : ResR S x v u) (hk : ∀ r, r ∈ u → S'.H[r]? = S.H[r]?) : ResR S' x v u := by
 cases h with
 | val h => exact .val (h.mono M hk)
 | box h1 h2 h3 h4 h5 h6 h7 => exact .box (by rw [hk _ (by simp)]; exact h1) (by rw [M.ι]; exact h2) (by rw [M.w]; exact h3) h4 h5 h6 (h7.mono M fun r hr => hk r (by simp [hr]))
theorem TupR.mono {S S' : St} (M : Marked S S') {x : List CV} {v : List Value} {u : List Nat} (h : TupR S x v u) (hk : ∀ r, r ∈ u → S'.H[r]? = S.H[r]?) : TupR S' x v u := by
 induction h with
 | nil => exact .nil
 | cons h1 h2 ih => exact .cons (h1.mono M fun r hr => hk r (by simp [hr])) (ih fun r hr => hk r (by simp [hr]))
structure Own (S S' : St) (used : List Nat) (Hd' : Hp) (u : List Nat) : Prop where
 m : Marked S S'
 k : Killed S'.H (used ++ u) Hd'
 keep : ∀ r, r ∈ used → S'.H[r]? = S.H[r]?
 fresh : ∀ r, r ∈ u → r ∉ used
 nodup : u.Nodup
 len : S'.H.length = S.H.length
theorem Marked.len {S S' : St} (h : Marked S S') (h' : Marked S S') : S.H.length ≤ S'.H.length := h.good.ext.len
theorem sealRow_len (H : Hp) (r : Nat) : (sealRow H r).length = H.length := by
 unfold sealRow; split <;> simp
theorem closeCell_len {p : PV} {H H' : Hp} {x : CV} (h : closeCell p H = some (x, H')) : H'.length = H.length := by
 unfold closeCell at h
 split at h <;> first | (cases h; done) | skip
 · split at h <;> first | (cases h; done) | skip
   cases h; rfl
 · split at h <;> first | (cases h; done) | skip
   cases h; exact sealRow_len _ _
 · split at h <;> first | (cases h; done) | skip
   cases h; exact sealRow_len _ _
 · cases h; rfl
theorem closeCell_keep {p : PV} {H H' Hd Hd' : Hp} {used : List Nat} {x : CV} (k : Killed H used Hd) (h : closeCell p Hd = some (x, Hd')) (h' : closeCell p H = some (x, H')) : ∀ r, r ∈ used → H'[r]? = H[r]? := by
 have row : ∀ {r g : Nat} {xs : List CV} {n : Nat} {s : Bool}, getRow Hd r g = some (xs, n, s) → ∀ r', r' ∈ used → (sealRow H r)[r']? = H[r']? := by
   intro r g xs n s hr0 r' hr'
   obtain ⟨h1, h2⟩ := k.live (getRow_some hr0) (by simp)
   rw [sealRow_eq h1]
   exact set_get_ne (fun e => h2 (e ▸ hr'))
 unfold closeCell at h h'
 split at h <;> first | (cases h; done) | skip
 · rename_i y
   dsimp only at h'
   split at h <;> first | (cases h; done) | skip
   rename_i hna
   cases h
   split at h' <;> first | (cases h'; done) | skip
   cases h'; intro r _; rfl
 · dsimp only at h'
   split at h <;> first | (cases h; done) | skip
   rename_i xs n s hr0
   split at h' <;> first | (cases h'; done) | skip
   cases h'; exact row hr0
 · dsimp only at h'
   split at h <;> first | (cases h; done) | skip
   rename_i xs n s hr0
   split at h' <;> first | (cases h'; done) | skip
   cases h'; exact row hr0
 · cases h'; intro r _; rfl
theorem own_of_close {S : St} (ok : Ok S) {used : List Nat} {Hd Hd' : Hp} {p : PV} {v : Value} {x : CV} (k : Killed S.H used Hd) (hv : Vr S p v) (h : closeCell p Hd = some (x, Hd')) :
   ∃ S', Own S S' used Hd' [] ∧ Vc S' x v := by
 obtain ⟨H', h1, h2⟩ := closeCell_killed k h
 obtain ⟨S', e, M, c, _⟩ := closeCell_ok ok hv h1
 subst e
 exact ⟨S', ⟨M, by simpa using h2, closeCell_keep k h h1, by simp, by simp, closeCell_len h1⟩, c⟩
theorem ownCell_ok {S : St} (ok : Ok S) {used : List Nat} {Hd Hd' : Hp} {p : PV} {v : Value} {x : CV} (k : Killed S.H used Hd) (hv : Vr S p v) (h : ownCell p Hd = some (x, Hd')) :
   ∃ S' u, Own S S' used Hd' u ∧ CellR S' x v u := by
 unfold ownCell at h
 split at h
 · rename_i r g
   split at h <;> first | (cases h; done) | skip
   · rename_i xs n hr0
     cases h
     have hr := getRow_some hr0
     obtain ⟨h1, h2⟩ := k.live hr (by simp)
     cases hv with
     | rw r g v o1 hg hrow =>
       exact ⟨S, [r], ⟨.refl ok, k.kill (List.getElem?_eq_some_iff.1 h1).1, fun _ _ => rfl, by simpa using h2, by simp, rfl⟩, .own h1 (hrow _ _ _ h1) o1⟩
   · rename_i xs n hr0
     cases h
     have hr := getRow_some hr0
     obtain ⟨h1, h2⟩ := k.live hr (by simp)
     cases hv with
     | rw r g v o1 hg hrow =>
       refine ⟨S, [], ⟨.refl ok, by simpa using k, fun _ _ => rfl, by simp, by simp, rfl⟩, .data ?_⟩
       have := frozen_part ok (off := 0) (len := xs.length) h1 (by omega) (hrow _ _ _ h1)
       simpa using this
 · obtain ⟨S', o, c⟩ := own_of_close ok k hv h
   exact ⟨S', [], o, .data c⟩
theorem Own.trans {S S1 S2 : St} {used u1 u2 : List Nat} {H1 H2 : Hp} (h : Own S S1 used H1 u1) (h' : Own S1 S2 (used ++ u1) H2 u2) : Own S S2 used H2 (u1 ++ u2) where
 m := h.m.trans h'.m
 k := by rw [← List.append_assoc]; exact h'.k
 keep r hr := (h'.keep r (by simp [hr])).trans (h.keep r hr)
 fresh r hr := by
   rcases List.mem_append.1 hr with hr | hr
   · exact h.fresh r hr
   · intro hu; exact h'.fresh r hr (by simp [hu])
 nodup := by
   rw [List.nodup_append]
   refine ⟨h.nodup, h'.nodup, fun a ha b hb e => ?_⟩
   subst e; exact h'.fresh a hb (by simp [ha])
 len := h'.len.trans h.len
theorem ownCells_ok : ∀ {S : St} (ok : Ok S) {used : List Nat} {Hd Hd' : Hp} {ps : List PV} {vs : List Value} {xs : List CV} (k : Killed S.H used Hd) (hv : All2 (Vr S) ps vs) (h : ownCells ps Hd = some (xs, Hd')),
   ∃ S' u, Own S S' used Hd' u ∧ CellsR S' xs vs u
 | S, ok, used, Hd, Hd', [], vs, xs, k, hv, h => by
   cases hv; cases h
   exact ⟨S, [], ⟨.refl ok, by simpa using k, fun _ _ => rfl, by simp, by simp, rfl⟩, .nil⟩
 | S, ok, used, Hd, Hd', p :: ps, vs, xs, k, hv, h => by
   cases hv with
   | cons h1 h2 =>
     simp only [ownCells] at h
     split at h <;> first | (cases h; done) | skip
     rename_i x H1 hx
     split at h <;> first | (cases h; done) | skip
     rename_i xs' H2 hxs
     cases h
     obtain ⟨S1, u1, o1, c1⟩ := ownCell_ok ok k h1 hx
     obtain ⟨S2, u2, o2, c2⟩ := ownCells_ok o1.m.good.ok o1.k (h2.imp fun _ _ _ h => h.mono o1.m.good.ext) hxs
     exact ⟨S2, u1 ++ u2, o1.trans o2, .cons (c1.mono (used := []) o2.m fun r hr => o2.keep r (by simp [hr])) c2⟩
theorem ownVal_ok {S : St} (ok : Ok S) {used : List Nat} {Hd Hd' : Hp} {p : PV} {v : Value} {x : CV} (k : Killed S.H used Hd) (hv : Vr S p v) (h : ownVal p Hd = some (x, Hd')) :
   ∃ S' u, Own S S' used Hd' u ∧ ValR S' x v u := by
 unfold ownVal at h
 split at h
 · cases h
   exact ⟨S, [], ⟨.refl ok, by simpa using k, fun _ _ => rfl, by simp, by simp, rfl⟩, .cell (.data (c_of hv))⟩
 · split at h <;> first | (cases h; done) | skip
   rename_i vs' H1 hc
   cases h
   cases hv with
   | agg ps vs h1 h2 =>
     obtain ⟨S', u, o, c⟩ := ownCells_ok ok k h1 hc
     exact ⟨S', u, o, .agg c h2⟩
 · obtain ⟨S', u, o, c⟩ := ownCell_ok ok k hv h
   exact ⟨S', u, o, .cell c⟩
theorem ownRes_ok {S : St} (ok : Ok S) {used : List Nat} {Hd Hd' : Hp} {p : PV} {v : Value} {x : CV} (k : Killed S.H used Hd) (hv : Vr S p v) (h : ownRes p Hd = some (x, Hd')) :
   ∃ S' u, Own S S' used Hd' u ∧ ResR S' x v u := by
 unfold ownRes at h
 split at h
 · rename_i r
   split at h <;> first | (cases h; done) | skip
   rename_i e n hr
   split at h <;> first | (cases h; done) | skip
   rename_i y H1 hy
   cases h
   obtain ⟨h1, h2⟩ := k.live hr (by simp)
   obtain ⟨b, cs, T, fr, ve, q1, q2, q3, q4, q5, q6, q7⟩ := ok.ob r _ h1
   subst q6
   cases hv with
   | bptr r t v' o1 hlt hb =>
     obtain ⟨b', hb1, rfl⟩ := hb _ _ h1
     rw [q1] at hb1; cases hb1
     have hk1 := k.kill hlt
     obtain ⟨S', u, o, c⟩ := ownVal_ok ok hk1 q5 hy
     refine ⟨S', r :: u, ⟨o.m, by have := o.k; simpa using this, fun r' hr' => o.keep r' (by simp [hr']), ?_, ?_, o.len⟩, ?_⟩
     · intro r' hr'
       rcases List.mem_cons.1 hr' with rfl | hr'
       · exact h2
       · intro hu; exact o.fresh r' hr' (by simp [hu])
     · rw [List.nodup_cons]
       exact ⟨fun hr' => o.fresh r hr' (by simp), o.nodup⟩
     · exact .box (e := e) (T := T) (fr := fr) (by rw [o.keep r (by simp)]; exact h1) (by rw [o.m.ι]; exact q1) (by rw [o.m.w]; exact q2) q3 (q5.size q4) q7 c
 · obtain ⟨S', u, o, c⟩ := ownVal_ok ok k hv h
   exact ⟨S', u, o, .val c⟩
theorem ownTup_ok : ∀ {S : St} (ok : Ok S) {used : List Nat} {Hd Hd' : Hp} {ps : List PV} {vs : List Value} {xs : List CV} (k : Killed S.H used Hd) (hv : All2 (Vr S) ps vs) (h : ownTup ps Hd = some (xs, Hd')),
   ∃ S' u, Own S S' used Hd' u ∧ TupR S' xs vs u
 | S, ok, used, Hd, Hd', [], vs, xs, k, hv, h => by
   cases hv; cases h
   exact ⟨S, [], ⟨.refl ok, by simpa using k, fun _ _ => rfl, by simp, by simp, rfl⟩, .nil⟩
 | S, ok, used, Hd, Hd', p :: ps, vs, xs, k, hv, h => by
   cases hv with
   | cons h1 h2 =>
     simp only [ownTup] at h
     split at h <;> first | (cases h; done) | skip
     rename_i x H1 hx
     split at h <;> first | (cases h; done) | skip
     rename_i xs' H2 hxs
     cases h
     obtain ⟨S1, u1, o1, c1⟩ := ownRes_ok ok k h1 hx
     obtain ⟨S2, u2, o2, c2⟩ := ownTup_ok o1.m.good.ok o1.k (h2.imp fun _ _ _ h => h.mono o1.m.good.ext) hxs
     exact ⟨S2, u1 ++ u2, o1.trans o2, .cons (c1.mono o2.m fun r hr => o2.keep r (by simp [hr])) c2⟩
theorem ownAll_ok {S : St} (ok : Ok S) {used : List Nat} {Hd Hd' : Hp} {p : PV} {v : Value} {x : CV} (k : Killed S.H used Hd) (hv : Vr S p v) (h : ownAll p Hd = some (x, Hd')) :
   ∃ S' u, Own S S' used Hd' u ∧ AllR S' x v u := by
 unfold ownAll at h
 split at h
 · rename_i ps
   split at h <;> first | (cases h; done) | skip
   rename_i vs' H1 hc
   cases h
   cases hv with
   | tup ps vs h1 =>
     obtain ⟨S', u, o, c⟩ := ownTup_ok ok k h1 hc
     exact ⟨S', u, o, .tup c⟩
 · obtain ⟨S', u, o, c⟩ := ownRes_ok ok k hv h
   exact ⟨S', u, o, .res c⟩
end Go.Pv
namespace Go.Pv
open Go
structure Import (S Sd : St) (n : Nat) (used : List Nat) : Prop where
 w : Sd.w = S.w
 st : StExt S Sd
 map : ∀ (j r : Nat), used[j]? = some r → Sd.ι (n + j) = S.ι r ∧ Sd.cp (n + j) = S.cp r
def Agree (Hd H : Hp) : Prop := ∀ (i : Nat) (o : AO), H[i]? = some o → o ≠ .dead → Hd[i]? = some o
structure Took (Sd : St) (H H' : Hp) (us : List Nat) : Prop where
 len : H'.length = H.length + us.length
 pre : ∀ (i : Nat), i < H.length → H'[i]? = H[i]?
 live : ∀ (i : Nat), H.length ≤ i → i < H'.length → ∃ o, H'[i]? = some o ∧ o ≠ .dead ∧ ObOk Sd i o
theorem Agree.of_pre {Hd H H' : Hp} {us : List Nat} {Sd : St} (h : Agree Hd H') (t : Took Sd H H' us) : Agree Hd H := by
 intro i o hi ho
 have hlt := (List.getElem?_eq_some_iff.1 hi).1
 exact h i o (by rw [t.pre i hlt]; exact hi) ho
theorem Took.refl (Sd : St) (H : Hp) : Took Sd H H [] := ⟨rfl, fun _ _ => rfl, fun i h1 h2 => by omega⟩
theorem Took.trans {Sd : St} {H H1 H2 : Hp} {u1 u2 : List Nat} (h : Took Sd H H1 u1) (h' : Took Sd H1 H2 u2) : Took Sd H H2 (u1 ++ u2) where
 len := by rw [h'.len, h.len, List.length_append]; omega
 pre i hi := by rw [h'.pre i (by rw [h.len]; omega), h.pre i hi]
 live i h1 h2 := by
   by_cases h3 : i < H1.length
   · obtain ⟨o, o1, o2, o3⟩ := h.live i h1 h3
     exact ⟨o, by rw [h'.pre i h3]; exact o1, o2, o3⟩
   · exact h'.live i (by omega) h2
theorem openCell_data {S : St} {x : CV} {v : Value} (h : Vc S x v) (H : Hp) : openCell x H = (.c x, H) := by
 cases h <;> rfl
theorem openCell_ok {S Sd : St} {n : Nat} {used : List Nat} (ok : Ok S) (I : Import S Sd n used) {x : CV} {v : Value} {us pre post : List Nat} {H : Hp} (h : CellR S x v us) (hu : used = pre ++ us ++ post) (hl : H.length = n + pre.length)
   (hlen : n + used.length ≤ Sd.H.length) (ha : Agree Sd.H (openCell x H).2) : Vr Sd (openCell x H).1 v ∧ Took Sd H (openCell x H).2 us := by
 cases h with
 | data h =>
   rw [openCell_data h]
   exact ⟨.c (h.move I.st), .refl _ _⟩
 | own hr hv o1 =>
   rename_i r k g xs
   show Vr Sd (.rw H.length 0) v ∧ Took Sd H (H ++ [.row xs k 0 false]) [r]
   have hget : (H ++ [AO.row xs k 0 false])[H.length]? = some (.row xs k 0 false) := by simp
   have hSd := ha H.length _ hget (by simp)
   have hmap := I.map pre.length r (by rw [hu]; simp)
   rw [← hl] at hmap
   obtain ⟨h0, hk, hb⟩ := ok.ob r _ hr
   refine ⟨.rw _ _ _ o1 ⟨(List.getElem?_eq_some_iff.1 hSd).1, fun _ _ _ _ _ => Nat.zero_le _⟩ fun xs' k' s' he => ?_, by simp, fun i hi => by rw [List.getElem?_append_left hi], fun i h1 h2 => ?_⟩
   · rw [hSd] at he; cases he
     unfold RowV at *
     rw [hmap.1, hmap.2]; exact hv
   · simp at h2
     obtain rfl : i = H.length := by omega
     refine ⟨_, hget, by simp, h0, hk, ?_⟩
     rcases hb with ⟨a1, a2, a3⟩ | ⟨b, cs, T, fr, vs, a1, a2, a3, a4, a5, a6, a7, a8⟩
     · exact .inl ⟨hmap.1.trans a1, a2, hmap.2.trans a3⟩
     · exact .inr ⟨b, cs, T, fr, vs, hmap.1.trans a1, by rw [I.w]; exact a2, ⟨a3.1, .inl rfl⟩, by rw [hmap.2]; exact a4, by rw [hmap.2]; exact a5, a6.imp fun _ _ _ h => h.move I.st, a7, a8⟩
theorem openCells_ok {S Sd : St} {n : Nat} {used : List Nat} (ok : Ok S) (I : Import S Sd n used) (hlen : n + used.length ≤ Sd.H.length) : ∀ {xs : List CV} {vs : List Value} {us pre post : List Nat} {H : Hp}, CellsR S xs vs us → used = pre ++ us ++ post → H.length = n + pre.length →
   Agree Sd.H (openCells xs H).2 → All2 (Vr Sd) (openCells xs H).1 vs ∧ Took Sd H (openCells xs H).2 us
 | [], vs, us, pre, post, H, h, hu, hl, ha => by
   cases h; exact ⟨.nil, .refl _ _⟩
 | x :: xs, vs, us, pre, post, H, h, hu, hl, ha => by
   cases h with
   | cons h1 h2 =>
     rename_i v vs u1 u2
     have t0 : (openCells (x :: xs) H).2 = (openCells xs (openCell x H).2).2 := rfl
     have t1 : (openCells (x :: xs) H).1 = (openCell x H).1 :: (openCells xs (openCell x H).2).1 := rfl
     rw [t0] at ha ⊢
     rw [t1]
     have hlen1 : (openCell x H).2.length = H.length + u1.length ∧ ∀ i, i < H.length → (openCell x H).2[i]? = H[i]? := by
       cases h1 with
       | data h => rw [openCell_data h]; exact ⟨rfl, fun _ _ => rfl⟩
       | own => exact ⟨by simp [openCell], fun i hi => by simp only [openCell]; rw [List.getElem?_append_left hi]⟩
     obtain ⟨r2, t2⟩ := openCells_ok ok I hlen (pre := pre ++ u1) (post := post) (H := (openCell x H).2) h2 (by rw [hu]; simp) (by rw [hlen1.1, hl, List.length_append]; omega) ha
     obtain ⟨r1, t1'⟩ := openCell_ok ok I (pre := pre) (post := u2 ++ post) h1 (by rw [hu]; simp) hl hlen (ha.of_pre t2)
     exact ⟨.cons r1 r2, t1'.trans t2⟩
theorem openVal_data {S : St} {x : CV} {v : Value} (h : Vc S x v) (H : Hp) : openVal x H = (.c x, H) := by
 cases h <;> rfl
theorem openVal_ok {S Sd : St} {n : Nat} {used : List Nat} (ok : Ok S) (I : Import S Sd n used) (hlen : n + used.length ≤ Sd.H.length) {x : CV} {v : Value} {us pre post : List Nat} {H : Hp} (h : ValR S x v us) (hu : used = pre ++ us ++ post) (hl : H.length = n + pre.length)
   (ha : Agree Sd.H (openVal x H).2) : Vr Sd (openVal x H).1 v ∧ Took Sd H (openVal x H).2 us := by
 cases h with
 | cell h =>
   have e : openVal x H = openCell x H := by
     cases h with
     | data h => rw [openVal_data h, openCell_data h]
     | own => rfl
   rw [e] at ha ⊢
   exact openCell_ok ok I h hu hl hlen ha
 | agg h h1 =>
   rename_i xs vs
   obtain ⟨r, t⟩ := openCells_ok ok I hlen h hu hl ha
   exact ⟨.agg _ _ r h1, t⟩
theorem openVal_n {S : St} {x : CV} {v : Value} {us : List Nat} {H : Hp} (h : ValR S x v us) : (openVal x H).1.ncells = some v.cells.size := by
 cases h with
 | cell h =>
   cases h with
   | data h =>
     rw [openVal_data h]
     have := h.cells.1.length
     simp only [PV.ncells]; rw [this]; rfl
   | own h1 h2 o1 =>
     show some 1 = _
     cases v <;> first | rfl | (simp [Value.oneCell'] at o1)
 | agg h h1 =>
   rename_i xs vs
   have : ∀ {xs : List CV} {vs : List Value} {us : List Nat} {H : Hp}, CellsR S xs vs us → (openCells xs H).1.length = vs.length := by
     intro xs vs us H h
     induction h generalizing H with
     | nil => rfl
     | cons h1 h2 ih => simp only [openCells, List.length_cons, ih]
   show some (openCells xs H).1.length = _
   rw [this h]; rfl
theorem openRes_ok {S Sd : St} {n : Nat} {used : List Nat} (ok : Ok S) (I : Import S Sd n used) (hlen : n + used.length ≤ Sd.H.length) {x : CV} {v : Value} {us pre post : List Nat} {H : Hp} (h : ResR S x v us) (hu : used = pre ++ us ++ post) (hl : H.length = n + pre.length)
   (ha : Agree Sd.H (openRes x H).2) : Vr Sd (openRes x H).1 v ∧ Took Sd H (openRes x H).2 us := by
 cases h with
 | val h =>
   have e : openRes x H = openVal x H := by
     cases h with
     | cell h =>
       cases h with
       | data h => cases h <;> rfl
       | own => rfl
     | agg h h1 => rfl
   rw [e] at ha ⊢
   exact openVal_ok ok I hlen h hu hl ha
 | box hr hι hheap hfr hsz hone hval =>
   rename_i x' ve u r k b e T fr
   let q := openVal x' (H ++ [AO.dead])
   have e1 : openRes (.boxv k x') H = (.bptr H.length 0, q.2.set H.length (.box q.1 k)) := rfl
   rw [e1] at ha ⊢
   have hq : q.2.length = H.length + 1 + u.length ∧ ∀ i, i < H.length + 1 → q.2[i]? = (H ++ [AO.dead])[i]? := by
     have cl : ∀ {x : CV} {v : Value} {us : List Nat} {H : Hp}, CellR S x v us → (openCell x H).2.length = H.length + us.length ∧ ∀ i, i < H.length → (openCell x H).2[i]? = H[i]? := by
       intro x v us H h1
       cases h1 with
       | data h => rw [openCell_data h]; exact ⟨rfl, fun _ _ => rfl⟩
       | own => exact ⟨by simp [openCell], fun i hi => by simp only [openCell]; rw [List.getElem?_append_left hi]⟩
     have cls : ∀ {xs : List CV} {vs : List Value} {us : List Nat} {H : Hp}, CellsR S xs vs us → (openCells xs H).2.length = H.length + us.length ∧ ∀ i, i < H.length → (openCells xs H).2[i]? = H[i]? := by
       intro xs vs us H h
       induction h generalizing H with
       | nil => exact ⟨rfl, fun _ _ => rfl⟩
       | cons h1 h2 ih =>
         rename_i y ys _ _ _ _
         have c1 := cl (H := H) h1
         have c2 := ih (H := (openCell y H).2)
         refine ⟨?_, fun i hi => ?_⟩
         · show (openCells ys (openCell y H).2).2.length = _
           rw [c2.1, c1.1, List.length_append]; omega
         · show (openCells ys (openCell y H).2).2[i]? = _
           rw [c2.2 i (by rw [c1.1]; omega), c1.2 i hi]
     have : q.2.length = (H ++ [AO.dead]).length + u.length ∧ ∀ i, i < (H ++ [AO.dead]).length → q.2[i]? = (H ++ [AO.dead])[i]? := by
       cases hval with
       | cell h =>
         have e : openVal x' (H ++ [AO.dead]) = openCell x' (H ++ [AO.dead]) := by
           cases h with
           | data h => rw [openVal_data h, openCell_data h]
           | own => rfl
         show (openVal x' (H ++ [AO.dead])).2.length = _ ∧ ∀ i, _ → (openVal x' (H ++ [AO.dead])).2[i]? = _
         rw [e]; exact cl h
       | agg h h1 => exact cls h
     simpa using this
   have hsetlen : (q.2.set H.length (.box q.1 k)).length = q.2.length := by simp
   have haq : Agree Sd.H q.2 := by
     intro i o hi ho
     by_cases hiH : i = H.length
     · subst hiH
       rw [hq.2 _ (by omega)] at hi
       simp at hi; exact absurd hi.symm ho
     · exact ha i o (by rw [set_get_ne hiH]; exact hi) ho
   obtain ⟨rq, tq⟩ := openVal_ok ok I hlen (pre := pre ++ [r]) (post := post) (H := H ++ [AO.dead]) hval (by rw [hu]; simp) (by simp [hl]; omega) haq
   have hboxget : (q.2.set H.length (.box q.1 k))[H.length]? = some (.box q.1 k) := set_get_self (by rw [hq.1]; omega)
   have hSd := ha H.length _ hboxget (by simp)
   have hmap := I.map pre.length r (by rw [hu]; simp)
   rw [← hl] at hmap
   have hbox : ObOk Sd H.length (.box q.1 k) := by
     refine ⟨b, ve.cells, T, fr, ve, hmap.1.trans hι, by rw [I.w]; exact hheap, hfr, ?_, rq, rfl, hone⟩
     have := openVal_n (H := H ++ [AO.dead]) hval
     rw [hsz] at this; exact this
   refine ⟨.bptr _ _ _ rfl (List.getElem?_eq_some_iff.1 hSd).1 fun e' k' he => ⟨b, hmap.1.trans hι, rfl⟩, ?_, ?_, ?_⟩
   · rw [hsetlen, hq.1, List.length_cons]; omega
   · intro i hi
     rw [set_get_ne (by omega), hq.2 i (by omega), List.getElem?_append_left hi]
   · intro i h1 h2
     by_cases hiH : i = H.length
     · subst hiH
       exact ⟨_, hboxget, by simp, hbox⟩
     · obtain ⟨o, o1, o2, o3⟩ := tq.live i (by simp; omega) (by rw [hsetlen] at h2; exact h2)
       exact ⟨o, by rw [set_get_ne hiH]; exact o1, o2, o3⟩
theorem openRes_len {S : St} {x : CV} {v : Value} {us : List Nat} (h : ResR S x v us) (H : Hp) : (openRes x H).2.length = H.length + us.length ∧ ∀ i, i < H.length → (openRes x H).2[i]? = H[i]? := by
 have cl : ∀ {x : CV} {v : Value} {us : List Nat} {H : Hp}, CellR S x v us → (openCell x H).2.length = H.length + us.length ∧ ∀ i, i < H.length → (openCell x H).2[i]? = H[i]? := by
   intro x v us H h1
   cases h1 with
   | data h => rw [openCell_data h]; exact ⟨rfl, fun _ _ => rfl⟩
   | own => exact ⟨by simp [openCell], fun i hi => by simp only [openCell]; rw [List.getElem?_append_left hi]⟩
 have cls : ∀ {xs : List CV} {vs : List Value} {us : List Nat} {H : Hp}, CellsR S xs vs us → (openCells xs H).2.length = H.length + us.length ∧ ∀ i, i < H.length → (openCells xs H).2[i]? = H[i]? := by
   intro xs vs us H h
   induction h generalizing H with
   | nil => exact ⟨rfl, fun _ _ => rfl⟩
   | cons h1 h2 ih =>
     rename_i y ys _ _ _ _
     have c1 := cl (H := H) h1
     have c2 := ih (H := (openCell y H).2)
     refine ⟨?_, fun i hi => ?_⟩
     · show (openCells ys (openCell y H).2).2.length = _
       rw [c2.1, c1.1, List.length_append]; omega
     · show (openCells ys (openCell y H).2).2[i]? = _
       rw [c2.2 i (by rw [c1.1]; omega), c1.2 i hi]
 have vl : ∀ {x : CV} {v : Value} {us : List Nat} {H : Hp}, ValR S x v us → (openVal x H).2.length = H.length + us.length ∧ ∀ i, i < H.length → (openVal x H).2[i]? = H[i]? := by
   intro x v us H h
   cases h with
   | cell h =>
     have e : openVal x H = openCell x H := by
       cases h with
       | data h => rw [openVal_data h, openCell_data h]
       | own => rfl
     rw [e]; exact cl h
   | agg h h1 => exact cls h
 cases h with
 | val h =>
   have e : openRes x H = openVal x H := by
     cases h with
     | cell h =>
       cases h with
       | data h => cases h <;> rfl
       | own => rfl
     | agg h h1 => rfl
   rw [e]; exact vl h
 | box hr hι hheap hfr hsz hone hval =>
   rename_i x' ve u r k b e T fr
   obtain ⟨q1, q2⟩ := vl (H := H ++ [AO.dead]) hval
   show ((openVal x' (H ++ [AO.dead])).2.set H.length _).length = _ ∧ ∀ i, _ → ((openVal x' (H ++ [AO.dead])).2.set H.length _)[i]? = _
   refine ⟨by rw [List.length_set, q1]; simp; omega, fun i hi => ?_⟩
   rw [set_get_ne (by omega), q2 i (by simp; omega), List.getElem?_append_left hi]
theorem openTup_ok {S Sd : St} {n : Nat} {used : List Nat} (ok : Ok S) (I : Import S Sd n used) (hlen : n + used.length ≤ Sd.H.length) : ∀ {xs : List CV} {vs : List Value} {us pre post : List Nat} {H : Hp}, TupR S xs vs us → used = pre ++ us ++ post → H.length = n + pre.length →
   Agree Sd.H (openTup xs H).2 → All2 (Vr Sd) (openTup xs H).1 vs ∧ Took Sd H (openTup xs H).2 us
 | [], vs, us, pre, post, H, h, hu, hl, ha => by
   cases h; exact ⟨.nil, .refl _ _⟩
 | x :: xs, vs, us, pre, post, H, h, hu, hl, ha => by
   cases h with
   | cons h1 h2 =>
     rename_i v vs u1 u2
     have t0 : (openTup (x :: xs) H).2 = (openTup xs (openRes x H).2).2 := rfl
     have t1 : (openTup (x :: xs) H).1 = (openRes x H).1 :: (openTup xs (openRes x H).2).1 := rfl
     rw [t0] at ha ⊢
     rw [t1]
     have hlen1 := openRes_len h1 H
     obtain ⟨r2, t2⟩ := openTup_ok ok I hlen (pre := pre ++ u1) (post := post) (H := (openRes x H).2) h2 (by rw [hu]; simp) (by rw [hlen1.1, hl, List.length_append]; omega) ha
     obtain ⟨r1, t1'⟩ := openRes_ok ok I hlen (pre := pre) (post := u2 ++ post) h1 (by rw [hu]; simp) hl (ha.of_pre t2)
     exact ⟨.cons r1 r2, t1'.trans t2⟩
theorem openAll_ok {S Sd : St} {n : Nat} {used : List Nat} (ok : Ok S) (I : Import S Sd n used) (hlen : n + used.length ≤ Sd.H.length) {x : CV} {v : Value} {H : Hp} (h : AllR S x v used) (hl : H.length = n)
   (ha : Agree Sd.H (openAll x H).2) : Vr Sd (openAll x H).1 v ∧ Took Sd H (openAll x H).2 used := by
 cases h with
 | res h =>
   have e : openAll x H = openRes x H := by
     cases h with
     | val h =>
       cases h with
       | cell h =>
         cases h with
         | data h => cases h <;> rfl
         | own => rfl
       | agg h h1 => rfl
     | box => rfl
   rw [e] at ha ⊢
   exact openRes_ok ok I hlen (pre := []) (post := []) h (by simp) (by simpa using hl) ha
 | tup h =>
   rename_i xs vs
   obtain ⟨r, t⟩ := openTup_ok ok I hlen (pre := []) (post := []) h (by simp) (by simpa using hl) ha
   exact ⟨.tup _ _ r, t⟩
theorem openTup_len {S : St} : ∀ {xs : List CV} {vs : List Value} {us : List Nat} (H : Hp), TupR S xs vs us → (openTup xs H).2.length = H.length + us.length ∧ ∀ i, i < H.length → (openTup xs H).2[i]? = H[i]?
 | [], vs, us, H, h => by cases h; exact ⟨rfl, fun _ _ => rfl⟩
 | x :: xs, vs, us, H, h => by
   cases h with
   | cons h1 h2 =>
     have c1 := openRes_len h1 H
     have c2 := openTup_len (openRes x H).2 h2
     refine ⟨?_, fun i hi => ?_⟩
     · show (openTup xs (openRes x H).2).2.length = _
       rw [c2.1, c1.1, List.length_append]; omega
     · show (openTup xs (openRes x H).2).2[i]? = _
       rw [c2.2 i (by rw [c1.1]; omega), c1.2 i hi]
theorem openAll_len {S : St} {x : CV} {v : Value} {us : List Nat} (h : AllR S x v us) (H : Hp) : (openAll x H).2.length = H.length + us.length ∧ ∀ i, i < H.length → (openAll x H).2[i]? = H[i]? := by
 cases h with
 | res h =>
   have e : openAll x H = openRes x H := by
     cases h with
     | val h =>
       cases h with
       | cell h =>
         cases h with
         | data h => cases h <;> rfl
         | own => rfl
       | agg h h1 => rfl
     | box => rfl
   rw [e]; exact openRes_len h H
 | tup h => exact openTup_len H h
end Go.Pv
namespace Go.Pv
open Go
inductive ArgR (S : St) : CV → Value → List Nat → Prop where
 | data {x : CV} {v : Value} : Vc S x v → ArgR S x v []
 | box {x : CV} {ve : Value} {r k b : Nat} {e : PV} {T : TypeId} {fr : Nat × Nat} : S.H[r]? = some (.box e k) → S.ι r = some b → S.w.heap[b]? = some (.cells ve.cells T fr) → bOk T fr ve.cells.size k → ve.cells.size = ksz k → (∀ v ∈ ve.cells.toList, v.oneCell' = true) → Vc S x ve → ArgR S (.boxv k x) (.pointer (some ⟨b, 0, none⟩)) [r]
inductive ArgsR (S : St) : List CV → List Value → List Nat → Prop where
 | nil : ArgsR S [] [] []
 | cons {x xs v vs l ls} : ArgR S x v l → ArgsR S xs vs ls → ArgsR S (x :: xs) (v :: vs) (l ++ ls)
def BoxKeep (S S' : St) : Prop := ∀ (r : Nat) (e : PV) (k : Nat), S.H[r]? = some (.box e k) → S'.H[r]? = some (.box e k)
theorem seal_box {H : Hp} {q r : Nat} {e : PV} {k : Nat} (h : H[r]? = some (.box e k)) : (sealRow H q)[r]? = some (.box e k) := by
 unfold sealRow
 split
 · rename_i xs n g s hq
   by_cases e' : r = q
   · subst e'; rw [h] at hq; cases hq
   · rw [set_get_ne e']; exact h
 · exact h
theorem closeCell_box {p : PV} {H H' : Hp} {x : CV} (h : closeCell p H = some (x, H')) {r : Nat} {e : PV} {k : Nat} (hr : H[r]? = some (.box e k)) : H'[r]? = some (.box e k) := by
 unfold closeCell at h
 split at h <;> first | (cases h; done) | skip
 · split at h <;> first | (cases h; done) | skip
   cases h; exact hr
 · split at h <;> first | (cases h; done) | skip
   cases h; exact seal_box hr
 · split at h <;> first | (cases h; done) | skip
   cases h; exact seal_box hr
 · cases h; exact hr
theorem closeCells_box : ∀ {ps : List PV} {H H' : Hp} {xs : List CV}, closeCells ps H = some (xs, H') → ∀ {r : Nat} {e : PV} {k : Nat}, H[r]? = some (.box e k) → H'[r]? = some (.box e k)
 | [], H, H', xs, h, r, e, k, hr => by cases h; exact hr
 | p :: ps, H, H', xs, h, r, e, k, hr => by
   simp only [closeCells] at h
   split at h <;> first | (cases h; done) | skip
   rename_i x H1 hx
   split at h <;> first | (cases h; done) | skip
   rename_i xs' H2 hxs
   cases h
   exact closeCells_box hxs (closeCell_box hx hr)
theorem closeVal_box {p : PV} {H H' : Hp} {x : CV} (h : closeVal p H = some (x, H')) {r : Nat} {e : PV} {k : Nat} (hr : H[r]? = some (.box e k)) : H'[r]? = some (.box e k) := by
 unfold closeVal at h
 split at h
 · cases h; exact hr
 · split at h <;> first | (cases h; done) | skip
   rename_i vs H1 hc
   cases h; exact closeCells_box hc hr
 · exact closeCell_box h hr
theorem ArgR.mono {S S' : St} (M : Marked S S') (hb : BoxKeep S S') {x : CV} {v : Value} {l : List Nat} (h : ArgR S x v l) : ArgR S' x v l := by
 cases h with
 | data h => exact .data (h.mono M.good.ext)
 | box h1 h2 h3 h4 h5 h6 h7 => exact .box (hb _ _ _ h1) (by rw [M.ι]; exact h2) (by rw [M.w]; exact h3) h4 h5 h6 (h7.mono M.good.ext)
theorem capsC_ok {S : St} : ∀ {ps : List PV} {vs : List Value} {xs : List CV}, All2 (Vr S) ps vs → capsC ps = some xs → All2 (Vc S) xs vs
 | [], vs, xs, h, hc => by cases h; cases hc; exact .nil
 | p :: ps, vs, xs, h, hc => by
   cases h with
   | cons h1 h2 =>
     cases p with
     | c v =>
       simp only [capsC] at hc
       split at hc <;> first | (cases hc; done) | skip
       rename_i xs' hx
       cases hc
       exact .cons (c_of h1) (capsC_ok h2 hx)
     | _ => simp [capsC] at hc
theorem closeArg_ok {S : St} (ok : Ok S) {p : PV} {v : Value} {x : CV} {H' : Hp} {l : List Nat} (hv : Vr S p v) (h : closeArg p S.H = some (x, H', l)) :
   ∃ S', S'.H = H' ∧ Marked S S' ∧ BoxKeep S S' ∧ ArgR S' x v l := by
 unfold closeArg at h
 split at h
 · rename_i r
   split at h <;> first | (cases h; done) | skip
   rename_i e k hr
   split at h <;> first | (cases h; done) | skip
   rename_i y H1 hy
   cases h
   obtain ⟨b, cs, T, fr, ve, q1, q2, q3, q4, q5, q6, q7⟩ := ok.ob r _ hr
   subst q6
   obtain ⟨S', e1, M, c⟩ := closeVal_ok ok q5 hy
   have hbk : BoxKeep S S' := fun r e k hr => by rw [e1]; exact closeVal_box hy hr
   cases hv with
   | bptr r t v' o1 hlt hb =>
     obtain ⟨b', hb1, rfl⟩ := hb _ _ hr
     rw [q1] at hb1; cases hb1
     exact ⟨S', e1, M, hbk, .box (hbk _ _ _ hr) (by rw [M.ι]; exact q1) (by rw [M.w]; exact q2) q3 (q5.size q4) q7 c⟩
 · split at h <;> first | (cases h; done) | skip
   rename_i vs hc
   cases h
   cases hv with
   | fn f caps vs' h1 => exact ⟨S, rfl, .refl ok, fun _ _ _ h => h, .data (.fn _ _ _ (capsC_ok h1 hc))⟩
 · split at h <;> first | (cases h; done) | skip
   rename_i y H1 hy
   cases h
   obtain ⟨S', e1, M, c⟩ := closeVal_ok ok hv hy
   exact ⟨S', e1, M, fun r e k hr => by rw [e1]; exact closeVal_box hy hr, .data c⟩
theorem closeArgs_ok : ∀ {S : St} (ok : Ok S) {ps : List PV} {vs : List Value} {xs : List CV} {H' : Hp} {l : List Nat} (hv : All2 (Vr S) ps vs) (h : closeArgs ps S.H = some (xs, H', l)),
   ∃ S', S'.H = H' ∧ Marked S S' ∧ BoxKeep S S' ∧ ArgsR S' xs vs l
 | S, ok, [], vs, xs, H', l, hv, h => by
   cases hv; cases h
   exact ⟨S, rfl, .refl ok, fun _ _ _ h => h, .nil⟩
 | S, ok, p :: ps, vs, xs, H', l, hv, h => by
   cases hv with
   | cons h1 h2 =>
     simp only [closeArgs] at h
     split at h <;> first | (cases h; done) | skip
     rename_i x H1 l1 hx
     split at h <;> first | (cases h; done) | skip
     rename_i xs' H2 l2 hxs
     cases h
     obtain ⟨S1, e1, M1, b1, c1⟩ := closeArg_ok ok h1 hx
     subst e1
     obtain ⟨S2, e2, M2, b2, c2⟩ := closeArgs_ok M1.good.ok (h2.imp fun _ _ _ h => h.mono M1.good.ext) hxs
     exact ⟨S2, e2, M1.trans M2, fun r e k h => b2 _ _ _ (b1 _ _ _ h), .cons (c1.mono M2 b2) c2⟩
def entry (S : St) (lent : List Nat) (H : Hp) : St :=
 { w := S.w, ι := fun i => match lent[i]? with
     | some r => S.ι r
     | none => none,
   cp := fun _ => 0, H := H,
   F := fun b off => S.F b off ∨ ∃ r, r ∉ lent ∧ S.ι r = some b ∧ ¬ ∃ xs k g, S.H[r]? = some (.row xs k g true) ∧ off < xs.length * k,
   n0 := S.w.heap.size, ng := S.ng }
theorem ArgsR.lent {S : St} : ∀ {xs : List CV} {vs : List Value} {l : List Nat}, ArgsR S xs vs l → ∀ r, r ∈ l → ∃ e k, S.H[r]? = some (.box e k)
 | _, _, _, .nil, r, hr => by simp at hr
 | _, _, _, .cons h1 h2, r, hr => by
   rcases List.mem_append.1 hr with hr | hr
   · cases h1 with
     | data => simp at hr
     | box q1 => simp at hr; subst hr; exact ⟨_, _, q1⟩
   · exact h2.lent r hr
theorem entry_st {S : St} {lent : List Nat} {H : Hp} (hl : ∀ r, r ∈ lent → ∃ e k, S.H[r]? = some (.box e k)) : StExt S (entry S lent H) := by
 intro b off v hs hc
 refine ⟨⟨?_, fun i hi => ?_⟩, hc⟩
 · rintro (hf | ⟨r, _, hr, hn⟩)
   · exact hs.1 hf
   · exact hn (hs.2 r hr)
 · simp only [entry] at hi
   split at hi <;> first | (cases hi; done) | skip
   rename_i r hr
   obtain ⟨xs, k, g, h1, _⟩ := hs.2 r hi
   obtain ⟨e, k', h2⟩ := hl r (List.mem_of_getElem? hr)
   rw [h2] at h1; cases h1
theorem openArgs_ok {S Se : St} (E : StExt S Se) (hw : Se.w = S.w) : ∀ {xs : List CV} {vs : List Value} {l : List Nat} {H : Hp} (h : ArgsR S xs vs l), (∀ (j r : Nat), l[j]? = some r → Se.ι (H.length + j) = S.ι r) → (openArgs xs H).2.length ≤ Se.H.length →
   All2 (Vr Se) (openArgs xs H).1 vs ∧ (openArgs xs H).2.length = H.length + l.length ∧ (∀ (i : Nat), i < H.length → (openArgs xs H).2[i]? = H[i]?) ∧ (∀ (i : Nat) (o : AO), H.length ≤ i → (openArgs xs H).2[i]? = some o → ObOk Se i o ∧ ∃ e k, o = .box e k)
 | [], vs, l, H, h, hm, hl => by
   cases h
   refine ⟨.nil, rfl, fun _ _ => rfl, fun i o h1 h2 => ?_⟩
   have := (List.getElem?_eq_some_iff.1 h2).1
   simp [openArgs] at this; omega
 | x :: xs, vs, l, H, h, hm, hl => by
   cases h with
   | cons h1 h2 =>
     rename_i v vs l1 l2
     have t0 : (openArgs (x :: xs) H).2 = (openArgs xs (openArg x H).2).2 := rfl
     have t1 : (openArgs (x :: xs) H).1 = (openArg x H).1 :: (openArgs xs (openArg x H).2).1 := rfl
     rw [t0] at hl ⊢
     rw [t1]
     cases h1 with
     | data hx =>
       have e : openArg x H = (.c x, H) := by cases hx <;> rfl
       rw [e] at hl ⊢
       obtain ⟨a1, a2, a3, a4⟩ := openArgs_ok E hw (H := H) h2 (by simpa using hm) hl
       exact ⟨.cons (.c (hx.move E)) a1, by simpa using a2, a3, a4⟩
     | box q1 q2 q3 q4 q5 q6 q7 =>
       rename_i x' ve r k b e T fr
       have e : openArg (.boxv k x') H = (.bptr H.length 0, H ++ [.box (.c x') k]) := rfl
       rw [e] at hl ⊢
       obtain ⟨a1, a2, a3, a4⟩ := openArgs_ok E hw (H := H ++ [.box (.c x') k]) h2 (fun j r' hj => by
         have := hm (j + 1) r' (by simpa using hj)
         rw [← this]; congr 1; simp; omega) hl
       have hι : Se.ι H.length = some b := by
         have := hm 0 r (by simp)
         rw [← q2, ← this]; rfl
       have hget : (openArgs xs (H ++ [.box (.c x') k])).2[H.length]? = some (.box (.c x') k) := by rw [a3 H.length (by simp)]; simp
       have hlt : H.length < Se.H.length := Nat.lt_of_lt_of_le (List.getElem?_eq_some_iff.1 hget).1 hl
       refine ⟨.cons (.bptr _ _ _ rfl hlt fun _ _ _ => ⟨b, hι, rfl⟩) a1, by rw [a2]; simp; omega, fun i hi => by rw [a3 i (by simp; omega), List.getElem?_append_left hi], fun i o h1 h2 => ?_⟩
       by_cases hi : i = H.length
       · subst hi
         rw [hget] at h2; cases h2
         refine ⟨⟨b, ve.cells, T, fr, ve, hι, by rw [hw]; exact q3, q4, ?_, .c (q7.move E), rfl, q6⟩, _, _, rfl⟩
         have := (q7.cells.1).length
         simp only [PV.ncells]; congr 1; simp at this; omega
       · exact a4 i o (by simp; omega) h2
theorem openArgs_pre : ∀ (xs : List CV) (H : Hp) (i : Nat), i < H.length → (openArgs xs H).2[i]? = H[i]?
 | [], H, i, hi => rfl
 | x :: xs, H, i, hi => by
   show (openArgs xs (openArg x H).2).2[i]? = _
   have h1 : i < (openArg x H).2.length ∧ (openArg x H).2[i]? = H[i]? := by
     unfold openArg
     split
     · exact ⟨by simp; omega, List.getElem?_append_left hi⟩
     · exact ⟨hi, rfl⟩
   rw [openArgs_pre xs _ i h1.1, h1.2]
theorem ArgsR.box {S : St} : ∀ {xs : List CV} {vs : List Value} {l : List Nat}, ArgsR S xs vs l → ∀ (H : Hp) (i r : Nat), l[i]? = some r → ∃ e e' k, S.H[r]? = some (.box e k) ∧ (openArgs xs H).2[H.length + i]? = some (.box e' k)
 | _, _, _, .nil, H, i, r, hi => by simp at hi
 | _, _, _, .cons h1 h2, H, i, r, hi => by
   cases h1 with
   | data hx =>
     rename_i x xs v vs ls
     have e : openArg x H = (.c x, H) := by cases hx <;> rfl
     show ∃ e1 e2 k1, S.H[r]? = some (.box e1 k1) ∧ (openArgs xs (openArg x H).2).2[H.length + i]? = some (.box e2 k1)
     rw [e]
     exact h2.box H i r (by simpa using hi)
   | box q1 q2 q3 q4 q5 q6 q7 =>
     rename_i xs vs ls x' ve r0 k b e T fr
     show ∃ e1 e2 k1, S.H[r]? = some (.box e1 k1) ∧ (openArgs xs (H ++ [.box (.c x') k])).2[H.length + i]? = some (.box e2 k1)
     cases i with
     | zero =>
       simp at hi
       subst hi
       exact ⟨e, .c x', k, q1, by rw [openArgs_pre _ _ _ (by simp)]; simp⟩
     | succ i =>
       obtain ⟨e1, e2, k', z1, z2⟩ := h2.box (H ++ [.box (.c x') k]) i r (by simpa using hi)
       refine ⟨e1, e2, k', z1, ?_⟩
       rw [← z2]; congr 1; simp; omega
theorem entry_ok {S : St} (ok : Ok S) {xs : List CV} {vs : List Value} {lent : List Nat} (h : ArgsR S xs vs lent) (hd : lent.Nodup) :
   Ok (entry S lent (openArgs xs []).2) ∧ All2 (Vr (entry S lent (openArgs xs []).2)) (openArgs xs []).1 vs ∧ (openArgs xs []).2.length = lent.length := by
 have E : StExt S (entry S lent (openArgs xs []).2) := entry_st h.lent
 obtain ⟨a1, a2, a3, a4⟩ := openArgs_ok E rfl (H := []) h (fun j r hj => by simp [entry, hj]) (Nat.le_refl _)
 simp at a2
 refine ⟨⟨fun r o hr => (a4 r o (by simp) hr).1, ?_, ?_, ?_, ?_, ?_, Nat.le_refl _, ?_, ?_⟩, a1, a2⟩
 · intro r hr
   have : lent.length ≤ r := by rw [← a2]; exact hr
   simp [entry, List.getElem?_eq_none this]
 · intro i j b h1 h2
   simp only [entry] at h1 h2
   split at h1 <;> first | (cases h1; done) | skip
   rename_i r hr
   split at h2 <;> first | (cases h2; done) | skip
   rename_i r' hr'
   obtain rfl := ok.inj r r' b h1 h2
   exact (List.getElem?_inj (List.getElem?_eq_some_iff.1 hr).1 hd).1 (hr.trans hr'.symm)
 · intro i b h1
   simp only [entry] at h1
   split at h1 <;> first | (cases h1; done) | skip
   exact ok.old _ b h1
 · intro i b off h1
   simp only [entry] at h1
   split at h1 <;> first | (cases h1; done) | skip
   rename_i r hr
   rintro (hf | ⟨r', hn, hr', _⟩)
   · exact ok.free r b off h1 hf
   · obtain rfl := ok.inj r r' b h1 hr'
     exact hn (List.mem_of_getElem? hr)
 · rintro b off (hf | ⟨r', hn, hr', _⟩)
   · have := ok.forb _ _ hf; have := ok.n0; show b < S.w.heap.size; omega
   · exact ok.old r' b hr'
 · intro i b h1
   simp only [entry] at h1
   split at h1 <;> first | (cases h1; done) | skip
   exact ok.glob _ b h1
 · show S.ng ≤ S.w.heap.size
   have := ok.ng; have := ok.n0; omega
structure LentR (S S' : St) (outs : List CV) (u : List Nat) : Prop where
 len : outs.length = S.H.length
 at_ : ∀ (i : Nat) (e : PV) (k : Nat) (x : CV), S.H[i]? = some (.box e k) → outs[i]? = some x → i ∉ u ∧ (∃ e', S'.H[i]? = some (.box e' k)) ∧ S'.ι i = S.ι i ∧
   ∃ ve b T fr, S.ι i = some b ∧ Vc S' x ve ∧ S'.w.heap[b]? = some (.cells ve.cells T fr) ∧ bOk T fr ve.cells.size k ∧ (∀ v ∈ ve.cells.toList, v.oneCell' = true) ∧ ve.cells.size = ksz k
def Contract (P : Program) (I : World → Prop) (ng : Nat) (f : FuncId) (F : Fn1) : Prop :=
 ∀ cargs rv outs, picked (F cargs) = some (rv, outs) → ∀ (S : St) (vals : Array Value), S.H = (openArgs cargs []).2 → Ok S → S.ng = ng → I S.w → All2 (Vr S) (openArgs cargs []).1 vals.toList →
   Calls P f vals S.w fun e w' => ∃ v S' u, e = .returned v ∧ S'.w = w' ∧ Ok S' ∧ Keeps S S' ∧ I w' ∧ AllR S' rv v u ∧ u.Nodup ∧ LentR S S' outs u
theorem giveBack_ok : ∀ {lent : List Nat} {outs : List CV} {H H2 : Hp}, giveBack lent outs H = some H2 → lent.Nodup →
   lent.length = outs.length ∧ H2.length = H.length ∧ (∀ r, r ∉ lent → H2[r]? = H[r]?) ∧ (∀ (i r : Nat) (x : CV), lent[i]? = some r → outs[i]? = some x → ∃ e k, H[r]? = some (.box e k) ∧ H2[r]? = some (.box (.c x) k))
 | [], [], H, H2, h, _ => by cases h; exact ⟨rfl, rfl, fun _ _ => rfl, by simp⟩
 | [], _ :: _, H, H2, h, _ => by simp [giveBack] at h
 | _ :: _, [], H, H2, h, _ => by simp [giveBack] at h
 | r :: rs, v :: vs, H, H2, h, hd => by
   simp only [giveBack] at h
   split at h <;> first | (cases h; done) | skip
   rename_i e k hr
   rw [List.nodup_cons] at hd
   obtain ⟨a1, a2, a3, a4⟩ := giveBack_ok h hd.2
   refine ⟨by simp [a1], by rw [a2]; simp, fun r' hr' => ?_, fun i r' x h1 h2 => ?_⟩
   · simp only [List.mem_cons, not_or] at hr'
     rw [a3 r' hr'.2, set_get_ne hr'.1]
   · cases i with
     | zero =>
       simp at h1 h2
       subst h1; subst h2
       exact ⟨e, k, hr, by rw [a3 r hd.1]; exact set_get_self (List.getElem?_eq_some_iff.1 hr).1⟩
     | succ i =>
       simp at h1 h2
       obtain ⟨e', k', q1, q2⟩ := a4 i r' x h1 h2
       have hne : r' ≠ r := fun e => hd.1 (e ▸ List.mem_of_getElem? h1)
       exact ⟨e', k', by rw [set_get_ne hne] at q1; exact q1, q2⟩
def behind (S S' : St) (u : List Nat) (H : Hp) : St :=
 { w := S'.w, ι := fun r => if r < S.H.length then S.ι r else match u[r - S.H.length]? with
     | some q => S'.ι q
     | none => none,
   cp := fun r => if r < S.H.length then S.cp r else match u[r - S.H.length]? with
     | some q => S'.cp q
     | none => 0,
   H := H, F := S.F, n0 := S.n0, ng := S.ng }
theorem behind_ok {S : St} (ok : Ok S) {xs : List CV} {vs : List Value} {lent : List Nat} (ha : ArgsR S xs vs lent) (hd : lent.Nodup) {S' : St} {u : List Nat} {rv : CV} {v : Value} {outs : List CV} {H2 : Hp} (ok' : Ok S') (K : Keeps (entry S lent (openArgs xs []).2) S')
   (hr : AllR S' rv v u) (hu : u.Nodup) (hL : LentR (entry S lent (openArgs xs []).2) S' outs u) (hg : giveBack lent outs S.H = some H2) :
   Good S (behind S S' u (openAll rv H2).2) ∧ Vr (behind S S' u (openAll rv H2).2) (openAll rv H2).1 v := by
 obtain ⟨g1, g2, g3, g4⟩ := giveBack_ok hg hd
 obtain ⟨e1, e2, e3⟩ := entry_ok ok ha hd
 obtain ⟨o1, o2⟩ := openAll_len hr H2
 have hlent : ∀ (i r : Nat), lent[i]? = some r → ∃ e k, (openArgs xs []).2[i]? = some (.box e k) := by
   intro i r hi
   have hlt : i < (openArgs xs []).2.length := by rw [e3]; exact (List.getElem?_eq_some_iff.1 hi).1
   obtain ⟨_, _, _, a4⟩ := openArgs_ok (Se := entry S lent (openArgs xs []).2) (entry_st ha.lent) rfl (H := []) ha (fun j r hj => by simp [entry, hj]) (Nat.le_refl _)
   obtain ⟨_, e, k, he⟩ := a4 i _ (by simp) (List.getElem?_eq_getElem hlt)
   exact ⟨e, k, by rw [List.getElem?_eq_getElem hlt, he]⟩
 have hout : ∀ (i r : Nat), lent[i]? = some r → ∃ x, outs[i]? = some x := by
   intro i r hi
   have : i < outs.length := by rw [← g1]; exact (List.getElem?_eq_some_iff.1 hi).1
   exact ⟨_, List.getElem?_eq_getElem this⟩
 have hbl : ∀ (q b : Nat), q ∈ u → S'.ι q = some b → S.w.heap.size ≤ b := by
   intro q b hq hb
   rcases K.own q b hb with ⟨i, hi⟩ | h
   · exfalso
     simp only [entry] at hi
     split at hi <;> first | (cases hi; done) | skip
     rename_i r hri
     obtain ⟨e, k, hbx⟩ := hlent i r hri
     obtain ⟨x, hx⟩ := hout i r hri
     obtain ⟨n1, _, n3, _⟩ := hL.at_ i e k x hbx hx
     have : S'.ι i = some b := by rw [n3]; simp [entry, hri, hi]
     exact n1 (ok'.inj q i b hb this ▸ hq)
   · exact h
 have hoth : ∀ (r b : Nat), r ∉ lent → S.ι r = some b → S'.w.heap[b]? = S.w.heap[b]? := by
   intro r b hr' hb
   refine K.blk b (ok.old r b hb) fun i hi => ?_
   simp only [entry] at hi
   split at hi <;> first | (cases hi; done) | skip
   rename_i r' hri
   obtain rfl := ok.inj r r' b hb hi
   exact hr' (List.mem_of_getElem? hri)
 have ιlt : ∀ r, r < S.H.length → (behind S S' u (openAll rv H2).2).ι r = S.ι r := fun r h => by simp [behind, h]
 have ιge : ∀ (r b : Nat), ¬ r < S.H.length → (behind S S' u (openAll rv H2).2).ι r = some b → ∃ q, u[r - S.H.length]? = some q ∧ S'.ι q = some b := by
   intro r b h hb
   simp only [behind, if_neg h] at hb
   split at hb <;> first | (cases hb; done) | skip
   rename_i q hq
   exact ⟨q, hq, hb⟩
 have hcal : ∀ {rr b q : Nat}, q ∈ u → S'.ι q = some b → ∀ off, ¬ stable S' b off := by
   intro rr b q hq hb off hs
   obtain ⟨xs0, k0, g0, h1, _⟩ := hs.2 q hb
   have hun : ∀ {x : CV} {v : Value} {us : List Nat}, CellR S' x v us → q ∈ us → False := by
     intro x v us h hq
     cases h with
     | data => simp at hq
     | own h => simp at hq; subst hq; rw [h1] at h; cases h
   have huns : ∀ {xs : List CV} {vs : List Value} {us : List Nat}, CellsR S' xs vs us → q ∈ us → False := by
     intro xs vs us h hq
     induction h with
     | nil => simp at hq
     | cons h1 h2 ih =>
       rcases List.mem_append.1 hq with hq | hq
       · exact hun h1 hq
       · exact ih hq
   have hunv : ∀ {x : CV} {v : Value} {us : List Nat}, ValR S' x v us → q ∈ us → False := by
     intro x v us h hq
     cases h with
     | cell h => exact hun h hq
     | agg h _ => exact huns h hq
   have hunr : ∀ {x : CV} {v : Value} {us : List Nat}, ResR S' x v us → q ∈ us → False := by
     intro x v us h hq
     cases h with
     | val h => exact hunv h hq
     | box p1 p2 p3 p4 p5 p6 p7 =>
       rcases List.mem_cons.1 hq with rfl | hq
       · rw [h1] at p1; cases p1
       · exact hunv p7 hq
   have hunt : ∀ {xs : List CV} {vs : List Value} {us : List Nat}, TupR S' xs vs us → q ∈ us → False := by
     intro xs vs us h hq
     induction h with
     | nil => simp at hq
     | cons h1 h2 ih =>
       rcases List.mem_append.1 hq with hq | hq
       · exact hunr h1 hq
       · exact ih hq
   cases hr with
   | res h => exact hunr h hq
   | tup h => exact hunt h hq
 have hF : S'.F = (entry S lent (openArgs xs []).2).F := K.F
 have hkeep : ∀ r, r ∉ lent → r < S.H.length → (openAll rv H2).2[r]? = S.H[r]? := fun r h1 h2 => by rw [o2 r (by omega), g3 r h1]
 have stS' : StExt S' (behind S S' u (openAll rv H2).2) := by
   intro b off v' hs hc
   refine ⟨⟨fun hf => hs.1 (by rw [hF]; exact .inl hf), fun r hr' => ?_⟩, hc⟩
   by_cases hlt : r < S.H.length
   · rw [ιlt r hlt] at hr'
     by_cases hm : r ∈ lent
     · exfalso
       obtain ⟨i, hi⟩ := List.mem_iff_getElem?.1 hm
       obtain ⟨e, k, hbx⟩ := hlent i r hi
       obtain ⟨x, hx⟩ := hout i r hi
       obtain ⟨_, ⟨e', n2⟩, n3, _⟩ := hL.at_ i e k x hbx hx
       have : S'.ι i = some b := by rw [n3]; simp [entry, hi, hr']
       obtain ⟨xs0, k0, g0, h1, _⟩ := hs.2 i this
       rw [n2] at h1; cases h1
     · rcases Classical.em (∃ xs k g, S.H[r]? = some (.row xs k g true) ∧ off < xs.length * k) with h | h
       · obtain ⟨xs0, k0, g0, h1, h2⟩ := h
         exact ⟨xs0, k0, g0, by show (openAll rv H2).2[r]? = _; rw [hkeep r hm hlt]; exact h1, h2⟩
       · exact absurd (by rw [hF]; exact .inr ⟨r, hm, hr', h⟩) hs.1
   · obtain ⟨q, hq, hqb⟩ := ιge r b hlt hr'
     exact absurd hs (hcal (rr := 0) (List.mem_of_getElem? hq) hqb off)
 have stS : StExt S (behind S S' u (openAll rv H2).2) := by
   intro b off v' hs hc
   have hb : b < S.w.heap.size := World.block_lt_of_cell? S.w _ hc
   refine ⟨⟨hs.1, fun r hr' => ?_⟩, ?_⟩
   · by_cases hlt : r < S.H.length
     · rw [ιlt r hlt] at hr'
       obtain ⟨xs0, k0, g0, h1, h2⟩ := hs.2 r hr'
       have hm : r ∉ lent := fun hm => by
         obtain ⟨e, k, h3⟩ := ha.lent r hm
         rw [h3] at h1; cases h1
       exact ⟨xs0, k0, g0, by show (openAll rv H2).2[r]? = _; rw [hkeep r hm hlt]; exact h1, h2⟩
     · obtain ⟨q, hq, hqb⟩ := ιge r b hlt hr'
       have := hbl q b (List.mem_of_getElem? hq) hqb
       omega
   · show S'.w.cell? _ = _
     rw [cell?_heap (K.blk b hb fun i hi => ?_)]; exact hc
     simp only [entry] at hi
     split at hi <;> first | (cases hi; done) | skip
     rename_i r hri
     obtain ⟨xs0, k0, g0, h1, _⟩ := hs.2 r hi
     obtain ⟨e, k, h3⟩ := ha.lent r (List.mem_of_getElem? hri)
     rw [h3] at h1; cases h1
 have I : Import S' (behind S S' u (openAll rv H2).2) S.H.length u := ⟨rfl, stS', fun j r hj => by
   simp only [behind, if_neg (show ¬ S.H.length + j < S.H.length by omega), Nat.add_sub_cancel_left, hj]
   exact ⟨trivial, trivial⟩⟩
 have hlen : (openAll rv H2).2.length = S.H.length + u.length := by rw [o1, g2]
 obtain ⟨hv, T⟩ := openAll_ok ok' I (by show _ ≤ (openAll rv H2).2.length; omega) (H := H2) hr g2 (fun _ _ h _ => h)
 have hlen0 : S.H.length ≤ (openAll rv H2).2.length := by omega
 have hold : ∀ (r : Nat) (o : AO), r < S.H.length → (openAll rv H2).2[r]? = some o → (r ∉ lent ∧ S.H[r]? = some o) ∨ (∃ (i : Nat) (e : PV) (k : Nat) (x : CV), lent[i]? = some r ∧ outs[i]? = some x ∧ S.H[r]? = some (.box e k) ∧ o = .box (.c x) k) := by
   intro r o hlt ho
   by_cases hm : r ∈ lent
   · obtain ⟨i, hi⟩ := List.mem_iff_getElem?.1 hm
     obtain ⟨x, hx⟩ := hout i r hi
     obtain ⟨e, k, q1, q2⟩ := g4 i r x hi hx
     rw [o2 r (by omega), q2] at ho
     exact .inr ⟨i, e, k, x, hi, hx, q1, (Option.some.inj ho).symm⟩
   · exact .inl ⟨hm, by rw [← hkeep r hm hlt]; exact ho⟩
 have E : Ext S (behind S S' u (openAll rv H2).2) := by
   refine ⟨stS, hlen0, ?_, ?_, ?_⟩
   · intro r e' k' hlt ho
     rcases hold r _ hlt ho with ⟨h1, h2⟩ | ⟨i, e, k, x, h1, h2, h3, h4⟩
     · exact ⟨e', k', h2, ιlt r hlt⟩
     · exact ⟨e, k, h3, ιlt r hlt⟩
   · intro r e' k' hlt ho
     rcases hold r _ hlt ho with ⟨h1, h2⟩ | ⟨i, e, k, x, h1, h2, h3, h4⟩
     · exact ⟨e', k', h2, ιlt r hlt⟩
     · cases h4
   · intro r xs' k' g' s' hlt ho
     rcases hold r _ hlt ho with ⟨h1, h2⟩ | ⟨i, e, k, x, h1, h2, h3, h4⟩
     · exact ⟨xs', k', g', s', h2, Nat.le_refl _, fun _ => ⟨rfl, rfl, ιlt r hlt, by simp [behind, hlt]⟩⟩
     · cases h4
 refine ⟨⟨⟨?_, ?_, ?_, ?_, ?_, ok.forb, ?_, ?_, ok.ng⟩, E, ⟨K.os, K.tape, K.output, K.size, ?_, ?_, rfl, rfl, rfl⟩⟩, hv⟩
 · intro r o ho
   have ho' : (openAll rv H2).2[r]? = some o := ho
   by_cases hlt : r < S.H.length
   · rcases hold r o hlt ho' with ⟨h1, h2⟩ | ⟨i, e, k, x, h1, h2, h3, h4⟩
     · exact (ok.ob r o h2).mono E (ιlt r hlt) (by simp [behind, hlt]) fun b hb => hoth r b h1 hb
     · subst h4
       obtain ⟨e0, k0, hbx⟩ := hlent i r h1
       obtain ⟨n1, _, n3, ve, b, T', fr, n4, n5, n6, n7, n8, n9⟩ := hL.at_ i e0 k0 x hbx h2
       have hb : S.ι r = some b := by simpa [entry, h1] using n4
       have hk : k0 = k := by
         obtain ⟨e1', e2', k', z1, z2⟩ := ha.box [] i r h1
         rw [h3] at z1; cases z1
         rw [List.length_nil, Nat.zero_add, hbx] at z2; cases z2
         rfl
       subst hk
       refine ⟨b, ve.cells, T', fr, ve, (ιlt r hlt).trans hb, n6, n7, ?_, .c (n5.move stS'), rfl, n8⟩
       have := n5.cells.1.length
       simp only [PV.ncells]; congr 1; simp at this; omega
   · have hlt2 := (List.getElem?_eq_some_iff.1 ho').1
     obtain ⟨o', q1, _, q3⟩ := T.live r (by omega) hlt2
     rw [ho'] at q1; cases q1; exact q3
 · intro r hr'
   have : (openAll rv H2).2.length ≤ r := hr'
   simp only [behind]
   rw [if_neg (by omega), List.getElem?_eq_none (by omega)]
 · intro r r' b h1 h2
   by_cases l1 : r < S.H.length <;> by_cases l2 : r' < S.H.length
   · rw [ιlt r l1] at h1; rw [ιlt r' l2] at h2; exact ok.inj r r' b h1 h2
   · rw [ιlt r l1] at h1
     obtain ⟨q, hq, hqb⟩ := ιge r' b l2 h2
     have := hbl q b (List.mem_of_getElem? hq) hqb
     have := ok.old r b h1; omega
   · rw [ιlt r' l2] at h2
     obtain ⟨q, hq, hqb⟩ := ιge r b l1 h1
     have := hbl q b (List.mem_of_getElem? hq) hqb
     have := ok.old r' b h2; omega
   · obtain ⟨q, hq, hqb⟩ := ιge r b l1 h1
     obtain ⟨q', hq', hqb'⟩ := ιge r' b l2 h2
     obtain rfl := ok'.inj q q' b hqb hqb'
     have := (List.getElem?_inj (List.getElem?_eq_some_iff.1 hq).1 hu).1 (hq.trans hq'.symm)
     omega
 · intro r b hb
   show b < S'.w.heap.size
   by_cases l1 : r < S.H.length
   · rw [ιlt r l1] at hb
     have := ok.old r b hb; have := K.size
     have : (entry S lent (openArgs xs []).2).w.heap.size = S.w.heap.size := rfl
     omega
   · obtain ⟨q, hq, hqb⟩ := ιge r b l1 hb
     exact ok'.old q b hqb
 · intro r b off hb
   by_cases l1 : r < S.H.length
   · rw [ιlt r l1] at hb; exact ok.free r b off hb
   · obtain ⟨q, hq, hqb⟩ := ιge r b l1 hb
     have h1 := hbl q b (List.mem_of_getElem? hq) hqb
     intro hf
     have := ok.forb _ _ hf; have := ok.n0; omega
 · show S.n0 ≤ S'.w.heap.size
   have := ok.n0; have := K.size
   have : (entry S lent (openArgs xs []).2).w.heap.size = S.w.heap.size := rfl
   omega
 · intro r b hb
   show S.ng ≤ b
   by_cases l1 : r < S.H.length
   · rw [ιlt r l1] at hb; exact ok.glob r b hb
   · obtain ⟨q, hq, hqb⟩ := ιge r b l1 hb
     have := ok'.glob q b hqb
     rw [K.ng] at this; exact this
 · intro b hb hn
   refine K.blk b hb fun i hi => ?_
   simp only [entry] at hi
   split at hi <;> first | (cases hi; done) | skip
   exact hn _ hi
 · intro r b hb
   by_cases l1 : r < S.H.length
   · rw [ιlt r l1] at hb; exact .inl ⟨r, hb⟩
   · obtain ⟨q, hq, hqb⟩ := ιge r b l1 hb
     exact .inr (hbl q b (List.mem_of_getElem? hq) hqb)
theorem noDup_ok : ∀ {l : List Nat}, noDup l = true → l.Nodup
 | [], _ => List.nodup_nil
 | r :: rs, h => by
   simp only [noDup, Bool.and_eq_true, Bool.not_eq_true', List.contains_eq_mem, decide_eq_false_iff_not] at h
   exact List.nodup_cons.2 ⟨h.1, noDup_ok h.2⟩
theorem alts_ok {K : CV → List CV → Res} {res : CV × List CV} {l : Alts} : alts' l K = some res → ∃ rv outs, pickAlt l = some (rv, outs) ∧ K rv outs = some res := by
 induction l with
 | nil => intro h; cases h
 | cons x l ih =>
   intro h
   obtain ⟨b, rv, outs⟩ := x
   rcases bif_some h with ⟨hb, h⟩ | ⟨hb, h⟩
   · subst hb; exact ⟨rv, outs, rfl, h⟩
   · subst hb
     obtain ⟨rv', outs', h1, h2⟩ := ih h
     exact ⟨rv', outs', h1, h2⟩
theorem bif_none {α : Type} (b : Bool) : bif' b (none : Option α) none = none := by cases b <;> rfl
theorem alts_strict : ∀ (l : Alts) {K : CV → List CV → Res}, (∀ rv outs, K rv outs = none) → alts' l K = none
 | [], K, h => rfl
 | (b, rv, outs) :: l, K, h => by
   unfold alts'
   rw [h, alts_strict l h]
   exact bif_none _
theorem call_ok {P : Program} {I : World → Prop} {tb : Table} {f : FuncId} {S : St} {args : List PV} {vals : Array Value} {K : KV} {res : CV × List CV} (ok : Ok S) (hI : I S.w) (hc : Contract P I S.ng f (tb f)) (hv : All2 (Vr S) args vals.toList) (h : call' tb f args S.H K = some res) :
   Calls P f vals S.w fun e w' => ∃ v S' p, e = .returned v ∧ S'.w = w' ∧ Good S S' ∧ I S'.w ∧ Vr S' p v ∧ K p S'.H = some res := by
 unfold call' at h
 split at h <;> first | (cases h; done) | skip
 rename_i cargs H1 lent hcl
 split at h <;> first | (cases h; done) | skip
 rename_i hnd
 have hd := noDup_ok hnd
 split at h <;> first | (cases h; done) | skip
 rename_i l hF
 have hh := alts_ok h
 clear h
 obtain ⟨rv, outs, hF1, h⟩ := hh
 have hF : picked (tb f cargs) = some (rv, outs) := by rw [hF]; exact hF1
 split at h <;> first | (cases h; done) | skip
 rename_i H2 hg
 obtain ⟨S1, e1, M, _, ha⟩ := closeArgs_ok ok hv hcl
 subst e1
 obtain ⟨q1, q2, q3⟩ := entry_ok M.good.ok ha hd
 have hw : S1.w = S.w := M.w
 have := hc cargs rv outs hF (entry S1 lent (openArgs cargs []).2) vals rfl q1 M.good.keeps.ng (by show I S1.w; rw [hw]; exact hI) q2
 rw [show (entry S1 lent (openArgs cargs []).2).w = S.w from hw] at this
 refine this.mono ?_
 rintro e w' ⟨v, S', u, rfl, rfl, ok', K', hI', hr, hu, hL⟩
 obtain ⟨G, hv'⟩ := behind_ok M.good.ok ha hd ok' K' hr hu hL hg
 exact ⟨v, behind S1 S' u (openAll rv H2).2, (openAll rv H2).1, rfl, rfl, M.good.trans G, hI', hv', h⟩
def NF0 (f : Hp → KV → Res) : Prop := (∃ p, ∀ H K, f H K = K p H) ∨ (∀ H K, f H K = none)
theorem NF0.ret (p : PV) : NF0 (fun H K => K p H) := .inl ⟨p, fun _ _ => rfl⟩
theorem NF0.no : NF0 (fun _ _ => none) := .inr fun _ _ => rfl
theorem NF0.bif {b : Bool} {f g : Hp → KV → Res} (hf : NF0 f) (hg : NF0 g) : NF0 (fun H K => bif' b (f H K) (g H K)) := by
 cases b
 · exact hg
 · exact hf
theorem NF0.bift {b : Bool} {f : Hp → KV → Res} (hf : NF0 f) : NF0 (fun H K => bif' b (f H K) none) := hf.bif NF0.no
theorem NF0.ite {c : Prop} [Decidable c] {f g : Hp → KV → Res} (hf : NF0 f) (hg : NF0 g) : NF0 (fun H K => if c then f H K else g H K) := by
 by_cases h : c
 · simp only [h, if_true]; exact hf
 · simp only [h, if_false]; exact hg
theorem NF0.itet {c : Prop} [Decidable c] {f : Hp → KV → Res} (hf : NF0 f) : NF0 (fun H K => if c then f H K else none) := hf.ite NF0.no
theorem c_list {S : St} : ∀ {cs : List CV} {vs : List Value}, All2 (Vr S) (cs.map .c) vs → All2 (Vc S) cs vs
 | [], vs, h => by cases h; exact .nil
 | c :: cs, vs, h => by
   cases h with
   | cons h1 h2 => exact .cons (c_of h1) (c_list h2)
theorem dataCells_ok {S : St} : ∀ {ps : List PV} {vs : List Value} {cs : List CV}, All2 (Vr S) ps vs → dataCells ps = some cs → All2 (Vc S) cs vs
 | [], vs, cs, h, hc => by cases h; cases hc; exact .nil
 | p :: ps, vs, cs, h, hc => by
   cases h with
   | cons h1 h2 =>
     cases p with
     | c v =>
       simp only [dataCells] at hc
       split at hc <;> first | (cases hc; done) | skip
       split at hc <;> first | (cases hc; done) | skip
       rename_i hx
       cases hc
       exact .cons (c_of h1) (dataCells_ok h2 hx)
     | _ => simp [dataCells] at hc
theorem dataArgs_ok {S : St} : ∀ {ps : List PV} {vs : List Value} {cs : List CV}, All2 (Vr S) ps vs → dataArgs ps = some cs → All2 (Vr S) (cs.map .c) vs ∧ noBox cs = true
 | [], vs, cs, h, hc => by cases h; cases hc; exact ⟨.nil, rfl⟩
 | p :: ps, vs, cs, h, hc => by
   cases h with
   | cons h1 h2 =>
     cases p with
     | c v =>
       simp only [dataArgs] at hc
       split at hc <;> first | (cases hc; done) | skip
       rename_i hnb
       split at hc <;> first | (cases hc; done) | skip
       rename_i hx
       cases hc
       obtain ⟨a1, a2⟩ := dataArgs_ok h2 hx
       refine ⟨.cons h1 a1, ?_⟩
       cases v <;> first | exact a2 | exact (hnb _ _ rfl).elim
     | agg us =>
       simp only [dataArgs] at hc
       split at hc <;> first | (cases hc; done) | skip
       rename_i cs' vs' hx hy
       cases hc
       obtain ⟨a1, a2⟩ := dataArgs_ok h2 hy
       cases h1 with
       | agg us ws q1 q2 => exact ⟨.cons (.c (.agg _ _ (dataCells_ok q1 hx) q2)) a1, a2⟩
     | _ => simp [dataArgs] at hc
theorem dataArgs_nb : ∀ {ps : List PV} {cs : List CV}, dataArgs ps = some cs → noBox cs = true
 | [], cs, hc => by cases hc; rfl
 | p :: ps, cs, hc => by
   cases p with
   | c v =>
     simp only [dataArgs] at hc
     split at hc <;> first | (cases hc; done) | skip
     rename_i hnb
     split at hc <;> first | (cases hc; done) | skip
     rename_i hx
     cases hc
     have a2 := dataArgs_nb hx
     cases v <;> first | exact a2 | exact (hnb _ _ rfl).elim
   | agg us =>
     simp only [dataArgs] at hc
     split at hc <;> first | (cases hc; done) | skip
     rename_i cs' vs' hx hy
     cases hc
     exact dataArgs_nb (cs := vs') hy
   | _ => simp [dataArgs] at hc
theorem closeArgs_data : ∀ {cs : List CV}, noBox cs = true → ∀ H, closeArgs (cs.map .c) H = some (cs, H, [])
 | [], _, H => rfl
 | v :: l, h, H => by
   have h2 : noBox l = true := by cases v <;> first | exact h | (simp [noBox] at h; done)
   simp only [List.map_cons, closeArgs, closeArg, closeVal, closeArgs_data h2, List.nil_append]
theorem openRes_data (v : CV) : (∃ u, ∀ H, openRes v H = (.c u, H)) ∨ ∀ H, dataPV (openRes v H).1 = false ∧ ∀ l, allCV ((openRes v H).1 :: l) = false := by
 cases v with
 | sl own full k xs =>
   cases own with
   | true => exact .inr fun H => ⟨rfl, fun _ => rfl⟩
   | false => exact .inl ⟨_, fun H => rfl⟩
 | aggO cs => exact .inr fun H => ⟨rfl, fun _ => rfl⟩
 | boxv k e => exact .inr fun H => ⟨rfl, fun _ => rfl⟩
 | _ => exact .inl ⟨_, fun H => rfl⟩
theorem openTup_data : ∀ vs : List CV, (∃ ps, ∀ H, openTup vs H = (ps, H)) ∨ ∀ H, allCV (openTup vs H).1 = false
 | [] => .inl ⟨[], fun H => rfl⟩
 | v :: vs => by
   rcases openRes_data v with ⟨u, hu⟩ | hn
   · rcases openTup_data vs with ⟨ps, hp⟩ | hm
     · exact .inl ⟨.c u :: ps, fun H => by simp only [openTup, hu, hp]⟩
     · exact .inr fun H => by
         simp only [openTup, hu]
         exact hm H
   · exact .inr fun H => (hn H).2 _
theorem openAll_nf (rv : CV) : NF0 (fun H K => dataK K (openAll rv H).1 (openAll rv H).2) := by
 have res : (∀ H, openAll rv H = openRes rv H) → NF0 (fun H K => dataK K (openAll rv H).1 (openAll rv H).2) := by
   intro he
   rcases openRes_data rv with ⟨u, hu⟩ | hn
   · exact .inl ⟨.c u, fun H K => by dsimp only; rw [he, hu]; rfl⟩
   · refine .inr fun H K => ?_
     dsimp only
     rw [he]
     unfold dataK
     rw [(hn H).1]
 cases rv with
 | tup vs =>
   rcases openTup_data vs with ⟨ps, hp⟩ | hm
   · cases hc : allCV ps with
     | true =>
       refine .inl ⟨.tup ps, fun H K => ?_⟩
       simp only [openAll, hp, dataK, dataPV, hc]
     | false =>
       refine .inr fun H K => ?_
       simp only [openAll, hp, dataK, dataPV, hc]
   · refine .inr fun H K => ?_
     simp only [openAll, dataK, dataPV, hm]
 | _ => exact res fun H => rfl
theorem call_pure (tb : Table) (f : FuncId) (cs : List CV) (h : noBox cs = true) : NF0 (fun H K => call' tb f (cs.map .c) H (dataK K)) := by
 unfold call'
 simp only [closeArgs_data h, noDup, if_true]
 cases tb f cs with
 | none => exact NF0.no
 | some l =>
   induction l with
   | nil => exact NF0.no
   | cons x l ih =>
     obtain ⟨b, rv, outs⟩ := x
     refine NF0.bif ?_ ih
     cases outs with
     | nil => exact openAll_nf rv
     | cons _ _ => exact NF0.no
structure HOk (P : Program) (I : World → Prop) (ng : Nat) (tb : Handler) : Prop where
 call : ∀ {f : FuncId} {S : St} {args : List PV} {vals : Array Value} {K : KV} {res : CV × List CV}, Ok S → S.ng = ng → I S.w → All2 (Vr S) args vals.toList → tb f args S.H K = some res →
   Calls P f vals S.w fun e w' => ∃ v S' p, e = .returned v ∧ S'.w = w' ∧ Good S S' ∧ I S'.w ∧ Vr S' p v ∧ K p S'.H = some res
 strict : ∀ f args H, tb f args H (fun _ _ => none) = none
 pure : ∀ f cs, noBox cs = true → NF0 (fun H K => tb f (cs.map .c) H (dataK K))
theorem call_strict {tb : Table} (f : FuncId) (args : List PV) (H : Hp) : call' tb f args H (fun _ _ => none) = none := by
 unfold call'
 split
 · rfl
 · split
   · split
     · rfl
     · refine alts_strict _ fun rv outs => ?_
       split <;> rfl
   · rfl
theorem hok_of {P : Program} {I : World → Prop} {ng : Nat} {tb : Table} (h : ∀ f, Contract P I ng f (tb f)) : HOk P I ng (call' tb) where
 call := fun {f S args vals K res} ok hng hI hv hc => call_ok ok hI (by rw [hng]; exact h f) hv hc
 strict := call_strict
 pure := call_pure tb
end Go.Pv
namespace Go.Pv
open Go
def OnGlobals (I : World → Prop) (ng : Nat) : Prop := ∀ w w' : World, (∀ b, b < ng → w'.heap[b]? = w.heap[b]?) → I w → I w'
theorem Keeps.inv {I : World → Prop} {S S' : St} (ok : Ok S) (K : Keeps S S') (hI : OnGlobals I S.ng) (h : I S.w) : I S'.w := by
 refine hI S.w S'.w (fun b hb => K.blk b ?_ fun r hr => ?_) h
 · have := ok.ng; have := ok.n0; omega
 · have := ok.glob r b hr; omega
theorem Good.inv {I : World → Prop} {S S' : St} (ok : Ok S) (G : Good S S') (hI : OnGlobals I S.ng) (h : I S.w) : I S'.w := G.keeps.inv ok hI h
def After (S : St) (a : Act) (d : Option Tmp) (I : World → Prop) (K : KV) (res : CV × List CV) (a' : Act) (w' : World) : Prop :=
 ∃ S' p v, a' = a.put d v ∧ S'.w = w' ∧ Good S S' ∧ I S'.w ∧ Vr S' p v ∧ K p S'.H = some res
theorem Does.wp {P : Program} {I : World → Prop} {o : Oper} {a : Act} {s : Sem Value} {S : St} {K : KV} {res : CV × List CV} {Q : Exit → Act → World → Prop} (ok : Ok S) (hg : OnGlobals I S.ng) (hI : I S.w) (he : execOp a.eval o = (do pure (Next.value (← s)))) (h : Does P s S K res) :
   o.wp P a S.w (After S a o.dst I K res) Q := by
 obtain ⟨v, S', p, h1, h2, h3, h4⟩ := h
 unfold Oper.wp
 rw [he]
 simp only [Sem.run_bind, h1, Result.andThen_ok, Sem.run_pure, Oper.upon_value]
 exact ⟨S', p, v, rfl, rfl, h2, h2.inv ok hg hI, h3, h4⟩
theorem Does.wp' {P : Program} {I : World → Prop} {o : Oper} {a : Act} {s : Sem Value} {S : St} {K : KV} {res : CV × List CV} {Q : Exit → Act → World → Prop} (ok : Ok S) (hg : OnGlobals I S.ng) (hI : I S.w) (he : (execOp a.eval o).run P S.w = (s.run P S.w).andThen fun v w => .ok (.value v) w) (h : Does P s S K res) :
   o.wp P a S.w (After S a o.dst I K res) Q := by
 obtain ⟨v, S', p, h1, h2, h3, h4⟩ := h
 unfold Oper.wp
 rw [he]
 simp only [h1, Result.andThen_ok, Oper.upon_value]
 exact ⟨S', p, v, rfl, rfl, h2, h2.inv ok hg hI, h3, h4⟩
theorem arr1 {α β : Type} {l : Array α} {f : α → β} {x : β} (h : l.toList.map f = [x]) : ∃ y, l = #[y] ∧ f y = x := by
 obtain ⟨l⟩ := l
 match l, h with
 | [y], h => exact ⟨y, rfl, by simpa using h⟩
theorem arr2 {α β : Type} {l : Array α} {f : α → β} {x y : β} (h : l.toList.map f = [x, y]) : ∃ a b, l = #[a, b] ∧ f a = x ∧ f b = y := by
 obtain ⟨l⟩ := l
 match l, h with
 | [a, b], h =>
   simp at h
   exact ⟨a, b, rfl, h.1, h.2⟩
theorem All2.ofMap {S : St} {α : Type} {f : α → PV} {g : α → Value} (h : ∀ x, Vr S (f x) (g x)) : ∀ (l : List α), All2 (Vr S) (l.map f) (l.map g)
 | [] => .nil
 | x :: l => .cons (h x) (All2.ofMap h l)
theorem find_indexByte {fn : Func} (h : fn.name = "internal/bytealg.IndexByteString") : Extern.find fn = some Extern.BytealgIndexByte.indexByte := by
 have hg : Extern.allGenericRows.lookup "internal/bytealg.IndexByteString" = none := by kernel_rfl
 have ht : Extern.allTypedRows.lookup "internal/bytealg.IndexByteString" = none := by kernel_rfl
 have hr : Extern.allRows.lookup "internal/bytealg.IndexByteString" = some Extern.BytealgIndexByte.indexByte := by kernel_rfl
 simp only [Extern.find, h, hg, ht, hr]
 rfl
theorem next_indexByte {fn : Func} (h : fn.name = "internal/bytealg.IndexByteString") (ho : fn.origin = "") : Extern.findNext fn = none := by
 have hg : Extern.allNextRows.lookup "internal/bytealg.IndexByteString" = none := by kernel_rfl
 have hr : Extern.allNextRows.lookup "" = none := by kernel_rfl
 simp only [Extern.findNext, h, ho, hg, hr]
 rfl
theorem find_noEscape {fn : Func} (h : fn.name = "internal/abi.NoEscape") : Extern.find fn = some Extern.AbiNoEscape.same := by
 have hg : Extern.allGenericRows.lookup "internal/abi.NoEscape" = none := by kernel_rfl
 have ht : Extern.allTypedRows.lookup "internal/abi.NoEscape" = none := by kernel_rfl
 have hr : Extern.allRows.lookup "internal/abi.NoEscape" = some Extern.AbiNoEscape.same := by kernel_rfl
 simp only [Extern.find, h, hg, ht, hr]
 rfl
theorem next_noEscape {fn : Func} (h : fn.name = "internal/abi.NoEscape") (ho : fn.origin = "") : Extern.findNext fn = none := by
 have hg : Extern.allNextRows.lookup "internal/abi.NoEscape" = none := by kernel_rfl
 have hr : Extern.allNextRows.lookup "" = none := by kernel_rfl
 simp only [Extern.findNext, h, ho, hg, hr]
 rfl
theorem ext_ok {P : Program} {f : FuncId} {args : List PV} {vals : Array Value} {S : St} {K : KV} {res : CV × List CV} (ok : Ok S) (hv : All2 (Vr S) args vals.toList) (h : ext' P f args S.H K = some res) :
   ∃ v, (callFunc f vals).run P S.w = .ok (.value v) S.w ∧ Does P (pure v) S K res := by
 unfold ext' at h
 split at h <;> first | (cases h; done) | skip
 · rename_i hn
   split at h <;> first | (cases h; done) | skip
   rename_i s c
   unfold extNo at hn
   split at hn <;> first | (cases hn; done) | skip
   rename_i fn hf
   split at hn <;> first | (cases hn; done) | skip
   rename_i hb
   split at hn
   · rename_i hname
     simp only [Bool.and_eq_true, beq_iff_eq] at hb hname
     obtain ⟨x, y, hvs, h1, h2⟩ : ∃ x y, vals = #[x, y] ∧ Vr S (.c (.str s)) x ∧ Vr S (.c (.int .u8 c)) y := by
       obtain ⟨l⟩ := vals
       cases hv with
       | cons h1 h2 =>
         cases h2 with
         | cons h2 h3 =>
           cases h3
           exact ⟨_, _, rfl, h1, h2⟩
     have hx : x = .string s := by cases c_of h1; rfl
     have hy : y = .int .u8 c := by cases c_of h2; rfl
     subst hvs; subst hx; subst hy
     refine ⟨_, ?_, .same ok (Sem.run_pure ..) (.c (.int ..)) h⟩
     rw [run_callFunc_extern hf (by rw [hname]; rfl) hb.1 (next_indexByte hname hb.2) (find_indexByte hname), Lib.run_indexByteString]
     rfl
   · split at hn <;> cases hn
 · rename_i hn
   split at h <;> first | (cases h; done) | skip
   rename_i p
   unfold extNo at hn
   split at hn <;> first | (cases hn; done) | skip
   rename_i fn hf
   split at hn <;> first | (cases hn; done) | skip
   rename_i hb
   split at hn
   · cases hn
   · split at hn <;> first | (cases hn; done) | skip
     rename_i hname
     simp only [Bool.and_eq_true, beq_iff_eq] at hb hname
     obtain ⟨x, hvs, h1⟩ : ∃ x, vals = #[x] ∧ Vr S p x := by
       obtain ⟨l⟩ := vals
       cases hv with
       | cons h1 h2 =>
         cases h2
         exact ⟨_, rfl, h1⟩
     subst hvs
     refine ⟨x, ?_, .same ok (Sem.run_pure ..) h1 h⟩
     rw [run_callFunc_extern hf (by rw [hname]; rfl) hb.1 (next_noEscape hname hb.2) (find_noEscape hname)]
     rfl
theorem run_call {P : Program} {w : World} {f : FuncId} {args : Array Value} (h : plainFn P f = true) : (callFunc f args).run P w = .ok (.enter f args) w := by
 unfold plainFn at h
 split at h <;> first | (cases h; done) | skip
 rename_i fn hf
 simp only [Bool.and_eq_true, bne_iff_ne, ne_eq] at h
 have hb : ¬ fn.body = none := by
   intro hb; rw [hb] at h; simp at h
 simp [callFunc, hf, h.1, hb]
theorem call_wp {P : Program} {I : World → Prop} {tb : Handler} {o : Oper} {a : Act} {S : St} {f : FuncId} {args : List PV} {vals : Array Value} {K : KV} {res : CV × List CV} {Q : Exit → Act → World → Prop} (ok : Ok S) (hI : I S.w) (tbl : HOk P I S.ng tb)
   (he : (execOp a.eval o).run P S.w = .ok (.enter f vals) S.w) (hv : All2 (Vr S) args vals.toList) (h : tb f args S.H K = some res) : o.wp P a S.w (After S a o.dst I K res) Q := by
 unfold Oper.wp
 rw [he]
 simp only [Oper.upon_enter]
 refine (tbl.call ok rfl hI hv h).mono ?_
 rintro e w' ⟨v, S', p, rfl, rfl, G, hI', hv', hk⟩
 exact ⟨S', p, v, rfl, rfl, G, hI', hv', hk⟩
theorem aop_ok {P : Program} {I : World → Prop} {tb : Handler} {o : Oper} {a : Act} {S : St} {ev : Operand → PV} {K : KV} {res : CV × List CV} {Q : Exit → Act → World → Prop} (ok : Ok S) (hg : OnGlobals I S.ng) (hI : I S.w) (tbl : HOk P I S.ng tb)
   (hρ : ∀ x, Vr S (ev x) (a.eval x)) (h : aop P tb o ev S.H K = some res) : o.wp P a S.w (After S a o.dst I K res) Q := by
 obtain ⟨dst, op, type, pos, after, guard⟩ := o
 unfold aop at h
 simp only at h
 cases op <;> (try simp only at h)
 case move x => exact Does.wp ok hg hI rfl (.same (s := pure (a.eval x)) ok rfl (hρ x) h)
 case assign x => exact Does.wp ok hg hI rfl (.same (s := pure (a.eval x)) ok rfl (hρ x) h)
 case pick c x y =>
   split at h <;> first | (cases h; done) | skip
   rename_i t hc
   have hc' := hρ c
   rw [hc] at hc'
   have hb := bool_of hc'
   rcases bif_some h with ⟨rfl, h⟩ | ⟨rfl, h⟩
   · exact Does.wp (s := pure (a.eval x)) ok hg hI (by simp only [execOp, hb]; rfl) (.same ok rfl (hρ x) h)
   · exact Does.wp (s := pure (a.eval y)) ok hg hI (by simp only [execOp, hb]; rfl) (.same ok rfl (hρ y) h)
 case alloc t =>
   split at h <;> first | (cases h; done) | skip
   rename_i z hz
   split at h <;> first | (cases h; done) | skip
   rename_i hl
   exact Does.wp ok hg hI rfl (alloc_ok ok hz hl h)
 case box t x =>
   split at h <;> first | (cases h; done) | skip
   rename_i k hk
   split at h <;> first | (cases h; done) | skip
   rename_i hl
   exact Does.wp ok hg hI rfl (box_ok ok (hρ x) hk hl h)
 case build t parts =>
   refine Does.wp ok hg hI rfl (build_ok ok ?_ h)
   simp only [Array.toList_map]
   induction parts.toList with
   | nil => exact .nil
   | cons q l ih => exact .cons ⟨rfl, hρ _⟩ ih
 case buildSlice t len parts =>
   refine Does.wp ok hg hI rfl (buildSlice_ok ok ?_ h)
   simp only [Array.toList_map]
   induction parts.toList with
   | nil => exact .nil
   | cons q l ih => exact .cons ⟨rfl, hρ _⟩ ih
 case load t x => exact Does.wp ok hg hI rfl (load_ok ok (hρ x) h)
 case store t x y =>
   obtain ⟨S', s1, s2, s3⟩ := store_ok (P := P) ok (hρ x) (hρ y) h
   unfold Oper.wp
   simp only [execOp, Sem.run_bind, s1, Result.andThen_ok, Sem.run_pure, Oper.upon_skip]
   exact ⟨S', .tup [], undef, rfl, rfl, s2, s2.inv ok hg hI, .tup _ _ .nil, s3⟩
 case nilCheck x =>
   have hx := hρ x
   split at h <;> first | (cases h; done) | skip
   · rename_i r t hev
     split at h <;> first | (cases h; done) | skip
     rename_i e k hr
     rw [hev] at hx
     have hx0 := hx
     cases hx with
     | bptr r t v o1 hlt hb =>
       obtain ⟨b, _, hv⟩ := hb _ _ hr
       exact Does.wp (s := pure (a.eval x)) ok hg hI (by simp only [execOp, hv]; rfl) (.same ok rfl hx0 h)
   · rename_i r g i t hev
     split at h <;> first | (cases h; done) | skip
     rename_i q hr0
     obtain ⟨xs, k, s⟩ := q
     have hr := getRow_some hr0
     rw [hev] at hx
     have hx0 := hx
     cases hx with
     | rptr r g i t v o1 hg' hb =>
       obtain ⟨b, _, hv⟩ := hb _ _ _ hr
       exact Does.wp (s := pure (a.eval x)) ok hg hI (by simp only [execOp, hv]; rfl) (.same ok rfl hx0 h)
   · rename_i cs hev
     rw [hev] at hx
     have hx0 := hx
     generalize hv : a.eval x = v at hx hx0
     cases hx with
     | ro cs ad vs _ _ => exact Does.wp (s := pure (.pointer (some ad))) ok hg hI (by simp only [execOp, hv]; rfl) (.same ok rfl hx0 h)
   · rename_i f caps hev
     rw [hev] at hx
     have hx0 := hx
     generalize hv : a.eval x = v at hx hx0
     cases hx with
     | fn f caps vs _ => exact Does.wp (s := pure (.func (.func f) #[] vs)) ok hg hI (by simp only [execOp, hv]; rfl) (.same ok rfl hx0 h)
 case binOp op t x y yt => exact Does.wp ok hg hI rfl (binOp_ok ok (hρ x) (hρ y) h)
 case unOp op t x => exact Does.wp ok hg hI rfl (unOp_ok ok (hρ x) h)
 case convert s d x => exact Does.wp ok hg hI rfl (convert_ok ok (hρ x) h)
 case makeInterface t x =>
   have hx := hρ x
   split at h <;> first | (cases h; done) | skip
   rename_i d hne hu hev
   refine Does.wp ok hg hI rfl (.same ok (v := .iface t (a.eval x)) (p := .c .err) ?_ (.c (.err _ _)) h)
   simp only [Instr.makeInterface, Sem.run_bind, run_underlying hu, Result.andThen_ok]
   cases d <;> first | rfl | exact (hne _ hu).elim
 case makeFunc fn first captured =>
   cases fn <;> (try simp only at h) <;> first | (cases h; done) | skip
   rename_i f
   split at h <;> first | (cases h; done) | skip
   rename_i hf
   have hf' : first = #[] := by cases first; simp at hf; subst hf; rfl
   subst hf'
   refine Does.wp ok hg hI rfl (.same ok (v := .func (.func f) #[] (captured.map a.eval)) ?_ (.fn _ _ _ ?_) h)
   · simp [Instr.makeFunc]
   · rw [Array.toList_map]; exact All2.ofMap hρ _
 case makeSlice t l c => exact Does.wp ok hg hI rfl (makeSlice_ok ok (hρ l) (hρ c) h)
 case slice t x lo hi mx =>
   have hopt : ∀ (z : Option Operand), OptR S (z.map ev) (z.map a.eval) := by
     intro z; cases z with
     | none => exact trivial
     | some z => exact hρ z
   exact Does.wp ok hg hI rfl (slice_ok ok (hρ x) (hopt lo) (hopt hi) (hopt mx) h)
 case fieldAddr t x f => exact Does.wp ok hg hI rfl (fieldAddr_ok ok (hρ x) h)
 case field t x f => exact Does.wp ok hg hI rfl (field_ok ok (hρ x) h)
 case indexAddr t x i => exact Does.wp ok hg hI rfl (indexAddr_ok ok (hρ x) (hρ i) h)
 case index t x i => exact Does.wp ok hg hI rfl (index_ok ok (hρ x) (hρ i) h)
 case range t x =>
   have hx := hρ x
   split at h <;> first | (cases h; done) | skip
   rename_i s hu hev
   rw [hev] at hx
   have hv := str_of hx
   exact Does.wp ok hg hI (by simp only [execOp, hv]) (range_ok ok hu h)
 case next it isS =>
   have hx := hρ it
   cases isS <;> (try simp only at h) <;> first | (cases h; done) | skip
   split at h <;> first | (cases h; done) | skip
   rename_i r hev
   split at h <;> first | (cases h; done) | skip
   rename_i s ps hr
   rw [hev] at hx
   exact Does.wp ok hg hI rfl (next_ok ok hx hr h)
 case extract t i =>
   have hx := hρ t
   split at h <;> first | (cases h; done) | skip
   rename_i ps hev
   split at h <;> first | (cases h; done) | skip
   rename_i p hp
   rw [hev] at hx
   generalize hv : a.eval t = v at hx
   cases hx with
   | tup ps vs h1 =>
     obtain ⟨u, hu, hpu⟩ := h1.get hp
     have hu' : vs[i]? = some u := by simpa using hu
     exact Does.wp (s := pure u) ok hg hI (by simp only [execOp, hv, Instr.extract, hu']) (.same ok rfl hpu h)
 case call c =>
   split at h <;> first | (cases h; done) | skip
   · rename_i b hcal
     unfold builtin' at h
     split at h <;> first | (cases h; done) | skip
     · rename_i x t hargs htys
       obtain ⟨y, hy, hyx⟩ := arr1 hargs
       have ht : c.argTypes = #[t] := by
         apply Array.ext'
         rw [htys]
       subst hyx
       exact Does.wp' ok hg hI (by simp [execOp, resolve, hcal, hy, ht, invoke, builtin]) (len_ok ok (hρ y) type h)
     · rename_i s x t u hargs htys
       split at h <;> first | (cases h; done) | skip
       rename_i d hnu hu
       obtain ⟨y, z, hy, hys, hzx⟩ := arr2 hargs
       have ht : c.argTypes = #[t, u] := by
         apply Array.ext'
         rw [htys]
       subst hys; subst hzx
       refine Does.wp' ok hg hI (by simp [execOp, resolve, hcal, hy, ht, invoke, builtin]) (append_ok (ty := type) ok (hρ y) (hρ z) ⟨d, hu, fun k e => hnu k e⟩ h)
     · rename_i s x t u hargs htys
       obtain ⟨y, z, hy, hys, hzx⟩ := arr2 hargs
       have ht : c.argTypes = #[t, u] := by
         apply Array.ext'
         rw [htys]
       subst hys; subst hzx
       exact Does.wp' ok hg hI (by simp [execOp, resolve, hcal, hy, ht, invoke, builtin]) (copy_ok (u := u) (ty := type) ok (hρ y) (hρ z) h)
     · rename_i x hargs
       obtain ⟨y, hy, hyx⟩ := arr1 hargs
       subst hyx
       exact Does.wp' ok hg hI (by simp [execOp, resolve, hcal, hy, invoke, builtin]) (sliceData_ok (ts := c.argTypes) (ty := type) ok (hρ y) h)
     · rename_i x n pt it hargs htys
       obtain ⟨y, z, hy, hys, hzx⟩ := arr2 hargs
       have ht : c.argTypes = #[pt, it] := by
         apply Array.ext'
         rw [htys]
       subst hys; subst hzx
       exact Does.wp' ok hg hI (by simp [execOp, resolve, hcal, hy, ht, invoke, builtin]) (unsafeString_ok (it := it) (ty := type) ok (hρ y) (hρ z) h)
   · rename_i f hcal
     have hf := hρ f
     split at h
     · unfold pure' at h
       split at h <;> first | (cases h; done) | skip
       rename_i fid hev
       rw [hev] at hf
       generalize hv : a.eval f = v at hf
       cases hf with
       | fn f caps vs h1 =>
         have hvs : vs = #[] := by
           cases vs with
           | mk l => cases h1; rfl
         subst hvs
         split at h
         · rename_i hpl
           split at h <;> first | (cases h; done) | skip
           rename_i cargs hda
           obtain ⟨a1, a2⟩ := dataArgs_ok (vs := (c.args.map a.eval).toList) (by rw [Array.toList_map]; exact All2.ofMap hρ _) hda
           have he : (execOp a.eval { dst := dst, op := .call c, type := type, pos := pos, after := after, guard := guard }).run P S.w = .ok (.enter fid (c.args.map a.eval)) S.w := by
             simp [execOp, resolve, hcal, hv, Deferred.ofValue, invoke, run_call hpl]
           refine Oper.wp_mono ?_ (call_wp (K := dataK K) (res := res) ok hI tbl he a1 h)
           rintro a' w' ⟨S', p, v, e1, e2, G, hI', hv', hk⟩
           refine ⟨S', p, v, e1, e2, G, hI', hv', ?_⟩
           unfold dataK at hk
           split at hk
           · exact hk
           · cases hk
         · obtain ⟨v', e1, e2⟩ := ext_ok (vals := c.args.map a.eval) ok (by
             rw [Array.toList_map]
             exact All2.ofMap hρ _) h
           refine Does.wp' (s := pure v') ok hg hI (by simp [execOp, resolve, hcal, hv, Deferred.ofValue, invoke, e1]) e2
     split at h <;> first | (cases h; done) | skip
     · rename_i fid caps hev
       rw [hev] at hf
       generalize hv : a.eval f = v at hf
       split at h
       · rename_i hpl
         cases hf with
         | fn f caps vs h1 =>
           refine call_wp (vals := (c.args.map a.eval) ++ vs) ok hI tbl ?_ ?_ h
           · simp [execOp, resolve, hcal, hv, Deferred.ofValue, invoke, run_call hpl]
           · rw [Array.toList_append, Array.toList_map]
             exact (All2.ofMap hρ _).append h1
       · cases hf with
         | fn f caps vs h1 =>
           obtain ⟨v', e1, e2⟩ := ext_ok (vals := (c.args.map a.eval) ++ vs) ok (by
             rw [Array.toList_append, Array.toList_map]
             exact (All2.ofMap hρ _).append h1) h
           refine Does.wp' (s := pure v') ok hg hI (by simp [execOp, resolve, hcal, hv, Deferred.ofValue, invoke, e1]) e2
     · rename_i fid caps hev
       rw [hev] at hf
       generalize hv : a.eval f = v at hf
       split at h
       · rename_i hpl
         cases hf with
         | c hf =>
           cases hf with
           | fn f caps vs h1 =>
             refine call_wp (vals := (c.args.map a.eval) ++ vs) ok hI tbl ?_ ?_ h
             · simp [execOp, resolve, hcal, hv, Deferred.ofValue, invoke, run_call hpl]
             · rw [Array.toList_append, Array.toList_map]
               exact (All2.ofMap hρ _).append (Vr.ofcl h1)
       · cases hf with
         | c hf =>
           cases hf with
           | fn f caps vs h1 =>
             obtain ⟨v', e1, e2⟩ := ext_ok (vals := (c.args.map a.eval) ++ vs) ok (by
               rw [Array.toList_append, Array.toList_map]
               exact (All2.ofMap hρ _).append (Vr.ofcl h1)) h
             refine Does.wp' (s := pure v') ok hg hI (by simp [execOp, resolve, hcal, hv, Deferred.ofValue, invoke, e1]) e2
 all_goals cases h
end Go.Pv
namespace Go.Pv
open Go
def EnvR (S : St) (env : Env) (a : Act) : Prop := All2 (Vr S) env a.tmps.toList
theorem EnvR.mono {S S' : St} (E : Ext S S') {env : Env} {a : Act} (h : EnvR S env a) : EnvR S' env a := h.imp fun _ _ _ h => h.mono E
theorem evl_ok {S : St} {env : Env} {a : Act} (h : EnvR S env a) : ∀ x, Vr S (evl env x) (a.eval x) := by
 intro x
 cases x with
 | tmp t =>
   show Vr S (env.getD t .undef) (a.tmps.getD t undef)
   cases he : env[t]? with
   | none => simp only [List.getD_eq_getElem?_getD, he, Option.getD_none]; exact .undef _
   | some p =>
     obtain ⟨v, hv, hr⟩ := h.get he
     have hv' : a.tmps[t]? = some v := by simpa using hv
     rw [List.getD_eq_getElem?_getD, he, Array.getD_eq_getD_getElem?, hv']
     exact hr
 | const v =>
   show Vr S (match ofVal v with | some x => PV.c x | none => .undef) v
   split
   · rename_i x hx; exact .c (ofVal_Vc hx)
   · exact .undef _
 | global g => exact .undef _
 | func f => exact .fn f [] #[] .nil
theorem put_ok {S : St} {env : Env} {a : Act} {d : Option Tmp} {p : PV} {v : Value} (h : EnvR S env a) (hv : Vr S p v) : EnvR S (putE env d p) (a.put d v) := by
 cases d with
 | none => exact h
 | some t =>
   show All2 (Vr S) (env.set t p) (a.tmps.setIfInBounds t v).toList
   rw [Array.toList_setIfInBounds]
   exact All2.set h hv t
theorem set_ok {S : St} {env : Env} {a : Act} {t : Nat} {p : PV} {v : Value} (h : EnvR S env a) (hv : a.tmps[t]? = some v) (hp : Vr S p v) : EnvR S (env.set t p) a := by
 have := All2.set h hp t
 have e : a.tmps.toList.set t v = a.tmps.toList := set_self (by simpa using hv)
 rw [e] at this; exact this
structure Goes (n : Nat) (S S' : St) : Prop where
 keeps : Keeps S S'
 len : n ≤ S'.H.length
 st : StExt S S'
 box : ∀ r e' k', r < n → S'.H[r]? = some (.box e' k') → (∃ e k, S.H[r]? = some (.box e k)) ∧ S'.ι r = S.ι r
 iter : ∀ r s' p', r < n → S'.H[r]? = some (.iter s' p') → ∃ s p, S.H[r]? = some (.iter s p) ∧ S'.ι r = S.ι r
 row : ∀ r xs' k' g' s', r < n → S'.H[r]? = some (.row xs' k' g' s') → ∃ xs k g s, S.H[r]? = some (.row xs k g s) ∧ g ≤ g' ∧
   (g = g' → k' = k ∧ xs'.length = xs.length ∧ S'.ι r = S.ι r ∧ S'.cp r = S.cp r)
theorem Goes.ext {S S' : St} (h : Goes S.H.length S S') : Ext S S' := ⟨h.st, h.len, fun r e' k' hr hb => by
 obtain ⟨⟨e, k, h1⟩, h2⟩ := h.box r e' k' hr hb
 exact ⟨e, k, h1, h2⟩, h.iter, h.row⟩
theorem Goes.refl {n : Nat} {S : St} (h : n ≤ S.H.length) : Goes n S S := ⟨Keeps.refl S, h, fun _ _ _ h h' => ⟨h, h'⟩, fun r e' k' _ h => ⟨⟨e', k', h⟩, rfl⟩, fun r s' p' _ h => ⟨s', p', h, rfl⟩, fun r xs k g s _ h => ⟨xs, k, g, s, h, Nat.le_refl _, fun _ => ⟨rfl, rfl, rfl, rfl⟩⟩⟩
theorem Goes.trans {n : Nat} {S S1 S2 : St} (h : Goes n S S1) (h' : Goes n S1 S2) : Goes n S S2 := by
 refine ⟨h.keeps.trans h'.keeps, h'.len, fun b off v hs hc => ?_, fun r e' k' hr hb => ?_, fun r s' p' hr hb => ?_, fun r xs' k' g' s' hr hb => ?_⟩
 · obtain ⟨a1, a2⟩ := h.st b off v hs hc
   exact h'.st b off v a1 a2
 · obtain ⟨⟨e, k, h1⟩, h2⟩ := h'.box r e' k' hr hb
   obtain ⟨h3, h4⟩ := h.box r e k hr h1
   exact ⟨h3, h2.trans h4⟩
 · obtain ⟨s, p, h1, h2⟩ := h'.iter r s' p' hr hb
   obtain ⟨s0, p0, h3, h4⟩ := h.iter r s p hr h1
   exact ⟨s0, p0, h3, h2.trans h4⟩
 · obtain ⟨xs1, k1, g1, s1, h1, h2, h3⟩ := h'.row r xs' k' g' s' hr hb
   obtain ⟨xs0, k0, g0, s0, h4, h5, h6⟩ := h.row r xs1 k1 g1 s1 hr h1
   refine ⟨xs0, k0, g0, s0, h4, Nat.le_trans h5 h2, fun e => ?_⟩
   have e1 : g0 = g1 := by omega
   have e2 : g1 = g' := by omega
   obtain ⟨z1, z2, z3, z4⟩ := h3 e2
   obtain ⟨y1, y2, y3, y4⟩ := h6 e1
   exact ⟨z1.trans y1, z2.trans y2, z3.trans y3, z4.trans y4⟩
theorem Goes.of_good {n : Nat} {S S' : St} (hn : n ≤ S.H.length) (G : Good S S') : Goes n S S' := by
 refine ⟨G.keeps, Nat.le_trans hn G.ext.len, G.ext.st, fun r e' k' hr hb => ?_, fun r s' p' hr hb => G.ext.iter r s' p' (by omega) hb, fun r xs' k' g' s' hr hb => G.ext.row r xs' k' g' s' (by omega) hb⟩
 obtain ⟨e, k, h1, h2⟩ := G.ext.box r e' k' (by omega) hb
 exact ⟨⟨e, k, h1⟩, h2⟩
theorem Goes.good {n : Nat} {S S1 S2 : St} (h : Goes n S S1) (G : Good S1 S2) : Goes n S S2 := h.trans (.of_good h.len G)
def Post (n : Nat) (S : St) (I : World → Prop) (K : Env → Hp → Res) (res : CV × List CV) (a : Act) (w : World) : Prop :=
 ∃ S' env, S'.w = w ∧ Ok S' ∧ Goes n S S' ∧ I S'.w ∧ EnvR S' env a ∧ a.defers = [] ∧ K env S'.H = some res
theorem put_defers {a : Act} {d : Option Tmp} {v : Value} : (a.put d v).defers = a.defers := by cases d <;> rfl
theorem bool_at {S : St} {env : Env} {a : Act} {t : Nat} {b : Bool} (h : EnvR S env a) (ht : env[t]? = some (.c (.bool b))) : a.tmps[t]? = some (.bool b) := by
 obtain ⟨v, hv, hr⟩ := h.get ht
 rw [bool_of hr] at hv
 simpa using hv
theorem guarded_ok {S : St} {ops : Array Oper} {o : Oper} {env : Env} {a : Act} {yes no : Env → Res} {res : CV × List CV} (hE : EnvR S env a) (h : guarded ops o env yes no = some res) :
   (Region.wanted o (yielded ops a.tmps) = true ∧ ∃ env', EnvR S env' a ∧ yes env' = some res) ∨ (Region.wanted o (yielded ops a.tmps) = false ∧ ∃ env', EnvR S env' a ∧ no env' = some res) := by
 unfold guarded at h
 unfold Region.wanted
 split at h
 · rename_i hg; rw [hg]; exact .inl ⟨rfl, env, hE, h⟩
 · rename_i j want hg
   rw [hg]
   simp only
   split at h
   · rename_i hd
     refine .inr ⟨?_, env, hE, h⟩
     simp [yielded, hd]
   · rename_i t hd
     split at h
     · rename_i b ht
       have hb := bool_at hE ht
       have hy : yielded ops a.tmps j = some b := by simp [yielded, hd, hb]
       have hset : EnvR S (env.set t (.c (.bool b))) a := set_ok hE hb (Vb ..)
       rw [hy]
       have hh := bif_some h
       clear h
       rcases hh with ⟨rfl, h⟩ | ⟨rfl, h⟩
       · cases want
         · exact .inr ⟨rfl, _, hset, by simpa using h⟩
         · exact .inl ⟨rfl, _, hset, by simpa using h⟩
       · cases want
         · exact .inl ⟨rfl, _, hset, by simpa using h⟩
         · exact .inr ⟨rfl, _, hset, by simpa using h⟩
     · rename_i ht
       refine .inr ⟨?_, env, hE, h⟩
       obtain ⟨v, hv, hr⟩ := hE.get ht
       have hv' : a.tmps[t]? = some v := by simpa using hv
       cases hr with
       | tup ps vs _ => simp [yielded, hd, hv']
     · cases h
section
variable {P : Program} {I : World → Prop} {tb : Handler}
theorem aops_ok {ops : Array Oper} {Q : Exit → Act → World → Prop} {res : CV × List CV} {K : KS} {nl : Nat} {S0 : St} (hQ : ∀ a w, Post nl S0 I K res a w → Q .normal a w) : ∀ (l : List Nat) {S : St} {env : Env} {a : Act}, Ok S → Goes nl S0 S → OnGlobals I S.ng → I S.w → (HOk P I S.ng tb) → EnvR S env a → a.defers = [] →
   aops P tb ops l env S.H K = some res → wpOps P ops Q l a S.w
 | [], S, env, a, ok, K0, hg, hI, tbl, hE, hd, h => hQ _ _ ⟨S, env, rfl, ok, K0, hI, hE, hd, h⟩
 | i :: rest, S, env, a, ok, K0, hg, hI, tbl, hE, hd, h => by
   rw [wpOps_cons]
   unfold wpOp
   unfold aops at h
   cases ho : ops[i]? with
   | none =>
     simp only [ho] at h
     exact aops_ok hQ rest ok K0 hg hI tbl hE hd h
   | some o =>
     simp only [ho] at h
     rcases guarded_ok hE h with ⟨hw, env', hE', h⟩ | ⟨hw, env', hE', h⟩
     · dsimp only
       rw [if_pos hw]
       refine .inl (Oper.wp_mono ?_ (aop_ok (Q := Q) ok hg hI tbl (evl_ok hE') h))
       rintro a' w' ⟨S', p, v, rfl, rfl, G, hI', hv, hk⟩
       exact aops_ok hQ rest G.ok (K0.good G) (by rw [G.keeps.ng]; exact hg) hI' (by rw [G.keeps.ng]; exact tbl) (put_ok (hE'.mono G.ext) hv) (by rw [put_defers]; exact hd) hk
     · dsimp only
       rw [if_neg (by rw [hw]; simp)]
       exact aops_ok hQ rest ok K0 hg hI tbl (put_ok hE' (.tup _ _ .nil)) (by rw [put_defers]; exact hd) h
end
theorem RowV.same' {S S' : St} {r r' off len k : Nat} {v : Value} (h : RowV S r off len k v) (h1 : S'.ι r' = S.ι r) (h2 : S'.cp r' = S.cp r) : RowV S' r' off len k v := by
 unfold RowV at *
 rw [h1, h2]; exact h
theorem gty_tyG (t : Nat) : gty (tyG t) = t := by unfold gty tyG; omega
theorem takeRows_ok : ∀ {rows : List (Nat × Nat)} {env : Env} {H H' : Hp} {os : List AO}, takeRows rows env H = some (os, H') →
   ∃ tk : List (Option Nat), tk.length = os.length ∧ rows.length = os.length ∧
     (∀ (j s k : Nat), rows[j]? = some (s, k) → 0 < ksz k ∧ (tk[j]? = some none ∧ env[s]? = some (.c .nilsl) ∧ os[j]? = some (.row [] (ksz k) (tyG (kty k)) false)) ∨
       ∃ q g xs sl L, tk[j]? = some (some q) ∧ (env[s]? = some (.rw q g) ∧ L = xs.length ∨ env[s]? = some (.row q g 0 L) ∧ sl = false) ∧ H[q]? = some (.row xs (ksz k) g sl) ∧ os[j]? = some (.row (xs.take L) (ksz k) (tyG (gty g)) sl)) ∧
     H'.length = H.length ∧ (∀ i, some i ∉ tk → H'[i]? = H[i]?) ∧ (∀ i, some i ∈ tk → H'[i]? = some .dead) ∧
     (∀ (i j q : Nat), tk[i]? = some (some q) → tk[j]? = some (some q) → i = j)
 | [], env, H, H', os, h => by
   simp [takeRows] at h
   obtain ⟨rfl, rfl⟩ := h
   exact ⟨[], rfl, rfl, by simp, rfl, fun _ _ => rfl, by simp, by simp⟩
 | (s, k) :: l, env, H, H', os, h => by
   simp only [takeRows] at h
   split at h <;> first | (cases h; done) | skip
   · rename_i he
     split at h <;> first | (cases h; done) | skip
     rename_i hk
     split at h <;> first | (cases h; done) | skip
     rename_i os' H1 ht
     cases h
     obtain ⟨tk, a1, a0, a2, a3, a4, a5, a6⟩ := takeRows_ok ht
     refine ⟨none :: tk, by simp [a1], by simp [a0], fun j s' k' hj => ?_, a3, fun i hi => a4 i (by simpa using hi), fun i hi => a5 i (by simpa using hi), fun i j q h1 h2 => ?_⟩
     · cases j with
       | zero =>
         simp at hj
         obtain ⟨rfl, rfl⟩ := hj
         exact .inl ⟨hk, by simp, he, by simp⟩
       | succ j => simpa using a2 j s' k' (by simpa using hj)
     · cases i with
       | zero => simp at h1
       | succ i =>
         cases j with
         | zero => simp at h2
         | succ j => simp at h1 h2; rw [a6 _ _ _ h1 h2]
   · rename_i r g he
     split at h <;> first | (cases h; done) | skip
     rename_i xs k' sl hr0
     split at h <;> first | (cases h; done) | skip
     rename_i hk; subst hk
     split at h <;> first | (cases h; done) | skip
     rename_i os' H1 ht
     cases h
     have hr := getRow_some hr0
     obtain ⟨tk, a1, a0, a2, a3, a4, a5, a6⟩ := takeRows_ok ht
     have hrt : some r ∉ tk := by
       intro hm
       obtain ⟨j, hj⟩ := List.mem_iff_getElem?.1 hm
       have hjl : j < l.length := by rw [a0, ← a1]; exact (List.getElem?_eq_some_iff.1 hj).1
       obtain ⟨⟨s', k''⟩, hl⟩ : ∃ x, l[j]? = some x := ⟨_, List.getElem?_eq_getElem hjl⟩
       rcases a2 j s' k'' hl with ⟨_, h1, _⟩ | ⟨q, g', xs', sl', L', h1, _, h3, _⟩
       · rw [hj] at h1; cases h1
       · rw [hj] at h1; cases h1
         rw [set_get_self (List.getElem?_eq_some_iff.1 hr).1] at h3; cases h3
     refine ⟨some r :: tk, by simp [a1], by simp [a0], fun j s' k'' hj => ?_, by rw [a3]; simp, fun i hi => ?_, fun i hi => ?_, fun i j q h1 h2 => ?_⟩
     · cases j with
       | zero =>
         simp at hj
         obtain ⟨rfl, rfl⟩ := hj
         exact .inr ⟨r, g, xs, sl, xs.length, by simp, .inl ⟨he, rfl⟩, hr, by simp⟩
       | succ j =>
         rcases a2 j s' k'' (by simpa using hj) with h | ⟨q, g', xs', sl', L', h1, h2, h3, h4⟩
         · exact .inl (by simpa using h)
         · have hne : q ≠ r := fun e => hrt (e ▸ List.mem_of_getElem? h1)
           rw [set_get_ne hne] at h3
           exact .inr ⟨q, g', xs', sl', L', by simpa using h1, h2, h3, by simpa using h4⟩
     · simp only [List.mem_cons, not_or] at hi
       rw [a4 i hi.2, set_get_ne (fun e => hi.1 (by rw [e]))]
     · rcases List.mem_cons.1 hi with hi | hi
       · cases hi
         rw [a4 _ hrt, set_get_self (List.getElem?_eq_some_iff.1 hr).1]
       · exact a5 i hi
     · cases i with
       | zero =>
         cases j with
         | zero => rfl
         | succ j =>
           simp at h1 h2; subst h1
           exact absurd (List.mem_of_getElem? h2) hrt
       | succ i =>
         cases j with
         | zero =>
           simp at h1 h2; subst h2
           exact absurd (List.mem_of_getElem? h1) hrt
         | succ j => simp at h1 h2; rw [a6 _ _ _ h1 h2]
   · rename_i r g len he
     split at h <;> first | (cases h; done) | skip
     rename_i xs k' hr0
     split at h <;> first | (cases h; done) | skip
     rename_i hk; subst hk
     split at h <;> first | (cases h; done) | skip
     rename_i os' H1 ht
     cases h
     have hr := getRow_some hr0
     obtain ⟨tk, a1, a0, a2, a3, a4, a5, a6⟩ := takeRows_ok ht
     have hrt : some r ∉ tk := by
       intro hm
       obtain ⟨j, hj⟩ := List.mem_iff_getElem?.1 hm
       have hjl : j < l.length := by rw [a0, ← a1]; exact (List.getElem?_eq_some_iff.1 hj).1
       obtain ⟨⟨s', k''⟩, hl⟩ : ∃ x, l[j]? = some x := ⟨_, List.getElem?_eq_getElem hjl⟩
       rcases a2 j s' k'' hl with ⟨_, h1, _⟩ | ⟨q, g', xs', sl', L', h1, _, h3, _⟩
       · rw [hj] at h1; cases h1
       · rw [hj] at h1; cases h1
         rw [set_get_self (List.getElem?_eq_some_iff.1 hr).1] at h3; cases h3
     refine ⟨some r :: tk, by simp [a1], by simp [a0], fun j s' k'' hj => ?_, by rw [a3]; simp, fun i hi => ?_, fun i hi => ?_, fun i j q h1 h2 => ?_⟩
     · cases j with
       | zero =>
         simp at hj
         obtain ⟨rfl, rfl⟩ := hj
         exact .inr ⟨r, g, xs, false, len, by simp, .inr ⟨he, rfl⟩, hr, by simp⟩
       | succ j =>
         rcases a2 j s' k'' (by simpa using hj) with h | ⟨q, g', xs', sl', L', h1, h2, h3, h4⟩
         · exact .inl (by simpa using h)
         · have hne : q ≠ r := fun e => hrt (e ▸ List.mem_of_getElem? h1)
           rw [set_get_ne hne] at h3
           exact .inr ⟨q, g', xs', sl', L', by simpa using h1, h2, h3, by simpa using h4⟩
     · simp only [List.mem_cons, not_or] at hi
       rw [a4 i hi.2, set_get_ne (fun e => hi.1 (by rw [e]))]
     · rcases List.mem_cons.1 hi with hi | hi
       · cases hi
         rw [a4 _ hrt, set_get_self (List.getElem?_eq_some_iff.1 hr).1]
       · exact a5 i hi
     · cases i with
       | zero =>
         cases j with
         | zero => rfl
         | succ j =>
           simp at h1 h2; subst h1
           exact absurd (List.mem_of_getElem? h2) hrt
       | succ i =>
         cases j with
         | zero =>
           simp at h1 h2; subst h2
           exact absurd (List.mem_of_getElem? h1) hrt
         | succ j => simp at h1 h2; rw [a6 _ _ _ h1 h2]
theorem keepLive_ok {S : St} {live : List Nat} : ∀ {i : Nat} {env : Env} {vs : List Value}, All2 (Vr S) env vs → All2 (Vr S) (keepLive live i env) vs
 | i, [], vs, h => by cases h; exact .nil
 | i, q :: env, vs, h => by
   cases h with
   | cons h1 h2 =>
     simp only [keepLive]
     split
     · exact .cons h1 (keepLive_ok h2)
     · exact .cons (.undef _) (keepLive_ok h2)
theorem slotsBelow_get {n : Nat} {rows : List (Nat × Nat)} : ∀ {i : Nat} {env : Env} {j : Nat} {p : PV}, slotsBelow n rows i env = true → env[j]? = some p → (∃ k, (i + j, k) ∈ rows) ∨ flatBelow n p = true
 | i, [], j, p, h, hp => by simp at hp
 | i, q :: env, 0, p, h, hp => by
   simp only [slotsBelow, Bool.and_eq_true, Bool.or_eq_true, List.any_eq_true] at h
   simp at hp; subst hp
   rcases h.1 with ⟨⟨s, k⟩, h1, h2⟩ | h1
   · simp at h2; subst h2; exact .inl ⟨k, by simpa using h1⟩
   · exact .inr h1
 | i, q :: env, j + 1, p, h, hp => by
   simp only [slotsBelow, Bool.and_eq_true] at h
   rcases slotsBelow_get h.2 (by simpa using hp) with ⟨k, h1⟩ | h1
   · exact .inl ⟨k, by rw [show i + (j + 1) = i + 1 + j by omega]; exact h1⟩
   · exact .inr h1
theorem objsBelow_get {n : Nat} : ∀ {H : Hp} {j : Nat} {o : AO}, objsBelow n H = true → H[j]? = some o → objBelow n o = true
 | [], j, o, h, ho => by simp at ho
 | q :: H, 0, o, h, ho => by
   simp only [objsBelow, Bool.and_eq_true] at h
   simp at ho; subst ho; exact h.1
 | q :: H, j + 1, o, h, ho => by
   simp only [objsBelow, Bool.and_eq_true] at h
   exact objsBelow_get h.2 (by simpa using ho)
structure Low (S S' : St) (n : Nat) : Prop where
 st : StExt S S'
 len : n ≤ S'.H.length
 at_ : ∀ r, r < n → (S'.H[r]? = S.H[r]? ∧ S'.ι r = S.ι r ∧ S'.cp r = S.cp r) ∨ S'.H[r]? = some .dead
theorem low_one {S S' : St} {n : Nat} (L : Low S S' n) {p : PV} {v : Value} (hv : Vr S p v) (h : below' n p = true) : Vr S' p v := by
 have gen : ∀ {r g : Nat}, r < n → GenOk S r g → GenOk S' r g := by
   intro r g hr hg
   refine ⟨Nat.lt_of_lt_of_le hr L.len, fun xs k g' s he => ?_⟩
   rcases L.at_ r hr with ⟨h1, _, _⟩ | h1
   · rw [h1] at he; exact hg.2 _ _ _ _ he
   · rw [h1] at he; cases he
 cases hv with
 | undef => exact .undef _
 | c hx => exact .c (hx.move L.st)
 | agg => simp [below'] at h
 | rw r g v o1 hg hrow =>
   have hr : r < n := by simpa [below'] using h
   refine .rw _ _ _ o1 (gen hr hg) fun xs k s he => ?_
   rcases L.at_ r hr with ⟨h1, h2, h3⟩ | h1
   · rw [h1] at he; exact (hrow _ _ _ he).same h2 h3
   · rw [h1] at he; cases he
 | row r g off len v o1 hg hrow =>
   have hr : r < n := by simpa [below'] using h
   refine .row _ _ _ _ _ o1 (gen hr hg) fun xs k s he => ?_
   rcases L.at_ r hr with ⟨h1, h2, h3⟩ | h1
   · rw [h1] at he; exact ⟨(hrow _ _ _ he).1, (hrow _ _ _ he).2.same h2 h3⟩
   · rw [h1] at he; cases he
 | bptr r t v o1 hlt hb =>
   have hr : r < n := by simpa [below'] using h
   refine .bptr _ _ _ o1 (Nat.lt_of_lt_of_le hr L.len) fun e k he => ?_
   rcases L.at_ r hr with ⟨h1, h2, h3⟩ | h1
   · rw [h1] at he
     obtain ⟨b, q1, q2⟩ := hb _ _ he
     exact ⟨b, h2.trans q1, q2⟩
   · rw [h1] at he; cases he
 | rptr r g i t v o1 hg hrow =>
   have hr : r < n := by simpa [below'] using h
   refine .rptr _ _ _ _ _ o1 (gen hr hg) fun xs k s he => ?_
   rcases L.at_ r hr with ⟨h1, h2, h3⟩ | h1
   · rw [h1] at he
     obtain ⟨b, q1, q2⟩ := hrow _ _ _ he
     exact ⟨b, h2.trans q1, q2⟩
   · rw [h1] at he; cases he
 | ro cs a vs h1 h2 => exact .ro _ _ _ (h1.imp fun _ _ _ h => h.move L.st) (h2.move L.st)
 | fn => simp [below'] at h
 | iter r v o1 hlt hb =>
   have hr : r < n := by simpa [below'] using h
   refine .iter _ _ o1 (Nat.lt_of_lt_of_le hr L.len) fun s p he => ?_
   rcases L.at_ r hr with ⟨h1, h2, h3⟩ | h1
   · rw [h1] at he
     obtain ⟨b, q1, q2⟩ := hb _ _ he
     exact ⟨b, h2.trans q1, q2⟩
   · rw [h1] at he; cases he
 | asl r off len v o1 hlt hb =>
   have hr : r < n := by simpa [below'] using h
   refine .asl _ _ _ _ o1 (Nat.lt_of_lt_of_le hr L.len) fun e k he => ?_
   rcases L.at_ r hr with ⟨h1, h2, h3⟩ | h1
   · rw [h1] at he
     obtain ⟨b, a, c, q1, q2⟩ := hb _ _ he
     exact ⟨b, a, c, h2.trans q1, q2⟩
   · rw [h1] at he; cases he
 | tup => simp [below'] at h
theorem low_list {S S' : St} {n : Nat} (L : Low S S' n) : ∀ {ps : List PV} {vs : List Value}, All2 (Vr S) ps vs → cellsBelow n ps = true → All2 (Vr S') ps vs
 | [], vs, h, _ => by cases h; exact .nil
 | p :: ps, vs, h, hb => by
   simp only [cellsBelow, Bool.and_eq_true] at hb
   cases h with
   | cons h1 h2 => exact .cons (low_one L h1 hb.1) (low_list L h2 hb.2)
theorem low_ok {S S' : St} {n : Nat} (L : Low S S' n) {p : PV} {v : Value} (hv : Vr S p v) (h : flatBelow n p = true) : Vr S' p v := by
 cases p with
 | agg cs =>
   cases hv with
   | agg cs vs h1 h2 => exact .agg _ _ (low_list L h1 h) h2
 | fn f caps =>
   cases hv with
   | fn f caps vs h1 => exact .fn _ _ _ (low_list L h1 h)
 | _ => exact low_one L hv h
theorem padTo_len (n : Nat) (H : Hp) : (padTo n H).length = n := by
 simp [padTo]; omega
theorem padTo_get {n : Nat} {H : Hp} {i : Nat} (hi : i < n) : (padTo n H)[i]? = if i < H.length then H[i]? else some .dead := by
 unfold padTo
 by_cases h : i < H.length
 · rw [if_pos h, List.getElem?_append_left (by simp; omega), List.getElem?_take, if_pos hi]
 · rw [if_neg h, List.getElem?_append_right (by simp; omega), List.getElem?_replicate, if_pos (by simp; omega)]
theorem vr_all {S' : St} {env : Env} : ∀ {vs : List Value}, env.length = vs.length → (∀ (i : Nat) (p : PV) (v : Value), env[i]? = some p → vs[i]? = some v → Vr S' p v) → All2 (Vr S') env vs := by
 induction env with
 | nil => intro vs hl _; cases vs with | nil => exact .nil | cons _ _ => simp at hl
 | cons p env ih =>
   intro vs hl h
   cases vs with
   | nil => simp at hl
   | cons v vs => exact .cons (h 0 p v (by simp) (by simp)) (ih (by simpa using hl) fun i q u hq hu => h (i + 1) q u (by simpa using hq) (by simpa using hu))
theorem setRows_ok {S' : St} : ∀ {rows : List (Nat × Nat)} {os : List AO} {n : Nat} {env : Env} {vs : List Value}, env.length = vs.length →
   rows.length = os.length → (∀ (j : Nat), j < os.length → ∃ xs k g sl, os[j]? = some (.row xs k g sl)) →
   (∀ (j s k : Nat) (v : Value) (xs : List CV) (k' g : Nat) (sl : Bool), rows[j]? = some (s, k) → os[j]? = some (.row xs k' g sl) → vs[s]? = some v → Vr S' (.rw (n + j) g) v) →
   (∀ (i : Nat) (p : PV) (v : Value), env[i]? = some p → vs[i]? = some v → (∃ k, (i, k) ∈ rows) ∨ Vr S' p v) → All2 (Vr S') (setRows rows os n env) vs
 | [], os, n, env, vs, hl, _, _, h1, h2 => by
   have e : setRows [] os n env = env := by unfold setRows; rfl
   rw [e]
   exact vr_all hl fun i p v hp hv => (h2 i p v hp hv).resolve_left (by simp)
 | (s, k) :: l, [], n, env, vs, hl, ho, _, h1, h2 => by simp at ho
 | (s, k) :: l, o :: os, n, env, vs, hl, ho, hr, h1, h2 => by
   obtain ⟨xs, k', g, sl, e0⟩ := hr 0 (by simp)
   simp at e0
   subst e0
   simp only [setRows]
   refine setRows_ok (by simpa using hl) (by simpa using ho) (fun j hj => by simpa using hr (j + 1) (by simpa using hj)) (fun j s' k'' v xs' k3 g' sl' hj ho' hv => ?_) fun i p v hp hv => ?_
   · rw [show n + 1 + j = n + (j + 1) by omega]
     exact h1 (j + 1) s' k'' v xs' k3 g' sl' (by simpa using hj) (by simpa using ho') hv
   · by_cases e : i = s
     · subst e
       have hlt := (List.getElem?_eq_some_iff.1 hp).1
       rw [set_get_self (by simpa using hlt)] at hp
       cases hp
       exact .inr (by simpa using h1 0 i k v xs k' g sl (by simp) (by simp) hv)
     · rw [set_get_ne e] at hp
       rcases h2 i p v hp hv with ⟨k', hm⟩ | h
       · rcases List.mem_cons.1 hm with hm | hm
         · cases hm; exact absurd rfl e
         · exact .inl ⟨k', hm⟩
       · exact .inr h
def headSt (S : St) (base : Nat) (tk : List (Option Nat)) (H : Hp) : St :=
 { w := S.w,
   ι := fun r => if r < base then (if some r ∈ tk then none else S.ι r) else match tk[r - base]? with
     | some (some q) => S.ι q
     | _ => none,
   cp := fun r => if r < base then S.cp r else match tk[r - base]? with
     | some (some q) => S.cp q
     | _ => 0,
   H := H, F := S.F, n0 := S.n0, ng := S.ng }
theorem enterHead0_ok {live : List Nat} {rows : List (Nat × Nat)} {base : Nat} {S : St} (ok : Ok S) {env env' : Env} {H' : Hp} {vals : List Value} (hE : All2 (Vr S) env vals) (hh : enterHead0 live rows base env S.H = some (env', H')) :
   ∃ S', S'.H = H' ∧ S'.w = S.w ∧ Ok S' ∧ Goes base S S' ∧ All2 (Vr S') env' vals := by
 unfold enterHead0 at hh
 split at hh <;> first | (cases hh; done) | skip
 rename_i os Hd ht
 split at hh <;> first | (cases hh; done) | skip
 rename_i hc
 simp only [Bool.and_eq_true] at hc
 obtain ⟨hc1, hc2⟩ := hc
 cases hh
 obtain ⟨tk, a1, a0, a2, a3, a4, a5, a6⟩ := takeRows_ok ht
 have hpl := padTo_len base Hd
 let S' : St := headSt S base tk (padTo base Hd ++ os)
 have hlen : S'.H.length = base + os.length := by show (padTo base Hd ++ os).length = _; rw [List.length_append, hpl]
 have ilo : ∀ r, r < base → S'.ι r = if some r ∈ tk then none else S.ι r := fun r hr => by show (if r < base then _ else _) = _; rw [if_pos hr]
 have ihi : ∀ (r b : Nat), ¬ r < base → S'.ι r = some b → ∃ q, tk[r - base]? = some (some q) ∧ S.ι q = some b := by
   intro r b hr hb
   have hb' : (if r < base then (if some r ∈ tk then none else S.ι r) else match tk[r - base]? with | some (some q) => S.ι q | _ => none) = some b := hb
   rw [if_neg hr] at hb'
   split at hb' <;> first | (cases hb'; done) | skip
   rename_i q hq
   exact ⟨q, hq, hb'⟩
 have ifrom : ∀ (r b : Nat), S'.ι r = some b → ∃ q, S.ι q = some b ∧ ((r < base ∧ r = q ∧ some r ∉ tk) ∨ (¬ r < base ∧ tk[r - base]? = some (some q))) := by
   intro r b hb
   by_cases hr : r < base
   · rw [ilo r hr] at hb
     split at hb <;> first | (cases hb; done) | skip
     rename_i hm
     exact ⟨r, hb, .inl ⟨hr, rfl, hm⟩⟩
   · obtain ⟨q, h1, h2⟩ := ihi r b hr hb
     exact ⟨q, h2, .inr ⟨hr, h1⟩⟩
 have hget : ∀ r, r < base → S'.H[r]? = if r < S.H.length then Hd[r]? else some .dead := fun r hr => by
   show (padTo base Hd ++ os)[r]? = _
   rw [List.getElem?_append_left (by rw [hpl]; exact hr), padTo_get hr, a3]
 have hgethi : ∀ r, ¬ r < base → S'.H[r]? = os[r - base]? := fun r hr => by
   show (padTo base Hd ++ os)[r]? = _
   rw [List.getElem?_append_right (by rw [hpl]; omega), hpl]
 have hrow : ∀ (j q : Nat), tk[j]? = some (some q) → ∃ s k g xs sl L, rows[j]? = some (s, k) ∧ (sl = true → L = xs.length) ∧ S.H[q]? = some (.row xs (ksz k) g sl) ∧ os[j]? = some (.row (xs.take L) (ksz k) (tyG (gty g)) sl) := by
   intro j q hj
   have hjl : j < rows.length := by rw [a0, ← a1]; exact (List.getElem?_eq_some_iff.1 hj).1
   obtain ⟨⟨s, k⟩, hl⟩ : ∃ x, rows[j]? = some x := ⟨_, List.getElem?_eq_getElem hjl⟩
   rcases a2 j s k hl with ⟨_, h1, _⟩ | ⟨q', g, xs, sl, L, h1, h2, h3, h4⟩
   · rw [hj] at h1; cases h1
   · rw [hj] at h1; cases h1
     have hLs : sl = true → L = xs.length := by
       intro e
       rcases h2 with h2 | h2
       · exact h2.2
       · rw [h2.2] at e; cases e
     exact ⟨s, k, g, xs, sl, L, hl, hLs, h3, h4⟩
 have st : StExt S S' := by
   intro b off v hs hcell
   refine ⟨⟨hs.1, fun r hr => ?_⟩, hcell⟩
   obtain ⟨q, hq, hcase⟩ := ifrom r b hr
   obtain ⟨xs, k, g, h1, h2⟩ := hs.2 q hq
   rcases hcase with ⟨hr1, rfl, hr3⟩ | ⟨hr1, hr2⟩
   · exact ⟨xs, k, g, by rw [hget r hr1, if_pos (List.getElem?_eq_some_iff.1 h1).1, a4 r hr3]; exact h1, h2⟩
   · obtain ⟨s, k', g', xs', sl, L, _, hL, h3, h4⟩ := hrow _ _ hr2
     rw [h1] at h3; cases h3
     have hL := hL rfl
     subst hL
     rw [List.take_length] at h4
     exact ⟨xs, _, _, by rw [hgethi r hr1]; exact h4, h2⟩
 have L : Low S S' base := by
   refine ⟨st, by rw [hlen]; omega, fun r hr => ?_⟩
   by_cases hlt : r < S.H.length
   · by_cases hm : some r ∈ tk
     · exact .inr (by rw [hget r hr, if_pos hlt]; exact a5 r hm)
     · exact .inl ⟨by rw [hget r hr, if_pos hlt]; exact a4 r hm, by rw [ilo r hr, if_neg hm], by show (if r < base then _ else _) = _; rw [if_pos hr]⟩
   · exact .inr (by rw [hget r hr, if_neg hlt])
 have hcell : ∀ {r : Nat}, tk[r]? = none → True := fun _ => trivial
 have okS : Ok S' := by
   refine ⟨?_, ?_, ?_, ?_, ?_, ok.forb, ok.n0, ?_, ok.ng⟩
   · intro r o ho
     by_cases hr : r < base
     · rcases L.at_ r hr with ⟨h1, h2, h3⟩ | h1
       · rw [h1] at ho
         have hob := ok.ob r o ho
         have hbl : objBelow base o = true := by
           refine objsBelow_get hc2 (j := r) ?_
           have : S'.H[r]? = some o := by rw [h1]; exact ho
           have h5 : (padTo base Hd ++ os)[r]? = some o := this
           rw [List.getElem?_append_left (by rw [hpl]; exact hr)] at h5
           exact h5
         cases o with
         | box e k =>
           obtain ⟨b, cs, T, fr, ve, q1, q2, q3, q4, q5, q6, q7⟩ := hob
           exact ⟨b, cs, T, fr, ve, h2.trans q1, q2, q3, q4, low_ok L q5 hbl, q6, q7⟩
         | row xs k g s =>
           obtain ⟨q0, q1, q⟩ := hob
           refine ⟨q0, q1, ?_⟩
           rcases q with ⟨q2, q3, q4⟩ | ⟨b, cs, T, fr, vs, q2, q3, q4, q5, q6, q7, q8⟩
           · exact .inl ⟨h2.trans q2, q3, h3.trans q4⟩
           · exact .inr ⟨b, cs, T, fr, vs, h2.trans q2, q3, q4, by rw [h3]; exact q5, by rw [h3]; exact q6, q7.imp fun _ _ _ h => h.move st, q8⟩
         | iter s p =>
           obtain ⟨b, q1, q2⟩ := hob
           exact ⟨b, h2.trans q1, q2⟩
         | dead => exact h2.trans hob
       · rw [h1] at ho
         cases ho
         show S'.ι r = none
         rw [ilo r hr]
         by_cases hm : some r ∈ tk
         · rw [if_pos hm]
         · rw [if_neg hm]
           rw [hget r hr] at h1
           by_cases hlt : r < S.H.length
           · rw [if_pos hlt, a4 r hm] at h1
             exact ok.ob r _ h1
           · exact ok.out r (by omega)
     · rw [hgethi r hr] at ho
       have hlt : r - base < rows.length := by rw [a0]; exact (List.getElem?_eq_some_iff.1 ho).1
       obtain ⟨⟨s, k⟩, hl⟩ : ∃ x, rows[r - base]? = some x := ⟨_, List.getElem?_eq_getElem hlt⟩
       rcases a2 _ s k hl with ⟨hk, h1, h2, h3⟩ | ⟨q, g, xs, sl, L, h1, h2, h3, h4⟩
       · rw [h3] at ho; cases ho
         refine ⟨hk, by simp, .inl ⟨?_, rfl, ?_⟩⟩
         · show (if r < base then _ else _) = _
           rw [if_neg hr, h1]
         · show (if r < base then _ else _) = _
           rw [if_neg hr, h1]
       · rw [h4] at ho; cases ho
         have e1 : S'.ι r = S.ι q := by
           show (if r < base then _ else _) = _
           rw [if_neg hr, h1]
         have e2 : S'.cp r = S.cp q := by
           show (if r < base then _ else _) = _
           rw [if_neg hr, h1]
         obtain ⟨q0, q1, qq⟩ := ok.ob q _ h3
         refine ⟨q0, fun e he => q1 e (List.mem_of_mem_take he), ?_⟩
         rcases qq with ⟨q2, q3, q4⟩ | ⟨b, cs, T, fr, vs, q2, q3, q4, q5, q6, q7, q8, q9⟩
         · exact .inl ⟨e1.trans q2, by rw [q3]; simp, e2.trans q4⟩
         · refine .inr ⟨b, cs, T, fr, vs.take (L * ksz k), e1.trans q2, q3, ⟨q4.1, by rw [gty_tyG]; exact q4.2⟩, by rw [e2]; exact q5, by rw [e2, List.length_take]; omega, ?_, fun j v hj => ?_, fun v hv => q9 v (List.mem_of_mem_take hv)⟩
           · rw [flat_take L q1]
             exact (q7.take _).imp fun _ _ _ h => h.move st
           · rw [List.getElem?_take] at hj
             split at hj <;> first | (cases hj; done) | skip
             exact q8 j v hj
   · intro r hr
     rw [hlen] at hr
     cases hb : S'.ι r with
     | none => rfl
     | some b =>
       obtain ⟨q, h1, _⟩ := ihi r b (by omega) hb
       have := (List.getElem?_eq_some_iff.1 h1).1
       omega
   · intro r r' b h1 h2
     obtain ⟨q, hq, c1⟩ := ifrom r b h1
     obtain ⟨q', hq', c2⟩ := ifrom r' b h2
     obtain rfl := ok.inj q q' b hq hq'
     rcases c1 with ⟨x1, rfl, x3⟩ | ⟨x1, x2⟩ <;> rcases c2 with ⟨y1, y2, y3⟩ | ⟨y1, y2⟩
     · exact y2.symm
     · exact absurd (List.mem_of_getElem? y2) x3
     · subst y2; exact absurd (List.mem_of_getElem? x2) y3
     · have := a6 _ _ _ x2 y2; omega
   · intro r b hb
     obtain ⟨q, hq, _⟩ := ifrom r b hb
     exact ok.old q b hq
   · intro r b off hb
     obtain ⟨q, hq, _⟩ := ifrom r b hb
     exact ok.free q b off hq
   · intro r b hb
     obtain ⟨q, hq, _⟩ := ifrom r b hb
     exact ok.glob q b hq
 have hE1 : All2 (Vr S) (keepLive live 0 env) vals := keepLive_ok hE
 refine ⟨S', rfl, rfl, okS, ⟨⟨rfl, rfl, rfl, Nat.le_refl _, fun _ _ _ => rfl, fun r b hb => ?_, rfl, rfl, rfl⟩, L.len, st, fun r e' k' hr hb => ?_, fun r s' p' hr hb => ?_, fun r xs' k' g' s' hr hb => ?_⟩, ?_⟩
 · obtain ⟨q, hq, _⟩ := ifrom r b hb
   exact .inl ⟨q, hq⟩
 · rcases L.at_ r hr with ⟨h1, h2, _⟩ | h1
   · exact ⟨⟨e', k', by rw [← h1]; exact hb⟩, h2⟩
   · rw [h1] at hb; cases hb
 · rcases L.at_ r hr with ⟨h1, h2, _⟩ | h1
   · exact ⟨s', p', by rw [← h1]; exact hb, h2⟩
   · rw [h1] at hb; cases hb
 · rcases L.at_ r hr with ⟨h1, h2, h3⟩ | h1
   · exact ⟨xs', k', g', s', by rw [← h1]; exact hb, Nat.le_refl _, fun _ => ⟨rfl, rfl, h2, h3⟩⟩
   · rw [h1] at hb; cases hb
 · have hrowE : ∀ (j : Nat), j < os.length → ∃ xs k g sl, os[j]? = some (.row xs k g sl) := by
     intro j hj
     obtain ⟨⟨s, k⟩, hl⟩ : ∃ x, rows[j]? = some x := ⟨_, List.getElem?_eq_getElem (by rw [a0]; exact hj)⟩
     rcases a2 j s k hl with ⟨_, _, _, h3⟩ | ⟨q, g, xs, sl, L, _, _, _, h4⟩
     · exact ⟨_, _, _, _, h3⟩
     · exact ⟨_, _, _, _, h4⟩
   refine setRows_ok hE1.length a0 hrowE (fun j s k v xs0 k0 g0 sl0 hj ho0 hv => ?_) fun i p v hp hv => ?_
   · have hSj : S'.H[base + j]? = os[j]? := by rw [hgethi _ (by omega)]; congr 1; omega
     have hjl : j < os.length := by rw [← a0]; exact (List.getElem?_eq_some_iff.1 hj).1
     have hgen : GenOk S' (base + j) g0 := ⟨by rw [hlen]; omega, fun _ _ _ _ he => by rw [hSj, ho0] at he; cases he; exact Nat.le_refl _⟩
     rcases a2 j s k hj with ⟨hk, h1, h2, h3⟩ | ⟨q, g, xs, sl, L, h1, h2, h3, h4⟩
     · obtain ⟨u, hu, hru⟩ := hE1.get h2
       rw [hv] at hu; cases hu
       cases c_of hru
       refine .rw _ _ _ rfl hgen fun xs' k' s' he => ?_
       rw [hSj, h3] at he; cases he
       refine .inr ⟨?_, rfl, rfl, rfl⟩
       show (if base + j < base then _ else _) = _
       rw [if_neg (by omega), Nat.add_sub_cancel_left, h1]
     · have hι : S'.ι (base + j) = S.ι q := by
         show (if base + j < base then _ else _) = _
         rw [if_neg (by omega), Nat.add_sub_cancel_left, h1]
       have hcp : S'.cp (base + j) = S.cp q := by
         show (if base + j < base then _ else _) = _
         rw [if_neg (by omega), Nat.add_sub_cancel_left, h1]
       rcases h2 with ⟨h2, hL⟩ | ⟨h2, _⟩
       · subst hL
         rw [List.take_length] at h4
         obtain ⟨u, hu, hru⟩ := hE1.get h2
         rw [hv] at hu; cases hu
         cases hru with
         | rw r g v o1 hg hrow' =>
           refine .rw _ _ _ o1 hgen fun xs' k' s' he => ?_
           rw [hSj, h4] at he; cases he
           exact (hrow' _ _ _ h3).same' hι hcp
       · obtain ⟨u, hu, hru⟩ := hE1.get h2
         rw [hv] at hu; cases hu
         cases hru with
         | row r g off len v o1 hg hrow' =>
           refine .rw _ _ _ o1 hgen fun xs' k' s' he => ?_
           rw [hSj, h4] at he; cases he
           obtain ⟨hle, hrv⟩ := hrow' _ _ _ h3
           rw [List.length_take, Nat.min_eq_left (by omega)]
           exact hrv.same' hι hcp
   · obtain ⟨u, hu, hru⟩ := hE1.get hp
     rw [hv] at hu; cases hu
     rcases slotsBelow_get hc1 hp with ⟨k, hm⟩ | hb
     · exact .inl ⟨k, by simpa using hm⟩
     · exact .inr (low_ok L hru hb)
theorem Goes.pre {n : Nat} {S S1 S2 : St} (G : Good S S1) (hl : S1.H.length = S.H.length) (h : Goes n S1 S2) : Goes n S S2 := by
 refine ⟨G.keeps.trans h.keeps, h.len, fun b off v hs hc => ?_, fun r e' k' hr hb => ?_, fun r s' p' hr hb => ?_, fun r xs' k' g' s' hr hb => ?_⟩
 · obtain ⟨a1, a2⟩ := G.ext.st b off v hs hc
   exact h.st b off v a1 a2
 · obtain ⟨⟨e, k, h1⟩, h2⟩ := h.box r e' k' hr hb
   have hlt : r < S.H.length := by rw [← hl]; exact (List.getElem?_eq_some_iff.1 h1).1
   obtain ⟨e0, k0, h3, h4⟩ := G.ext.box r e k hlt h1
   exact ⟨⟨e0, k0, h3⟩, h2.trans h4⟩
 · obtain ⟨s, p, h1, h2⟩ := h.iter r s' p' hr hb
   have hlt : r < S.H.length := by rw [← hl]; exact (List.getElem?_eq_some_iff.1 h1).1
   obtain ⟨s0, p0, h3, h4⟩ := G.ext.iter r s p hlt h1
   exact ⟨s0, p0, h3, h2.trans h4⟩
 · obtain ⟨xs, k, g, s, h1, h2, h3⟩ := h.row r xs' k' g' s' hr hb
   have hlt : r < S.H.length := by rw [← hl]; exact (List.getElem?_eq_some_iff.1 h1).1
   obtain ⟨xs0, k0, g0, s0, q1, q2, q3⟩ := G.ext.row r xs k g s hlt h1
   refine ⟨xs0, k0, g0, s0, q1, by omega, fun e => ?_⟩
   obtain ⟨x1, x2, x3, x4⟩ := h3 (by omega)
   obtain ⟨y1, y2, y3, y4⟩ := q3 (by omega)
   exact ⟨x1.trans y1, x2.trans y2, x3.trans y3, x4.trans y4⟩
theorem retell {S : St} (ok : Ok S) {r kb : Nat} {e : PV} {ps : List PV} (hr : S.H[r]? = some (.box e kb)) (hk : ps.length = ksz kb)
   (hps : ∀ (b : Nat) (cs : Array Value) (T : TypeId) (fr : Nat × Nat), S.ι r = some b → S.w.heap[b]? = some (.cells cs T fr) → (∀ u ∈ cs.toList, u.oneCell' = true) → All2 (Vr S) ps cs.toList) :
   Good S { S with H := S.H.set r (.box (.agg ps) kb) } := by
 have hlt : r < S.H.length := (List.getElem?_eq_some_iff.1 hr).1
 obtain ⟨b, cs, T, fr, ve, h1, h2, h3, h4, h5, h6, h7⟩ := ok.ob r _ hr
 have T' : Turn S { S with H := S.H.set r (.box (.agg ps) kb) } r (.box (.agg ps) kb) := by
   refine ⟨hlt, rfl, fun _ _ => rfl, fun _ _ => rfl, .inl rfl, rfl, rfl, rfl, Nat.le_refl _, fun b' _ hb' => rfl, rfl, rfl, rfl, ?_, ?_, ?_, ?_⟩
   · intro b' off' v' _ hs
     obtain ⟨xs, k', g, hrow, _⟩ := hs
     rw [hr] at hrow; cases hrow
   · intro e1 k1 he; exact ⟨e, kb, hr, rfl⟩
   · intro s p he; cases he
   · intro xs k g s he; cases he
 have E := T'.ext ok
 refine T'.good ok ⟨b, cs, T, fr, .agg cs, h1, h2, h3, ?_, ?_, rfl, h7⟩
 · show some ps.length = _
   rw [hk]
 · exact .agg _ _ ((hps b cs T fr h1 h2 h7).imp fun _ _ _ h => h.mono E) h7
theorem enterBox_ok {r0 c k : Nat} {live : List Nat} {rows : List (Nat × Nat)} {base : Nat} {S : St} (ok : Ok S) {env env' : Env} {H' : Hp} {vals : List Value} (hE : All2 (Vr S) env vals) (hh : enterBox r0 c k live rows base env S.H = some (env', H')) :
   ∃ S', S'.H = H' ∧ S'.w = S.w ∧ Ok S' ∧ Goes base S S' ∧ All2 (Vr S') env' vals := by
 unfold enterBox at hh
 split at hh <;> first | (cases hh; done) | skip
 rename_i e kb hr
 split at hh <;> first | (cases hh; done) | skip
 rename_i ps hps
 split at hh <;> first | (cases hh; done) | skip
 · exact enterHead0_ok ok hE hh
 rename_i p _ hp
 split at hh <;> first | (cases hh; done) | skip
 rename_i hbase
 split at hh <;> first | (cases hh; done) | skip
 rename_i env1 H1 h0
 split at hh <;> first | (cases hh; done) | skip
 rename_i q ps' kb' hq hr1
 cases hh
 have hlt : r0 < S.H.length := (List.getElem?_eq_some_iff.1 hr).1
 obtain ⟨b, cs, T, fr, ve, o1, o2, o3, o4, o5, o6, o7⟩ := ok.ob r0 _ hr
 have hcells := (o5.cells hps).1
 rw [o6] at hcells
 have hpl : ps.length = ksz kb := by
   have := PV.cells_n hps
   rw [o4] at this; exact (Option.some.inj this).symm
 obtain ⟨vc, hvc, hpv⟩ := hcells.get hp
 have hcl : c < ps.length := (List.getElem?_eq_some_iff.1 hp).1
 have G1 : Good S { S with H := S.H.set r0 (.box (.agg (ps.set c .undef)) kb) } := by
   refine retell ok hr (by simpa using hpl) fun b' cs' T' fr' k1 k2 _ => ?_
   rw [o1] at k1; cases k1
   rw [o2] at k2; cases k2
   have := hcells.set (a := .undef) (b := vc) (.undef vc) c
   rw [set_self hvc] at this
   exact this
 have hE1 : All2 (Vr { S with H := S.H.set r0 (.box (.agg (ps.set c .undef)) kb) }) (env ++ [p]) (vals ++ [vc]) := (hE.imp fun _ _ _ h => h.mono G1.ext).append (.cons (hpv.mono G1.ext) .nil)
 obtain ⟨S2, e2, w2, ok2, go2, E2⟩ := enterHead0_ok (S := { S with H := S.H.set r0 (.box (.agg (ps.set c .undef)) kb) }) G1.ok hE1 h0
 subst e2
 obtain ⟨⟨e3, k3, hb3⟩, hι⟩ := go2.box r0 _ _ hbase hr1
 obtain ⟨b2, cs2, T2, fr2, ve2, u1, u2, u3, u4, u5, u6, u7⟩ := ok2.ob r0 _ hr1
 have hbb : b2 = b := by
   have h1 : S2.ι r0 = S.ι r0 := hι
   rw [u1, o1] at h1; exact Option.some.inj h1
 subst hbb
 have hw : S2.w = S.w := w2
 rw [hw, o2] at u2
 cases u2
 have hlen : env.length = vals.length := hE.length
 have hqv : Vr S2 q vc := by
   obtain ⟨v, hv, hqv⟩ := E2.get hq
   have : (vals ++ [vc])[env.length]? = some vc := by rw [hlen]; simp
   rw [this] at hv
   cases hv
   exact hqv
 have hcells2 : All2 (Vr S2) ps' cs.toList := by
   have := (u5.cells (ps := ps') rfl).1
   rw [u6] at this; exact this
 have hpl2 : ps'.length = ksz kb' := by
   have h1 : some ps'.length = some (ksz kb') := u4
   exact Option.some.inj h1
 have G3 : Good S2 { S2 with H := S2.H.set r0 (.box (.agg (ps'.set c q)) kb') } := by
   refine retell ok2 hr1 (by simpa using hpl2) fun b' cs' T' fr' k1 k2 _ => ?_
   rw [u1] at k1; cases k1
   rw [hw, o2] at k2; cases k2
   have := hcells2.set (a := q) (b := vc) hqv c
   rw [set_self hvc] at this
   exact this
 refine ⟨{ S2 with H := S2.H.set r0 (.box (.agg (ps'.set c q)) kb') }, rfl, hw, G3.ok, (Goes.pre G1 (by simp) go2).good G3, ?_⟩
 have h4 := (E2.imp fun _ _ _ h => h.mono G3.ext).take env.length
 have h5 : (vals ++ [vc]).take env.length = vals := by rw [hlen, List.take_left]
 rw [h5] at h4
 exact h4
theorem enterHead_ok {h : Head} {S : St} (ok : Ok S) {env env' : Env} {H' : Hp} {a : Act} (hE : EnvR S env a) (hh : enterHead h env S.H = some (env', H')) :
   ∃ S', S'.H = H' ∧ S'.w = S.w ∧ Ok S' ∧ Goes h.base S S' ∧ EnvR S' env' a := by
 unfold enterHead at hh
 split at hh
 · split at hh
   · exact enterBox_ok ok hE hh
   · exact enterHead0_ok ok hE hh
 · exact enterHead0_ok ok hE hh
end Go.Pv
namespace Go.Pv
open Go
def NF (H : Hp) (f : KV → Res) : Prop := (∃ p, ∀ K, f K = K p H) ∨ (∀ K, f K = none)
theorem NF.ret (H : Hp) (p : PV) : NF H (fun K => K p H) := .inl ⟨p, fun _ => rfl⟩
theorem NF.no (H : Hp) : NF H (fun _ => none) := .inr fun _ => rfl
theorem NF.bif {H : Hp} {b : Bool} {f g : KV → Res} (hf : NF H f) (hg : NF H g) : NF H (fun K => bif' b (f K) (g K)) := by
 cases b
 · exact hg
 · exact hf
theorem NF.bift {H : Hp} {b : Bool} {f : KV → Res} (hf : NF H f) : NF H (fun K => bif' b (f K) none) := hf.bif (NF.no H)
theorem NF.ite {H : Hp} {c : Prop} [Decidable c] {f g : KV → Res} (hf : NF H f) (hg : NF H g) : NF H (fun K => if c then f K else g K) := by
 by_cases h : c
 · simp only [h, if_true]; exact hf
 · simp only [h, if_false]; exact hg
theorem NF.itet {H : Hp} {c : Prop} [Decidable c] {f : KV → Res} (hf : NF H f) : NF H (fun K => if c then f K else none) := hf.ite (NF.no H)
variable {P : Program}
theorem readCV_nf {t : TypeId} {cs : List CV} {off : Nat} {H : Hp} : NF H (readCV P t cs off H) := by
 unfold readCV
 cases h1 : tyAgg P t with
 | none => exact NF.no H
 | some b =>
   cases h2 : tySize P t with
   | none => cases b <;> exact NF.no H
   | some n =>
     cases b with
     | true => exact (NF.ret H _).bift
     | false =>
       by_cases hn : n = 1
       · subst hn
         cases h3 : tyZero P t with
         | none => exact NF.no H
         | some z => exact ((NF.ret H _).bift).bift
       · match n, hn with
         | 0, _ => exact NF.no H
         | n + 2, _ => exact NF.no H
theorem readPV_nf {t : TypeId} {e : PV} {k off : Nat} {H : Hp} : NF H (readPV P t e k off H) := by
 unfold readPV
 split
 · split
   · exact (NF.ret H _).ite readCV_nf
   · exact readCV_nf
 · split
   · exact (NF.ret H _).itet
   · split
     · exact NF.ret H _
     · exact NF.no H
   · exact NF.no H
 · split
   · exact NF.ret H _
   · exact NF.no H
theorem load_nf {t : TypeId} {a : PV} {H : Hp} : NF H (load' P t a H) := by
 unfold load'
 split
 · split
   · exact readPV_nf
   · exact NF.no H
 · split
   · exact readPV_nf.bift
   · exact NF.no H
 · exact readCV_nf
 · exact NF.no H
theorem fieldAddr_nf {t : TypeId} {a : PV} {f : Nat} {H : Hp} : NF H (fieldAddr' P t a f H) := by
 unfold fieldAddr'
 split
 · split
   · exact NF.no H
   · split
     · split
       · exact NF.ret H _
       · exact NF.no H
     · split
       · exact NF.ret H _
       · exact NF.no H
     · exact NF.ret H _
     · exact NF.no H
   · exact NF.no H
 · exact NF.no H
theorem indexAddr_nf {t : TypeId} {x ix : PV} {H : Hp} : NF H (indexAddr' P t x ix H) := by
 unfold indexAddr'
 split
 · split
   · split
     · split
       · exact ((NF.ret H _).bift.bift).itet
       · exact NF.no H
     · split
       · exact ((NF.ret H _).bift.bift).itet
       · exact NF.no H
     · exact ((NF.ret H _).bift.bift).itet
     · split
       · exact ((NF.ret H _).bift.bift).itet
       · exact NF.no H
     · exact NF.no H
   · split
     · split
       · exact (NF.ret H _).bift.bift
       · exact NF.no H
     · split
       · exact (NF.ret H _).bift.bift
       · exact NF.no H
     · exact (NF.ret H _).bift.bift
     · exact NF.no H
   · exact NF.no H
 · exact NF.no H
theorem slice_nf {t : TypeId} {x : PV} {lo hi mx : Option PV} {H : Hp} : NF H (slice' P t x lo hi mx H) := by
 unfold slice'
 split
 · split
   · exact (NF.ret H _).bift.bift.bift
   · exact NF.no H
 · split
   · refine NF.itet ?_
     split
     · exact (NF.ret H _).bift.bift.bift
     · exact NF.no H
   · exact NF.no H
 · split
   · refine NF.itet ?_
     split
     · exact (NF.ret H _).bift.bift.bift
     · exact NF.no H
   · exact NF.no H
 · split
   · refine NF.itet ?_
     split
     · exact (NF.ret H _).bift.bift.bift
     · exact NF.no H
   · exact NF.no H
 · split
   · split
     · exact (NF.ret H _).bift.bift.bift
     · exact NF.no H
   · exact NF.no H
 · split
   · split
     · exact (NF.ret H _).bift.bift.bift
     · exact NF.no H
   · exact NF.no H
 · exact NF.no H
theorem len_nf {t : TypeId} {x : PV} {H : Hp} : NF H (len' P t x H) := by
 unfold len'
 split
 · exact NF.ret H _
 · exact NF.ret H _
 · split
   · exact NF.ret H _
   · exact NF.no H
 · exact NF.no H
theorem sliceData_nf {x : PV} {H : Hp} : NF H (sliceData' x H) := by
 unfold sliceData'
 split
 · exact NF.ret H _
 · split
   · exact (NF.ret H _).bift
   · exact NF.no H
 · exact NF.no H
theorem intOp_nf {op : BinOp} {k : IntKind} {a b : Int} {H : Hp} : NF H (fun K => intOp op k a b fun v => K (.c v) H) := by
 cases op <;> first
   | exact NF.ret H _
   | exact (NF.no H).bif (NF.ret H _)
   | exact NF.no H
theorem shiftOp_nf {op : BinOp} {k : IntKind} {a b : Int} {H : Hp} : NF H (fun K => shiftOp op k a b fun v => K (.c v) H) := by
 cases op <;> first
   | exact (NF.no H).bif (NF.ret H _)
   | exact NF.no H
theorem strOp_nf {op : BinOp} {x y : ByteArray} {H : Hp} : NF H (fun K => strOp op x y fun v => K (.c v) H) := by
 cases op <;> first
   | exact NF.ret H _
   | exact (NF.ret H _).bift
   | exact NF.no H
theorem binOp_nf {op : BinOp} {t : TypeId} {c : Bool} {p q : PV} {H : Hp} : NF H (binOp' P op t c p q H) := by
 unfold binOp'
 split
 · exact shiftOp_nf
 · exact shiftOp_nf
 · exact intOp_nf.itet
 · exact strOp_nf
 · split
   · exact NF.ret H _
   · exact NF.no H
 · split
   · exact NF.ret H _
   · exact NF.no H
 · refine (NF.no H).ite ?_
   split
   · exact (NF.ret H _).bift
   · exact NF.no H
 · refine (NF.no H).ite ?_
   split
   · exact (NF.ret H _).bift
   · exact NF.no H
 · split
   · exact (NF.ret H _).bift
   · exact NF.no H
 · split
   · exact (NF.ret H _).bift
   · exact NF.no H
 · exact NF.no H
theorem readCV_nf0 {t : TypeId} {cs : List CV} {off : Nat} : NF0 (fun H => readCV P t cs off H) := by
 unfold readCV
 split
 · exact (NF0.ret _).bift
 · split
   · exact NF0.no
   · exact ((NF0.ret _).bift).bift
 · exact NF0.no
theorem readPVagg_nf0 {t : TypeId} {ps : List PV} {k off : Nat} : NF0 (fun H => readPV P t (.agg ps) k off H) := by
 unfold readPV
 split
 · rename_i h; cases h
 · rename_i h; cases h
   split
   · exact (NF0.ret _).itet
   · split
     · exact NF0.ret _
     · exact NF0.no
   · exact NF0.no
 · rename_i h; exact (h _ rfl).elim
theorem readPV_nf0 {t : TypeId} {e : PV} {k off : Nat} : NF0 (fun H => readPV P t e k off H) := by
 unfold readPV
 split
 · split
   · exact (NF0.ret _).ite readCV_nf0
   · exact readCV_nf0
 · split
   · exact (NF0.ret _).itet
   · split
     · exact NF0.ret _
     · exact NF0.no
   · exact NF0.no
 · split
   · exact NF0.ret _
   · exact NF0.no
theorem field_nf0 {t : TypeId} {x : PV} {f : Nat} : NF0 (fun H => field' P t x f H) := by
 unfold field'
 split
 · split
   · exact readCV_nf0
   · exact readPVagg_nf0
   · exact NF0.no
 · exact NF0.no
theorem index_nf0 {t : TypeId} {x ix : PV} : NF0 (fun H => index' P t x ix H) := by
 unfold index'
 split
 · split
   · exact (NF0.ret _).bift.bift
   · split
     · exact readCV_nf0.bift.bift
     · exact NF0.no
   · exact NF0.no
 · exact NF0.no
theorem build_nf0 {t : TypeId} {ps : List (Nat × PV)} : NF0 (fun H => build' P t ps H) := by
 unfold build'
 split
 · split
   · split
     · exact (NF0.ret _).bift
     · exact NF0.no
   · split
     · exact (NF0.ret _).bift
     · exact NF0.no
 · exact NF0.no
theorem unOp_nf0 {op : UnOp} {x : PV} : NF0 (fun H => unOp' op x H) := by
 unfold unOp'
 split
 · exact NF0.ret _
 · exact NF0.ret _
 · exact NF0.ret _
 · exact NF0.no
theorem intOp_nf0 {op : BinOp} {k : IntKind} {a b : Int} : NF0 (fun H K => intOp op k a b fun v => K (.c v) H) := by
 cases op <;> first
   | exact NF0.ret _
   | exact NF0.no.bif (NF0.ret _)
   | exact NF0.no
theorem shiftOp_nf0 {op : BinOp} {k : IntKind} {a b : Int} : NF0 (fun H K => shiftOp op k a b fun v => K (.c v) H) := by
 cases op <;> first
   | exact NF0.no.bif (NF0.ret _)
   | exact NF0.no
theorem strOp_nf0 {op : BinOp} {x y : ByteArray} : NF0 (fun H K => strOp op x y fun v => K (.c v) H) := by
 cases op <;> first
   | exact NF0.ret _
   | exact (NF0.ret _).bift
   | exact NF0.no
theorem binOp_nf0 {op : BinOp} {t : TypeId} {c : Bool} {p q : PV} (h1 : op ≠ .eql) (h2 : op ≠ .neq) : NF0 (fun H => binOp' P op t c p q H) := by
 unfold binOp'
 split
 · exact shiftOp_nf0
 · exact shiftOp_nf0
 · exact intOp_nf0.itet
 · exact strOp_nf0
 · exact absurd rfl h1
 · exact absurd rfl h2
 · exact absurd rfl h1
 · exact absurd rfl h2
 · exact absurd rfl h1
 · exact absurd rfl h2
 · exact NF0.no
theorem convert_nf0 {s d : TypeId} {x : PV} {k : IntKind} (h : P.underlying d = some (.int k)) : NF0 (fun H => convert' P s d x H) := by
 unfold convert'
 split
 · exact NF0.ret _
 · rename_i h2; rw [h] at h2; cases h2
 · rename_i h2; rw [h] at h2; cases h2
 · rename_i h2; rw [h] at h2; cases h2
 · rename_i h2; rw [h] at h2; cases h2
 · rename_i h2; rw [h] at h2; cases h2
 · exact NF0.no
theorem slice_nf0 {t : TypeId} {x : PV} {lo hi mx : Option PV} (h : P.underlying t = some .string) : NF0 (fun H => slice' P t x lo hi mx H) := by
 unfold slice'
 split
 · split
   · exact (NF0.ret _).bift.bift.bift
   · exact NF0.no
 · rename_i h2; rw [h] at h2; cases h2
 · rename_i h2; rw [h] at h2; cases h2
 · rename_i h2; rw [h] at h2; cases h2
 · rename_i h2; rw [h] at h2; cases h2
 · rename_i h2; rw [h] at h2; cases h2
 · exact NF0.no
theorem ext_nf0 {f : FuncId} {args : List PV} : NF0 (fun H => ext' P f args H) := by
 unfold ext'
 split
 · split
   · exact NF0.ret _
   · exact NF0.no
 · split
   · exact NF0.ret _
   · exact NF0.no
 · exact NF0.no
theorem pure_nf0 {tb : Handler} (hp : ∀ f cs, noBox cs = true → NF0 (fun H K => tb f (cs.map .c) H (dataK K))) {f : PV} {args : List PV} : NF0 (fun H => pure' P tb f args H) := by
 unfold pure'
 split
 · split
   · cases hd : dataArgs args with
     | none => exact NF0.no
     | some cs => exact hp _ _ (dataArgs_nb hd)
   · exact ext_nf0
 · exact NF0.no
theorem aop_nf0 {tb : Handler} (hp : ∀ f cs, noBox cs = true → NF0 (fun H K => tb f (cs.map .c) H (dataK K))) {o : Oper} {ev : Operand → PV} (h : opClass P o = 0) : NF0 (fun H => aop P tb o ev H) := by
 obtain ⟨dst, op, type, pos, after, guard⟩ := o
 unfold opClass at h
 unfold aop
 cases op <;> (try simp only at h) <;> (try (exact absurd h (by decide))) <;> simp only
 case move x => exact NF0.ret _
 case assign x => exact NF0.ret _
 case pick c a b =>
   split
   · exact (NF0.ret _).bif (NF0.ret _)
   · exact NF0.no
 case build t ps => exact build_nf0
 case binOp op t x y u =>
   refine binOp_nf0 ?_ ?_ <;> (intro e; subst e; simp at h)
 case unOp op t x => exact unOp_nf0
 case convert s d x =>
   split at h
   · rename_i k hd; exact convert_nf0 hd
   · simp at h
 case makeInterface t x =>
   split
   · exact NF0.no
   · exact NF0.ret _
   · exact NF0.no
 case slice t x lo hi mx =>
   split at h
   · rename_i hd; exact slice_nf0 hd
   · simp at h
 case field t x f => exact field_nf0
 case index t x i => exact index_nf0
 case extract t i =>
   split
   · split
     · exact NF0.ret _
     · exact NF0.no
   · exact NF0.no
 case call c =>
   cases hc : c.callee with
   | builtin b =>
     simp only [hc] at h
     split at h
     · simp at h
     · simp at h
     · split at h
       · rename_i hp
         simp [pureCall, hc] at hp
       · simp at h
   | value f =>
     simp only [hc] at h
     split at h
     · rename_i hpc
       simp only [if_pos hpc]
       exact pure_nf0 hp
     · simp at h
   | invoke r m =>
     simp only
     exact NF0.no
theorem aop_nf {tb : Handler} (hp : ∀ f cs, noBox cs = true → NF0 (fun H K => tb f (cs.map .c) H (dataK K))) {o : Oper} {ev : Operand → PV} {H : Hp} (h : opClass P o = 0 ∨ opClass P o = 1) : NF H (aop P tb o ev H) := by
 rcases h with h | h
 · rcases aop_nf0 (tb := tb) (ev := ev) hp h with ⟨p, hp⟩ | hn
   · exact .inl ⟨p, hp H⟩
   · exact .inr (hn H)
 obtain ⟨dst, op, type, pos, after, guard⟩ := o
 unfold opClass at h
 unfold aop
 cases op <;> (try simp only at h) <;> (try (exact absurd h (by decide))) <;> simp only
 case load t x => exact load_nf
 case nilCheck x =>
   split
   · split
     · exact NF.ret H _
     · exact NF.no H
   · split
     · exact NF.ret H _
     · exact NF.no H
   · exact NF.ret H _
   · exact NF.ret H _
   · exact NF.no H
 case binOp op t x y u => exact binOp_nf
 case convert s d x => split at h <;> simp at h
 case slice t x lo hi mx => exact slice_nf
 case fieldAddr t x f => exact fieldAddr_nf
 case indexAddr t x i => exact indexAddr_nf
 case call c =>
   split at h <;> (try simp at h)
   · rename_i hcal
     simp only [hcal]
     unfold builtin'
     split
     · exact len_nf
     all_goals first
       | exact NF.no H
       | (rename_i hb _ _; cases hb; done)
       | (rename_i hb _; cases hb; done)
   · rename_i hcal
     simp only [hcal]
     unfold builtin'
     split
     · rename_i hb _ _; cases hb
     · rename_i hb _ _; cases hb
     · rename_i hb _ _; cases hb
     · exact sliceData_nf
     all_goals first
       | exact NF.no H
       | (rename_i hb _ _; cases hb; done)
       | (rename_i hb _; cases hb; done)
   · split at h <;> simp at h
end Go.Pv
namespace Go.Pv
open Go
variable {P : Program} {tb : Handler}
theorem aop_congr {o : Oper} {ev ev' : Operand → PV} (h : ∀ x ∈ o.op.operands, ev x = ev' x) : aop P tb o ev = aop P tb o ev' := by
 obtain ⟨dst, op, type, pos, after, guard⟩ := o
 simp only at h
 funext H K
 have pairs : ∀ ps : Array (Nat × Operand), (∀ x ∈ ps.map (·.2), ev x = ev' x) → (ps.toList.map fun (i, x) => (i, ev x)) = (ps.toList.map fun (i, x) => (i, ev' x)) := fun ps hp =>
   List.map_congr_left fun p hm => by
     obtain ⟨i, x⟩ := p
     simp only [hp x (Array.mem_map.2 ⟨(i, x), by simpa using hm, rfl⟩)]
 cases op <;> simp only [Op.operands] at h <;> simp only [aop]
 case build t ps => rw [pairs ps fun x hx => h x (by simpa using hx)]
 case buildSlice t n ps => rw [pairs ps fun x hx => h x (by simpa using hx)]
 case makeFunc fn first captured =>
   cases fn <;> simp only
   rw [List.map_congr_left fun x hx => h x (by simp at hx ⊢; exact .inr hx)]
 case slice t x lo hi mx =>
   have hx := h x (by simp)
   have h1 : lo.map ev = lo.map ev' := by cases lo with | none => rfl | some y => simp [h y (by simp)]
   have h2 : hi.map ev = hi.map ev' := by cases hi with | none => rfl | some y => simp [h y (by simp)]
   have h3 : mx.map ev = mx.map ev' := by cases mx with | none => rfl | some y => simp [h y (by simp)]
   rw [hx, h1, h2, h3]
 case call c =>
   have hargs : c.args.toList.map ev = c.args.toList.map ev' := List.map_congr_left fun x hx => h x (by simp [Call.operands]; exact .inr (by simpa using hx))
   cases hc : c.callee with
   | builtin b => simp only [hargs]
   | value f =>
     have hf : ev f = ev' f := h f (by simp [Call.operands, hc])
     simp only [hargs, hf]
   | invoke r m => rfl
 case pick c a b => rw [h c (by simp), h a (by simp), h b (by simp)]
 case binOp op t x y u => rw [h x (by simp), h y (by simp)]
 case store t x y => rw [h x (by simp), h y (by simp)]
 case makeSlice t x y => rw [h x (by simp), h y (by simp)]
 case indexAddr t x y => rw [h x (by simp), h y (by simp)]
 case index t x y => rw [h x (by simp), h y (by simp)]
 case next x b => cases b <;> simp only; rw [h x (by simp)]
 all_goals first
   | rfl
   | (rename_i x; rw [h x (by simp)])
   | (rename_i x _; rw [h x (by simp)])
   | (rename_i x _ _; rw [h x (by simp)])
structure HS (tb : Handler) : Prop where
 strict : ∀ f args H, tb f args H (fun _ _ => none) = none
 pure : ∀ f cs, noBox cs = true → NF0 (fun H K => tb f (cs.map .c) H (dataK K))
theorem HOk.hs {I : World → Prop} {ng : Nat} (h : HOk P I ng tb) : HS tb := ⟨h.strict, h.pure⟩
theorem aop_strict (hs : HS tb) {o : Oper} {ev : Operand → PV} {H : Hp} : aop P tb o ev H (fun _ _ => none) = none := by
 by_cases hc : opClass P o = 0 ∨ opClass P o = 1
 · rcases aop_nf (tb := tb) hs.pure (ev := ev) (H := H) hc with ⟨p, hp⟩ | hn
   · rw [hp]
   · rw [hn]
 have hconv : ∀ s d x, convert' P s d x H (fun _ _ => none) = none := by
   intro s d x
   unfold convert'
   split
   · rfl
   · rfl
   · split <;> rfl
   · split
     · split <;> rfl
     · rfl
   · split
     · split <;> rfl
     · rfl
   · split
     · exact bif_none _
     · rfl
   · rfl
 have hus : ∀ pt x n, unsafeString' P pt x n H (fun _ _ => none) = none := by
   intro pt x n
   unfold unsafeString'
   split
   · exact bif_none _
   · split
     · split
       · simp only [bif_none]
       · rfl
     · rfl
   · rfl
 have hstore : ∀ t a x, store' P t a x H (fun _ _ => none) = none := by
   intro t a x
   unfold store'
   split
   · rename_i n m hn hm
     have : ∀ y : Res, y = none → bif' (n == m) y none = none := fun y hy => by rw [hy]; exact bif_none _
     refine this _ ?_
     split
     · split
       · split
         · exact bif_none _
         · exact bif_none _
       · rfl
     · split
       · split
         · split
           · exact bif_none _
           · rfl
         · rfl
       · rfl
     · rfl
   · rfl
 have hbs : ∀ t n ps, buildSlice' P t n ps H (fun _ _ => none) = none := by
   intro t n ps
   unfold buildSlice'
   split
   · split
     · split
       · split
         · exact bif_none _
         · rfl
       · rfl
     · rfl
   · rfl
 have hms : ∀ t l c, makeSlice' P t l c H (fun _ _ => none) = none := by
   intro t l c
   unfold makeSlice'
   split
   · split
     · split
       · simp only [bif_none]
       · rfl
     · rfl
   · rfl
 have hcall : ∀ f args, tb f args H (fun _ _ => none) = none := fun f args => hs.strict f args H
 have hext : ∀ f args, ext' P f args H (fun _ _ => none) = none := by
   intro f args
   unfold ext'
   split
   · split <;> rfl
   · split <;> rfl
   · rfl
 have hcopy : ∀ t d x, copy' P t d x H (fun _ _ => none) = none := by
   intro t d x
   unfold copy'
   split
   · split
     · split
       · exact bif_none _
       · rfl
     · rfl
   · rfl
 have happ : ∀ t s x, append' P t s x H (fun _ _ => none) = none := by
   intro t s x
   unfold append'
   split
   · split
     · split
       · split
         · simp only [bif_none]
         · split
           · simp only [bif_none]
           · rfl
         · split
           · split
             · simp only [bif_none]
             · rfl
           · rfl
         · split
           · split
             · simp only [bif_none]
             · rfl
           · rfl
         · rfl
       · rfl
     · rfl
   · rfl
 obtain ⟨dst, op, type, pos, after, guard⟩ := o
 unfold aop
 cases op <;> (try simp only) <;> (try rfl)
 case pick c a b => split <;> first | exact bif_none _ | rfl
 case alloc t =>
   split
   · split <;> rfl
   · rfl
 case box t x =>
   split
   · split <;> rfl
   · rfl
 case build t ps => exact absurd (.inl rfl) hc
 case buildSlice t n ps => exact hbs _ _ _
 case load t x => exact absurd (.inr rfl) hc
 case store t x y => exact hstore _ _ _
 case nilCheck x => exact absurd (.inr rfl) hc
 case binOp op t x y u => cases op <;> first | exact absurd (.inl rfl) hc | exact absurd (.inr rfl) hc
 case unOp op t x => exact absurd (.inl rfl) hc
 case convert s d x => exact hconv _ _ _
 case makeInterface t x => exact absurd (.inl rfl) hc
 case makeFunc fn first captured =>
   cases fn <;> simp only
   split <;> rfl
 case makeSlice t l c => exact hms _ _ _
 case slice t x lo hi mx =>
   exfalso; apply hc
   simp only [opClass]
   split
   · exact .inl rfl
   · exact .inr rfl
 case fieldAddr t x f => exact absurd (.inr rfl) hc
 case field t x f => exact absurd (.inl rfl) hc
 case indexAddr t x i => exact absurd (.inr rfl) hc
 case index t x i => exact absurd (.inl rfl) hc
 case range t x => split <;> rfl
 case next x b =>
   cases b <;> simp only
   split
   · split
     · exact bif_none _
     · rfl
   · rfl
 case extract t i => exact absurd (.inl rfl) hc
 case call c =>
   split
   · unfold builtin'
     split
     · rename_i _ _ hcal
       exfalso; apply hc
       simp [opClass, hcal]
     · split
       · rfl
       · exact happ _ _ _
       · rfl
     · exact hcopy _ _ _
     · rename_i _ hcal
       exfalso; apply hc
       simp [opClass, hcal]
     · exact hus _ _ _
     · rfl
   · split
     · rcases pure_nf0 (P := P) hs.pure with ⟨p, hp⟩ | hn
       · exact hp H _
       · exact hn H _
     · split
       · split
         · exact hcall _ _
         · exact hext _ _
       · split
         · exact hcall _ _
         · exact hext _ _
       · rfl
   · rfl
def gd (ops : Array Oper) (o : Oper) (env : Env) : Option Bool :=
 match o.guard with
 | none => some true
 | some (j, want) => match ((ops[j]?).bind (·.dst)) with
   | none => some false
   | some t => match env[t]? with
     | some (.c (.bool b)) => some (b == want)
     | some (.tup []) => some false
     | _ => none
def act (P : Program) (tb : Handler) (ops : Array Oper) (o : Oper) (env : Env) (H : Hp) (K : KV) : Res :=
 match gd ops o env with
 | some true => aop P tb o (evl env) H K
 | some false => K (.tup []) H
 | none => none
theorem guarded_eq {ops : Array Oper} {o : Oper} {env : Env} {yes no : Env → Res} : guarded ops o env yes no = match gd ops o env with
   | some true => yes env
   | some false => no env
   | none => none := by
 cases hg : o.guard with
 | none => simp only [guarded, gd, hg]
 | some g =>
   obtain ⟨j, want⟩ := g
   cases hd : (ops[j]?).bind (·.dst) with
   | none => simp only [guarded, gd, hg, hd]
   | some t =>
     simp only [guarded, gd, hg, hd]
     cases ht : env[t]? with
     | none => rfl
     | some v =>
       split
       · rename_i b hb
         cases hb
         cases b <;> cases want <;> simp [bif', set_self ht]
       · rename_i hb
         cases hb
         rfl
       · rename_i h1 h2
         split
         all_goals first
           | rfl
           | (rename_i hh; revert hh; split <;> simp_all)
theorem aops_cons {ops : Array Oper} {i : Nat} {o : Oper} {rest : List Nat} {env : Env} {H : Hp} {K : KS} (ho : ops[i]? = some o) :
   aops P tb ops (i :: rest) env H K = act P tb ops o env H fun p H' => aops P tb ops rest (putE env o.dst p) H' K := by
 rw [aops]
 simp only [ho, guarded_eq, act]
theorem act_strict (hs : HS tb) {ops : Array Oper} {o : Oper} {env : Env} {H : Hp} : act P tb ops o env H (fun _ _ => none) = none := by
 unfold act
 split
 · exact aop_strict hs
 · rfl
 · rfl
theorem act_nf0 (hs : HS tb) {ops : Array Oper} {o : Oper} {env : Env} (h : opClass P o = 0) : NF0 (act P tb ops o env) := by
 unfold act
 split
 · exact aop_nf0 hs.pure h
 · exact NF0.ret _
 · exact NF0.no
theorem act_nf (hs : HS tb) {ops : Array Oper} {o : Oper} {env : Env} {H : Hp} (h : opClass P o = 0 ∨ opClass P o = 1) : NF H (act P tb ops o env H) := by
 unfold act
 split
 · exact aop_nf hs.pure h
 · exact NF.ret H _
 · exact NF.no H
theorem putE_ne {env : Env} {d : Option Tmp} {p : PV} {t : Nat} (h : ∀ u, d = some u → t ≠ u) : (putE env d p)[t]? = env[t]? := by
 cases d with
 | none => rfl
 | some u => exact set_get_ne (h u rfl)
theorem putE_comm {env : Env} {d e : Option Tmp} {p q : PV} (h : ∀ u, d = some u → e ≠ some u) : putE (putE env d p) e q = putE (putE env e q) d p := by
 cases d with
 | none => rfl
 | some u =>
   cases e with
   | none => rfl
   | some v =>
     have hne : u ≠ v := fun e => h u rfl (by rw [e])
     exact List.set_comm _ _ hne
theorem act_put {ops : Array Oper} {o x : Oper} {env : Env} {p : PV} (h : ∀ d, x.dst = some d → d ∉ o.looksAt ops) : act P tb ops o (putE env x.dst p) = act P tb ops o env := by
 have hg : gd ops o (putE env x.dst p) = gd ops o env := by
   unfold gd
   split
   · rfl
   · rename_i j want hg
     split
     · rfl
     · rename_i t ht
       have : (putE env x.dst p)[t]? = env[t]? := putE_ne fun u hu e => h u hu (by
         unfold Oper.looksAt
         rw [hg]
         simp [ht, e])
       rw [this]
 have he : aop P tb o (evl (putE env x.dst p)) = aop P tb o (evl env) := aop_congr fun y hy => by
   cases y with
   | tmp t =>
     have : (putE env x.dst p)[t]? = env[t]? := putE_ne fun u hu e => h u hu (by
       unfold Oper.looksAt
       refine List.mem_append_left _ (List.mem_filterMap.2 ⟨.tmp t, by simpa using hy, by simp [e]⟩))
     simp only [evl, List.getD_eq_getElem?_getD, this]
   | _ => rfl
 funext H K
 unfold act
 rw [hg, he]
def Sel (x : Hp → KV → Res) (sel : Hp → Option PV) : Prop := ∀ H K, x H K = match sel H with
 | some p => K p H
 | none => none
theorem sel_of {x : Hp → KV → Res} (h : ∀ H, NF H (x H)) : ∃ sel, Sel x sel := by
 have : ∀ H, ∃ o : Option PV, ∀ K, x H K = match o with
     | some p => K p H
     | none => none := fun H => by
   rcases h H with ⟨p, hp⟩ | hn
   · exact ⟨some p, hp⟩
   · exact ⟨none, hn⟩
 exact ⟨fun H => Classical.choose (this H), fun H => Classical.choose_spec (this H)⟩
theorem swapR {R : Hp → Hp → Prop} {x y : Hp → KV → Res} {sel : Hp → Option PV} (hx : Sel x sel) (hR : ∀ H H', R H H' → sel H = sel H') (hy : ∀ H k k', (∀ q H1, R H H1 → k q H1 = k' q H1) → y H k = y H k') (hys : ∀ H, y H (fun _ _ => none) = none) (k : PV → PV → Hp → Res) (H : Hp) :
   x H (fun p H1 => y H1 fun q H2 => k p q H2) = y H (fun q H1 => x H1 fun p H2 => k p q H2) := by
 rw [hx]
 cases hs : sel H with
 | none =>
   refine ((hys H).symm.trans (hy H _ _ fun q H1 hr => ?_))
   rw [hx, ← hR _ _ hr, hs]
 | some p =>
   refine hy H _ _ fun q H1 hr => ?_
   rw [hx, ← hR _ _ hr, hs]
def Same (H H' : Hp) : Prop := (∀ r : Nat, (∃ e k, H[r]? = some (AO.box e k)) ↔ (∃ e k, H'[r]? = some (AO.box e k))) ∧ ∀ r g : Nat, (getRow H r g).isSome = (getRow H' r g).isSome
theorem Same.refl (H : Hp) : Same H H := ⟨fun _ => Iff.rfl, fun _ _ => rfl⟩
theorem Same.trans {H H1 H2 : Hp} (h : Same H H1) (h' : Same H1 H2) : Same H H2 := ⟨fun r => (h.1 r).trans (h'.1 r), fun r g => (h.2 r g).trans (h'.2 r g)⟩
theorem same_box {H : Hp} {r k k' : Nat} {e e' : PV} (h : H[r]? = some (.box e k)) : Same H (H.set r (.box e' k')) := by
 have hl := (List.getElem?_eq_some_iff.1 h).1
 refine ⟨fun r' => ?_, fun r' g => ?_⟩
 · by_cases he : r' = r
   · subst he
     rw [set_get_self hl]
     exact ⟨fun _ => ⟨_, _, rfl⟩, fun _ => ⟨_, _, h⟩⟩
   · rw [set_get_ne he]
 · unfold getRow
   by_cases he : r' = r
   · subst he
     rw [set_get_self hl, h]
   · rw [set_get_ne he]
theorem same_row {H : Hp} {r k k' g : Nat} {xs xs' : List CV} {s s' : Bool} (h : H[r]? = some (.row xs k g s)) : Same H (H.set r (.row xs' k' g s')) := by
 have hl := (List.getElem?_eq_some_iff.1 h).1
 refine ⟨fun r' => ?_, fun r' g' => ?_⟩
 · by_cases he : r' = r
   · subst he
     rw [set_get_self hl, h]
     exact ⟨fun ⟨_, _, hh⟩ => (by cases hh), fun ⟨_, _, hh⟩ => (by cases hh)⟩
   · rw [set_get_ne he]
 · unfold getRow
   by_cases he : r' = r
   · subst he
     rw [set_get_self hl, h]
     dsimp only
     split <;> rfl
   · rw [set_get_ne he]
theorem same_seal (H : Hp) (r : Nat) : Same H (sealRow H r) := by
 unfold sealRow
 split
 · rename_i h; exact same_row h
 · exact .refl H
theorem same_closeCell {p : PV} {H H' : Hp} {x : CV} (h : closeCell p H = some (x, H')) : Same H H' := by
 unfold closeCell at h
 split at h <;> first | (cases h; done) | skip
 · split at h <;> first | (cases h; done) | skip
   cases h; exact .refl H
 · split at h <;> first | (cases h; done) | skip
   cases h; exact same_seal _ _
 · split at h <;> first | (cases h; done) | skip
   cases h; exact same_seal _ _
 · cases h; exact .refl H
theorem same_closeCells : ∀ {ps : List PV} {H H' : Hp} {xs : List CV}, closeCells ps H = some (xs, H') → Same H H'
 | [], H, H', xs, h => by cases h; exact .refl H
 | p :: ps, H, H', xs, h => by
   simp only [closeCells] at h
   split at h <;> first | (cases h; done) | skip
   rename_i x H1 hx
   split at h <;> first | (cases h; done) | skip
   rename_i xs' H2 hxs
   cases h
   exact (same_closeCell hx).trans (same_closeCells hxs)
theorem same_closeVal {p : PV} {H H' : Hp} {x : CV} (h : closeVal p H = some (x, H')) : Same H H' := by
 unfold closeVal at h
 split at h
 · cases h; exact .refl H
 · split at h <;> first | (cases h; done) | skip
   rename_i hc
   cases h; exact same_closeCells hc
 · exact same_closeCell h
theorem store_same {t : TypeId} {a x : PV} {H : Hp} {k k' : KV} (h : ∀ q H1, Same H H1 → k q H1 = k' q H1) : store' P t a x H k = store' P t a x H k' := by
 unfold store'
 split
 · congr 1
   split
   · split
     · rename_i hr
       congr 1
       split
       · exact h _ _ (same_box hr)
       · rfl
     · rfl
   · split
     · rename_i hc
       split
       · rename_i hr0
         have hr := getRow_some hr0
         split
         · congr 1
           exact h _ _ ((same_closeVal hc).trans (same_row hr))
         · rfl
       · rfl
     · rfl
   · rfl
 · rfl
theorem store_at {t : TypeId} {r o : Nat} {x : PV} {H : Hp} {k k' : KV} (h : ∀ q H1, (∀ r', r' ≠ r → H1[r']? = H[r']?) → k q H1 = k' q H1) : store' P t (.bptr r o) x H k = store' P t (.bptr r o) x H k' := by
 unfold store'
 split
 · congr 1
   dsimp only
   split
   · congr 1
     split
     · exact h _ _ fun r' hr' => set_get_ne hr'
     · rfl
   · rfl
 · rfl
theorem opt_inj {H : Hp} {s o : Option PV} (he : ∀ K : KV, (match s with
     | some p => K p H
     | none => none) = match o with
     | some p => K p H
     | none => none) : s = o := by
 classical
 cases s with
 | none =>
   cases o with
   | none => rfl
   | some p => have := he (fun _ _ => some (.nilif, [])); cases this
 | some q =>
   cases o with
   | none => have := he (fun _ _ => some (.nilif, [])); cases this
   | some p =>
     by_cases hpq : q = p
     · rw [hpq]
     · have := he (fun z _ => if z = q then some (.nilif, []) else none)
       simp [Ne.symm hpq] at this
theorem fieldAddr_same {t : TypeId} {a : PV} {f : Nat} {H H' : Hp} (h : Same H H') {sel : Hp → Option PV} (hs : Sel (fun H => fieldAddr' P t a f H) sel) : sel H = sel H' := by
 have key : ∃ o : Option PV, (∀ K, fieldAddr' P t a f H K = match o with
     | some p => K p H
     | none => none) ∧ (∀ K, fieldAddr' P t a f H' K = match o with
     | some p => K p H'
     | none => none) := by
   unfold fieldAddr'
   split
   · rename_i off ft hf
     split
     · exact ⟨none, fun _ => rfl, fun _ => rfl⟩
     · split
       · rename_i r o
         by_cases hb : ∃ e k, H[r]? = some (.box e k)
         · obtain ⟨e', k', hb'⟩ := (h.1 r).1 hb
           obtain ⟨e, k, hb⟩ := hb
           exact ⟨some (.bptr r (o + off)), fun K => by rw [hb], fun K => by rw [hb']⟩
         · have hb' : ¬ ∃ e k, H'[r]? = some (.box e k) := fun hh => hb ((h.1 r).2 hh)
           refine ⟨none, fun K => ?_, fun K => ?_⟩
           · split
             · rename_i hh; exact (hb ⟨_, _, hh⟩).elim
             · rfl
           · split
             · rename_i hh; exact (hb' ⟨_, _, hh⟩).elim
             · rfl
       · rename_i r g i o
         have := h.2 r g
         cases h1 : getRow H r g with
         | none =>
           cases h2 : getRow H' r g with
           | none => exact ⟨none, fun K => rfl, fun K => rfl⟩
           | some _ => rw [h1, h2] at this; cases this
         | some _ =>
           cases h2 : getRow H' r g with
           | none => rw [h1, h2] at this; cases this
           | some _ => exact ⟨some (.rptr r g i (o + off)), fun K => rfl, fun K => rfl⟩
       · exact ⟨some _, fun K => rfl, fun K => rfl⟩
       · exact ⟨none, fun K => rfl, fun K => rfl⟩
     · exact ⟨none, fun _ => rfl, fun _ => rfl⟩
   · exact ⟨none, fun _ => rfl, fun _ => rfl⟩
 obtain ⟨o, h1, h2⟩ := key
 exact (opt_inj fun K => (hs H K).symm.trans (h1 K)).trans (opt_inj fun K => (hs H' K).symm.trans (h2 K)).symm
def Loc (r : Nat) : Option PV → Prop
 | some (.bptr r' _) => r' = r
 | some (.rptr ..) => False
 | _ => True
structure RInv (ops : Array Oper) (env0 env : Env) : Prop where
 loc : ∀ a r, rootAt ops.toList env0 a = some r → Loc r env[a]?
 ext : ∀ t, isDst ops.toList t = false → env[t]? = env0[t]?
theorem RInv.refl (ops : Array Oper) (env : Env) : RInv ops env env := by
 refine ⟨fun a r h => ?_, fun _ _ => rfl⟩
 unfold rootAt at h
 split at h
 · split at h <;> first | (cases h; done) | skip
   split at h <;> first | (cases h; done) | skip
   split at h <;> first | (cases h; done) | skip
   split at h
   · rename_i r' _ he
     split at h <;> first | (cases h; done) | skip
     rename_i hrr
     cases h
     rw [he]
     exact Nat.eq_of_beq_eq_true hrr
   · cases h
   · rename_i h1 h2
     cases hz : env[a]? with
     | none => trivial
     | some p =>
       cases p <;> first | trivial | (exact (h1 _ _ hz).elim) | (exact (h2 _ _ _ _ hz).elim)
 · split at h <;> first | (cases h; done) | skip
   rename_i he
   cases h
   rw [he]; rfl
def OutOk (o : Oper) (env : Env) (p : PV) : Prop := ∀ t, fieldOf o = some t → ∀ r o', env[t]? = some (.bptr r o') → (∃ o'', p = .bptr r o'') ∨ p = .tup []
theorem act_out {ops : Array Oper} {o : Oper} {env : Env} {H : Hp} {k k' : KV} (h : ∀ p H', OutOk o env p → k p H' = k' p H') : act P tb ops o env H k = act P tb ops o env H k' := by
 by_cases hf : ∃ t r o', fieldOf o = some t ∧ env[t]? = some (.bptr r o')
 · obtain ⟨t, r, o', h1, h2⟩ := hf
   have out1 : ∀ o'', OutOk o env (.bptr r o'') := fun o'' t' ht' r' z hz => by
     rw [h1] at ht'; cases ht'
     rw [h2] at hz; cases hz
     exact .inl ⟨_, rfl⟩
   have out2 : OutOk o env (.tup []) := fun t' ht' r' z hz => .inr rfl
   unfold act
   split
   · obtain ⟨dst, op, type, pos, after, guard⟩ := o
     unfold fieldOf at h1
     split at h1 <;> first | (cases h1; done) | skip
     rename_i ty tt f hop
     dsimp only at hop
     subst hop
     cases h1
     have hev : evl env (.tmp t) = .bptr r o' := by simp [evl, List.getD_eq_getElem?_getD, h2]
     simp only [aop, hev, fieldAddr']
     split
     · split
       · rfl
       · split
         · exact h _ _ (out1 _)
         · rfl
       · rfl
     · rfl
   · exact h _ _ out2
   · rfl
 · have : k = k' := by
     funext p H'
     exact h p H' fun t ht r o' he => (hf ⟨t, r, o', ht, he⟩).elim
   rw [this]
theorem isDst_of {ops : Array Oper} {i : Nat} {o : Oper} {a : Nat} (ho : ops[i]? = some o) (h : o.dst = some a) : isDst ops.toList a = true := by
 unfold isDst
 refine List.any_eq_true.2 ⟨o, List.mem_of_getElem? (by simpa using ho), ?_⟩
 unfold dstIs
 rw [h]
 exact Nat.beq_refl a
theorem RInv.put {ops : Array Oper} {env0 env : Env} (R : RInv ops env0 env) {i : Nat} {o : Oper} (ho : ops[i]? = some o) {p : PV} (hp : OutOk o env p) : RInv ops env0 (putE env o.dst p) := by
 refine ⟨fun a r h => ?_, fun t ht => ?_⟩
 · by_cases hd : o.dst = some a
   · have hroot := h
     unfold rootAt at h
     rw [if_pos (isDst_of ho hd)] at h
     split at h <;> first | (cases h; done) | skip
     rename_i t hrs
     split at h <;> first | (cases h; done) | skip
     rename_i hc
     simp only [Bool.or_eq_true, Bool.not_eq_true', not_or, Bool.not_eq_true, Bool.not_eq_false] at hc
     obtain ⟨hc1, hc2⟩ := hc
     have hall := List.all_eq_true.1 hc2 o (List.mem_of_getElem? (by simpa using ho))
     have hdo : dstIs o a = true := by
       unfold dstIs; rw [hd]; exact Nat.beq_refl a
     rw [hdo] at hall
     simp only [Bool.not_true, Bool.false_or] at hall
     split at hall
     · rename_i t' hft
       obtain rfl := Nat.eq_of_beq_eq_true hall
       split at h <;> first | (cases h; done) | skip
       rename_i r1 o1 het
       have hr1 : r1 = r := by
         split at h
         · split at h <;> first | (cases h; done) | skip
           cases h; rfl
         · cases h
         · cases h; rfl
       subst hr1
       have hent : env[t']? = some (.bptr r1 o1) := by rw [R.ext _ hc1]; exact het
       have hout := hp t' hft r1 o1 hent
       rw [hd]
       show Loc r1 (env.set a p)[a]?
       by_cases hl : a < env.length
       · rw [set_get_self hl]
         rcases hout with ⟨o2, rfl⟩ | rfl
         · rfl
         · trivial
       · rw [List.getElem?_eq_none (by simpa using hl)]
         trivial
     · cases hall
   · have : (putE env o.dst p)[a]? = env[a]? := putE_ne fun u hu e => hd (by rw [hu, e])
     rw [this]
     exact R.loc a r h
 · have : (putE env o.dst p)[t]? = env[t]? := putE_ne fun u hu e => by
     have := isDst_of (a := u) ho hu
     rw [← e, ht] at this; cases this
   rw [this]
   exact R.ext t ht
theorem swapS (hs : HS tb) {ops : Array Oper} {env0 env : Env} (R : RInv ops env0 env) {x y : Oper} (h : turnS ops.toList env0 x y = true) (H : Hp) (k : PV → PV → Hp → Res) :
   act P tb ops x env H (fun p H1 => act P tb ops y env H1 fun q H2 => k p q H2) = act P tb ops y env H (fun q H1 => act P tb ops x env H1 fun p H2 => k p q H2) := by
 obtain ⟨xd, xo, xt, xp, xa, xg⟩ := x
 obtain ⟨yd, yo, yt, yp, ya, yg⟩ := y
 unfold turnS at h
 simp only at h
 split at h <;> first | (cases h; done) | skip
 · -- a field's address
   rename_i t1 a1 f1 t2 a2 v2
   unfold act
   cases hgx : gd ops { dst := xd, op := .fieldAddr t1 a1 f1, type := xt, pos := xp, after := xa, guard := xg } env with
   | none =>
     cases gd ops { dst := yd, op := .store t2 a2 v2, type := yt, pos := yp, after := ya, guard := yg } env with
     | none => rfl
     | some b =>
       cases b
       · rfl
       · exact ((aop_strict hs)).symm
   | some b =>
     cases b with
     | false =>
       cases gd ops { dst := yd, op := .store t2 a2 v2, type := yt, pos := yp, after := ya, guard := yg } env with
       | none => rfl
       | some b => cases b <;> rfl
     | true =>
       cases gd ops { dst := yd, op := .store t2 a2 v2, type := yt, pos := yp, after := ya, guard := yg } env with
       | none =>
         rcases fieldAddr_nf (P := P) (t := t1) (a := evl env a1) (f := f1) (H := H) with ⟨p, hp⟩ | hn
         · exact hp (fun _ _ => none)
         · exact hn (fun _ _ => none)
       | some b =>
         cases b with
         | false => rfl
         | true =>
           obtain ⟨sel, hsel⟩ := sel_of (fun H => fieldAddr_nf (P := P) (t := t1) (a := evl env a1) (f := f1) (H := H))
           show fieldAddr' P t1 (evl env a1) f1 H (fun p H1 => store' P t2 (evl env a2) (evl env v2) H1 fun q H2 => k p q H2) = store' P t2 (evl env a2) (evl env v2) H fun q H1 => fieldAddr' P t1 (evl env a1) f1 H1 fun p H2 => k p q H2
           exact swapR (R := Same) (x := fun H => fieldAddr' P t1 (evl env a1) f1 H) (y := fun H => store' P t2 (evl env a2) (evl env v2) H) hsel (fun H H' hh => fieldAddr_same hh hsel) (fun H k k' hk => store_same hk) (fun H => aop_strict hs (o := { dst := yd, op := .store t2 a2 v2, type := yt, pos := yp, after := ya, guard := yg }) (ev := evl env)) k H
 · -- a load
   rename_i t1 b t2 a v2
   split at h <;> first | (cases h; done) | skip
   rename_i r r' hra hrb
   have hne : r ≠ r' := by
     intro e
     subst e
     rw [Nat.beq_refl] at h
     cases h
   have la := R.loc a r hra
   have lb := R.loc b r' hrb
   have hea : evl env (.tmp a) = (env[a]?).getD .undef := by simp [evl, List.getD_eq_getElem?_getD]
   have heb : evl env (.tmp b) = (env[b]?).getD .undef := by simp [evl, List.getD_eq_getElem?_getD]
   unfold act
   cases hgx : gd ops { dst := xd, op := .load t1 (.tmp b), type := xt, pos := xp, after := xa, guard := xg } env with
   | none =>
     cases gd ops { dst := yd, op := .store t2 (.tmp a) v2, type := yt, pos := yp, after := ya, guard := yg } env with
     | none => rfl
     | some c =>
       cases c
       · rfl
       · exact ((aop_strict hs)).symm
   | some c =>
     cases c with
     | false =>
       cases gd ops { dst := yd, op := .store t2 (.tmp a) v2, type := yt, pos := yp, after := ya, guard := yg } env with
       | none => rfl
       | some c => cases c <;> rfl
     | true =>
       cases gd ops { dst := yd, op := .store t2 (.tmp a) v2, type := yt, pos := yp, after := ya, guard := yg } env with
       | none =>
         rcases load_nf (P := P) (t := t1) (a := evl env (.tmp b)) (H := H) with ⟨p, hp⟩ | hn
         · exact hp (fun _ _ => none)
         · exact hn (fun _ _ => none)
       | some c =>
         cases c with
         | false => rfl
         | true =>
           have strict : ∀ H, store' P t2 (evl env (.tmp a)) (evl env v2) H (fun _ _ => none) = none := fun H => aop_strict hs (o := { dst := yd, op := .store t2 (.tmp a) v2, type := yt, pos := yp, after := ya, guard := yg }) (ev := evl env)
           show load' P t1 (evl env (.tmp b)) H (fun p H1 => store' P t2 (evl env (.tmp a)) (evl env v2) H1 fun q H2 => k p q H2) = store' P t2 (evl env (.tmp a)) (evl env v2) H fun q H1 => load' P t1 (evl env (.tmp b)) H1 fun p H2 => k p q H2
           have hstore : (∃ o, evl env (.tmp a) = .bptr r o) ∨ ∀ H K, store' P t2 (evl env (.tmp a)) (evl env v2) H K = none := by
             rw [hea]
             cases hz : env[a]? with
             | none =>
               refine .inr fun H K => ?_
               show store' P t2 .undef _ H K = none
               unfold store'
               split
               · exact bif_none _
               · rfl
             | some p =>
               rw [hz] at la
               cases p with
               | bptr r1 o => exact .inl ⟨o, by cases la; rfl⟩
               | rptr _ _ _ _ => cases la
               | _ =>
                 refine .inr fun H K => ?_
                 unfold store'
                 split
                 · exact bif_none _
                 · rfl
           have hload : (∃ o, evl env (.tmp b) = .bptr r' o) ∨ NF0 (fun H => load' P t1 (evl env (.tmp b)) H) := by
             rw [heb]
             cases hz : env[b]? with
             | none => exact .inr (.inr fun H K => rfl)
             | some p =>
               rw [hz] at lb
               cases p with
               | bptr r1 o => exact .inl ⟨o, by cases lb; rfl⟩
               | rptr _ _ _ _ => cases lb
               | ro cs => exact .inr readCV_nf0
               | _ => exact .inr (.inr fun H K => rfl)
           rcases hstore with ⟨o, ho⟩ | hn
           · rcases hload with ⟨o', ho'⟩ | hl
             · rw [ho] at strict ⊢
               rw [ho']
               obtain ⟨sel, hsel⟩ := sel_of (fun H => load_nf (P := P) (t := t1) (a := .bptr r' o') (H := H))
               refine swapR (R := fun H H1 => H1[r']? = H[r']?) (x := fun H => load' P t1 (.bptr r' o') H) (y := fun H => store' P t2 (.bptr r o) (evl env v2) H) hsel (fun H H' hh => ?_) (fun H k k' hk => store_at fun q H1 hh => hk q H1 (hh r' (Ne.symm hne))) strict k H
               have hl : ∃ o : Option PV, (∀ K, load' P t1 (.bptr r' o') H K = match o with
                   | some p => K p H
                   | none => none) ∧ (∀ K, load' P t1 (.bptr r' o') H' K = match o with
                   | some p => K p H'
                   | none => none) := by
                 unfold load'
                 simp only
                 rw [hh]
                 split
                 · rename_i e1 k1 hb
                   rcases readPV_nf0 (P := P) (t := t1) (e := e1) (k := ksz k1) (off := o') with ⟨p, hp⟩ | hn
                   · exact ⟨some p, fun K => hp H K, fun K => hp H' K⟩
                   · exact ⟨none, fun K => hn H K, fun K => hn H' K⟩
                 · exact ⟨none, fun K => rfl, fun K => rfl⟩
               obtain ⟨oo, h1, h2⟩ := hl
               have e1 := fun K => (hsel H K).symm.trans (h1 K)
               have e2 := fun K => (hsel H' K).symm.trans (h2 K)
               exact (opt_inj e1).trans (opt_inj e2).symm
             · rcases hl with ⟨p, hp⟩ | hn
               · simp only [hp]
               · simp only [hn]; exact (strict H).symm
           · simp only [hn]
             rcases load_nf (P := P) (t := t1) (a := evl env (.tmp b)) (H := H) with ⟨p, hp⟩ | hn'
             · exact hp (fun _ _ => none)
             · exact hn' (fun _ _ => none)
theorem swap_ok (hs : HS tb) {ops : Array Oper} {env0 : Env} {x y : Oper} (h : mayTurn P ops env0 x y = true) (env : Env) (R : RInv ops env0 env) (H : Hp) (k : KS) :
   act P tb ops x env H (fun p H1 => act P tb ops y (putE env x.dst p) H1 fun q H2 => k (putE (putE env x.dst p) y.dst q) H2) =
   act P tb ops y env H (fun q H1 => act P tb ops x (putE env y.dst q) H1 fun p H2 => k (putE (putE env y.dst q) x.dst p) H2) := by
 unfold mayTurn at h
 simp only [Bool.and_eq_true, Bool.or_eq_true, beq_iff_eq] at h
 obtain ⟨⟨hc, h1⟩, h2⟩ := h
 obtain ⟨a1, a2, a3⟩ := Oper.apart_spec h1
 have e1 : ∀ p, act P tb ops y (putE env x.dst p) = act P tb ops y env := fun p => act_put a1
 have e2 : ∀ q, act P tb ops x (putE env y.dst q) = act P tb ops x env := fun q => act_put a3
 have e3 : ∀ p q, putE (putE env x.dst p) y.dst q = putE (putE env y.dst q) x.dst p := fun p q => putE_comm fun u hu => a2 u hu
 simp only [e1, e2, e3]
 rcases hc with (((hc | hc) | ⟨c1, c2⟩) | ht) | ht
 · rcases act_nf0 hs (ops := ops) (env := env) hc with ⟨p, hp⟩ | hn
   · simp only [hp]
   · simp only [hn]; exact (act_strict hs).symm
 · rcases act_nf0 hs (ops := ops) (env := env) hc with ⟨p, hp⟩ | hn
   · simp only [hp]
   · simp only [hn]; exact act_strict hs
 · rcases act_nf hs (ops := ops) (env := env) (H := H) (.inr c1) with ⟨p, hp⟩ | hn <;> rcases act_nf hs (ops := ops) (env := env) (H := H) (.inr c2) with ⟨q, hq⟩ | hm
   · simp only [hp, hq]
   · simp only [hp, hm]
   · simp only [hn, hq]
   · simp only [hn, hm]
 · exact swapS hs R ht H fun p q H2 => k (putE (putE env y.dst q) x.dst p) H2
 · exact (swapS hs R ht H fun q p H2 => k (putE (putE env y.dst q) x.dst p) H2).symm
theorem bubble (hs : HS tb) {ops : Array Oper} {env0 : Env} {i : Nat} {oi : Oper} (hi : ops[i]? = some oi) {L2 : List Nat} {K : KS} : ∀ {L1 : List Nat}, (∀ j ∈ L1, ∃ oj, ops[j]? = some oj ∧ mayTurn P ops env0 oj oi = true) → ∀ env H, RInv ops env0 env → aops P tb ops (L1 ++ i :: L2) env H K = aops P tb ops (i :: (L1 ++ L2)) env H K
 | [], _, _, _, _ => rfl
 | j :: L1, h, env, H, R => by
   obtain ⟨oj, hj, ht⟩ := h j (by simp)
   rw [List.cons_append, aops_cons hj]
   rw [act_out (k' := fun p H' => act P tb ops oi (putE env oj.dst p) H' fun q H2 => aops P tb ops (L1 ++ L2) (putE (putE env oj.dst p) oi.dst q) H2 K) fun p H' hp => by
     rw [bubble hs (K := K) (L2 := L2) hi (L1 := L1) (fun j hj => h j (by simp [hj])) _ _ (R.put hj hp), aops_cons hi]]
   rw [swap_ok hs ht env R H (fun env H => aops P tb ops (L1 ++ L2) env H K), aops_cons hi]
   congr 1
   funext q H1
   rw [List.cons_append, aops_cons hj]
end Go.Pv
