/- Closing a value; a new variable; a store. -/
import Derived.Test.YtpclikkakhcomaaGreatDoorPv9
set_option linter.unusedVariables false
namespace Go.Pv
open Go

/-! ### Sealing -/
def St.withH (S : St) (H : Hp) : St := { S with H := H }
theorem set_self {α : Type} {l : List α} {r : Nat} {a : α} (h : l[r]? = some a) : l.set r a = l := by
  apply List.ext_getElem?
  intro i
  by_cases e : i = r
  · subst e
    rw [set_get_self (List.getElem?_eq_some_iff.1 h).1, h]
  · exact set_get_ne e
theorem sealRow_eq {H : Hp} {r : Nat} {xs : List CV} {k g : Nat} {s : Bool} (h : H[r]? = some (.row xs k g s)) : sealRow H r = H.set r (.row xs k g true) := by
  simp [sealRow, h]
theorem seal_good {S : St} (ok : Ok S) {r : Nat} {xs : List CV} {k g : Nat} {s : Bool} (h : S.H[r]? = some (.row xs k g s)) :
    Good S (S.withH (sealRow S.H r)) ∧ (S.withH (sealRow S.H r)).H[r]? = some (.row xs k g true) := by
  have hlt : r < S.H.length := (List.getElem?_eq_some_iff.1 h).1
  have ho := ok.ob r _ h
  have T : Turn S (S.withH (sealRow S.H r)) r (.row xs k g true) := by
    refine ⟨hlt, by rw [sealRow_eq h]; rfl, fun _ _ => rfl, fun _ _ => rfl, .inl rfl, rfl, rfl, rfl, Nat.le_refl _, fun _ _ _ => rfl, rfl, rfl, rfl, ?_, ?_, ?_, ?_⟩
    · intro b off v hb hs hc
      obtain ⟨xs', k', g', h1, h2⟩ := hs
      rw [h] at h1; cases h1
      exact ⟨fun _ => ⟨xs, k, g, rfl, h2⟩, hc⟩
    · intro e' k' he; cases he
    · intro e' k' he; cases he
    · intro xs' k' g' s' he
      cases he
      exact ⟨xs, k, g, s, h, Nat.le_refl _, fun _ => ⟨rfl, rfl, rfl, rfl⟩⟩
  have E := T.ext ok
  refine ⟨T.good ok ?_, by rw [sealRow_eq h]; exact set_get_self hlt⟩
  obtain ⟨h0, h1, hb⟩ := ho
  refine ⟨h0, h1, ?_⟩
  rcases hb with hb | ⟨b, cs, T', fr, vs, a1, a2, a3, a4, a5, a6, a7⟩
  · exact .inl hb
  · exact .inr ⟨b, cs, T', fr, vs, a1, a2, a3, a4, a5, a6.imp fun _ _ _ h => h.mono E, a7⟩

/-- What a sealed row's part stands for, as data. -/
theorem frozen_part {S : St} (ok : Ok S) {r off len : Nat} {xs : List CV} {k g : Nat} {v : Value} (hr : S.H[r]? = some (.row xs k g true)) (hle : off + len ≤ xs.length) (hv : RowV S r off len k v) : Vc S (.sl false false k ((xs.drop off).take len)) v := by
  obtain ⟨h0, hk, hb⟩ := ok.ob r _ hr
  have hl : ((xs.drop off).take len).length = len := by simp; omega
  rcases hv with ⟨b, a, h1, rfl, h3⟩ | ⟨h1, rfl, rfl, rfl⟩
  · rcases hb with ⟨a1, _, _⟩ | ⟨b', cs, T, fr, vs, a1, a2, a3, a4, a5, a6, a7, a8⟩
    · rw [a1] at h1; cases h1
    · rw [a1] at h1; cases h1
      have key : Vc S (.sl false false k ((xs.drop off).take len)) (.slice (some a) ((xs.drop off).take len).length (S.cp r - off)) := by
        refine .sl false k _ a (S.cp r - off) ((vs.drop (off * k)).take (len * k)) (fun e he => hk e (List.mem_of_mem_drop (List.mem_of_mem_take he))) ?_ ?_ (by rw [hl]; omega) (by simp)
        · rw [flat_take len (fun e he => hk e (List.mem_of_mem_drop he)), flat_drop off hk]; exact (a6.drop _).take _
        · intro j v hj
          rw [List.getElem?_take] at hj
          split at hj <;> first | (cases hj; done) | skip
          rename_i hjk
          rw [List.getElem?_drop] at hj
          have hlen : 0 < len := by
            rcases Nat.eq_zero_or_pos len with h | h
            · subst h; simp at hjk
            · exact h
          have := h3 (by omega)
          subst this
          have hlt : off * k + j < xs.length * k := by
            have h5 : (off + len) * k ≤ xs.length * k := Nat.mul_le_mul_right _ hle
            rw [Nat.add_mul] at h5; omega
          refine ⟨rfl, ⟨ok.free r b _ a1, fun r' hr' => ?_⟩, ?_, a8 _ (List.mem_of_getElem? hj)⟩
          · obtain rfl := ok.inj r r' b a1 hr'
            exact ⟨xs, k, g, hr, hlt⟩
          · rw [heap_cell a2]; exact a7 _ _ hj
      rw [hl] at key; exact key
  · simp; exact .slnil _

/-! ### Closing -/
/-- Nothing but the objects' marks has turned. -/
structure Marked (S S' : St) : Prop where
  good : Good S S'
  w : S'.w = S.w
  ι : S'.ι = S.ι
  cp : S'.cp = S.cp
theorem Marked.refl {S : St} (ok : Ok S) : Marked S S := ⟨.refl ok, rfl, rfl, rfl⟩
theorem Marked.trans {S1 S2 S3 : St} (h : Marked S1 S2) (h' : Marked S2 S3) : Marked S1 S3 := ⟨h.good.trans h'.good, h'.w.trans h.w, h'.ι.trans h.ι, h'.cp.trans h.cp⟩

theorem closeCell_ok {S : St} (ok : Ok S) {p : PV} {v : Value} {x : CV} {H' : Hp} (hv : Vr S p v) (h : closeCell p S.H = some (x, H')) :
    ∃ S', S'.H = H' ∧ Marked S S' ∧ Vc S' x v ∧ x.cl = [x] := by
  unfold closeCell at h
  split at h <;> first | (cases h; done) | skip
  · rename_i y
    split at h <;> first | (cases h; done) | skip
    rename_i hna
    cases h
    refine ⟨S, rfl, .refl ok, c_of hv, ?_⟩
    cases x <;> first | rfl | exact (hna _ rfl).elim
  · rename_i r g
    split at h <;> first | (cases h; done) | skip
    rename_i xs k s hr0
    have hr := getRow_some hr0
    cases h
    obtain ⟨G, hr'⟩ := seal_good ok hr
    refine ⟨_, rfl, ⟨G, rfl, rfl, rfl⟩, ?_, rfl⟩
    cases hv.mono G.ext with
    | rw r g v h1 hg h =>
      have := frozen_part G.ok (off := 0) (len := xs.length) hr' (by omega) (h _ _ _ hr')
      simpa using this
  · rename_i r g off len
    split at h <;> first | (cases h; done) | skip
    rename_i xs k s hr0
    have hr := getRow_some hr0
    cases h
    obtain ⟨G, hr'⟩ := seal_good ok hr
    refine ⟨_, rfl, ⟨G, rfl, rfl, rfl⟩, ?_, rfl⟩
    cases hv.mono G.ext with
    | row r g off len v h1 hg h =>
      obtain ⟨h2, h3⟩ := h _ _ _ hr'
      exact frozen_part G.ok hr' h2 h3
  · cases h
    refine ⟨S, rfl, .refl ok, ?_, rfl⟩
    cases hv with
    | fn f caps vs h =>
      cases hvs : vs.toList with
      | nil => exact .fn _ _ _ (by rw [hvs]; exact .nil)
      | cons a l => rw [hvs] at h; cases h

theorem closeCells_ok : ∀ {S : St} (ok : Ok S) {ps : List PV} {vs : List Value} {xs : List CV} {H' : Hp} (hv : All2 (Vr S) ps vs) (h : closeCells ps S.H = some (xs, H')),
    ∃ S', S'.H = H' ∧ Marked S S' ∧ All2 (Vc S') xs vs ∧ ∀ x ∈ xs, x.cl = [x]
  | S, ok, [], vs, xs, H', hv, h => by
    cases hv; cases h
    exact ⟨S, rfl, .refl ok, .nil, by simp⟩
  | S, ok, p :: ps, vs, xs, H', hv, h => by
    cases hv with
    | cons h1 h2 =>
      simp only [closeCells] at h
      split at h <;> first | (cases h; done) | skip
      rename_i x H1 hx
      split at h <;> first | (cases h; done) | skip
      rename_i xs' H2 hxs
      cases h
      obtain ⟨S1, e1, M1, c1, l1⟩ := closeCell_ok ok h1 hx
      subst e1
      obtain ⟨S2, e2, M2, c2, l2⟩ := closeCells_ok M1.good.ok (h2.imp fun _ _ _ h => h.mono M1.good.ext) hxs
      refine ⟨S2, e2, M1.trans M2, .cons (c1.mono M2.good.ext) c2, ?_⟩
      intro y hy
      rcases List.mem_cons.1 hy with rfl | hy
      · exact l1
      · exact l2 y hy

theorem closeVal_ok {S : St} (ok : Ok S) {p : PV} {v : Value} {x : CV} {H' : Hp} (hv : Vr S p v) (h : closeVal p S.H = some (x, H')) :
    ∃ S', S'.H = H' ∧ Marked S S' ∧ Vc S' x v := by
  unfold closeVal at h
  split at h <;> first | (cases h; done) | skip
  · cases h
    exact ⟨S, rfl, .refl ok, c_of hv⟩
  · split at h <;> first | (cases h; done) | skip
    rename_i vs' H1 hc
    cases h
    cases hv with
    | agg ps vs h1 h2 =>
      obtain ⟨S', e, M, c, _⟩ := closeCells_ok ok h1 hc
      exact ⟨S', e, M, .agg _ _ c h2⟩
  · obtain ⟨S', e, M, c, _⟩ := closeCell_ok ok hv h
    exact ⟨S', e, M, c⟩

/-! ### New variables -/
theorem unfrozen_none (n : Nat) : unfrozen (0, 0) n := fun i _ => by simp

/-- A new box. -/
theorem new_box {S : St} (ok : Ok S) {e : PV} {k : Nat} {v : Value} {T : TypeId} (hv : Vr S e v) (hk : e.ncells = some (ksz k)) (hT : kty k = 0 ∨ T + 1 = kty k) :
    Good S (S.push (.cells v.cells T) (.box e k) 0) ∧ Vr (S.push (.cells v.cells T) (.box e k) 0) (.bptr S.H.length 0) (.pointer (some ⟨S.w.heap.size, 0, none⟩)) := by
  have E := push_ext ok (.cells v.cells T) (.box e k) 0
  obtain ⟨ps, hp, _⟩ := PV.cells_of_n hk
  have G := push_good ok (.cells v.cells T) (.box e k) 0 ⟨S.w.heap.size, v.cells, T, (0, 0), v, by simp [St.push], heap_alloc_new, ⟨unfrozen_none _, hT⟩, hk, hv.mono E, rfl, (hv.cells hp).2⟩
  refine ⟨G, .bptr _ _ _ rfl (by simp [St.push]) fun _ _ _ => ⟨S.w.heap.size, by simp [St.push], rfl⟩⟩

theorem run_newVar {P : Program} {t : TypeId} {v : Value} {w : World} : (newVar t v).run P w = .ok ⟨w.heap.size, 0, none⟩ (w.alloc (.cells v.cells t)) := by
  simp [newVar, newRow]

theorem ksz_of {n t : Nat} (h : n < 4294967296) : ksz (kOf n t) = n := by unfold ksz kOf; omega
theorem kty_of {n t : Nat} (h : n < 4294967296) : kty (kOf n t) = t + 1 := by unfold kty kOf; omega
theorem alloc_ok {P : Program} {S : St} {t : TypeId} {z : CV} {K : KV} {res : CV × List CV} (ok : Ok S) (hz : tyZero P t = some z) (hl : z.cl.length < 4294967296) (h : K (.bptr S.H.length 0) (S.H ++ [.box (.c z) (kOf z.cl.length t)]) = some res) :
    Does P (Instr.alloc t true (.tuple #[])) S K res := by
  obtain ⟨v, hv, hc⟩ := run_zero hz
  obtain ⟨G, hp⟩ := new_box (T := t) ok (.c (hc S)) (k := kOf z.cl.length t) (by rw [ksz_of hl]; rfl) (.inr (kty_of hl).symm)
  refine ⟨_, _, _, ?_, G, hp, h⟩
  simp [Instr.alloc, hv, run_newVar, St.push]
theorem box_ok {P : Program} {S : St} {t : TypeId} {p : PV} {v : Value} {k : Nat} {K : KV} {res : CV × List CV} (ok : Ok S) (hv : Vr S p v) (hk : p.ncells = some k) (hl : k < 4294967296) (h : K (.bptr S.H.length 0) (S.H ++ [.box p (kOf k t)]) = some res) :
    Does P (Instr.box t v) S K res := by
  obtain ⟨G, hp⟩ := new_box (T := t) ok hv (by rw [ksz_of hl]; exact hk) (.inr (kty_of hl).symm)
  refine ⟨_, _, _, ?_, G, hp, h⟩
  simp [Instr.box, run_newVar, St.push]

/-! ### Stores -/
/-- The world behind a store of cells. -/
def cellsSet (cs : Array Value) (off : Nat) : List Value → Array Value
  | [] => cs
  | v :: vs => cellsSet (cs.setIfInBounds off v) (off + 1) vs
theorem cellsSet_size : ∀ (vs : List Value) (cs : Array Value) (off : Nat), (cellsSet cs off vs).size = cs.size
  | [], _, _ => rfl
  | v :: vs, cs, off => by simp [cellsSet, cellsSet_size vs]
theorem cellsSet_get : ∀ (vs : List Value) (cs : Array Value) (off j : Nat), (cellsSet cs off vs)[j]? = if off ≤ j ∧ j < off + vs.length ∧ j < cs.size then vs[j - off]? else cs[j]?
  | [], cs, off, j => by
    simp only [cellsSet, List.length_nil, Nat.add_zero]
    rw [if_neg (by omega)]
  | v :: vs, cs, off, j => by
    simp only [cellsSet, cellsSet_get vs, Array.size_setIfInBounds, List.length_cons]
    by_cases h1 : j = off
    · subst h1
      by_cases h2 : j < cs.size
      · rw [if_neg (by omega), if_pos (by omega)]; simp [h2]
      · rw [if_neg (by omega), if_neg (by omega)]; simp [h2]
    · by_cases h2 : off + 1 ≤ j ∧ j < off + 1 + vs.length ∧ j < cs.size
      · rw [if_pos h2, if_pos (by omega), show j - off = (j - (off + 1)) + 1 by omega]; rfl
      · rw [if_neg h2, if_neg (by omega)]
        rw [Array.getElem?_setIfInBounds_ne (by omega)]
theorem cellsSet_list (vs : List Value) (cs : Array Value) (off : Nat) (h : off + vs.length ≤ cs.size) : (cellsSet cs off vs).toList = setRange cs.toList off vs := by
  apply List.ext_getElem?
  intro j
  have h1 := cellsSet_get vs cs off j
  rw [Array.getElem?_toList, h1]
  unfold setRange
  by_cases h2 : j < off
  · rw [if_neg (by omega), List.append_assoc, List.getElem?_append_left (by simp; omega), List.getElem?_take, if_pos h2]; simp
  · by_cases h3 : j < off + vs.length
    · rw [if_pos (by omega), List.append_assoc, List.getElem?_append_right (by simp; omega), List.getElem?_append_left (by simp; omega)]
      congr 1; simp; omega
    · rw [if_neg (by omega), List.getElem?_append_right (by simp; omega), List.getElem?_drop]
      simp; congr 1; omega

theorem setCell_heap {w : World} {b off : Nat} {v : Value} {cs : Array Value} {T : TypeId} {fr : Nat × Nat} (h : w.heap[b]? = some (.cells cs T fr)) :
    (w.setCell ⟨b, off, none⟩ v).heap[b]? = some (.cells (cs.setIfInBounds off v) T fr) := by
  simp [World.setCell, Array.getElem?_modify, h]
theorem setCell_other {w : World} {b b' off : Nat} {v : Value} (h : b' ≠ b) : (w.setCell ⟨b, off, none⟩ v).heap[b']? = w.heap[b']? := RowKit.Below.heap_setCell w _ v b' h

theorem run_storeCells {P : Program} {b : Nat} {T : TypeId} {fr : Nat × Nat} : ∀ (vs : List Value) (w : World) (cs : Array Value) (off i : Nat), w.heap[b]? = some (.cells cs T fr) → unfrozen fr cs.size → off + i + vs.length ≤ cs.size → (∀ v ∈ vs, v.oneCell' = true) →
    ∃ w', (storeCells ⟨b, off, none⟩ vs i).run P w = .ok () w' ∧ w'.heap[b]? = some (.cells (cellsSet cs (off + i) vs) T fr) ∧ (∀ b', b' ≠ b → w'.heap[b']? = w.heap[b']?) ∧ w'.heap.size = w.heap.size ∧ w'.os = w.os ∧ w'.tape = w.tape ∧ w'.output = w.output
  | [], w, cs, off, i, h, _, _, _ => ⟨w, rfl, h, fun _ _ => rfl, rfl, rfl, rfl, rfl⟩
  | v :: vs, w, cs, off, i, h, hf, hl, h1 => by
    simp only [List.length_cons] at hl
    have hc : w.cell? ⟨b, off + i, none⟩ = some (cs[off + i]'(by omega)) := by
      rw [heap_cell h]; simp [show off + i < cs.size by omega]
    have hfr : w.frozen? ⟨b, off + i, none⟩ = false := by
      simp only [World.frozen?, h]; exact hf (off + i) (by omega)
    obtain ⟨w', r1, r2, r3, r4, r5, r6, r7⟩ := run_storeCells vs (w.setCell ⟨b, off + i, none⟩ v) (cs.setIfInBounds (off + i) v) off (i + 1) (setCell_heap h) (by simpa using hf) (by simp; omega) (fun u hu => h1 u (by simp [hu]))
    refine ⟨w', ?_, ?_, ?_, ?_, r5, r6, r7⟩
    · simp only [storeCells, Sem.run_bind, add_at, run_store P w _ v .plain (h1 v (by simp)), hc, hfr, Bool.false_eq_true, if_false, Result.andThen_ok]
      exact r1
    · rw [r2]; simp only [cellsSet, Nat.add_assoc]
    · intro b' hb'; rw [r3 b' hb', setCell_other hb']
    · rw [r4, World.size_setCell]

theorem run_storeVar {P : Program} {t : TypeId} {v : Value} {w : World} {b off : Nat} {cs : Array Value} {T : TypeId} {fr : Nat × Nat} {n : Nat} (hn : tySize P t = some n) (hv : v.cells.size = n) (h1 : ∀ u ∈ v.cells.toList, u.oneCell' = true)
    (h : w.heap[b]? = some (.cells cs T fr)) (hf : unfrozen fr cs.size) (hl : off + n ≤ cs.size) :
    ∃ w', (storeVar t ⟨b, off, none⟩ v).run P w = .ok () w' ∧ w'.heap[b]? = some (.cells (cellsSet cs off v.cells.toList) T fr) ∧ (∀ b', b' ≠ b → w'.heap[b']? = w.heap[b']?) ∧ w'.heap.size = w.heap.size ∧ w'.os = w.os ∧ w'.tape = w.tape ∧ w'.output = w.output := by
  obtain ⟨w', r1, r2, r3⟩ := run_storeCells (P := P) v.cells.toList w cs off 0 h hf (by simp; omega) h1
  refine ⟨w', ?_, by simpa using r2, r3⟩
  simp only [storeVar, Sem.run_bind, run_size hn, Result.andThen_ok]
  rw [if_neg (by rw [hv]; simp)]
  exact r1

theorem All2.setRange {α β : Type} {R : α → β → Prop} {as us : List α} {bs vs : List β} {off : Nat} (h : All2 R as bs) (h' : All2 R us vs) : All2 R (setRange as off us) (setRange bs off vs) := by
  unfold Pv.setRange
  rw [h'.length]
  exact ((h.take _).append h').append (h.drop _)

/-- What a variable holds behind a store. -/
theorem write_ok {S : St} {e x e' : PV} {ve v : Value} {k off n : Nat} (he : Vr S e ve) (hek : e.ncells = some k) (hx : Vr S x v) (hxn : x.ncells = some n) (hle : off + n ≤ k) (h : writePV e k off n x = some e') :
    ∃ u, Vr S e' u ∧ e'.ncells = some k ∧ u.cells = cellsSet ve.cells off v.cells.toList := by
  obtain ⟨ps, hps, hpl⟩ := PV.cells_of_n hek
  obtain ⟨us, hus, hul⟩ := PV.cells_of_n hxn
  obtain ⟨p1, p2⟩ := he.cells hps
  obtain ⟨u1, u2⟩ := hx.cells hus
  have hs1 : ve.cells.size = k := he.size hek
  have hs2 : v.cells.size = n := hx.size hxn
  have hset : (cellsSet ve.cells off v.cells.toList).toList = setRange ve.cells.toList off v.cells.toList := cellsSet_list _ _ _ (by simp; omega)
  have h1 : ∀ u ∈ (cellsSet ve.cells off v.cells.toList).toList, u.oneCell' = true := by
    intro u hu
    rw [hset] at hu
    simp only [setRange, List.mem_append] at hu
    rcases hu with (hu | hu) | hu
    · exact p2 u (List.mem_of_mem_take hu)
    · exact u2 u hu
    · exact p2 u (List.mem_of_mem_drop hu)
  unfold writePV at h
  split at h
  · rename_i hc
    obtain ⟨rfl, rfl⟩ := hc
    cases h
    refine ⟨v, hx, hxn, ?_⟩
    apply Array.ext'
    rw [hset]
    simp only [setRange, List.take_zero, List.nil_append]
    rw [List.drop_of_length_le (by simp; omega), List.append_nil]
  · split at h <;> first | (cases h; done) | skip
    · rename_i y z
      cases h
      have hy := (c_of he).cells.1
      have hz := (c_of hx).cells.1
      refine ⟨.agg (cellsSet ve.cells off v.cells.toList), .c (.agg _ _ (by rw [hset]; exact hy.setRange hz) h1), ?_, rfl⟩
      have ly : y.cl.length = k := by rw [hy.length]; simp; omega
      have lz : z.cl.length = n := by rw [hz.length]; simp; omega
      show some (Pv.setRange y.cl off z.cl).length = some k
      simp only [Pv.setRange, List.length_append, List.length_take, List.length_drop, ly, lz]
      congr 1; omega
    · split at h <;> first | (cases h; done) | skip
      rename_i cs us' hcs hus'
      cases h
      rw [hps] at hcs; cases hcs
      rw [hus] at hus'; cases hus'
      refine ⟨.agg (cellsSet ve.cells off v.cells.toList), .agg _ _ (by rw [hset]; exact p1.setRange u1) h1, ?_, rfl⟩
      simp only [PV.ncells, setRange, List.length_append, List.length_take, List.length_drop, hpl, hul]
      congr 1; omega

end Go.Pv
