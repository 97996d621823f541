/- Literals, appends, conversions, iterators. -/
import Derived.Test.YtpclikkakhcomaaGreatDoorPv11
import Derived.Laws.Append
import Derived.Laws.AppendOwn
set_option linter.unusedVariables false
namespace Go.Pv
open Go

/-! ### Literals -/
theorem fold_set (off : Nat) : ∀ (vs : List Value) (i : Nat) (cs : Array Value), (vs.zipIdx i).foldl (fun cs (x : Value × Nat) => cs.setIfInBounds (off + x.2) x.1) cs = cellsSet cs (off + i) vs
  | [], i, cs => rfl
  | v :: vs, i, cs => by
    simp only [List.zipIdx_cons, List.foldl_cons, cellsSet]
    rw [fold_set off vs (i + 1), Nat.add_assoc]
theorem fill_cons {place : Nat → Option (Nat × Nat)} {cells : Array Value} {i off n : Nat} {v : Value} {rest : List (Nat × Value)} (hp : place i = some (off, n)) (hs : v.cells.size = n) (hl : off + n ≤ cells.size) :
    Instr.fill place cells ((i, v) :: rest) = Instr.fill place (cellsSet cells off v.cells.toList) rest := by
  simp only [Instr.fill, hp]
  rw [if_neg (by simp [hs]; omega)]
  congr 1
  have := fold_set off v.cells.toList 0 cells
  rw [Nat.add_zero] at this
  rw [← this, ← Array.foldl_toList]
  simp

/-- The parts of a literal, abstract and real. -/
def PartsR (S : St) : List (Nat × PV) → List (Nat × Value) → Prop := All2 fun a b => a.1 = b.1 ∧ Vr S a.2 b.2

theorem fillC_ok {S : St} {place : Nat → Option (Nat × Nat)} : ∀ {ps : List (Nat × PV)} {vs : List (Nat × Value)} {cs cs' : List CV} {cells : Array Value} {b : Bool}, PartsR S ps vs → fillC place ps cs = some (b, cs') → b = true → All2 (Vc S) cs cells.toList → (∀ u ∈ cells.toList, u.oneCell' = true) →
    ∃ cells', Instr.fill place cells vs = some cells' ∧ All2 (Vc S) cs' cells'.toList ∧ (∀ u ∈ cells'.toList, u.oneCell' = true)
  | [], vs, cs, cs', cells, b, hp, h, hb, hc, h1 => by
    cases hp
    simp [fillC] at h
    exact ⟨cells, rfl, by rw [← h.2]; exact hc, h1⟩
  | (i, p) :: ps, vs, cs, cs', cells, b, hp, h, hb, hc, h1 => by
    cases hp with
    | cons h2 h3 =>
      rename_i q vs
      obtain ⟨j, v⟩ := q
      obtain ⟨e, hv⟩ := h2
      simp only at e hv; subst e
      cases p with
      | c x =>
        simp only [fillC] at h
        split at h <;> first | (cases h; done) | skip
        rename_i off n hpl
        split at h <;> first | (cases h; done) | skip
        rename_i b' cs'' hf
        split at h <;> first | (cases h; done) | skip
        rename_i hle
        cases h
        simp only [Bool.and_eq_true, beq_iff_eq] at hb
        obtain ⟨c1, c2⟩ := (c_of hv).cells
        have hn : v.cells.size = n := by have := c1.length; simp at this; omega
        have hcl := hc.length
        simp at hcl
        have hl : off + n ≤ cells.size := by omega
        have hset := cellsSet_list v.cells.toList cells off (by simp; omega)
        obtain ⟨cells', f1, f2, f3⟩ := fillC_ok (cells := cellsSet cells off v.cells.toList) h3 hf hb.2 (by rw [hset]; exact hc.setRange c1) (by
          intro u hu
          rw [hset] at hu
          simp only [setRange, List.mem_append] at hu
          rcases hu with (hu | hu) | hu
          · exact h1 u (List.mem_of_mem_take hu)
          · exact c2 u hu
          · exact h1 u (List.mem_of_mem_drop hu))
        exact ⟨cells', by rw [fill_cons hpl hn hl]; exact f1, f2, f3⟩
      | _ => simp [fillC] at h
theorem fillP_ok {S : St} {place : Nat → Option (Nat × Nat)} : ∀ {ps : List (Nat × PV)} {vs : List (Nat × Value)} {cs cs' : List PV} {cells : Array Value} {b : Bool}, PartsR S ps vs → fillP place ps cs = some (b, cs') → b = true → All2 (Vr S) cs cells.toList → (∀ u ∈ cells.toList, u.oneCell' = true) →
    ∃ cells', Instr.fill place cells vs = some cells' ∧ All2 (Vr S) cs' cells'.toList ∧ (∀ u ∈ cells'.toList, u.oneCell' = true)
  | [], vs, cs, cs', cells, b, hp, h, hb, hc, h1 => by
    cases hp
    simp [fillP] at h
    exact ⟨cells, rfl, by rw [← h.2]; exact hc, h1⟩
  | (i, p) :: ps, vs, cs, cs', cells, b, hp, h, hb, hc, h1 => by
    cases hp with
    | cons h2 h3 =>
      rename_i q vs
      obtain ⟨j, v⟩ := q
      obtain ⟨e, hv⟩ := h2
      simp only at e hv; subst e
      simp only [fillP] at h
      split at h <;> first | (cases h; done) | skip
      rename_i off n us hpl hus
      split at h <;> first | (cases h; done) | skip
      rename_i b' cs'' hf
      split at h <;> first | (cases h; done) | skip
      rename_i hle
      cases h
      simp only [Bool.and_eq_true, beq_iff_eq] at hb
      obtain ⟨c1, c2⟩ := hv.cells hus
      have hn : v.cells.size = n := by have := c1.length; simp at this; omega
      have hcl := hc.length
      simp at hcl
      have hl : off + n ≤ cells.size := by omega
      have hset := cellsSet_list v.cells.toList cells off (by simp; omega)
      obtain ⟨cells', f1, f2, f3⟩ := fillP_ok (cells := cellsSet cells off v.cells.toList) h3 hf hb.2 (by rw [hset]; exact hc.setRange c1) (by
        intro u hu
        rw [hset] at hu
        simp only [setRange, List.mem_append] at hu
        rcases hu with (hu | hu) | hu
        · exact h1 u (List.mem_of_mem_take hu)
        · exact c2 u hu
        · exact h1 u (List.mem_of_mem_drop hu))
      exact ⟨cells', by rw [fill_cons hpl hn hl]; exact f1, f2, f3⟩

theorem run_places {P : Program} {w : World} : ∀ (fs : List Field) (l : List (Nat × Nat)), fieldPlaces P fs = some l → (fs.mapM (fun f => do pure (f.offset, ← Go.sizeOf f.type) : Field → Sem (Nat × Nat))).run P w = .ok l w
  | [], l, h => by simp [fieldPlaces] at h; subst h; simp
  | f :: fs, l, h => by
    simp only [fieldPlaces] at h
    split at h <;> first | (cases h; done) | skip
    rename_i n l' hn hl
    cases h
    simp only [List.mapM_cons, Sem.run_bind, run_size hn, Result.andThen_ok, Sem.run_pure, run_places fs l' hl]

theorem build_ok {P : Program} {S : St} {t : TypeId} {ps : List (Nat × PV)} {vs : Array (Nat × Value)} {K : KV} {res : CV × List CV} (ok : Ok S) (hp : PartsR S ps vs.toList) (h : build' P t ps S.H K = some res) : Does P (Instr.build t vs) S K res := by
  unfold build' at h
  split at h <;> first | (cases h; done) | skip
  rename_i z place hz hpl
  obtain ⟨zv, hz1, hz2⟩ := run_zero hz
  obtain ⟨z1, z2⟩ := (hz2 S).cells
  have fin : ∀ (cells : Array Value), Instr.fill place zv.cells vs.toList = some cells → (Instr.build t vs).run P S.w = .ok (.agg cells) S.w := by
    intro cells hf
    unfold placeOf at hpl
    split at hpl <;> first | (cases hpl; done) | skip
    · rename_i fs hu
      split at hpl <;> first | (cases hpl; done) | skip
      rename_i l hl
      cases hpl
      have hm : (fs.mapM (fun f => do pure (f.offset, ← Go.sizeOf f.type) : Field → Sem (Nat × Nat))).run P S.w = .ok l.toArray S.w := by
        rw [Array.mapM_eq_mapM_toList]
        simp only [Sem.run_map, run_places _ _ hl, Result.andThen_ok]
      simp only [Instr.build, Sem.run_bind, hz1, Result.andThen_ok, run_underlying hu, hm]
      have e : (fun (i : Nat) => l.toArray[i]?) = fun (i : Nat) => l[i]? := by funext i; simp
      rw [e, hf]; rfl
    · rename_i n e hu
      split at hpl <;> first | (cases hpl; done) | skip
      rename_i n hn
      cases hpl
      simp only [Instr.build, Sem.run_bind, hz1, Result.andThen_ok, run_underlying hu, run_size hn]
      rw [hf]; rfl
  split at h
  · split at h <;> first | (cases h; done) | skip
    rename_i b cs hf
    obtain ⟨hb, h⟩ := bif_true h
    obtain ⟨cells', f1, f2, f3⟩ := fillC_ok hp hf hb z1 z2
    exact .same ok (fin _ f1) (.c (.agg _ _ f2 f3)) h
  · split at h <;> first | (cases h; done) | skip
    rename_i b cs hf
    obtain ⟨hb, h⟩ := bif_true h
    obtain ⟨cells', f1, f2, f3⟩ := fillP_ok hp hf hb (Vr.ofcl z1) z2
    exact .same ok (fin _ f1) (.agg _ _ f2 f3) h

/-! ### New rows -/
/-- A new row whose first elements are xs. -/
theorem new_rowG {S : St} (ok : Ok S) (g0 : Nat) {xs : List CV} {k cap : Nat} {vs : List Value} {cs : Array Value} {T : TypeId} {fr : Nat × Nat} (hk0 : 0 < k) (hk : ∀ e ∈ xs, e.cl.length = k) (hvs : All2 (Vc S) (elemCells xs) vs) (h1 : ∀ u ∈ vs, u.oneCell' = true)
    (hcs : ∀ (j : Nat) (v : Value), vs[j]? = some v → cs[j]? = some v) (hsz : cs.size = cap * k) (hcap : xs.length ≤ cap) (hfr : unfrozen fr cs.size) (hT : gty g0 = 0 ∨ T + 1 = gty g0) :
    Good S (S.push (.cells cs T fr) (.row xs k g0 false) cap) ∧ Vr (S.push (.cells cs T fr) (.row xs k g0 false) cap) (.rw S.H.length g0) (.slice (some ⟨S.w.heap.size, 0, none⟩) xs.length cap) := by
  have E := push_ext ok (.cells cs T fr) (.row xs k g0 false) cap
  have G := push_good ok (.cells cs T fr) (.row xs k g0 false) cap ⟨hk0, hk, .inr ⟨S.w.heap.size, cs, T, fr, vs, by simp [St.push], heap_alloc_new, ⟨hfr, hT⟩, by simp [St.push]; exact hsz, by simp [St.push]; exact hcap, hvs.imp fun _ _ _ h => h.mono E, hcs, h1⟩⟩
  refine ⟨G, .rw _ _ _ rfl ⟨by simp [St.push], fun xs' k' g' s' hr => by
    have hr' : (S.H ++ [AO.row xs k g0 false])[S.H.length]? = some (.row xs' k' g' s') := hr
    simp at hr'
    omega⟩ fun xs' k' s' hr => ?_⟩
  have hr' : (S.H ++ [AO.row xs k g0 false])[S.H.length]? = some (.row xs' k' g0 s') := hr
  simp at hr'
  obtain ⟨rfl, rfl, rfl⟩ := hr'
  exact .inl ⟨S.w.heap.size, ⟨S.w.heap.size, 0, none⟩, by simp [St.push], by simp [St.push], fun _ => by simp⟩

/-- A new row whose first elements are xs. -/
theorem new_row {S : St} (ok : Ok S) {xs : List CV} {k cap : Nat} {vs : List Value} {cs : Array Value} {T : TypeId} {fr : Nat × Nat} (hk0 : 0 < k) (hk : ∀ e ∈ xs, e.cl.length = k) (hvs : All2 (Vc S) (elemCells xs) vs) (h1 : ∀ u ∈ vs, u.oneCell' = true)
    (hcs : ∀ (j : Nat) (v : Value), vs[j]? = some v → cs[j]? = some v) (hsz : cs.size = cap * k) (hcap : xs.length ≤ cap) (hfr : unfrozen fr cs.size) :
    Good S (S.push (.cells cs T fr) (.row xs k 0 false) cap) ∧ Vr (S.push (.cells cs T fr) (.row xs k 0 false) cap) (.rw S.H.length 0) (.slice (some ⟨S.w.heap.size, 0, none⟩) xs.length cap) := new_rowG ok 0 hk0 hk hvs h1 hcs hsz hcap hfr (.inl rfl)

theorem flat_replicate {z : CV} {k : Nat} (h : z.cl.length = k) : ∀ n, elemCells (List.replicate n z) = (List.replicate n z.cl).flatten
  | 0 => rfl
  | n + 1 => by
    rw [List.replicate_succ, List.replicate_succ, List.flatten_cons, ← flat_replicate h n]; rfl
theorem get_flatten {l : List Value} {k : Nat} (hl : l.length = k) (hk : 0 < k) : ∀ (n j : Nat), ((List.replicate n l).flatten)[j]? = if j < n * k then l[j % k]? else none
  | 0, j => by simp
  | n + 1, j => by
    rw [List.replicate_succ, List.flatten_cons]
    by_cases h : j < k
    · rw [List.getElem?_append_left (by omega), if_pos (by rw [Nat.add_mul]; omega), Nat.mod_eq_of_lt h]
    · rw [List.getElem?_append_right (by omega), hl, get_flatten hl hk n (j - k)]
      have e : j % k = (j - k) % k := by rw [Nat.mod_eq_sub_mod (by omega)]
      by_cases h2 : j - k < n * k
      · rw [if_pos h2, if_pos (by rw [Nat.add_mul]; omega), e]
      · rw [if_neg h2, if_neg (by rw [Nat.add_mul]; omega)]
theorem All2.flat_rep {S : St} {z : CV} {l : List Value} (h : All2 (Vc S) z.cl l) : ∀ n, All2 (Vc S) (elemCells (List.replicate n z)) (List.replicate n l).flatten
  | 0 => .nil
  | n + 1 => by
    show All2 (Vc S) (z.cl ++ elemCells (List.replicate n z)) (l ++ (List.replicate n l).flatten)
    exact h.append (All2.flat_rep h n)

theorem wrap_id {n : Int} (h0 : 0 ≤ n) (h1 : n ≤ 9223372036854775807) : IntKind.i64.wrap n = n := by
  have e1 : (2 ^ IntKind.i64.bits : Int) = 18446744073709551616 := by decide
  have e2 : (2 ^ (IntKind.i64.bits - 1) : Int) = 9223372036854775808 := by decide
  simp only [IntKind.wrap, e1, e2]
  rw [Int.emod_eq_of_lt h0 (by omega), if_neg (by simp; omega)]

theorem makeSlice_ok {P : Program} {S : St} {t : TypeId} {l c : PV} {vl vc : Value} {K : KV} {res : CV × List CV} (ok : Ok S) (hl : Vr S l vl) (hc : Vr S c vc) (h : makeSlice' P t l c S.H K = some res) : Does P (Instr.makeSlice t vl vc) S K res := by
  unfold makeSlice' at h
  split at h <;> first | (cases h; done) | skip
  rename_i e l c hu
  obtain rfl := int_of hl
  obtain rfl := int_of hc
  split at h <;> first | (cases h; done) | skip
  rename_i z n b hz hn hb
  split at h <;> first | (cases h; done) | skip
  rename_i hzn
  obtain ⟨hzn, hn0, hb0⟩ := hzn
  obtain ⟨q0, h⟩ := bif_true h
  obtain ⟨q1, h⟩ := bif_true h
  obtain ⟨q2, h⟩ := bif_true h
  have q0 : 0 ≤ l := by simpa using q0
  have q1 : l ≤ c := by simpa using q1
  have q2 : (b : Int) * c ≤ 281474976710656 := of_decide_eq_true q2
  have hc0 : c ≤ (b : Int) * c := by
    have h1 : (1 : Int) * c ≤ b * c := Int.mul_le_mul_of_nonneg_right (by omega) (by omega)
    omega
  obtain ⟨zv, hz1, hz2⟩ := run_zero hz
  obtain ⟨z1, z2⟩ := (hz2 S).cells
  have hzs : zv.cells.size = n := by have := z1.length; simp at this; omega
  obtain ⟨i, _, hbi, hti⟩ := run_bytes hb
  have wl : IntKind.i64.wrap l = l := wrap_id q0 (by omega)
  have wc : IntKind.i64.wrap c = c := wrap_id (by omega) (by omega)
  let cs : Array Value := (Array.range (c.toNat * n)).map (zv.cells[· % zv.cells.size]!)
  have hcs : ∀ j, cs[j]? = if j < c.toNat * n then zv.cells[j % n]? else none := by
    intro j
    simp only [cs, Array.getElem?_map, Array.getElem?_range, hzs]
    split
    · have : j % n < zv.cells.size := by rw [hzs]; exact Nat.mod_lt _ hn0
      simp [this]
    · rfl
  have hln : l.toNat ≤ c.toNat := by omega
  have hlen : (List.replicate l.toNat z).length = l.toNat := List.length_replicate
  obtain ⟨G, hp⟩ := new_row (T := e) (fr := (0, 0)) (cap := c.toNat) ok hn0 (xs := List.replicate l.toNat z) (fun x hx => by rw [List.eq_of_mem_replicate hx]; exact hzn) (All2.flat_rep z1 l.toNat) (cs := cs)
    (by
      intro u hu
      rw [List.mem_flatten] at hu
      obtain ⟨l', h1, h2⟩ := hu
      rw [List.eq_of_mem_replicate h1] at h2
      exact z2 u h2)
    (by
      intro j v hj
      rw [get_flatten (by simpa using hzs) hn0] at hj
      split at hj <;> first | (cases hj; done) | skip
      rename_i hjl
      have : l.toNat * n ≤ c.toNat * n := Nat.mul_le_mul_right _ hln
      rw [hcs, if_pos (by omega)]
      simpa using hj)
    (by simp [cs]) (by rw [hlen]; exact hln) (unfrozen_none _)
  rw [hlen] at hp
  refine ⟨_, _, _, ?_, G, hp, h⟩
  simp only [Instr.makeSlice, Sem.run_bind, run_underlying hu, Result.andThen_ok, asInt, asIntOf, Sem.run_pure, hti, wl, wc, hbi]
  rw [if_neg (by simp; omega)]
  simp only [run_askRoom, Sem.run_bind, Result.andThen_ok, run_size hn]
  by_cases h0 : c.toNat * n = 0
  · rw [if_pos h0]
    have hcs' : (Array.range (c.toNat * n)).map ((#[] : Array Value)[· % (#[] : Array Value).size]!) = cs := by simp [cs, h0]
    simp only [Sem.run_bind, Sem.run_pure, Result.andThen_ok, newRow, run_newObj, hcs']
    rfl
  · rw [if_neg h0]
    simp only [Sem.run_bind, hz1, Sem.run_pure, Result.andThen_ok, newRow, run_newObj]
    rfl

end Go.Pv
