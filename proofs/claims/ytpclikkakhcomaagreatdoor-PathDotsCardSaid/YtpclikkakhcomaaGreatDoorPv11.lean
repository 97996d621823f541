/- Stores; appends. -/
import Derived.Test.YtpclikkakhcomaaGreatDoorPv10
set_option linter.unusedVariables false
namespace Go.Pv
open Go

theorem ex_congr {w w' : World} (h : w = w') : w'= w := h.symm

/-- A store into a box. -/
theorem store_box {P : Program} {S : St} {t : TypeId} {r off k n : Nat} {e x e' : PV} {v a : Value} {K : KV} {res : CV × List CV} (ok : Ok S) (hr : S.H[r]? = some (.box e k)) (ha : Vr S (.bptr r off) a) (hx : Vr S x v) (hn : tySize P t = some n) (hxn : x.ncells = some n) (hle : off + n ≤ ksz k)
    (hw : writePV e (ksz k) off n x = some e') (h : K (.tup []) (S.H.set r (.box e' k)) = some res) :
    ∃ S' , (Instr.storeAt t a v).run P S.w = .ok () S'.w ∧ Good S S' ∧ K (.tup []) S'.H = some res := by
  have hlt : r < S.H.length := (List.getElem?_eq_some_iff.1 hr).1
  obtain ⟨b, cs, T, fr, ve, h1, h2, h3, h4, h5, h6, h7⟩ := ok.ob r _ hr
  cases ha with
  | bptr r t' v' h1' hlt' hb =>
    obtain ⟨b', hb1, rfl⟩ := hb _ _ hr
    rw [h1] at hb1; cases hb1
    have hsz : v.cells.size = n := hx.size hxn
    have hcs : cs.size = ksz k := by rw [← h6]; exact h5.size h4
    obtain ⟨us, hus, _⟩ := PV.cells_of_n hxn
    obtain ⟨w', r1, r2, r3, r4, r5, r6, r7⟩ := run_storeVar (P := P) hn hsz (hx.cells hus).2 h2 h3.1 (by omega : off + n ≤ cs.size)
    obtain ⟨u, hu1, hu2, hu3⟩ := write_ok h5 h4 hx hxn hle hw
    let S' : St := { S with w := w', H := S.H.set r (.box e' k) }
    have T' : Turn S S' r (.box e' k) := by
      refine ⟨hlt, rfl, fun _ _ => rfl, fun _ _ => rfl, .inl rfl, r5, r6, r7, by show _ ≤ w'.heap.size; omega, fun b' _ hb' => r3 b' (fun e => hb' (by rw [e]; exact h1)), rfl, rfl, rfl, ?_, ?_, ?_, ?_⟩
      · intro b' off' v' _ hs
        obtain ⟨xs, k', g, hrow, _⟩ := hs
        rw [hr] at hrow; cases hrow
      · intro e1 k1 he; exact ⟨e, k, hr, rfl⟩
      · intro s p he; cases he
      · intro xs k g s he; cases he
    have E := T'.ext ok
    refine ⟨S', ?_, T'.good ok ⟨b, _, T, fr, u, h1, r2, ?_, hu2, hu1.mono E, ?_, ?_⟩, h⟩
    · simp only [Instr.storeAt, Instr.sureAddr, Sem.run_bind, Sem.run_pure, Result.andThen_ok]
      exact r1
    · rw [cellsSet_size]; exact h3
    · rw [hu3, h6]
    · rw [cellsSet_list _ _ _ (by simp; omega)]
      intro u' hu'
      simp only [setRange, List.mem_append] at hu'
      rcases hu' with (hu' | hu') | hu'
      · exact h7 u' (List.mem_of_mem_take hu')
      · exact (hx.cells hus).2 u' hu'
      · exact h7 u' (List.mem_of_mem_drop hu')

theorem flat_append (xs ys : List CV) : elemCells (xs ++ ys) = elemCells xs ++ elemCells ys := by simp [elemCells]
theorem flat_set {xs : List CV} {i : Nat} {e : CV} (hi : i < xs.length) : elemCells (xs.set i e) = elemCells (xs.take i) ++ e.cl ++ elemCells (xs.drop (i + 1)) := by
  rw [List.set_eq_take_append_cons_drop, if_pos hi, flat_append]
  simp [elemCells]

theorem setRange_get {α : Type} {cs us : List α} {off j : Nat} (h : off + us.length ≤ cs.length) : (setRange cs off us)[j]? = if off ≤ j ∧ j < off + us.length then us[j - off]? else cs[j]? := by
  unfold setRange
  by_cases h2 : j < off
  · rw [if_neg (by omega), List.append_assoc, List.getElem?_append_left (by simp; omega), List.getElem?_take, if_pos h2]
  · by_cases h3 : j < off + us.length
    · rw [if_pos (by omega), List.append_assoc, List.getElem?_append_right (by simp; omega), List.getElem?_append_left (by simp; omega)]
      congr 1; simp; omega
    · rw [if_neg (by omega), List.getElem?_append_right (by simp; omega), List.getElem?_drop]
      congr 1; simp; omega

/-- A store into an element of a row. -/
theorem store_row {P : Program} {S : St} {t : TypeId} {r g i off k n : Nat} {xs : List CV} {u : CV} {v a : Value} (ok : Ok S) (hr : S.H[r]? = some (.row xs k g false)) (ha : Vr S (.rptr r g i off) a) (hx : Vc S u v) (hn : tySize P t = some n) (hxn : u.cl.length = n) (hle : off + n ≤ k) (hi : i < xs.length) :
    ∃ S' , (Instr.storeAt t a v).run P S.w = .ok () S'.w ∧ Good S S' ∧ S'.H = S.H.set r (.row (xs.set i (if off = 0 ∧ n = k then u else .agg (setRange (xs.getD i .nilptr).cl off u.cl))) k g false) := by
  have hlt : r < S.H.length := (List.getElem?_eq_some_iff.1 hr).1
  obtain ⟨h0, hk, hb⟩ := ok.ob r _ hr
  cases ha with
  | rptr r g i t' v' h1' hg hb' =>
    obtain ⟨b, hb1, rfl⟩ := hb' _ _ _ hr
    rcases hb with ⟨a1, _, _⟩ | ⟨b', cs, T, fr, vs, a1, a2, a3, a4, a5, a6, a7, a8⟩
    · rw [a1] at hb1; cases hb1
    rw [a1] at hb1; cases hb1
    have hel : (xs.getD i .nilptr).cl.length = k := hk _ (by simp [List.getD_eq_getElem?_getD, hi])
    obtain ⟨c1, c2⟩ := hx.cells
    have hvn : v.cells.size = n := by have := c1.length; simp at this; omega
    have hik : i * k + k ≤ xs.length * k := by
      have : (i + 1) * k ≤ xs.length * k := Nat.mul_le_mul_right _ hi
      rw [Nat.add_mul] at this; omega
    have hcap : xs.length * k ≤ cs.size := by rw [a4]; exact Nat.mul_le_mul_right _ a5
    have hvl : vs.length = xs.length * k := by rw [← a6.length, flat_len hk]
    obtain ⟨w', r1, r2, r3, r4, r5, r6, r7⟩ := run_storeVar (P := P) hn hvn c2 a2 a3.1 (by omega : i * k + off + n ≤ cs.size)
    generalize he' : (if off = 0 ∧ n = k then u else .agg (setRange (xs.getD i .nilptr).cl off u.cl)) = e'
    have hcl : e'.cl = setRange (xs.getD i .nilptr).cl off u.cl := by
      subst he'
      split
      · rename_i hc
        obtain ⟨rfl, rfl⟩ := hc
        simp only [setRange, List.take_zero, List.nil_append]
        rw [List.drop_of_length_le (by omega), List.append_nil]
      · rfl
    have hcll : e'.cl.length = k := by
      rw [hcl]; simp only [setRange, List.length_append, List.length_take, List.length_drop, hel]; omega
    let S' : St := { S with w := w', H := S.H.set r (.row (xs.set i e') k g false) }
    have T' : Turn S S' r (.row (xs.set i e') k g false) := by
      refine ⟨hlt, rfl, fun _ _ => rfl, fun _ _ => rfl, .inl rfl, r5, r6, r7, by show _ ≤ w'.heap.size; omega, fun b' _ hb' => r3 b' (fun e => hb' (by rw [e]; exact a1)), rfl, rfl, rfl, ?_, ?_, ?_, ?_⟩
      · intro b' off' v' _ hs
        obtain ⟨xs, k', g, hrow, _⟩ := hs
        rw [hr] at hrow; cases hrow
      · intro e1 k1 he; cases he
      · intro s p he; cases he
      · intro xs' k' g' s he
        cases he
        exact ⟨xs, k, g, false, hr, Nat.le_refl _, fun _ => ⟨rfl, by simp, rfl, rfl⟩⟩
    have E := T'.ext ok
    let evs := (vs.drop (i * k)).take k
    have hevs : All2 (Vc S) (xs.getD i .nilptr).cl evs := by rw [← flat_get hk hi]; exact (a6.drop _).take _
    have hel2 : evs.length = k := by rw [← hevs.length, hel]
    let vs' := vs.take (i * k) ++ setRange evs off v.cells.toList ++ vs.drop ((i + 1) * k)
    have hrel : All2 (Vc S) (elemCells (xs.set i e')) vs' := by
      rw [flat_set hi, hcl]
      refine ((?_ : All2 (Vc S) (elemCells (xs.take i)) (vs.take (i * k))).append (hevs.setRange c1)).append ?_
      · rw [flat_take i hk]; exact a6.take _
      · rw [flat_drop (i + 1) hk]; exact a6.drop _
    have hev : ∀ j, evs[j]? = if j < k then vs[i * k + j]? else none := by
      intro j; show ((vs.drop (i * k)).take k)[j]? = _
      rw [List.getElem?_take]; split
      · rw [List.getElem?_drop]
      · rfl
    have hl1 : (vs.take (i * k)).length = i * k := by simp; omega
    have hl2 : (setRange evs off v.cells.toList).length = k := by
      simp only [setRange, List.length_append, List.length_take, List.length_drop, hel2, Array.length_toList]; omega
    refine ⟨S', ?_, T'.good ok ⟨h0, ?_, .inr ⟨b, _, T, fr, vs', a1, r2, ?_, ?_, by simpa using a5, hrel.imp fun _ _ _ h => h.mono E, ?_, ?_⟩⟩, rfl⟩
    · simp only [Instr.storeAt, Instr.sureAddr, Sem.run_bind, Sem.run_pure, Result.andThen_ok]
      exact r1
    · intro y hy
      rcases List.mem_or_eq_of_mem_set hy with hy | rfl
      · exact hk y hy
      · exact hcll
    · rw [cellsSet_size]; exact a3
    · rw [cellsSet_size]; exact a4
    · intro j z hj
      rw [cellsSet_get]
      simp only [Array.length_toList, hvn]
      by_cases q1 : j < i * k
      · rw [if_neg (by omega)]
        refine a7 j z ?_
        have : vs'[j]? = vs[j]? := by
          show (vs.take (i * k) ++ setRange evs off v.cells.toList ++ vs.drop ((i + 1) * k))[j]? = _
          rw [List.append_assoc, List.getElem?_append_left (by omega), List.getElem?_take, if_pos q1]
        rw [← this]; exact hj
      · by_cases q2 : j < i * k + k
        · have : vs'[j]? = (setRange evs off v.cells.toList)[j - i * k]? := by
            show (vs.take (i * k) ++ setRange evs off v.cells.toList ++ vs.drop ((i + 1) * k))[j]? = _
            rw [List.append_assoc, List.getElem?_append_right (by omega), List.getElem?_append_left (by omega), hl1]
          rw [this, setRange_get (by simp; omega)] at hj
          simp only [Array.length_toList, hvn] at hj
          by_cases q3 : off ≤ j - i * k ∧ j - i * k < off + n
          · rw [if_pos q3] at hj
            rw [if_pos (by omega), show j - (i * k + off) = j - i * k - off by omega]
            exact hj
          · rw [if_neg q3, hev, if_pos (by omega), show i * k + (j - i * k) = j by omega] at hj
            rw [if_neg (by omega)]; exact a7 j z hj
        · have : vs'[j]? = vs[j]? := by
            show (vs.take (i * k) ++ setRange evs off v.cells.toList ++ vs.drop ((i + 1) * k))[j]? = _
            rw [List.getElem?_append_right (by rw [List.length_append]; omega), List.getElem?_drop, List.length_append, hl1, hl2]
            congr 1; rw [Nat.add_mul]; omega
          rw [if_neg (by omega)]
          exact a7 j z (by rw [← this]; exact hj)
    · intro z hz
      simp only [vs', List.mem_append] at hz
      rcases hz with (hz | hz) | hz
      · exact a8 z (List.mem_of_mem_take hz)
      · simp only [setRange, List.mem_append] at hz
        rcases hz with (hz | hz) | hz
        · exact a8 z (List.mem_of_mem_drop (List.mem_of_mem_take (List.mem_of_mem_take hz)))
        · exact c2 z hz
        · exact a8 z (List.mem_of_mem_drop (List.mem_of_mem_take (List.mem_of_mem_drop hz)))
      · exact a8 z (List.mem_of_mem_drop hz)

theorem store_ok {P : Program} {S : St} {t : TypeId} {a x : PV} {va v : Value} {K : KV} {res : CV × List CV} (ok : Ok S) (ha : Vr S a va) (hx : Vr S x v) (h : store' P t a x S.H K = some res) :
    ∃ S', (Instr.storeAt t va v).run P S.w = .ok () S'.w ∧ Good S S' ∧ K (.tup []) S'.H = some res := by
  unfold store' at h
  split at h <;> first | (cases h; done) | skip
  rename_i n m hn hm
  have hh := bif_true h
  clear h
  obtain ⟨hnm, h⟩ := hh
  obtain rfl : n = m := by simpa using hnm
  split at h <;> first | (cases h; done) | skip
  · rename_i r off
    split at h <;> first | (cases h; done) | skip
    rename_i e k hr
    split at h <;> first | (cases h; done) | skip
    rename_i hle
    split at h <;> first | (cases h; done) | skip
    rename_i e' hw
    exact store_box ok hr ha hx hn hm hle hw h
  · rename_i r g i off
    split at h <;> first | (cases h; done) | skip
    rename_i u H1 hc
    obtain ⟨S1, e1, M, hu⟩ := closeVal_ok ok hx hc
    subst e1
    split at h <;> first | (cases h; done) | skip
    rename_i xs k hr0
    have hr := getRow_some hr0
    split at h <;> first | (cases h; done) | skip
    rename_i hle
    obtain ⟨hi, h⟩ := bif_true h
    have hi : i < xs.length := by simpa using hi
    have hul : u.cl.length = n := by
      rw [hu.cells.1.length]; simp; exact hx.size hm
    obtain ⟨S2, s1, s2, s3⟩ := store_row (P := P) M.good.ok hr (ha.mono M.good.ext) hu hn hul hle hi
    rw [M.w] at s1
    exact ⟨S2, s1, M.good.trans s2, by rw [s3]; exact h⟩

end Go.Pv
