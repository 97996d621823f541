/- What is handed over: results, and how a caller takes them. -/
import Derived.Test.YtpclikkakhcomaaGreatDoorPv15
set_option linter.unusedVariables false
namespace Go.Pv
open Go

/-! ### Results, as what stands in the callee's memory -/
/-- H with some objects given up. -/
def Killed (H : Hp) (used : List Nat) (Hd : Hp) : Prop := Hd.length = H.length ∧ ∀ i : Nat, Hd[i]? = if i ∈ used then (H[i]?.map fun _ => AO.dead) else H[i]?

theorem Killed.refl (H : Hp) : Killed H [] H := ⟨rfl, fun i => by simp⟩
theorem Killed.live {H Hd : Hp} {used : List Nat} (h : Killed H used Hd) {r : Nat} {o : AO} (hr : Hd[r]? = some o) (ho : o ≠ .dead) : H[r]? = some o ∧ r ∉ used := by
  have := h.2 r
  rw [hr] at this
  split at this
  · rename_i hm
    cases hh : H[r]? with
    | none => rw [hh] at this; simp at this
    | some x => rw [hh] at this; simp at this; exact absurd this ho
  · rename_i hm; exact ⟨this.symm, hm⟩
theorem Killed.kill {H Hd : Hp} {used : List Nat} (h : Killed H used Hd) {r : Nat} (hr : r < H.length) : Killed H (used ++ [r]) (Hd.set r .dead) := by
  refine ⟨by simp [h.1], fun i => ?_⟩
  by_cases e : i = r
  · subst e
    rw [set_get_self (by rw [h.1]; exact hr), if_pos (by simp)]
    simp [List.getElem?_eq_getElem hr]
  · rw [set_get_ne e, h.2 i]
    have : (i ∈ used ++ [r]) ↔ i ∈ used := by simp [e]
    simp only [this]
theorem Killed.set {H Hd : Hp} {used : List Nat} (h : Killed H used Hd) {r : Nat} {o : AO} (hu : r ∉ used) : Killed (H.set r o) used (Hd.set r o) := by
  refine ⟨by simp [h.1], fun i => ?_⟩
  by_cases e : i = r
  · subst e
    rw [if_neg hu]
    by_cases hl : i < H.length
    · rw [set_get_self (by rw [h.1]; exact hl), set_get_self hl]
    · rw [List.getElem?_eq_none (by simp [h.1]; omega), List.getElem?_eq_none (by simp; omega)]
  · rw [set_get_ne e, set_get_ne e, h.2 i]

/-- A cell of a result: data, or a row that is handed over. -/
inductive CellR (S : St) : CV → Value → List Nat → Prop where
  | data {x : CV} {v : Value} : Vc S x v → CellR S x v []
  | own {r k g : Nat} {xs : List CV} {v : Value} : S.H[r]? = some (.row xs k g false) → RowV S r 0 xs.length k v → v.oneCell' = true → CellR S (.sl true false k xs) v [r]
inductive CellsR (S : St) : List CV → List Value → List Nat → Prop where
  | nil : CellsR S [] [] []
  | cons {x xs v vs u us} : CellR S x v u → CellsR S xs vs us → CellsR S (x :: xs) (v :: vs) (u ++ us)
inductive ValR (S : St) : CV → Value → List Nat → Prop where
  | cell {x v u} : CellR S x v u → ValR S x v u
  | agg {xs : List CV} {vs : Array Value} {u : List Nat} : CellsR S xs vs.toList u → (∀ v ∈ vs.toList, v.oneCell' = true) → ValR S (.aggO xs) (.agg vs) u
inductive ResR (S : St) : CV → Value → List Nat → Prop where
  | val {x v u} : ValR S x v u → ResR S x v u
  | box {x : CV} {ve : Value} {u : List Nat} {r k b : Nat} {e : PV} {T : TypeId} {fr : Nat × Nat} : S.H[r]? = some (.box e k) → S.ι r = some b → S.w.heap[b]? = some (.cells ve.cells T fr) → bOk T fr ve.cells.size k → ve.cells.size = ksz k → (∀ v ∈ ve.cells.toList, v.oneCell' = true) → ValR S x ve u → ResR S (.boxv k x) (.pointer (some ⟨b, 0, none⟩)) (r :: u)
inductive TupR (S : St) : List CV → List Value → List Nat → Prop where
  | nil : TupR S [] [] []
  | cons {x xs v vs u us} : ResR S x v u → TupR S xs vs us → TupR S (x :: xs) (v :: vs) (u ++ us)
inductive AllR (S : St) : CV → Value → List Nat → Prop where
  | res {x v u} : ResR S x v u → AllR S x v u
  | tup {xs : List CV} {vs : Array Value} {u : List Nat} : TupR S xs vs.toList u → AllR S (.tup xs) (.tuple vs) u

theorem closeCell_killed {H Hd Hd' : Hp} {used : List Nat} {p : PV} {x : CV} (k : Killed H used Hd) (h : closeCell p Hd = some (x, Hd')) : ∃ H', closeCell p H = some (x, H') ∧ Killed H' used Hd' := by
  have row : ∀ {r g : Nat} {xs : List CV} {n : Nat} {s : Bool}, getRow Hd r g = some (xs, n, s) → getRow H r g = some (xs, n, s) ∧ Killed (sealRow H r) used (sealRow Hd r) := by
    intro r g xs n s hr0
    have hr := getRow_some hr0
    obtain ⟨h1, h2⟩ := k.live hr (by simp)
    refine ⟨by simp [getRow, h1], ?_⟩
    rw [sealRow_eq h1, sealRow_eq hr]
    exact k.set h2
  unfold closeCell at h
  split at h <;> first | (cases h; done) | skip
  · rename_i y
    split at h <;> first | (cases h; done) | skip
    rename_i hna
    cases h
    refine ⟨H, ?_, k⟩
    cases x <;> first | rfl | exact (hna _ rfl).elim
  · split at h <;> first | (cases h; done) | skip
    rename_i xs n s hr0
    cases h
    obtain ⟨h1, h2⟩ := row hr0
    exact ⟨_, by simp [closeCell, h1], h2⟩
  · split at h <;> first | (cases h; done) | skip
    rename_i xs n s hr0
    cases h
    obtain ⟨h1, h2⟩ := row hr0
    exact ⟨_, by simp [closeCell, h1], h2⟩
  · cases h
    exact ⟨H, rfl, k⟩

theorem CellR.mono {S S' : St} (M : Marked S S') {used : List Nat} {x : CV} {v : Value} {u : List Nat} (h : CellR S x v u) (hk : ∀ r, r ∈ u → S'.H[r]? = S.H[r]?) : CellR S' x v u := by
  cases h with
  | data h => exact .data (h.mono M.good.ext)
  | own h1 h2 h3 => exact .own (by rw [hk _ (by simp)]; exact h1) (h2.same (by rw [M.ι]) (by rw [M.cp])) h3
theorem CellsR.mono {S S' : St} (M : Marked S S') {x : List CV} {v : List Value} {u : List Nat} (h : CellsR S x v u) (hk : ∀ r, r ∈ u → S'.H[r]? = S.H[r]?) : CellsR S' x v u := by
  induction h with
  | nil => exact .nil
  | cons h1 h2 ih => exact .cons (h1.mono (used := []) M fun r hr => hk r (by simp [hr])) (ih fun r hr => hk r (by simp [hr]))
theorem ValR.mono {S S' : St} (M : Marked S S') {x : CV} {v : Value} {u : List Nat} (h : ValR S x v u) (hk : ∀ r, r ∈ u → S'.H[r]? = S.H[r]?) : ValR S' x v u := by
  cases h with
  | cell h => exact .cell (h.mono (used := []) M hk)
  | agg h h1 => exact .agg (h.mono M hk) h1
theorem ResR.mono {S S' : St} (M : Marked S S') {x : CV} {v : Value} {u : List Nat} (h : ResR S x v u) (hk : ∀ r, r ∈ u → S'.H[r]? = S.H[r]?) : ResR S' x v u := by
  cases h with
  | val h => exact .val (h.mono M hk)
  | box h1 h2 h3 h4 h5 h6 h7 => exact .box (by rw [hk _ (by simp)]; exact h1) (by rw [M.ι]; exact h2) (by rw [M.w]; exact h3) h4 h5 h6 (h7.mono M fun r hr => hk r (by simp [hr]))
theorem TupR.mono {S S' : St} (M : Marked S S') {x : List CV} {v : List Value} {u : List Nat} (h : TupR S x v u) (hk : ∀ r, r ∈ u → S'.H[r]? = S.H[r]?) : TupR S' x v u := by
  induction h with
  | nil => exact .nil
  | cons h1 h2 ih => exact .cons (h1.mono M fun r hr => hk r (by simp [hr])) (ih fun r hr => hk r (by simp [hr]))

/-- One step of handing over: from S (with 'used' given up) to S'. -/
structure Own (S S' : St) (used : List Nat) (Hd' : Hp) (u : List Nat) : Prop where
  m : Marked S S'
  k : Killed S'.H (used ++ u) Hd'
  keep : ∀ r, r ∈ used → S'.H[r]? = S.H[r]?
  fresh : ∀ r, r ∈ u → r ∉ used
  nodup : u.Nodup
  len : S'.H.length = S.H.length

theorem Marked.len {S S' : St} (h : Marked S S') (h' : Marked S S') : S.H.length ≤ S'.H.length := h.good.ext.len

theorem sealRow_len (H : Hp) (r : Nat) : (sealRow H r).length = H.length := by
  unfold sealRow; split <;> simp
theorem closeCell_len {p : PV} {H H' : Hp} {x : CV} (h : closeCell p H = some (x, H')) : H'.length = H.length := by
  unfold closeCell at h
  split at h <;> first | (cases h; done) | skip
  · split at h <;> first | (cases h; done) | skip
    cases h; rfl
  · split at h <;> first | (cases h; done) | skip
    cases h; exact sealRow_len _ _
  · split at h <;> first | (cases h; done) | skip
    cases h; exact sealRow_len _ _
  · cases h; rfl
theorem closeCell_keep {p : PV} {H H' Hd Hd' : Hp} {used : List Nat} {x : CV} (k : Killed H used Hd) (h : closeCell p Hd = some (x, Hd')) (h' : closeCell p H = some (x, H')) : ∀ r, r ∈ used → H'[r]? = H[r]? := by
  have row : ∀ {r g : Nat} {xs : List CV} {n : Nat} {s : Bool}, getRow Hd r g = some (xs, n, s) → ∀ r', r' ∈ used → (sealRow H r)[r']? = H[r']? := by
    intro r g xs n s hr0 r' hr'
    obtain ⟨h1, h2⟩ := k.live (getRow_some hr0) (by simp)
    rw [sealRow_eq h1]
    exact set_get_ne (fun e => h2 (e ▸ hr'))
  unfold closeCell at h h'
  split at h <;> first | (cases h; done) | skip
  · rename_i y
    dsimp only at h'
    split at h <;> first | (cases h; done) | skip
    rename_i hna
    cases h
    split at h' <;> first | (cases h'; done) | skip
    cases h'; intro r _; rfl
  · dsimp only at h'
    split at h <;> first | (cases h; done) | skip
    rename_i xs n s hr0
    split at h' <;> first | (cases h'; done) | skip
    cases h'; exact row hr0
  · dsimp only at h'
    split at h <;> first | (cases h; done) | skip
    rename_i xs n s hr0
    split at h' <;> first | (cases h'; done) | skip
    cases h'; exact row hr0
  · cases h'; intro r _; rfl

theorem own_of_close {S : St} (ok : Ok S) {used : List Nat} {Hd Hd' : Hp} {p : PV} {v : Value} {x : CV} (k : Killed S.H used Hd) (hv : Vr S p v) (h : closeCell p Hd = some (x, Hd')) :
    ∃ S', Own S S' used Hd' [] ∧ Vc S' x v := by
  obtain ⟨H', h1, h2⟩ := closeCell_killed k h
  obtain ⟨S', e, M, c, _⟩ := closeCell_ok ok hv h1
  subst e
  exact ⟨S', ⟨M, by simpa using h2, closeCell_keep k h h1, by simp, by simp, closeCell_len h1⟩, c⟩

theorem ownCell_ok {S : St} (ok : Ok S) {used : List Nat} {Hd Hd' : Hp} {p : PV} {v : Value} {x : CV} (k : Killed S.H used Hd) (hv : Vr S p v) (h : ownCell p Hd = some (x, Hd')) :
    ∃ S' u, Own S S' used Hd' u ∧ CellR S' x v u := by
  unfold ownCell at h
  split at h
  · rename_i r g
    split at h <;> first | (cases h; done) | skip
    · rename_i xs n hr0
      cases h
      have hr := getRow_some hr0
      obtain ⟨h1, h2⟩ := k.live hr (by simp)
      cases hv with
      | rw r g v o1 hg hrow =>
        exact ⟨S, [r], ⟨.refl ok, k.kill (List.getElem?_eq_some_iff.1 h1).1, fun _ _ => rfl, by simpa using h2, by simp, rfl⟩, .own h1 (hrow _ _ _ h1) o1⟩
    · rename_i xs n hr0
      cases h
      have hr := getRow_some hr0
      obtain ⟨h1, h2⟩ := k.live hr (by simp)
      cases hv with
      | rw r g v o1 hg hrow =>
        refine ⟨S, [], ⟨.refl ok, by simpa using k, fun _ _ => rfl, by simp, by simp, rfl⟩, .data ?_⟩
        have := frozen_part ok (off := 0) (len := xs.length) h1 (by omega) (hrow _ _ _ h1)
        simpa using this
  · obtain ⟨S', o, c⟩ := own_of_close ok k hv h
    exact ⟨S', [], o, .data c⟩

theorem Own.trans {S S1 S2 : St} {used u1 u2 : List Nat} {H1 H2 : Hp} (h : Own S S1 used H1 u1) (h' : Own S1 S2 (used ++ u1) H2 u2) : Own S S2 used H2 (u1 ++ u2) where
  m := h.m.trans h'.m
  k := by rw [← List.append_assoc]; exact h'.k
  keep r hr := (h'.keep r (by simp [hr])).trans (h.keep r hr)
  fresh r hr := by
    rcases List.mem_append.1 hr with hr | hr
    · exact h.fresh r hr
    · intro hu; exact h'.fresh r hr (by simp [hu])
  nodup := by
    rw [List.nodup_append]
    refine ⟨h.nodup, h'.nodup, fun a ha b hb e => ?_⟩
    subst e; exact h'.fresh a hb (by simp [ha])
  len := h'.len.trans h.len

theorem ownCells_ok : ∀ {S : St} (ok : Ok S) {used : List Nat} {Hd Hd' : Hp} {ps : List PV} {vs : List Value} {xs : List CV} (k : Killed S.H used Hd) (hv : All2 (Vr S) ps vs) (h : ownCells ps Hd = some (xs, Hd')),
    ∃ S' u, Own S S' used Hd' u ∧ CellsR S' xs vs u
  | S, ok, used, Hd, Hd', [], vs, xs, k, hv, h => by
    cases hv; cases h
    exact ⟨S, [], ⟨.refl ok, by simpa using k, fun _ _ => rfl, by simp, by simp, rfl⟩, .nil⟩
  | S, ok, used, Hd, Hd', p :: ps, vs, xs, k, hv, h => by
    cases hv with
    | cons h1 h2 =>
      simp only [ownCells] at h
      split at h <;> first | (cases h; done) | skip
      rename_i x H1 hx
      split at h <;> first | (cases h; done) | skip
      rename_i xs' H2 hxs
      cases h
      obtain ⟨S1, u1, o1, c1⟩ := ownCell_ok ok k h1 hx
      obtain ⟨S2, u2, o2, c2⟩ := ownCells_ok o1.m.good.ok o1.k (h2.imp fun _ _ _ h => h.mono o1.m.good.ext) hxs
      exact ⟨S2, u1 ++ u2, o1.trans o2, .cons (c1.mono (used := []) o2.m fun r hr => o2.keep r (by simp [hr])) c2⟩

theorem ownVal_ok {S : St} (ok : Ok S) {used : List Nat} {Hd Hd' : Hp} {p : PV} {v : Value} {x : CV} (k : Killed S.H used Hd) (hv : Vr S p v) (h : ownVal p Hd = some (x, Hd')) :
    ∃ S' u, Own S S' used Hd' u ∧ ValR S' x v u := by
  unfold ownVal at h
  split at h
  · cases h
    exact ⟨S, [], ⟨.refl ok, by simpa using k, fun _ _ => rfl, by simp, by simp, rfl⟩, .cell (.data (c_of hv))⟩
  · split at h <;> first | (cases h; done) | skip
    rename_i vs' H1 hc
    cases h
    cases hv with
    | agg ps vs h1 h2 =>
      obtain ⟨S', u, o, c⟩ := ownCells_ok ok k h1 hc
      exact ⟨S', u, o, .agg c h2⟩
  · obtain ⟨S', u, o, c⟩ := ownCell_ok ok k hv h
    exact ⟨S', u, o, .cell c⟩

theorem ownRes_ok {S : St} (ok : Ok S) {used : List Nat} {Hd Hd' : Hp} {p : PV} {v : Value} {x : CV} (k : Killed S.H used Hd) (hv : Vr S p v) (h : ownRes p Hd = some (x, Hd')) :
    ∃ S' u, Own S S' used Hd' u ∧ ResR S' x v u := by
  unfold ownRes at h
  split at h
  · rename_i r
    split at h <;> first | (cases h; done) | skip
    rename_i e n hr
    split at h <;> first | (cases h; done) | skip
    rename_i y H1 hy
    cases h
    obtain ⟨h1, h2⟩ := k.live hr (by simp)
    obtain ⟨b, cs, T, fr, ve, q1, q2, q3, q4, q5, q6, q7⟩ := ok.ob r _ h1
    subst q6
    cases hv with
    | bptr r t v' o1 hlt hb =>
      obtain ⟨b', hb1, rfl⟩ := hb _ _ h1
      rw [q1] at hb1; cases hb1
      have hk1 := k.kill hlt
      obtain ⟨S', u, o, c⟩ := ownVal_ok ok hk1 q5 hy
      refine ⟨S', r :: u, ⟨o.m, by have := o.k; simpa using this, fun r' hr' => o.keep r' (by simp [hr']), ?_, ?_, o.len⟩, ?_⟩
      · intro r' hr'
        rcases List.mem_cons.1 hr' with rfl | hr'
        · exact h2
        · intro hu; exact o.fresh r' hr' (by simp [hu])
      · rw [List.nodup_cons]
        exact ⟨fun hr' => o.fresh r hr' (by simp), o.nodup⟩
      · exact .box (e := e) (T := T) (fr := fr) (by rw [o.keep r (by simp)]; exact h1) (by rw [o.m.ι]; exact q1) (by rw [o.m.w]; exact q2) q3 (q5.size q4) q7 c
  · obtain ⟨S', u, o, c⟩ := ownVal_ok ok k hv h
    exact ⟨S', u, o, .val c⟩

theorem ownTup_ok : ∀ {S : St} (ok : Ok S) {used : List Nat} {Hd Hd' : Hp} {ps : List PV} {vs : List Value} {xs : List CV} (k : Killed S.H used Hd) (hv : All2 (Vr S) ps vs) (h : ownTup ps Hd = some (xs, Hd')),
    ∃ S' u, Own S S' used Hd' u ∧ TupR S' xs vs u
  | S, ok, used, Hd, Hd', [], vs, xs, k, hv, h => by
    cases hv; cases h
    exact ⟨S, [], ⟨.refl ok, by simpa using k, fun _ _ => rfl, by simp, by simp, rfl⟩, .nil⟩
  | S, ok, used, Hd, Hd', p :: ps, vs, xs, k, hv, h => by
    cases hv with
    | cons h1 h2 =>
      simp only [ownTup] at h
      split at h <;> first | (cases h; done) | skip
      rename_i x H1 hx
      split at h <;> first | (cases h; done) | skip
      rename_i xs' H2 hxs
      cases h
      obtain ⟨S1, u1, o1, c1⟩ := ownRes_ok ok k h1 hx
      obtain ⟨S2, u2, o2, c2⟩ := ownTup_ok o1.m.good.ok o1.k (h2.imp fun _ _ _ h => h.mono o1.m.good.ext) hxs
      exact ⟨S2, u1 ++ u2, o1.trans o2, .cons (c1.mono o2.m fun r hr => o2.keep r (by simp [hr])) c2⟩

theorem ownAll_ok {S : St} (ok : Ok S) {used : List Nat} {Hd Hd' : Hp} {p : PV} {v : Value} {x : CV} (k : Killed S.H used Hd) (hv : Vr S p v) (h : ownAll p Hd = some (x, Hd')) :
    ∃ S' u, Own S S' used Hd' u ∧ AllR S' x v u := by
  unfold ownAll at h
  split at h
  · rename_i ps
    split at h <;> first | (cases h; done) | skip
    rename_i vs' H1 hc
    cases h
    cases hv with
    | tup ps vs h1 =>
      obtain ⟨S', u, o, c⟩ := ownTup_ok ok k h1 hc
      exact ⟨S', u, o, .tup c⟩
  · obtain ⟨S', u, o, c⟩ := ownRes_ok ok k hv h
    exact ⟨S', u, o, .res c⟩

end Go.Pv
