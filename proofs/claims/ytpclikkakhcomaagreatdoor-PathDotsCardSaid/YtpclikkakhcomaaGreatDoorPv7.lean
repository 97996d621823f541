/- What reads, continued: loads, addresses, cuts, lengths, operators. -/
import Derived.Test.YtpclikkakhcomaaGreatDoorPv6
set_option linter.unusedVariables false
namespace Go.Pv
open Go

theorem getRow_some {H : Hp} {r g : Nat} {xs : List CV} {k : Nat} {s : Bool} (h : getRow H r g = some (xs, k, s)) : H[r]? = some (.row xs k g s) := by
  unfold getRow at h
  split at h
  · rename_i xs' k' g' s' hr
    split at h
    · rename_i hg
      subst hg
      simp at h
      obtain ⟨rfl, rfl, rfl⟩ := h
      exact hr
    · cases h
  · cases h

theorem flat_drop {k : Nat} : ∀ {xs : List CV} (n : Nat), (∀ e ∈ xs, e.cl.length = k) → elemCells (xs.drop n) = (elemCells xs).drop (n * k)
  | [], n, _ => by simp [elemCells]
  | x :: xs, 0, _ => by simp
  | x :: xs, n + 1, h => by
    have hx := h x (by simp)
    rw [List.drop_succ_cons, flat_drop n (fun e he => h e (by simp [he]))]
    show _ = List.drop _ (x.cl ++ elemCells xs)
    rw [show (n + 1) * k = x.cl.length + n * k by rw [Nat.add_mul]; omega, List.drop_append, List.drop_of_length_le (l := x.cl) (by omega), List.nil_append, Nat.add_sub_cancel_left]
theorem flat_take {k : Nat} : ∀ {xs : List CV} (n : Nat), (∀ e ∈ xs, e.cl.length = k) → elemCells (xs.take n) = (elemCells xs).take (n * k)
  | [], n, _ => by simp [elemCells]
  | x :: xs, 0, _ => by simp [elemCells]
  | x :: xs, n + 1, h => by
    have hx := h x (by simp)
    rw [List.take_succ_cons]
    show x.cl ++ elemCells (xs.take n) = List.take _ (x.cl ++ elemCells xs)
    rw [flat_take n (fun e he => h e (by simp [he])), show (n + 1) * k = x.cl.length + n * k by rw [Nat.add_mul]; omega, List.take_append, List.take_of_length_le (l := x.cl) (by omega), Nat.add_sub_cancel_left]
theorem flat_len {k : Nat} : ∀ {xs : List CV}, (∀ e ∈ xs, e.cl.length = k) → (elemCells xs).length = xs.length * k
  | [], _ => by simp [elemCells]
  | x :: xs, h => by
    show (x.cl ++ elemCells xs).length = _
    rw [List.length_append, flat_len (fun e he => h e (by simp [he])), h x (by simp), List.length_cons, Nat.add_mul]; omega
theorem flat_get {k : Nat} {xs : List CV} {i : Nat} (h : ∀ e ∈ xs, e.cl.length = k) (hi : i < xs.length) : ((elemCells xs).drop (i * k)).take k = (xs.getD i .nilptr).cl := by
  rw [← flat_drop i h]
  have : xs.drop i = xs.getD i .nilptr :: xs.drop (i + 1) := by
    rw [List.drop_eq_getElem_cons hi]; simp [List.getD_eq_getElem?_getD, hi]
  rw [this]
  show List.take k ((xs.getD i .nilptr).cl ++ _) = _
  have hk : (xs.getD i .nilptr).cl.length = k := h _ (by simp [List.getD_eq_getElem?_getD, hi])
  generalize (xs.getD i .nilptr).cl = l at hk ⊢
  subst hk
  rw [List.take_append, Nat.sub_self, List.take_zero, List.append_nil, List.take_of_length_le (Nat.le_refl _)]

theorem ReadsAt.cell {S : St} {a : Addr} {vs : List Value} (h : ReadsAt S a vs) {j : Nat} {v : Value} (hv : vs[j]? = some v) : S.w.cell? (a.add j) = some v := by
  obtain ⟨h1, _, h3, _⟩ := h j v hv
  rw [add_spot h1]; exact h3
theorem ReadsAt.one {S : St} {a : Addr} {vs : List Value} (h : ReadsAt S a vs) : ∀ u ∈ vs, u.oneCell' = true := by
  intro u hu
  obtain ⟨j, hj⟩ := List.mem_iff_getElem?.1 hu
  exact (h j u hj).2.2.2
theorem ReadsAt.drop {S : St} {a : Addr} {vs : List Value} (h : ReadsAt S a vs) (n : Nat) : ReadsAt S (a.add n) (vs.drop n) := by
  intro j v hv
  rw [List.getElem?_drop] at hv
  obtain ⟨h1, h2, h3, h4⟩ := h _ _ hv
  rw [add_spot h1]
  exact ⟨rfl, by simpa [Nat.add_assoc] using h2, by simpa [Nat.add_assoc] using h3, h4⟩
theorem ReadsAt.take {S : St} {a : Addr} {vs : List Value} (h : ReadsAt S a vs) (n : Nat) : ReadsAt S a (vs.take n) := by
  intro j v hv
  rw [List.getElem?_take] at hv
  split at hv
  · exact h j v hv
  · cases hv

/-- A slice value of elements xs, each of k cells. -/
def ElemsAt (S : St) (k : Nat) (xs : List CV) (v : Value) : Prop :=
  ∃ base cap vs, v = .slice base xs.length cap ∧ (∀ e ∈ xs, e.cl.length = k) ∧ All2 (Vc S) (elemCells xs) vs ∧ (∀ u ∈ vs, u.oneCell' = true) ∧
    (∀ a, base = some a → ∀ j u, vs[j]? = some u → S.w.cell? (a.add j) = some u) ∧ (base = none → xs = [])

theorem elemsOf_ok {S : St} (ok : Ok S) {p : PV} {v : Value} {k : Nat} {xs : List CV} (h : Vr S p v) (he : elemsOf p S.H = some (k, xs)) : ElemsAt S k xs v := by
  have full : ∀ {r g off len : Nat} {xs : List CV} {k : Nat} {s : Bool}, S.H[r]? = some (.row xs k g s) → off + len ≤ xs.length → RowV S r off len k v → ElemsAt S k ((xs.drop off).take len) v := by
    intro r g off len xs k s hr hle hv
    obtain ⟨h0, hk, hb⟩ := ok.ob r _ hr
    have hl : ((xs.drop off).take len).length = len := by simp; omega
    have hk' : ∀ e ∈ (xs.drop off).take len, e.cl.length = k := fun e he => hk e (List.mem_of_mem_drop (List.mem_of_mem_take he))
    have hfl : elemCells ((xs.drop off).take len) = ((elemCells xs).drop (off * k)).take (len * k) := by
      rw [flat_take len (fun e he => hk e (List.mem_of_mem_drop he)), flat_drop off hk]
    rcases hv with ⟨b, a, h1, h2, h3⟩ | ⟨h1, h2, h3, h4⟩
    · rcases hb with ⟨a1, _, _⟩ | ⟨b', cs, T, fr, vs, a1, a2, a3, a4, a5, a6, a7, a8⟩
      · rw [a1] at h1; cases h1
      · rw [a1] at h1; cases h1
        refine ⟨some a, S.cp r - off, ((vs.drop (off * k)).take (len * k)), by rw [hl]; exact h2, hk', by rw [hfl]; exact (a6.drop _).take _, ?_, ?_, by simp⟩
        · intro u hu; exact a8 u (List.mem_of_mem_drop (List.mem_of_mem_take hu))
        · intro a' ha' j u hu
          cases ha'
          rw [List.getElem?_take] at hu
          split at hu
          · rename_i hj
            rw [List.getElem?_drop] at hu
            have hlen : 0 < len := by
              rcases Nat.eq_zero_or_pos len with h | h
              · subst h; simp at hj
              · exact h
            have ha := h3 (by omega)
            subst ha
            rw [add_at]
            have := a7 _ _ hu
            simp only [World.cell?, a2]
            simpa using this
          · cases hu
    · rcases hb with ⟨a1, a2, a3⟩ | ⟨b', cs, T, fr, vs, a1, _⟩
      · subst h2; subst h3; subst a2
        exact ⟨none, 0, [], by simpa using h4, by simp, by simp [elemCells]; exact .nil, by simp, by simp, by simp⟩
      · rw [a1] at h1; cases h1
  unfold elemsOf at he
  split at he
  · simp at he; obtain ⟨rfl, rfl⟩ := he
    cases h with
    | c h => cases h with
      | nilsl => exact ⟨none, 0, [], rfl, by simp, .nil, by simp, by simp, by simp⟩
  · rename_i own full k' xs'
    simp at he; obtain ⟨rfl, rfl⟩ := he
    cases h with
    | c h => cases h with
      | sl full k xs a c vs h1 h2 h3 h4 h5 =>
        exact ⟨some a, c, vs, rfl, h1, h2, h3.one, fun a' ha' j u hu => by cases ha'; exact h3.cell hu, by simp⟩
      | slnil k => exact ⟨none, 0, [], rfl, by simp, .nil, by simp, by simp, by simp⟩
  · rename_i r g
    split at he
    · rename_i xs' k' s hr
      simp at he; obtain ⟨rfl, rfl⟩ := he
      have hr' := getRow_some hr
      cases h with
      | rw r g v h1 hg h =>
        have := full (off := 0) (len := xs'.length) hr' (by omega) (h _ _ _ hr')
        simpa using this
    · cases he
  · rename_i r g off len
    split at he
    · rename_i xs' k' s hr
      simp at he; obtain ⟨rfl, rfl⟩ := he
      have hr' := getRow_some hr
      cases h with
      | row r g off len v h1 hg h =>
        obtain ⟨h2, h3⟩ := h _ _ _ hr'
        exact full hr' h2 h3
    · cases he
  · cases he

/-! ### Loads -/
theorem heap_cell {w : World} {b off : Nat} {cs : Array Value} {T : TypeId} {fr : Nat × Nat} (h : w.heap[b]? = some (.cells cs T fr)) : w.cell? ⟨b, off, none⟩ = cs[off]? := by
  simp [World.cell?, h]

theorem load_pure {P : Program} {t : TypeId} {a : PV} {S : St} {K : KV} {res : CV × List CV} {v : Value} (ok : Ok S) (ha : Vr S a v) (h : load' P t a S.H K = some res) :
    ∃ u p, (Instr.loadAt t v).run P S.w = .ok u S.w ∧ Vr S p u ∧ K p S.H = some res := by
  unfold load' at h
  split at h
  · rename_i r off
    split at h
    · rename_i e k hr
      obtain ⟨b, cs, T, fr, ve, h1, h2, h3, h4, h5, h6, h7⟩ := ok.ob r _ hr
      obtain ⟨ps, hp, hpl⟩ := PV.cells_of_n h4
      obtain ⟨c1, c2⟩ := h5.cells hp
      subst h6
      obtain ⟨p, u, hk, hv, hpart⟩ := readPV_ok hp hpl c1 c2 (fun x hx => by subst hx; cases h5 with | c hx => exact hx.cells.1) h
      cases ha with
      | bptr r t v h1' hlt hb =>
        obtain ⟨b', hb1, rfl⟩ := hb e k hr
        rw [h1] at hb1; cases hb1
        refine ⟨_, _, ?_, hv, hk⟩
        simp only [Instr.loadAt, Instr.sureAddr, Sem.run_bind, Sem.run_pure, Result.andThen_ok]
        refine run_loadVar hpart.at fun j x hx => ?_
        rw [add_at, heap_cell h2]
        simpa using hx
    · cases h
  · rename_i r g i off
    split at h
    · rename_i xs k s hr
      obtain ⟨hi, h⟩ := bif_true h
      have hi : i < xs.length := by simpa using hi
      have hr' := getRow_some hr
      obtain ⟨h0, hk, hb⟩ := ok.ob r _ hr'
      cases ha with
      | rptr r g i t v h1' hg hb' =>
        obtain ⟨b, hb1, rfl⟩ := hb' _ _ _ hr'
        rcases hb with ⟨a1, _, _⟩ | ⟨b', cs, T, fr, vs, a1, a2, a3, a4, a5, a6, a7, a8⟩
        · rw [a1] at hb1; cases hb1
        · rw [a1] at hb1; cases hb1
          have hel : All2 (Vc S) (xs.getD i .nilptr).cl ((vs.drop (i * k)).take k) := by
            rw [← flat_get hk hi]; exact (a6.drop _).take _
          have hl : (xs.getD i .nilptr).cl.length = k := hk _ (by simp [List.getD_eq_getElem?_getD, hi])
          obtain ⟨ps, hp, hpl⟩ := PV.cells_of_n (p := .c (xs.getD i .nilptr)) (k := k) (congrArg some hl)
          have hps : ps = (xs.getD i .nilptr).cl.map .c := by
            generalize xs.getD i .nilptr = x at hp
            cases x <;> simp only [PV.cells] at hp <;> exact (Option.some.inj hp).symm
          have h1 : ∀ u ∈ ((vs.drop (i * k)).take k), u.oneCell' = true := fun u hu => a8 u (List.mem_of_mem_drop (List.mem_of_mem_take hu))
          obtain ⟨p, u, hk', hv, hpart⟩ := readPV_ok hp hpl (by rw [hps]; exact Vr.ofcl hel) h1 (fun x hx => by cases hx; exact hel) h
          refine ⟨_, _, ?_, hv, hk'⟩
          simp only [Instr.loadAt, Instr.sureAddr, Sem.run_bind, Sem.run_pure, Result.andThen_ok]
          refine run_loadVar hpart.at fun j x hx => ?_
          rw [add_at, heap_cell a2]
          rw [List.getElem?_drop, List.getElem?_take] at hx
          split at hx
          · rw [List.getElem?_drop] at hx
            have := a7 _ _ hx
            simpa [Nat.add_assoc] using this
          · cases hx
    · cases h
  · rename_i cs
    cases ha with
    | ro cs a vs h1 h2 =>
      obtain ⟨p, u, hk, hv, hpart⟩ := readCV_ok h1 h2.one h
      refine ⟨_, _, ?_, hv, hk⟩
      simp only [Instr.loadAt, Instr.sureAddr, Sem.run_bind, Sem.run_pure, Result.andThen_ok]
      exact run_loadVar hpart fun j x hx => h2.cell hx
  · cases h
theorem load_ok {P : Program} {t : TypeId} {a : PV} {S : St} {K : KV} {res : CV × List CV} {v : Value} (ok : Ok S) (ha : Vr S a v) (h : load' P t a S.H K = some res) :
    Does P (Instr.loadAt t v) S K res := by
  obtain ⟨u, p, h1, h2, h3⟩ := load_pure ok ha h
  exact .same ok h1 h2 h3

/-! ### Addresses -/
theorem tyField_some {P : Program} {t : TypeId} {f off : Nat} {ft : TypeId} (h : tyField P t f = some (off, ft)) : ∃ fs x, P.underlying t = some (.struct fs) ∧ fs[f]? = some x ∧ x.offset = off ∧ x.type = ft := by
  unfold tyField at h
  split at h
  · rename_i fs hu
    split at h
    · rename_i x hx
      simp at h
      exact ⟨fs, x, hu, hx, h.1, h.2⟩
    · cases h
  · cases h

theorem fieldAddr_ok {P : Program} {t : TypeId} {f : Nat} {a : PV} {S : St} {K : KV} {res : CV × List CV} {v : Value} (ok : Ok S) (ha : Vr S a v) (h : fieldAddr' P t a f S.H K = some res) :
    Does P (Instr.fieldAt t v f) S K res := by
  unfold fieldAddr' at h
  split at h
  · rename_i off ft hf
    obtain ⟨fs, x, hu, hx, hoff, hft⟩ := tyField_some hf
    cases hs : tySize P ft with
    | none => simp [hs] at h
    | some hn =>
      rcases Nat.eq_zero_or_pos hn with hz | hpos
      · subst hz; simp [hs] at h
      obtain ⟨hn', rfl⟩ : ∃ m, hn = m + 1 := ⟨hn - 1, by omega⟩
      simp only [hs] at h
      have hplace : ∀ (a : Addr), (fieldPlace a x).run P S.w = .ok (a.add off) S.w := by
        intro a
        subst hft; subst hoff
        simp only [fieldPlace, Sem.run_bind, run_size hs, Result.andThen_ok]
        rw [if_neg (by omega)]; rfl
      split at h
      · rename_i r o
        split at h <;> first | (cases h; done) | skip
        rename_i e k hr
        cases ha with
        | bptr r t v h1 hlt hb =>
          obtain ⟨b, hb1, rfl⟩ := hb e k hr
          refine .same ok (v := .pointer (some ⟨b, o + off, none⟩)) (p := .bptr r (o + off)) ?_ ?_ h
          · simp only [Instr.fieldAt, Sem.run_bind, run_underlying hu, Result.andThen_ok, hx]
            simp [Instr.sureAddr, hplace, add_at]
          · exact .bptr _ _ _ rfl hlt fun _ _ _ => ⟨b, hb1, rfl⟩
      · rename_i r g i o
        split at h <;> first | (cases h; done) | skip
        rename_i q hr0
        obtain ⟨xs, k, s⟩ := q
        have hr := getRow_some hr0
        cases ha with
        | rptr r g i t v h1 hg hb =>
          obtain ⟨b, hb1, rfl⟩ := hb _ _ _ hr
          refine .same ok (v := .pointer (some ⟨b, i * k + o + off, none⟩)) (p := .rptr r g i (o + off)) ?_ ?_ h
          · simp only [Instr.fieldAt, Sem.run_bind, run_underlying hu, Result.andThen_ok, hx]
            simp [Instr.sureAddr, hplace, add_at]
          · refine .rptr _ _ _ _ _ rfl hg fun xs' k' s' hr' => ⟨b, hb1, ?_⟩
            rw [hr] at hr'; cases hr'; rw [Nat.add_assoc]
      · rename_i cs
        cases ha with
        | ro cs a vs h1 h2 =>
          refine .same ok (v := .pointer (some (a.add off))) (p := .ro (cs.drop off)) ?_ (.ro _ _ (vs.drop off) (h1.drop _) (h2.drop _)) h
          simp only [Instr.fieldAt, Sem.run_bind, run_underlying hu, Result.andThen_ok, hx]
          simp [Instr.sureAddr, hplace]
      · cases h
  · cases h

end Go.Pv
