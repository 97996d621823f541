/- How a caller takes what is handed over. -/
import Derived.Test.YtpclikkakhcomaaGreatDoorPv16
set_option linter.unusedVariables false
namespace Go.Pv
open Go

/-- Sd is a state into which the objects 'used' of S came, from number n on. -/
structure Import (S Sd : St) (n : Nat) (used : List Nat) : Prop where
  w : Sd.w = S.w
  st : StExt S Sd
  map : ∀ (j r : Nat), used[j]? = some r → Sd.ι (n + j) = S.ι r ∧ Sd.cp (n + j) = S.cp r

def Agree (Hd H : Hp) : Prop := ∀ (i : Nat) (o : AO), H[i]? = some o → o ≠ .dead → Hd[i]? = some o

/-- What comes of a part of what is handed over, taken at H (to H'). -/
structure Took (Sd : St) (H H' : Hp) (us : List Nat) : Prop where
  len : H'.length = H.length + us.length
  pre : ∀ (i : Nat), i < H.length → H'[i]? = H[i]?
  live : ∀ (i : Nat), H.length ≤ i → i < H'.length → ∃ o, H'[i]? = some o ∧ o ≠ .dead ∧ ObOk Sd i o

theorem Agree.of_pre {Hd H H' : Hp} {us : List Nat} {Sd : St} (h : Agree Hd H') (t : Took Sd H H' us) : Agree Hd H := by
  intro i o hi ho
  have hlt := (List.getElem?_eq_some_iff.1 hi).1
  exact h i o (by rw [t.pre i hlt]; exact hi) ho

theorem Took.refl (Sd : St) (H : Hp) : Took Sd H H [] := ⟨rfl, fun _ _ => rfl, fun i h1 h2 => by omega⟩
theorem Took.trans {Sd : St} {H H1 H2 : Hp} {u1 u2 : List Nat} (h : Took Sd H H1 u1) (h' : Took Sd H1 H2 u2) : Took Sd H H2 (u1 ++ u2) where
  len := by rw [h'.len, h.len, List.length_append]; omega
  pre i hi := by rw [h'.pre i (by rw [h.len]; omega), h.pre i hi]
  live i h1 h2 := by
    by_cases h3 : i < H1.length
    · obtain ⟨o, o1, o2, o3⟩ := h.live i h1 h3
      exact ⟨o, by rw [h'.pre i h3]; exact o1, o2, o3⟩
    · exact h'.live i (by omega) h2

theorem openCell_data {S : St} {x : CV} {v : Value} (h : Vc S x v) (H : Hp) : openCell x H = (.c x, H) := by
  cases h <;> rfl

theorem openCell_ok {S Sd : St} {n : Nat} {used : List Nat} (ok : Ok S) (I : Import S Sd n used) {x : CV} {v : Value} {us pre post : List Nat} {H : Hp} (h : CellR S x v us) (hu : used = pre ++ us ++ post) (hl : H.length = n + pre.length)
    (hlen : n + used.length ≤ Sd.H.length) (ha : Agree Sd.H (openCell x H).2) : Vr Sd (openCell x H).1 v ∧ Took Sd H (openCell x H).2 us := by
  cases h with
  | data h =>
    rw [openCell_data h]
    exact ⟨.c (h.move I.st), .refl _ _⟩
  | own hr hv o1 =>
    rename_i r k g xs
    show Vr Sd (.rw H.length 0) v ∧ Took Sd H (H ++ [.row xs k 0 false]) [r]
    have hget : (H ++ [AO.row xs k 0 false])[H.length]? = some (.row xs k 0 false) := by simp
    have hSd := ha H.length _ hget (by simp)
    have hmap := I.map pre.length r (by rw [hu]; simp)
    rw [← hl] at hmap
    obtain ⟨h0, hk, hb⟩ := ok.ob r _ hr
    refine ⟨.rw _ _ _ o1 ⟨(List.getElem?_eq_some_iff.1 hSd).1, fun _ _ _ _ _ => Nat.zero_le _⟩ fun xs' k' s' he => ?_, by simp, fun i hi => by rw [List.getElem?_append_left hi], fun i h1 h2 => ?_⟩
    · rw [hSd] at he; cases he
      unfold RowV at *
      rw [hmap.1, hmap.2]; exact hv
    · simp at h2
      obtain rfl : i = H.length := by omega
      refine ⟨_, hget, by simp, h0, hk, ?_⟩
      rcases hb with ⟨a1, a2, a3⟩ | ⟨b, cs, T, fr, vs, a1, a2, a3, a4, a5, a6, a7, a8⟩
      · exact .inl ⟨hmap.1.trans a1, a2, hmap.2.trans a3⟩
      · exact .inr ⟨b, cs, T, fr, vs, hmap.1.trans a1, by rw [I.w]; exact a2, ⟨a3.1, .inl rfl⟩, by rw [hmap.2]; exact a4, by rw [hmap.2]; exact a5, a6.imp fun _ _ _ h => h.move I.st, a7, a8⟩

theorem openCells_ok {S Sd : St} {n : Nat} {used : List Nat} (ok : Ok S) (I : Import S Sd n used) (hlen : n + used.length ≤ Sd.H.length) : ∀ {xs : List CV} {vs : List Value} {us pre post : List Nat} {H : Hp}, CellsR S xs vs us → used = pre ++ us ++ post → H.length = n + pre.length →
    Agree Sd.H (openCells xs H).2 → All2 (Vr Sd) (openCells xs H).1 vs ∧ Took Sd H (openCells xs H).2 us
  | [], vs, us, pre, post, H, h, hu, hl, ha => by
    cases h; exact ⟨.nil, .refl _ _⟩
  | x :: xs, vs, us, pre, post, H, h, hu, hl, ha => by
    cases h with
    | cons h1 h2 =>
      rename_i v vs u1 u2
      have t0 : (openCells (x :: xs) H).2 = (openCells xs (openCell x H).2).2 := rfl
      have t1 : (openCells (x :: xs) H).1 = (openCell x H).1 :: (openCells xs (openCell x H).2).1 := rfl
      rw [t0] at ha ⊢
      rw [t1]
      -- the length of the first part does not hang on what comes later
      have hlen1 : (openCell x H).2.length = H.length + u1.length ∧ ∀ i, i < H.length → (openCell x H).2[i]? = H[i]? := by
        cases h1 with
        | data h => rw [openCell_data h]; exact ⟨rfl, fun _ _ => rfl⟩
        | own => exact ⟨by simp [openCell], fun i hi => by simp only [openCell]; rw [List.getElem?_append_left hi]⟩
      obtain ⟨r2, t2⟩ := openCells_ok ok I hlen (pre := pre ++ u1) (post := post) (H := (openCell x H).2) h2 (by rw [hu]; simp) (by rw [hlen1.1, hl, List.length_append]; omega) ha
      obtain ⟨r1, t1'⟩ := openCell_ok ok I (pre := pre) (post := u2 ++ post) h1 (by rw [hu]; simp) hl hlen (ha.of_pre t2)
      exact ⟨.cons r1 r2, t1'.trans t2⟩

theorem openVal_data {S : St} {x : CV} {v : Value} (h : Vc S x v) (H : Hp) : openVal x H = (.c x, H) := by
  cases h <;> rfl

theorem openVal_ok {S Sd : St} {n : Nat} {used : List Nat} (ok : Ok S) (I : Import S Sd n used) (hlen : n + used.length ≤ Sd.H.length) {x : CV} {v : Value} {us pre post : List Nat} {H : Hp} (h : ValR S x v us) (hu : used = pre ++ us ++ post) (hl : H.length = n + pre.length)
    (ha : Agree Sd.H (openVal x H).2) : Vr Sd (openVal x H).1 v ∧ Took Sd H (openVal x H).2 us := by
  cases h with
  | cell h =>
    have e : openVal x H = openCell x H := by
      cases h with
      | data h => rw [openVal_data h, openCell_data h]
      | own => rfl
    rw [e] at ha ⊢
    exact openCell_ok ok I h hu hl hlen ha
  | agg h h1 =>
    rename_i xs vs
    obtain ⟨r, t⟩ := openCells_ok ok I hlen h hu hl ha
    exact ⟨.agg _ _ r h1, t⟩

theorem openVal_n {S : St} {x : CV} {v : Value} {us : List Nat} {H : Hp} (h : ValR S x v us) : (openVal x H).1.ncells = some v.cells.size := by
  cases h with
  | cell h =>
    cases h with
    | data h =>
      rw [openVal_data h]
      have := h.cells.1.length
      simp only [PV.ncells]; rw [this]; rfl
    | own h1 h2 o1 =>
      show some 1 = _
      cases v <;> first | rfl | (simp [Value.oneCell'] at o1)
  | agg h h1 =>
    rename_i xs vs
    have : ∀ {xs : List CV} {vs : List Value} {us : List Nat} {H : Hp}, CellsR S xs vs us → (openCells xs H).1.length = vs.length := by
      intro xs vs us H h
      induction h generalizing H with
      | nil => rfl
      | cons h1 h2 ih => simp only [openCells, List.length_cons, ih]
    show some (openCells xs H).1.length = _
    rw [this h]; rfl

theorem openRes_ok {S Sd : St} {n : Nat} {used : List Nat} (ok : Ok S) (I : Import S Sd n used) (hlen : n + used.length ≤ Sd.H.length) {x : CV} {v : Value} {us pre post : List Nat} {H : Hp} (h : ResR S x v us) (hu : used = pre ++ us ++ post) (hl : H.length = n + pre.length)
    (ha : Agree Sd.H (openRes x H).2) : Vr Sd (openRes x H).1 v ∧ Took Sd H (openRes x H).2 us := by
  cases h with
  | val h =>
    have e : openRes x H = openVal x H := by
      cases h with
      | cell h =>
        cases h with
        | data h => cases h <;> rfl
        | own => rfl
      | agg h h1 => rfl
    rw [e] at ha ⊢
    exact openVal_ok ok I hlen h hu hl ha
  | box hr hι hheap hfr hsz hone hval =>
    rename_i x' ve u r k b e T fr
    let q := openVal x' (H ++ [AO.dead])
    have e1 : openRes (.boxv k x') H = (.bptr H.length 0, q.2.set H.length (.box q.1 k)) := rfl
    rw [e1] at ha ⊢
    -- what the inner part makes
    have hq : q.2.length = H.length + 1 + u.length ∧ ∀ i, i < H.length + 1 → q.2[i]? = (H ++ [AO.dead])[i]? := by
      have cl : ∀ {x : CV} {v : Value} {us : List Nat} {H : Hp}, CellR S x v us → (openCell x H).2.length = H.length + us.length ∧ ∀ i, i < H.length → (openCell x H).2[i]? = H[i]? := by
        intro x v us H h1
        cases h1 with
        | data h => rw [openCell_data h]; exact ⟨rfl, fun _ _ => rfl⟩
        | own => exact ⟨by simp [openCell], fun i hi => by simp only [openCell]; rw [List.getElem?_append_left hi]⟩
      have cls : ∀ {xs : List CV} {vs : List Value} {us : List Nat} {H : Hp}, CellsR S xs vs us → (openCells xs H).2.length = H.length + us.length ∧ ∀ i, i < H.length → (openCells xs H).2[i]? = H[i]? := by
        intro xs vs us H h
        induction h generalizing H with
        | nil => exact ⟨rfl, fun _ _ => rfl⟩
        | cons h1 h2 ih =>
          rename_i y ys _ _ _ _
          have c1 := cl (H := H) h1
          have c2 := ih (H := (openCell y H).2)
          refine ⟨?_, fun i hi => ?_⟩
          · show (openCells ys (openCell y H).2).2.length = _
            rw [c2.1, c1.1, List.length_append]; omega
          · show (openCells ys (openCell y H).2).2[i]? = _
            rw [c2.2 i (by rw [c1.1]; omega), c1.2 i hi]
      have : q.2.length = (H ++ [AO.dead]).length + u.length ∧ ∀ i, i < (H ++ [AO.dead]).length → q.2[i]? = (H ++ [AO.dead])[i]? := by
        cases hval with
        | cell h =>
          have e : openVal x' (H ++ [AO.dead]) = openCell x' (H ++ [AO.dead]) := by
            cases h with
            | data h => rw [openVal_data h, openCell_data h]
            | own => rfl
          show (openVal x' (H ++ [AO.dead])).2.length = _ ∧ ∀ i, _ → (openVal x' (H ++ [AO.dead])).2[i]? = _
          rw [e]; exact cl h
        | agg h h1 => exact cls h
      simpa using this
    have hsetlen : (q.2.set H.length (.box q.1 k)).length = q.2.length := by simp
    have haq : Agree Sd.H q.2 := by
      intro i o hi ho
      by_cases hiH : i = H.length
      · subst hiH
        rw [hq.2 _ (by omega)] at hi
        simp at hi; exact absurd hi.symm ho
      · exact ha i o (by rw [set_get_ne hiH]; exact hi) ho
    obtain ⟨rq, tq⟩ := openVal_ok ok I hlen (pre := pre ++ [r]) (post := post) (H := H ++ [AO.dead]) hval (by rw [hu]; simp) (by simp [hl]; omega) haq
    have hboxget : (q.2.set H.length (.box q.1 k))[H.length]? = some (.box q.1 k) := set_get_self (by rw [hq.1]; omega)
    have hSd := ha H.length _ hboxget (by simp)
    have hmap := I.map pre.length r (by rw [hu]; simp)
    rw [← hl] at hmap
    have hbox : ObOk Sd H.length (.box q.1 k) := by
      refine ⟨b, ve.cells, T, fr, ve, hmap.1.trans hι, by rw [I.w]; exact hheap, hfr, ?_, rq, rfl, hone⟩
      have := openVal_n (H := H ++ [AO.dead]) hval
      rw [hsz] at this; exact this
    refine ⟨.bptr _ _ _ rfl (List.getElem?_eq_some_iff.1 hSd).1 fun e' k' he => ⟨b, hmap.1.trans hι, rfl⟩, ?_, ?_, ?_⟩
    · rw [hsetlen, hq.1, List.length_cons]; omega
    · intro i hi
      rw [set_get_ne (by omega), hq.2 i (by omega), List.getElem?_append_left hi]
    · intro i h1 h2
      by_cases hiH : i = H.length
      · subst hiH
        exact ⟨_, hboxget, by simp, hbox⟩
      · obtain ⟨o, o1, o2, o3⟩ := tq.live i (by simp; omega) (by rw [hsetlen] at h2; exact h2)
        exact ⟨o, by rw [set_get_ne hiH]; exact o1, o2, o3⟩

theorem openRes_len {S : St} {x : CV} {v : Value} {us : List Nat} (h : ResR S x v us) (H : Hp) : (openRes x H).2.length = H.length + us.length ∧ ∀ i, i < H.length → (openRes x H).2[i]? = H[i]? := by
  have cl : ∀ {x : CV} {v : Value} {us : List Nat} {H : Hp}, CellR S x v us → (openCell x H).2.length = H.length + us.length ∧ ∀ i, i < H.length → (openCell x H).2[i]? = H[i]? := by
    intro x v us H h1
    cases h1 with
    | data h => rw [openCell_data h]; exact ⟨rfl, fun _ _ => rfl⟩
    | own => exact ⟨by simp [openCell], fun i hi => by simp only [openCell]; rw [List.getElem?_append_left hi]⟩
  have cls : ∀ {xs : List CV} {vs : List Value} {us : List Nat} {H : Hp}, CellsR S xs vs us → (openCells xs H).2.length = H.length + us.length ∧ ∀ i, i < H.length → (openCells xs H).2[i]? = H[i]? := by
    intro xs vs us H h
    induction h generalizing H with
    | nil => exact ⟨rfl, fun _ _ => rfl⟩
    | cons h1 h2 ih =>
      rename_i y ys _ _ _ _
      have c1 := cl (H := H) h1
      have c2 := ih (H := (openCell y H).2)
      refine ⟨?_, fun i hi => ?_⟩
      · show (openCells ys (openCell y H).2).2.length = _
        rw [c2.1, c1.1, List.length_append]; omega
      · show (openCells ys (openCell y H).2).2[i]? = _
        rw [c2.2 i (by rw [c1.1]; omega), c1.2 i hi]
  have vl : ∀ {x : CV} {v : Value} {us : List Nat} {H : Hp}, ValR S x v us → (openVal x H).2.length = H.length + us.length ∧ ∀ i, i < H.length → (openVal x H).2[i]? = H[i]? := by
    intro x v us H h
    cases h with
    | cell h =>
      have e : openVal x H = openCell x H := by
        cases h with
        | data h => rw [openVal_data h, openCell_data h]
        | own => rfl
      rw [e]; exact cl h
    | agg h h1 => exact cls h
  cases h with
  | val h =>
    have e : openRes x H = openVal x H := by
      cases h with
      | cell h =>
        cases h with
        | data h => cases h <;> rfl
        | own => rfl
      | agg h h1 => rfl
    rw [e]; exact vl h
  | box hr hι hheap hfr hsz hone hval =>
    rename_i x' ve u r k b e T fr
    obtain ⟨q1, q2⟩ := vl (H := H ++ [AO.dead]) hval
    show ((openVal x' (H ++ [AO.dead])).2.set H.length _).length = _ ∧ ∀ i, _ → ((openVal x' (H ++ [AO.dead])).2.set H.length _)[i]? = _
    refine ⟨by rw [List.length_set, q1]; simp; omega, fun i hi => ?_⟩
    rw [set_get_ne (by omega), q2 i (by simp; omega), List.getElem?_append_left hi]

theorem openTup_ok {S Sd : St} {n : Nat} {used : List Nat} (ok : Ok S) (I : Import S Sd n used) (hlen : n + used.length ≤ Sd.H.length) : ∀ {xs : List CV} {vs : List Value} {us pre post : List Nat} {H : Hp}, TupR S xs vs us → used = pre ++ us ++ post → H.length = n + pre.length →
    Agree Sd.H (openTup xs H).2 → All2 (Vr Sd) (openTup xs H).1 vs ∧ Took Sd H (openTup xs H).2 us
  | [], vs, us, pre, post, H, h, hu, hl, ha => by
    cases h; exact ⟨.nil, .refl _ _⟩
  | x :: xs, vs, us, pre, post, H, h, hu, hl, ha => by
    cases h with
    | cons h1 h2 =>
      rename_i v vs u1 u2
      have t0 : (openTup (x :: xs) H).2 = (openTup xs (openRes x H).2).2 := rfl
      have t1 : (openTup (x :: xs) H).1 = (openRes x H).1 :: (openTup xs (openRes x H).2).1 := rfl
      rw [t0] at ha ⊢
      rw [t1]
      have hlen1 := openRes_len h1 H
      obtain ⟨r2, t2⟩ := openTup_ok ok I hlen (pre := pre ++ u1) (post := post) (H := (openRes x H).2) h2 (by rw [hu]; simp) (by rw [hlen1.1, hl, List.length_append]; omega) ha
      obtain ⟨r1, t1'⟩ := openRes_ok ok I hlen (pre := pre) (post := u2 ++ post) h1 (by rw [hu]; simp) hl (ha.of_pre t2)
      exact ⟨.cons r1 r2, t1'.trans t2⟩

theorem openAll_ok {S Sd : St} {n : Nat} {used : List Nat} (ok : Ok S) (I : Import S Sd n used) (hlen : n + used.length ≤ Sd.H.length) {x : CV} {v : Value} {H : Hp} (h : AllR S x v used) (hl : H.length = n)
    (ha : Agree Sd.H (openAll x H).2) : Vr Sd (openAll x H).1 v ∧ Took Sd H (openAll x H).2 used := by
  cases h with
  | res h =>
    have e : openAll x H = openRes x H := by
      cases h with
      | val h =>
        cases h with
        | cell h =>
          cases h with
          | data h => cases h <;> rfl
          | own => rfl
        | agg h h1 => rfl
      | box => rfl
    rw [e] at ha ⊢
    exact openRes_ok ok I hlen (pre := []) (post := []) h (by simp) (by simpa using hl) ha
  | tup h =>
    rename_i xs vs
    obtain ⟨r, t⟩ := openTup_ok ok I hlen (pre := []) (post := []) h (by simp) (by simpa using hl) ha
    exact ⟨.tup _ _ r, t⟩

theorem openTup_len {S : St} : ∀ {xs : List CV} {vs : List Value} {us : List Nat} (H : Hp), TupR S xs vs us → (openTup xs H).2.length = H.length + us.length ∧ ∀ i, i < H.length → (openTup xs H).2[i]? = H[i]?
  | [], vs, us, H, h => by cases h; exact ⟨rfl, fun _ _ => rfl⟩
  | x :: xs, vs, us, H, h => by
    cases h with
    | cons h1 h2 =>
      have c1 := openRes_len h1 H
      have c2 := openTup_len (openRes x H).2 h2
      refine ⟨?_, fun i hi => ?_⟩
      · show (openTup xs (openRes x H).2).2.length = _
        rw [c2.1, c1.1, List.length_append]; omega
      · show (openTup xs (openRes x H).2).2[i]? = _
        rw [c2.2 i (by rw [c1.1]; omega), c1.2 i hi]
theorem openAll_len {S : St} {x : CV} {v : Value} {us : List Nat} (h : AllR S x v us) (H : Hp) : (openAll x H).2.length = H.length + us.length ∧ ∀ i, i < H.length → (openAll x H).2[i]? = H[i]? := by
  cases h with
  | res h =>
    have e : openAll x H = openRes x H := by
      cases h with
      | val h =>
        cases h with
        | cell h =>
          cases h with
          | data h => cases h <;> rfl
          | own => rfl
        | agg h h1 => rfl
      | box => rfl
    rw [e]; exact openRes_len h H
  | tup h => exact openTup_len H h

end Go.Pv
