/- Regions in the text's order; the code; loops. -/
import Derived.Test.YtpclikkakhcomaaGreatDoorPv19
set_option linter.unusedVariables false
namespace Go.Pv
open Go

/-- The slots, abstract and real. -/
def EnvR (S : St) (env : Env) (a : Act) : Prop := All2 (Vr S) env a.tmps.toList

theorem EnvR.mono {S S' : St} (E : Ext S S') {env : Env} {a : Act} (h : EnvR S env a) : EnvR S' env a := h.imp fun _ _ _ h => h.mono E

theorem evl_ok {S : St} {env : Env} {a : Act} (h : EnvR S env a) : ∀ x, Vr S (evl env x) (a.eval x) := by
  intro x
  cases x with
  | tmp t =>
    show Vr S (env.getD t .undef) (a.tmps.getD t undef)
    cases he : env[t]? with
    | none => simp only [List.getD_eq_getElem?_getD, he, Option.getD_none]; exact .undef _
    | some p =>
      obtain ⟨v, hv, hr⟩ := h.get he
      have hv' : a.tmps[t]? = some v := by simpa using hv
      rw [List.getD_eq_getElem?_getD, he, Array.getD_eq_getD_getElem?, hv']
      exact hr
  | const v =>
    show Vr S (match ofVal v with | some x => PV.c x | none => .undef) v
    split
    · rename_i x hx; exact .c (ofVal_Vc hx)
    · exact .undef _
  | global g => exact .undef _
  | func f => exact .fn f [] #[] .nil

theorem put_ok {S : St} {env : Env} {a : Act} {d : Option Tmp} {p : PV} {v : Value} (h : EnvR S env a) (hv : Vr S p v) : EnvR S (putE env d p) (a.put d v) := by
  cases d with
  | none => exact h
  | some t =>
    show All2 (Vr S) (env.set t p) (a.tmps.setIfInBounds t v).toList
    rw [Array.toList_setIfInBounds]
    exact All2.set h hv t

theorem set_ok {S : St} {env : Env} {a : Act} {t : Nat} {p : PV} {v : Value} (h : EnvR S env a) (hv : a.tmps[t]? = some v) (hp : Vr S p v) : EnvR S (env.set t p) a := by
  have := All2.set h hp t
  have e : a.tmps.toList.set t v = a.tmps.toList := set_self (by simpa using hv)
  rw [e] at this; exact this

/-- From S to S'; the first n objects were there ahead. -/
structure Goes (n : Nat) (S S' : St) : Prop where
  keeps : Keeps S S'
  len : n ≤ S'.H.length
  st : StExt S S'
  box : ∀ r e' k', r < n → S'.H[r]? = some (.box e' k') → (∃ e k, S.H[r]? = some (.box e k)) ∧ S'.ι r = S.ι r
  iter : ∀ r s' p', r < n → S'.H[r]? = some (.iter s' p') → ∃ s p, S.H[r]? = some (.iter s p) ∧ S'.ι r = S.ι r
  row : ∀ r xs' k' g' s', r < n → S'.H[r]? = some (.row xs' k' g' s') → ∃ xs k g s, S.H[r]? = some (.row xs k g s) ∧ g ≤ g' ∧
    (g = g' → k' = k ∧ xs'.length = xs.length ∧ S'.ι r = S.ι r ∧ S'.cp r = S.cp r)
theorem Goes.ext {S S' : St} (h : Goes S.H.length S S') : Ext S S' := ⟨h.st, h.len, fun r e' k' hr hb => by
  obtain ⟨⟨e, k, h1⟩, h2⟩ := h.box r e' k' hr hb
  exact ⟨e, k, h1, h2⟩, h.iter, h.row⟩
theorem Goes.refl {n : Nat} {S : St} (h : n ≤ S.H.length) : Goes n S S := ⟨Keeps.refl S, h, fun _ _ _ h h' => ⟨h, h'⟩, fun r e' k' _ h => ⟨⟨e', k', h⟩, rfl⟩, fun r s' p' _ h => ⟨s', p', h, rfl⟩, fun r xs k g s _ h => ⟨xs, k, g, s, h, Nat.le_refl _, fun _ => ⟨rfl, rfl, rfl, rfl⟩⟩⟩
theorem Goes.trans {n : Nat} {S S1 S2 : St} (h : Goes n S S1) (h' : Goes n S1 S2) : Goes n S S2 := by
  refine ⟨h.keeps.trans h'.keeps, h'.len, fun b off v hs hc => ?_, fun r e' k' hr hb => ?_, fun r s' p' hr hb => ?_, fun r xs' k' g' s' hr hb => ?_⟩
  · obtain ⟨a1, a2⟩ := h.st b off v hs hc
    exact h'.st b off v a1 a2
  · obtain ⟨⟨e, k, h1⟩, h2⟩ := h'.box r e' k' hr hb
    obtain ⟨h3, h4⟩ := h.box r e k hr h1
    exact ⟨h3, h2.trans h4⟩
  · obtain ⟨s, p, h1, h2⟩ := h'.iter r s' p' hr hb
    obtain ⟨s0, p0, h3, h4⟩ := h.iter r s p hr h1
    exact ⟨s0, p0, h3, h2.trans h4⟩
  · obtain ⟨xs1, k1, g1, s1, h1, h2, h3⟩ := h'.row r xs' k' g' s' hr hb
    obtain ⟨xs0, k0, g0, s0, h4, h5, h6⟩ := h.row r xs1 k1 g1 s1 hr h1
    refine ⟨xs0, k0, g0, s0, h4, Nat.le_trans h5 h2, fun e => ?_⟩
    have e1 : g0 = g1 := by omega
    have e2 : g1 = g' := by omega
    obtain ⟨z1, z2, z3, z4⟩ := h3 e2
    obtain ⟨y1, y2, y3, y4⟩ := h6 e1
    exact ⟨z1.trans y1, z2.trans y2, z3.trans y3, z4.trans y4⟩
theorem Goes.of_good {n : Nat} {S S' : St} (hn : n ≤ S.H.length) (G : Good S S') : Goes n S S' := by
  refine ⟨G.keeps, Nat.le_trans hn G.ext.len, G.ext.st, fun r e' k' hr hb => ?_, fun r s' p' hr hb => G.ext.iter r s' p' (by omega) hb, fun r xs' k' g' s' hr hb => G.ext.row r xs' k' g' s' (by omega) hb⟩
  obtain ⟨e, k, h1, h2⟩ := G.ext.box r e' k' (by omega) hb
  exact ⟨⟨e, k, h1⟩, h2⟩
theorem Goes.good {n : Nat} {S S1 S2 : St} (h : Goes n S S1) (G : Good S1 S2) : Goes n S S2 := h.trans (.of_good h.len G)

/-- What code comes to: the state, the slots, and what is to come. -/
def Post (n : Nat) (S : St) (I : World → Prop) (K : Env → Hp → Res) (res : CV × List CV) (a : Act) (w : World) : Prop :=
  ∃ S' env, S'.w = w ∧ Ok S' ∧ Goes n S S' ∧ I S'.w ∧ EnvR S' env a ∧ a.defers = [] ∧ K env S'.H = some res

theorem put_defers {a : Act} {d : Option Tmp} {v : Value} : (a.put d v).defers = a.defers := by cases d <;> rfl

theorem bool_at {S : St} {env : Env} {a : Act} {t : Nat} {b : Bool} (h : EnvR S env a) (ht : env[t]? = some (.c (.bool b))) : a.tmps[t]? = some (.bool b) := by
  obtain ⟨v, hv, hr⟩ := h.get ht
  rw [bool_of hr] at hv
  simpa using hv

/-- A guard, decided. -/
theorem guarded_ok {S : St} {ops : Array Oper} {o : Oper} {env : Env} {a : Act} {yes no : Env → Res} {res : CV × List CV} (hE : EnvR S env a) (h : guarded ops o env yes no = some res) :
    (Region.wanted o (yielded ops a.tmps) = true ∧ ∃ env', EnvR S env' a ∧ yes env' = some res) ∨ (Region.wanted o (yielded ops a.tmps) = false ∧ ∃ env', EnvR S env' a ∧ no env' = some res) := by
  unfold guarded at h
  unfold Region.wanted
  split at h
  · rename_i hg; rw [hg]; exact .inl ⟨rfl, env, hE, h⟩
  · rename_i j want hg
    rw [hg]
    simp only
    split at h
    · rename_i hd
      refine .inr ⟨?_, env, hE, h⟩
      simp [yielded, hd]
    · rename_i t hd
      split at h
      · rename_i b ht
        have hb := bool_at hE ht
        have hy : yielded ops a.tmps j = some b := by simp [yielded, hd, hb]
        have hset : EnvR S (env.set t (.c (.bool b))) a := set_ok hE hb (Vb ..)
        rw [hy]
        have hh := bif_some h
        clear h
        rcases hh with ⟨rfl, h⟩ | ⟨rfl, h⟩
        · cases want
          · exact .inr ⟨rfl, _, hset, by simpa using h⟩
          · exact .inl ⟨rfl, _, hset, by simpa using h⟩
        · cases want
          · exact .inl ⟨rfl, _, hset, by simpa using h⟩
          · exact .inr ⟨rfl, _, hset, by simpa using h⟩
      · rename_i ht
        refine .inr ⟨?_, env, hE, h⟩
        obtain ⟨v, hv, hr⟩ := hE.get ht
        have hv' : a.tmps[t]? = some v := by simpa using hv
        cases hr with
        | tup ps vs _ => simp [yielded, hd, hv']
      · cases h

section
variable {P : Program} {I : World → Prop} {tb : Handler}

theorem aops_ok {ops : Array Oper} {Q : Exit → Act → World → Prop} {res : CV × List CV} {K : KS} {nl : Nat} {S0 : St} (hQ : ∀ a w, Post nl S0 I K res a w → Q .normal a w) : ∀ (l : List Nat) {S : St} {env : Env} {a : Act}, Ok S → Goes nl S0 S → OnGlobals I S.ng → I S.w → (HOk P I S.ng tb) → EnvR S env a → a.defers = [] →
    aops P tb ops l env S.H K = some res → wpOps P ops Q l a S.w
  | [], S, env, a, ok, K0, hg, hI, tbl, hE, hd, h => hQ _ _ ⟨S, env, rfl, ok, K0, hI, hE, hd, h⟩
  | i :: rest, S, env, a, ok, K0, hg, hI, tbl, hE, hd, h => by
    rw [wpOps_cons]
    unfold wpOp
    unfold aops at h
    cases ho : ops[i]? with
    | none =>
      simp only [ho] at h
      exact aops_ok hQ rest ok K0 hg hI tbl hE hd h
    | some o =>
      simp only [ho] at h
      rcases guarded_ok hE h with ⟨hw, env', hE', h⟩ | ⟨hw, env', hE', h⟩
      · dsimp only
        rw [if_pos hw]
        refine .inl (Oper.wp_mono ?_ (aop_ok (Q := Q) ok hg hI tbl (evl_ok hE') h))
        rintro a' w' ⟨S', p, v, rfl, rfl, G, hI', hv, hk⟩
        exact aops_ok hQ rest G.ok (K0.good G) (by rw [G.keeps.ng]; exact hg) hI' (by rw [G.keeps.ng]; exact tbl) (put_ok (hE'.mono G.ext) hv) (by rw [put_defers]; exact hd) hk
      · dsimp only
        rw [if_neg (by rw [hw]; simp)]
        exact aops_ok hQ rest ok K0 hg hI tbl (put_ok hE' (.tup _ _ .nil)) (by rw [put_defers]; exact hd) h

end

/-! ### Loops' heads -/
theorem RowV.same' {S S' : St} {r r' off len k : Nat} {v : Value} (h : RowV S r off len k v) (h1 : S'.ι r' = S.ι r) (h2 : S'.cp r' = S.cp r) : RowV S' r' off len k v := by
  unfold RowV at *
  rw [h1, h2]; exact h
theorem takeRows_ok : ∀ {rows : List (Nat × Nat)} {env : Env} {H H' : Hp} {os : List AO}, takeRows rows env H = some (os, H') →
    ∃ tk : List (Option Nat), tk.length = os.length ∧ rows.length = os.length ∧
      (∀ (j s k : Nat), rows[j]? = some (s, k) → 0 < k ∧ (tk[j]? = some none ∧ env[s]? = some (.c .nilsl) ∧ os[j]? = some (.row [] k 0 false)) ∨
        ∃ q g xs sl L, tk[j]? = some (some q) ∧ (env[s]? = some (.rw q g) ∧ L = xs.length ∨ env[s]? = some (.row q g 0 L) ∧ sl = false) ∧ H[q]? = some (.row xs k g sl) ∧ os[j]? = some (.row (xs.take L) k 0 sl)) ∧
      H'.length = H.length ∧ (∀ i, some i ∉ tk → H'[i]? = H[i]?) ∧ (∀ i, some i ∈ tk → H'[i]? = some .dead) ∧
      (∀ (i j q : Nat), tk[i]? = some (some q) → tk[j]? = some (some q) → i = j)
  | [], env, H, H', os, h => by
    simp [takeRows] at h
    obtain ⟨rfl, rfl⟩ := h
    exact ⟨[], rfl, rfl, by simp, rfl, fun _ _ => rfl, by simp, by simp⟩
  | (s, k) :: l, env, H, H', os, h => by
    simp only [takeRows] at h
    split at h <;> first | (cases h; done) | skip
    · rename_i he
      split at h <;> first | (cases h; done) | skip
      rename_i hk
      split at h <;> first | (cases h; done) | skip
      rename_i os' H1 ht
      cases h
      obtain ⟨tk, a1, a0, a2, a3, a4, a5, a6⟩ := takeRows_ok ht
      refine ⟨none :: tk, by simp [a1], by simp [a0], fun j s' k' hj => ?_, a3, fun i hi => a4 i (by simpa using hi), fun i hi => a5 i (by simpa using hi), fun i j q h1 h2 => ?_⟩
      · cases j with
        | zero =>
          simp at hj
          obtain ⟨rfl, rfl⟩ := hj
          exact .inl ⟨hk, by simp, he, by simp⟩
        | succ j => simpa using a2 j s' k' (by simpa using hj)
      · cases i with
        | zero => simp at h1
        | succ i =>
          cases j with
          | zero => simp at h2
          | succ j => simp at h1 h2; rw [a6 _ _ _ h1 h2]
    · rename_i r g he
      split at h <;> first | (cases h; done) | skip
      rename_i xs k' sl hr0
      split at h <;> first | (cases h; done) | skip
      rename_i hk; subst hk
      split at h <;> first | (cases h; done) | skip
      rename_i os' H1 ht
      cases h
      have hr := getRow_some hr0
      obtain ⟨tk, a1, a0, a2, a3, a4, a5, a6⟩ := takeRows_ok ht
      have hrt : some r ∉ tk := by
        intro hm
        obtain ⟨j, hj⟩ := List.mem_iff_getElem?.1 hm
        have hjl : j < l.length := by rw [a0, ← a1]; exact (List.getElem?_eq_some_iff.1 hj).1
        obtain ⟨⟨s', k''⟩, hl⟩ : ∃ x, l[j]? = some x := ⟨_, List.getElem?_eq_getElem hjl⟩
        rcases a2 j s' k'' hl with ⟨_, h1, _⟩ | ⟨q, g', xs', sl', L', h1, _, h3, _⟩
        · rw [hj] at h1; cases h1
        · rw [hj] at h1; cases h1
          rw [set_get_self (List.getElem?_eq_some_iff.1 hr).1] at h3; cases h3
      refine ⟨some r :: tk, by simp [a1], by simp [a0], fun j s' k'' hj => ?_, by rw [a3]; simp, fun i hi => ?_, fun i hi => ?_, fun i j q h1 h2 => ?_⟩
      · cases j with
        | zero =>
          simp at hj
          obtain ⟨rfl, rfl⟩ := hj
          exact .inr ⟨r, g, xs, sl, xs.length, by simp, .inl ⟨he, rfl⟩, hr, by simp⟩
        | succ j =>
          rcases a2 j s' k'' (by simpa using hj) with h | ⟨q, g', xs', sl', L', h1, h2, h3, h4⟩
          · exact .inl (by simpa using h)
          · have hne : q ≠ r := fun e => hrt (e ▸ List.mem_of_getElem? h1)
            rw [set_get_ne hne] at h3
            exact .inr ⟨q, g', xs', sl', L', by simpa using h1, h2, h3, by simpa using h4⟩
      · simp only [List.mem_cons, not_or] at hi
        rw [a4 i hi.2, set_get_ne (fun e => hi.1 (by rw [e]))]
      · rcases List.mem_cons.1 hi with hi | hi
        · cases hi
          rw [a4 _ hrt, set_get_self (List.getElem?_eq_some_iff.1 hr).1]
        · exact a5 i hi
      · cases i with
        | zero =>
          cases j with
          | zero => rfl
          | succ j =>
            simp at h1 h2; subst h1
            exact absurd (List.mem_of_getElem? h2) hrt
        | succ i =>
          cases j with
          | zero =>
            simp at h1 h2; subst h2
            exact absurd (List.mem_of_getElem? h1) hrt
          | succ j => simp at h1 h2; rw [a6 _ _ _ h1 h2]
    · rename_i r g len he
      split at h <;> first | (cases h; done) | skip
      rename_i xs k' hr0
      split at h <;> first | (cases h; done) | skip
      rename_i hk; subst hk
      split at h <;> first | (cases h; done) | skip
      rename_i os' H1 ht
      cases h
      have hr := getRow_some hr0
      obtain ⟨tk, a1, a0, a2, a3, a4, a5, a6⟩ := takeRows_ok ht
      have hrt : some r ∉ tk := by
        intro hm
        obtain ⟨j, hj⟩ := List.mem_iff_getElem?.1 hm
        have hjl : j < l.length := by rw [a0, ← a1]; exact (List.getElem?_eq_some_iff.1 hj).1
        obtain ⟨⟨s', k''⟩, hl⟩ : ∃ x, l[j]? = some x := ⟨_, List.getElem?_eq_getElem hjl⟩
        rcases a2 j s' k'' hl with ⟨_, h1, _⟩ | ⟨q, g', xs', sl', L', h1, _, h3, _⟩
        · rw [hj] at h1; cases h1
        · rw [hj] at h1; cases h1
          rw [set_get_self (List.getElem?_eq_some_iff.1 hr).1] at h3; cases h3
      refine ⟨some r :: tk, by simp [a1], by simp [a0], fun j s' k'' hj => ?_, by rw [a3]; simp, fun i hi => ?_, fun i hi => ?_, fun i j q h1 h2 => ?_⟩
      · cases j with
        | zero =>
          simp at hj
          obtain ⟨rfl, rfl⟩ := hj
          exact .inr ⟨r, g, xs, false, len, by simp, .inr ⟨he, rfl⟩, hr, by simp⟩
        | succ j =>
          rcases a2 j s' k'' (by simpa using hj) with h | ⟨q, g', xs', sl', L', h1, h2, h3, h4⟩
          · exact .inl (by simpa using h)
          · have hne : q ≠ r := fun e => hrt (e ▸ List.mem_of_getElem? h1)
            rw [set_get_ne hne] at h3
            exact .inr ⟨q, g', xs', sl', L', by simpa using h1, h2, h3, by simpa using h4⟩
      · simp only [List.mem_cons, not_or] at hi
        rw [a4 i hi.2, set_get_ne (fun e => hi.1 (by rw [e]))]
      · rcases List.mem_cons.1 hi with hi | hi
        · cases hi
          rw [a4 _ hrt, set_get_self (List.getElem?_eq_some_iff.1 hr).1]
        · exact a5 i hi
      · cases i with
        | zero =>
          cases j with
          | zero => rfl
          | succ j =>
            simp at h1 h2; subst h1
            exact absurd (List.mem_of_getElem? h2) hrt
        | succ i =>
          cases j with
          | zero =>
            simp at h1 h2; subst h2
            exact absurd (List.mem_of_getElem? h1) hrt
          | succ j => simp at h1 h2; rw [a6 _ _ _ h1 h2]

theorem keepLive_get : ∀ {live : List Nat} {i : Nat} {env : Env} {j : Nat} {p : PV}, (keepLive live i env)[j]? = some p → env[j]? = some p ∨ (p = .undef ∧ j < env.length)
  | live, i, [], j, p, h => by simp [keepLive] at h
  | live, i, q :: env, 0, p, h => by
    simp only [keepLive, List.getElem?_cons_zero, Option.some.injEq] at h
    split at h
    · exact .inl (by simp [h])
    · exact .inr ⟨h.symm, by simp⟩
  | live, i, q :: env, j + 1, p, h => by
    simp only [keepLive, List.getElem?_cons_succ] at h
    rcases keepLive_get h with h | ⟨h1, h2⟩
    · exact .inl (by simpa using h)
    · exact .inr ⟨h1, by simp; omega⟩
theorem keepLive_ok {S : St} {live : List Nat} : ∀ {i : Nat} {env : Env} {vs : List Value}, All2 (Vr S) env vs → All2 (Vr S) (keepLive live i env) vs
  | i, [], vs, h => by cases h; exact .nil
  | i, q :: env, vs, h => by
    cases h with
    | cons h1 h2 =>
      simp only [keepLive]
      split
      · exact .cons h1 (keepLive_ok h2)
      · exact .cons (.undef _) (keepLive_ok h2)

theorem slotsBelow_get {n : Nat} {rows : List (Nat × Nat)} : ∀ {i : Nat} {env : Env} {j : Nat} {p : PV}, slotsBelow n rows i env = true → env[j]? = some p → (∃ k, (i + j, k) ∈ rows) ∨ flatBelow n p = true
  | i, [], j, p, h, hp => by simp at hp
  | i, q :: env, 0, p, h, hp => by
    simp only [slotsBelow, Bool.and_eq_true, Bool.or_eq_true, List.any_eq_true] at h
    simp at hp; subst hp
    rcases h.1 with ⟨⟨s, k⟩, h1, h2⟩ | h1
    · simp at h2; subst h2; exact .inl ⟨k, by simpa using h1⟩
    · exact .inr h1
  | i, q :: env, j + 1, p, h, hp => by
    simp only [slotsBelow, Bool.and_eq_true] at h
    rcases slotsBelow_get h.2 (by simpa using hp) with ⟨k, h1⟩ | h1
    · exact .inl ⟨k, by rw [show i + (j + 1) = i + 1 + j by omega]; exact h1⟩
    · exact .inr h1
theorem objsBelow_get {n : Nat} : ∀ {H : Hp} {j : Nat} {o : AO}, objsBelow n H = true → H[j]? = some o → objBelow n o = true
  | [], j, o, h, ho => by simp at ho
  | q :: H, 0, o, h, ho => by
    simp only [objsBelow, Bool.and_eq_true] at h
    simp at ho; subst ho; exact h.1
  | q :: H, j + 1, o, h, ho => by
    simp only [objsBelow, Bool.and_eq_true] at h
    exact objsBelow_get h.2 (by simpa using ho)

/-- S' has S's objects below n, some of them given up. -/
structure Low (S S' : St) (n : Nat) : Prop where
  st : StExt S S'
  len : n ≤ S'.H.length
  at_ : ∀ r, r < n → (S'.H[r]? = S.H[r]? ∧ S'.ι r = S.ι r ∧ S'.cp r = S.cp r) ∨ S'.H[r]? = some .dead

theorem low_one {S S' : St} {n : Nat} (L : Low S S' n) {p : PV} {v : Value} (hv : Vr S p v) (h : below' n p = true) : Vr S' p v := by
  have gen : ∀ {r g : Nat}, r < n → GenOk S r g → GenOk S' r g := by
    intro r g hr hg
    refine ⟨Nat.lt_of_lt_of_le hr L.len, fun xs k g' s he => ?_⟩
    rcases L.at_ r hr with ⟨h1, _, _⟩ | h1
    · rw [h1] at he; exact hg.2 _ _ _ _ he
    · rw [h1] at he; cases he
  cases hv with
  | undef => exact .undef _
  | c hx => exact .c (hx.move L.st)
  | agg => simp [below'] at h
  | rw r g v o1 hg hrow =>
    have hr : r < n := by simpa [below'] using h
    refine .rw _ _ _ o1 (gen hr hg) fun xs k s he => ?_
    rcases L.at_ r hr with ⟨h1, h2, h3⟩ | h1
    · rw [h1] at he; exact (hrow _ _ _ he).same h2 h3
    · rw [h1] at he; cases he
  | row r g off len v o1 hg hrow =>
    have hr : r < n := by simpa [below'] using h
    refine .row _ _ _ _ _ o1 (gen hr hg) fun xs k s he => ?_
    rcases L.at_ r hr with ⟨h1, h2, h3⟩ | h1
    · rw [h1] at he; exact ⟨(hrow _ _ _ he).1, (hrow _ _ _ he).2.same h2 h3⟩
    · rw [h1] at he; cases he
  | bptr r t v o1 hlt hb =>
    have hr : r < n := by simpa [below'] using h
    refine .bptr _ _ _ o1 (Nat.lt_of_lt_of_le hr L.len) fun e k he => ?_
    rcases L.at_ r hr with ⟨h1, h2, h3⟩ | h1
    · rw [h1] at he
      obtain ⟨b, q1, q2⟩ := hb _ _ he
      exact ⟨b, h2.trans q1, q2⟩
    · rw [h1] at he; cases he
  | rptr r g i t v o1 hg hrow =>
    have hr : r < n := by simpa [below'] using h
    refine .rptr _ _ _ _ _ o1 (gen hr hg) fun xs k s he => ?_
    rcases L.at_ r hr with ⟨h1, h2, h3⟩ | h1
    · rw [h1] at he
      obtain ⟨b, q1, q2⟩ := hrow _ _ _ he
      exact ⟨b, h2.trans q1, q2⟩
    · rw [h1] at he; cases he
  | ro cs a vs h1 h2 => exact .ro _ _ _ (h1.imp fun _ _ _ h => h.move L.st) (h2.move L.st)
  | fn => simp [below'] at h
  | iter r v o1 hlt hb =>
    have hr : r < n := by simpa [below'] using h
    refine .iter _ _ o1 (Nat.lt_of_lt_of_le hr L.len) fun s p he => ?_
    rcases L.at_ r hr with ⟨h1, h2, h3⟩ | h1
    · rw [h1] at he
      obtain ⟨b, q1, q2⟩ := hb _ _ he
      exact ⟨b, h2.trans q1, q2⟩
    · rw [h1] at he; cases he
  | tup => simp [below'] at h
theorem low_list {S S' : St} {n : Nat} (L : Low S S' n) : ∀ {ps : List PV} {vs : List Value}, All2 (Vr S) ps vs → cellsBelow n ps = true → All2 (Vr S') ps vs
  | [], vs, h, _ => by cases h; exact .nil
  | p :: ps, vs, h, hb => by
    simp only [cellsBelow, Bool.and_eq_true] at hb
    cases h with
    | cons h1 h2 => exact .cons (low_one L h1 hb.1) (low_list L h2 hb.2)
theorem low_ok {S S' : St} {n : Nat} (L : Low S S' n) {p : PV} {v : Value} (hv : Vr S p v) (h : flatBelow n p = true) : Vr S' p v := by
  cases p with
  | agg cs =>
    cases hv with
    | agg cs vs h1 h2 => exact .agg _ _ (low_list L h1 h) h2
  | fn f caps =>
    cases hv with
    | fn f caps vs h1 => exact .fn _ _ _ (low_list L h1 h)
  | _ => exact low_one L hv h

theorem padTo_len (n : Nat) (H : Hp) : (padTo n H).length = n := by
  simp [padTo]; omega
theorem padTo_get {n : Nat} {H : Hp} {i : Nat} (hi : i < n) : (padTo n H)[i]? = if i < H.length then H[i]? else some .dead := by
  unfold padTo
  by_cases h : i < H.length
  · rw [if_pos h, List.getElem?_append_left (by simp; omega), List.getElem?_take, if_pos hi]
  · rw [if_neg h, List.getElem?_append_right (by simp; omega), List.getElem?_replicate, if_pos (by simp; omega)]

theorem setRows_ok {S' : St} : ∀ {rows : List (Nat × Nat)} {n : Nat} {env : Env} {vs : List Value}, env.length = vs.length →
    (∀ (j s k : Nat) (v : Value), rows[j]? = some (s, k) → vs[s]? = some v → Vr S' (.rw (n + j) 0) v) →
    (∀ (i : Nat) (p : PV) (v : Value), env[i]? = some p → vs[i]? = some v → (∃ k, (i, k) ∈ rows) ∨ Vr S' p v) → All2 (Vr S') (setRows rows n env) vs
  | [], n, env, vs, hl, h1, h2 => by
    simp only [setRows]
    have : ∀ {env : Env} {vs : List Value}, env.length = vs.length → (∀ (i : Nat) (p : PV) (v : Value), env[i]? = some p → vs[i]? = some v → Vr S' p v) → All2 (Vr S') env vs := by
      intro env
      induction env with
      | nil => intro vs hl _; cases vs with | nil => exact .nil | cons _ _ => simp at hl
      | cons p env ih =>
        intro vs hl h
        cases vs with
        | nil => simp at hl
        | cons v vs => exact .cons (h 0 p v (by simp) (by simp)) (ih (by simpa using hl) fun i q u hq hu => h (i + 1) q u (by simpa using hq) (by simpa using hu))
    exact this hl fun i p v hp hv => (h2 i p v hp hv).resolve_left (by simp)
  | (s, k) :: l, n, env, vs, hl, h1, h2 => by
    simp only [setRows]
    refine setRows_ok (by simpa using hl) (fun j s' k' v hj hv => ?_) fun i p v hp hv => ?_
    · rw [show n + 1 + j = n + (j + 1) by omega]
      exact h1 (j + 1) s' k' v (by simpa using hj) hv
    · by_cases e : i = s
      · subst e
        have hlt := (List.getElem?_eq_some_iff.1 hp).1
        rw [set_get_self (by simpa using hlt)] at hp
        cases hp
        exact .inr (by simpa using h1 0 i k v (by simp) hv)
      · rw [set_get_ne e] at hp
        rcases h2 i p v hp hv with ⟨k', hm⟩ | h
        · rcases List.mem_cons.1 hm with hm | hm
          · cases hm; exact absurd rfl e
          · exact .inl ⟨k', hm⟩
        · exact .inr h

/-- The state behind a head. -/
def headSt (S : St) (base : Nat) (tk : List (Option Nat)) (H : Hp) : St :=
  { w := S.w,
    ι := fun r => if r < base then (if some r ∈ tk then none else S.ι r) else match tk[r - base]? with
      | some (some q) => S.ι q
      | _ => none,
    cp := fun r => if r < base then S.cp r else match tk[r - base]? with
      | some (some q) => S.cp q
      | _ => 0,
    H := H, F := S.F, n0 := S.n0, ng := S.ng }

theorem enterHead_ok {h : Head} {S : St} (ok : Ok S) {env env' : Env} {H' : Hp} {a : Act} (hE : EnvR S env a) (hh : enterHead h env S.H = some (env', H')) :
    ∃ S', S'.H = H' ∧ S'.w = S.w ∧ Ok S' ∧ Goes h.base S S' ∧ EnvR S' env' a := by
  unfold enterHead at hh
  split at hh <;> first | (cases hh; done) | skip
  rename_i os Hd ht
  split at hh <;> first | (cases hh; done) | skip
  rename_i hc
  simp only [Bool.and_eq_true] at hc
  obtain ⟨hc1, hc2⟩ := hc
  cases hh
  obtain ⟨tk, a1, a0, a2, a3, a4, a5, a6⟩ := takeRows_ok ht
  let base := h.base
  have hpl := padTo_len base Hd
  let S' : St := headSt S base tk (padTo base Hd ++ os)
  have hlen : S'.H.length = base + os.length := by show (padTo base Hd ++ os).length = _; rw [List.length_append, hpl]
  have ilo : ∀ r, r < base → S'.ι r = if some r ∈ tk then none else S.ι r := fun r hr => by show (if r < base then _ else _) = _; rw [if_pos hr]
  have ihi : ∀ (r b : Nat), ¬ r < base → S'.ι r = some b → ∃ q, tk[r - base]? = some (some q) ∧ S.ι q = some b := by
    intro r b hr hb
    have hb' : (if r < base then (if some r ∈ tk then none else S.ι r) else match tk[r - base]? with | some (some q) => S.ι q | _ => none) = some b := hb
    rw [if_neg hr] at hb'
    split at hb' <;> first | (cases hb'; done) | skip
    rename_i q hq
    exact ⟨q, hq, hb'⟩
  -- where each new index comes from
  have ifrom : ∀ (r b : Nat), S'.ι r = some b → ∃ q, S.ι q = some b ∧ ((r < base ∧ r = q ∧ some r ∉ tk) ∨ (¬ r < base ∧ tk[r - base]? = some (some q))) := by
    intro r b hb
    by_cases hr : r < base
    · rw [ilo r hr] at hb
      split at hb <;> first | (cases hb; done) | skip
      rename_i hm
      exact ⟨r, hb, .inl ⟨hr, rfl, hm⟩⟩
    · obtain ⟨q, h1, h2⟩ := ihi r b hr hb
      exact ⟨q, h2, .inr ⟨hr, h1⟩⟩
  have hget : ∀ r, r < base → S'.H[r]? = if r < S.H.length then Hd[r]? else some .dead := fun r hr => by
    show (padTo base Hd ++ os)[r]? = _
    rw [List.getElem?_append_left (by rw [hpl]; exact hr), padTo_get hr, a3]
  have hgethi : ∀ r, ¬ r < base → S'.H[r]? = os[r - base]? := fun r hr => by
    show (padTo base Hd ++ os)[r]? = _
    rw [List.getElem?_append_right (by rw [hpl]; omega), hpl]
  have hrow : ∀ (j q : Nat), tk[j]? = some (some q) → ∃ s k g xs sl L, h.rows[j]? = some (s, k) ∧ (sl = true → L = xs.length) ∧ S.H[q]? = some (.row xs k g sl) ∧ os[j]? = some (.row (xs.take L) k 0 sl) := by
    intro j q hj
    have hjl : j < h.rows.length := by rw [a0, ← a1]; exact (List.getElem?_eq_some_iff.1 hj).1
    obtain ⟨⟨s, k⟩, hl⟩ : ∃ x, h.rows[j]? = some x := ⟨_, List.getElem?_eq_getElem hjl⟩
    rcases a2 j s k hl with ⟨_, h1, _⟩ | ⟨q', g, xs, sl, L, h1, h2, h3, h4⟩
    · rw [hj] at h1; cases h1
    · rw [hj] at h1; cases h1
      have hLs : sl = true → L = xs.length := by
        intro e
        rcases h2 with h2 | h2
        · exact h2.2
        · rw [h2.2] at e; cases e
      exact ⟨s, k, g, xs, sl, L, hl, hLs, h3, h4⟩
  have st : StExt S S' := by
    intro b off v hs hcell
    refine ⟨⟨hs.1, fun r hr => ?_⟩, hcell⟩
    obtain ⟨q, hq, hcase⟩ := ifrom r b hr
    obtain ⟨xs, k, g, h1, h2⟩ := hs.2 q hq
    rcases hcase with ⟨hr1, rfl, hr3⟩ | ⟨hr1, hr2⟩
    · exact ⟨xs, k, g, by rw [hget r hr1, if_pos (List.getElem?_eq_some_iff.1 h1).1, a4 r hr3]; exact h1, h2⟩
    · obtain ⟨s, k', g', xs', sl, L, _, hL, h3, h4⟩ := hrow _ _ hr2
      rw [h1] at h3; cases h3
      have hL := hL rfl
      subst hL
      rw [List.take_length] at h4
      exact ⟨xs, k, 0, by rw [hgethi r hr1]; exact h4, h2⟩
  have L : Low S S' base := by
    refine ⟨st, by rw [hlen]; omega, fun r hr => ?_⟩
    by_cases hlt : r < S.H.length
    · by_cases hm : some r ∈ tk
      · exact .inr (by rw [hget r hr, if_pos hlt]; exact a5 r hm)
      · exact .inl ⟨by rw [hget r hr, if_pos hlt]; exact a4 r hm, by rw [ilo r hr, if_neg hm], by show (if r < base then _ else _) = _; rw [if_pos hr]⟩
    · exact .inr (by rw [hget r hr, if_neg hlt])
  have hcell : ∀ {r : Nat}, tk[r]? = none → True := fun _ => trivial
  have okS : Ok S' := by
    refine ⟨?_, ?_, ?_, ?_, ?_, ok.forb, ok.n0, ?_, ok.ng⟩
    · intro r o ho
      by_cases hr : r < base
      · rcases L.at_ r hr with ⟨h1, h2, h3⟩ | h1
        · rw [h1] at ho
          have hob := ok.ob r o ho
          have hbl : objBelow base o = true := by
            refine objsBelow_get hc2 (j := r) ?_
            have : S'.H[r]? = some o := by rw [h1]; exact ho
            have h5 : (padTo base Hd ++ os)[r]? = some o := this
            rw [List.getElem?_append_left (by rw [hpl]; exact hr)] at h5
            exact h5
          cases o with
          | box e k =>
            obtain ⟨b, cs, T, fr, ve, q1, q2, q3, q4, q5, q6, q7⟩ := hob
            exact ⟨b, cs, T, fr, ve, h2.trans q1, q2, q3, q4, low_ok L q5 hbl, q6, q7⟩
          | row xs k g s =>
            obtain ⟨q0, q1, q⟩ := hob
            refine ⟨q0, q1, ?_⟩
            rcases q with ⟨q2, q3, q4⟩ | ⟨b, cs, T, fr, vs, q2, q3, q4, q5, q6, q7, q8⟩
            · exact .inl ⟨h2.trans q2, q3, h3.trans q4⟩
            · exact .inr ⟨b, cs, T, fr, vs, h2.trans q2, q3, q4, by rw [h3]; exact q5, by rw [h3]; exact q6, q7.imp fun _ _ _ h => h.move st, q8⟩
          | iter s p =>
            obtain ⟨b, q1, q2⟩ := hob
            exact ⟨b, h2.trans q1, q2⟩
          | dead => exact h2.trans hob
        · rw [h1] at ho
          cases ho
          show S'.ι r = none
          rw [ilo r hr]
          by_cases hm : some r ∈ tk
          · rw [if_pos hm]
          · rw [if_neg hm]
            rw [hget r hr] at h1
            by_cases hlt : r < S.H.length
            · rw [if_pos hlt, a4 r hm] at h1
              exact ok.ob r _ h1
            · exact ok.out r (by omega)
      · rw [hgethi r hr] at ho
        have hlt : r - base < h.rows.length := by rw [a0]; exact (List.getElem?_eq_some_iff.1 ho).1
        obtain ⟨⟨s, k⟩, hl⟩ : ∃ x, h.rows[r - base]? = some x := ⟨_, List.getElem?_eq_getElem hlt⟩
        rcases a2 _ s k hl with ⟨hk, h1, h2, h3⟩ | ⟨q, g, xs, sl, L, h1, h2, h3, h4⟩
        · rw [h3] at ho; cases ho
          refine ⟨hk, by simp, .inl ⟨?_, rfl, ?_⟩⟩
          · show (if r < base then _ else _) = _
            rw [if_neg hr, h1]
          · show (if r < base then _ else _) = _
            rw [if_neg hr, h1]
        · rw [h4] at ho; cases ho
          have e1 : S'.ι r = S.ι q := by
            show (if r < base then _ else _) = _
            rw [if_neg hr, h1]
          have e2 : S'.cp r = S.cp q := by
            show (if r < base then _ else _) = _
            rw [if_neg hr, h1]
          obtain ⟨q0, q1, qq⟩ := ok.ob q _ h3
          refine ⟨q0, fun e he => q1 e (List.mem_of_mem_take he), ?_⟩
          rcases qq with ⟨q2, q3, q4⟩ | ⟨b, cs, T, fr, vs, q2, q3, q4, q5, q6, q7, q8, q9⟩
          · exact .inl ⟨e1.trans q2, by rw [q3]; simp, e2.trans q4⟩
          · refine .inr ⟨b, cs, T, fr, vs.take (L * k), e1.trans q2, q3, ⟨q4.1, .inl rfl⟩, by rw [e2]; exact q5, by rw [e2, List.length_take]; omega, ?_, fun j v hj => ?_, fun v hv => q9 v (List.mem_of_mem_take hv)⟩
            · rw [flat_take L q1]
              exact (q7.take _).imp fun _ _ _ h => h.move st
            · rw [List.getElem?_take] at hj
              split at hj <;> first | (cases hj; done) | skip
              exact q8 j v hj
    · intro r hr
      rw [hlen] at hr
      cases hb : S'.ι r with
      | none => rfl
      | some b =>
        obtain ⟨q, h1, _⟩ := ihi r b (by omega) hb
        have := (List.getElem?_eq_some_iff.1 h1).1
        omega
    · intro r r' b h1 h2
      obtain ⟨q, hq, c1⟩ := ifrom r b h1
      obtain ⟨q', hq', c2⟩ := ifrom r' b h2
      obtain rfl := ok.inj q q' b hq hq'
      rcases c1 with ⟨x1, rfl, x3⟩ | ⟨x1, x2⟩ <;> rcases c2 with ⟨y1, y2, y3⟩ | ⟨y1, y2⟩
      · exact y2.symm
      · exact absurd (List.mem_of_getElem? y2) x3
      · subst y2; exact absurd (List.mem_of_getElem? x2) y3
      · have := a6 _ _ _ x2 y2; omega
    · intro r b hb
      obtain ⟨q, hq, _⟩ := ifrom r b hb
      exact ok.old q b hq
    · intro r b off hb
      obtain ⟨q, hq, _⟩ := ifrom r b hb
      exact ok.free q b off hq
    · intro r b hb
      obtain ⟨q, hq, _⟩ := ifrom r b hb
      exact ok.glob q b hq
  have hE1 : All2 (Vr S) (keepLive h.live 0 env) a.tmps.toList := keepLive_ok hE
  refine ⟨S', rfl, rfl, okS, ⟨⟨rfl, rfl, rfl, Nat.le_refl _, fun _ _ _ => rfl, fun r b hb => ?_, rfl, rfl, rfl⟩, L.len, st, fun r e' k' hr hb => ?_, fun r s' p' hr hb => ?_, fun r xs' k' g' s' hr hb => ?_⟩, ?_⟩
  · obtain ⟨q, hq, _⟩ := ifrom r b hb
    exact .inl ⟨q, hq⟩
  · rcases L.at_ r hr with ⟨h1, h2, _⟩ | h1
    · exact ⟨⟨e', k', by rw [← h1]; exact hb⟩, h2⟩
    · rw [h1] at hb; cases hb
  · rcases L.at_ r hr with ⟨h1, h2, _⟩ | h1
    · exact ⟨s', p', by rw [← h1]; exact hb, h2⟩
    · rw [h1] at hb; cases hb
  · rcases L.at_ r hr with ⟨h1, h2, h3⟩ | h1
    · exact ⟨xs', k', g', s', by rw [← h1]; exact hb, Nat.le_refl _, fun _ => ⟨rfl, rfl, h2, h3⟩⟩
    · rw [h1] at hb; cases hb
  · refine setRows_ok hE1.length (fun j s k v hj hv => ?_) fun i p v hp hv => ?_
    · have hSj : S'.H[base + j]? = os[j]? := by rw [hgethi _ (by omega)]; congr 1; omega
      have hjl : j < os.length := by rw [← a0]; exact (List.getElem?_eq_some_iff.1 hj).1
      have hgen : GenOk S' (base + j) 0 := ⟨by rw [hlen]; omega, fun _ _ _ _ _ => Nat.zero_le _⟩
      rcases a2 j s k hj with ⟨hk, h1, h2, h3⟩ | ⟨q, g, xs, sl, L, h1, h2, h3, h4⟩
      · obtain ⟨u, hu, hru⟩ := hE1.get h2
        rw [hv] at hu; cases hu
        cases c_of hru
        refine .rw _ _ _ rfl hgen fun xs' k' s' he => ?_
        rw [hSj, h3] at he; cases he
        refine .inr ⟨?_, rfl, rfl, rfl⟩
        show (if base + j < base then _ else _) = _
        rw [if_neg (by omega), Nat.add_sub_cancel_left, h1]
      · have hι : S'.ι (base + j) = S.ι q := by
          show (if base + j < base then _ else _) = _
          rw [if_neg (by omega), Nat.add_sub_cancel_left, h1]
        have hcp : S'.cp (base + j) = S.cp q := by
          show (if base + j < base then _ else _) = _
          rw [if_neg (by omega), Nat.add_sub_cancel_left, h1]
        rcases h2 with ⟨h2, hL⟩ | ⟨h2, _⟩
        · subst hL
          rw [List.take_length] at h4
          obtain ⟨u, hu, hru⟩ := hE1.get h2
          rw [hv] at hu; cases hu
          cases hru with
          | rw r g v o1 hg hrow' =>
            refine .rw _ _ _ o1 hgen fun xs' k' s' he => ?_
            rw [hSj, h4] at he; cases he
            exact (hrow' _ _ _ h3).same' hι hcp
        · obtain ⟨u, hu, hru⟩ := hE1.get h2
          rw [hv] at hu; cases hu
          cases hru with
          | row r g off len v o1 hg hrow' =>
            refine .rw _ _ _ o1 hgen fun xs' k' s' he => ?_
            rw [hSj, h4] at he; cases he
            obtain ⟨hle, hrv⟩ := hrow' _ _ _ h3
            rw [List.length_take, Nat.min_eq_left (by omega)]
            exact hrv.same' hι hcp
    · obtain ⟨u, hu, hru⟩ := hE1.get hp
      rw [hv] at hu; cases hu
      rcases slotsBelow_get hc1 hp with ⟨k, hm⟩ | hb
      · exact .inl ⟨k, by simpa using hm⟩
      · exact .inr (low_ok L hru hb)

end Go.Pv
