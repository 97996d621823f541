/- Calls of functions whose contracts are known. -/
import Derived.Test.YtpclikkakhcomaaGreatDoorPv17
set_option linter.unusedVariables false
namespace Go.Pv
open Go

/-! ### Arguments -/
inductive ArgR (S : St) : CV → Value → List Nat → Prop where
  | data {x : CV} {v : Value} : Vc S x v → ArgR S x v []
  | box {x : CV} {ve : Value} {r k b : Nat} {e : PV} {T : TypeId} {fr : Nat × Nat} : S.H[r]? = some (.box e k) → S.ι r = some b → S.w.heap[b]? = some (.cells ve.cells T fr) → bOk T fr ve.cells.size k → ve.cells.size = ksz k → (∀ v ∈ ve.cells.toList, v.oneCell' = true) → Vc S x ve → ArgR S (.boxv k x) (.pointer (some ⟨b, 0, none⟩)) [r]
inductive ArgsR (S : St) : List CV → List Value → List Nat → Prop where
  | nil : ArgsR S [] [] []
  | cons {x xs v vs l ls} : ArgR S x v l → ArgsR S xs vs ls → ArgsR S (x :: xs) (v :: vs) (l ++ ls)

/-- The boxes stay what they are. -/
def BoxKeep (S S' : St) : Prop := ∀ (r : Nat) (e : PV) (k : Nat), S.H[r]? = some (.box e k) → S'.H[r]? = some (.box e k)
theorem seal_box {H : Hp} {q r : Nat} {e : PV} {k : Nat} (h : H[r]? = some (.box e k)) : (sealRow H q)[r]? = some (.box e k) := by
  unfold sealRow
  split
  · rename_i xs n g s hq
    by_cases e' : r = q
    · subst e'; rw [h] at hq; cases hq
    · rw [set_get_ne e']; exact h
  · exact h
theorem closeCell_box {p : PV} {H H' : Hp} {x : CV} (h : closeCell p H = some (x, H')) {r : Nat} {e : PV} {k : Nat} (hr : H[r]? = some (.box e k)) : H'[r]? = some (.box e k) := by
  unfold closeCell at h
  split at h <;> first | (cases h; done) | skip
  · split at h <;> first | (cases h; done) | skip
    cases h; exact hr
  · split at h <;> first | (cases h; done) | skip
    cases h; exact seal_box hr
  · split at h <;> first | (cases h; done) | skip
    cases h; exact seal_box hr
  · cases h; exact hr
theorem closeCells_box : ∀ {ps : List PV} {H H' : Hp} {xs : List CV}, closeCells ps H = some (xs, H') → ∀ {r : Nat} {e : PV} {k : Nat}, H[r]? = some (.box e k) → H'[r]? = some (.box e k)
  | [], H, H', xs, h, r, e, k, hr => by cases h; exact hr
  | p :: ps, H, H', xs, h, r, e, k, hr => by
    simp only [closeCells] at h
    split at h <;> first | (cases h; done) | skip
    rename_i x H1 hx
    split at h <;> first | (cases h; done) | skip
    rename_i xs' H2 hxs
    cases h
    exact closeCells_box hxs (closeCell_box hx hr)
theorem closeVal_box {p : PV} {H H' : Hp} {x : CV} (h : closeVal p H = some (x, H')) {r : Nat} {e : PV} {k : Nat} (hr : H[r]? = some (.box e k)) : H'[r]? = some (.box e k) := by
  unfold closeVal at h
  split at h
  · cases h; exact hr
  · split at h <;> first | (cases h; done) | skip
    rename_i vs H1 hc
    cases h; exact closeCells_box hc hr
  · exact closeCell_box h hr

theorem ArgR.mono {S S' : St} (M : Marked S S') (hb : BoxKeep S S') {x : CV} {v : Value} {l : List Nat} (h : ArgR S x v l) : ArgR S' x v l := by
  cases h with
  | data h => exact .data (h.mono M.good.ext)
  | box h1 h2 h3 h4 h5 h6 h7 => exact .box (hb _ _ _ h1) (by rw [M.ι]; exact h2) (by rw [M.w]; exact h3) h4 h5 h6 (h7.mono M.good.ext)

theorem capsC_ok {S : St} : ∀ {ps : List PV} {vs : List Value} {xs : List CV}, All2 (Vr S) ps vs → capsC ps = some xs → All2 (Vc S) xs vs
  | [], vs, xs, h, hc => by cases h; cases hc; exact .nil
  | p :: ps, vs, xs, h, hc => by
    cases h with
    | cons h1 h2 =>
      cases p with
      | c v =>
        simp only [capsC] at hc
        split at hc <;> first | (cases hc; done) | skip
        rename_i xs' hx
        cases hc
        exact .cons (c_of h1) (capsC_ok h2 hx)
      | _ => simp [capsC] at hc

theorem closeArg_ok {S : St} (ok : Ok S) {p : PV} {v : Value} {x : CV} {H' : Hp} {l : List Nat} (hv : Vr S p v) (h : closeArg p S.H = some (x, H', l)) :
    ∃ S', S'.H = H' ∧ Marked S S' ∧ BoxKeep S S' ∧ ArgR S' x v l := by
  unfold closeArg at h
  split at h
  · rename_i r
    split at h <;> first | (cases h; done) | skip
    rename_i e k hr
    split at h <;> first | (cases h; done) | skip
    rename_i y H1 hy
    cases h
    obtain ⟨b, cs, T, fr, ve, q1, q2, q3, q4, q5, q6, q7⟩ := ok.ob r _ hr
    subst q6
    obtain ⟨S', e1, M, c⟩ := closeVal_ok ok q5 hy
    have hbk : BoxKeep S S' := fun r e k hr => by rw [e1]; exact closeVal_box hy hr
    cases hv with
    | bptr r t v' o1 hlt hb =>
      obtain ⟨b', hb1, rfl⟩ := hb _ _ hr
      rw [q1] at hb1; cases hb1
      exact ⟨S', e1, M, hbk, .box (hbk _ _ _ hr) (by rw [M.ι]; exact q1) (by rw [M.w]; exact q2) q3 (q5.size q4) q7 c⟩
  · split at h <;> first | (cases h; done) | skip
    rename_i vs hc
    cases h
    cases hv with
    | fn f caps vs' h1 => exact ⟨S, rfl, .refl ok, fun _ _ _ h => h, .data (.fn _ _ _ (capsC_ok h1 hc))⟩
  · split at h <;> first | (cases h; done) | skip
    rename_i y H1 hy
    cases h
    obtain ⟨S', e1, M, c⟩ := closeVal_ok ok hv hy
    exact ⟨S', e1, M, fun r e k hr => by rw [e1]; exact closeVal_box hy hr, .data c⟩

theorem closeArgs_ok : ∀ {S : St} (ok : Ok S) {ps : List PV} {vs : List Value} {xs : List CV} {H' : Hp} {l : List Nat} (hv : All2 (Vr S) ps vs) (h : closeArgs ps S.H = some (xs, H', l)),
    ∃ S', S'.H = H' ∧ Marked S S' ∧ BoxKeep S S' ∧ ArgsR S' xs vs l
  | S, ok, [], vs, xs, H', l, hv, h => by
    cases hv; cases h
    exact ⟨S, rfl, .refl ok, fun _ _ _ h => h, .nil⟩
  | S, ok, p :: ps, vs, xs, H', l, hv, h => by
    cases hv with
    | cons h1 h2 =>
      simp only [closeArgs] at h
      split at h <;> first | (cases h; done) | skip
      rename_i x H1 l1 hx
      split at h <;> first | (cases h; done) | skip
      rename_i xs' H2 l2 hxs
      cases h
      obtain ⟨S1, e1, M1, b1, c1⟩ := closeArg_ok ok h1 hx
      subst e1
      obtain ⟨S2, e2, M2, b2, c2⟩ := closeArgs_ok M1.good.ok (h2.imp fun _ _ _ h => h.mono M1.good.ext) hxs
      exact ⟨S2, e2, M1.trans M2, fun r e k h => b2 _ _ _ (b1 _ _ _ h), .cons (c1.mono M2 b2) c2⟩

/-! ### The callee's state -/
def entry (S : St) (lent : List Nat) (H : Hp) : St :=
  { w := S.w, ι := fun i => match lent[i]? with
      | some r => S.ι r
      | none => none,
    cp := fun _ => 0, H := H,
    F := fun b off => S.F b off ∨ ∃ r, r ∉ lent ∧ S.ι r = some b ∧ ¬ ∃ xs k g, S.H[r]? = some (.row xs k g true) ∧ off < xs.length * k,
    n0 := S.w.heap.size, ng := S.ng }

theorem ArgsR.lent {S : St} : ∀ {xs : List CV} {vs : List Value} {l : List Nat}, ArgsR S xs vs l → ∀ r, r ∈ l → ∃ e k, S.H[r]? = some (.box e k)
  | _, _, _, .nil, r, hr => by simp at hr
  | _, _, _, .cons h1 h2, r, hr => by
    rcases List.mem_append.1 hr with hr | hr
    · cases h1 with
      | data => simp at hr
      | box q1 => simp at hr; subst hr; exact ⟨_, _, q1⟩
    · exact h2.lent r hr

theorem entry_st {S : St} {lent : List Nat} {H : Hp} (hl : ∀ r, r ∈ lent → ∃ e k, S.H[r]? = some (.box e k)) : StExt S (entry S lent H) := by
  intro b off v hs hc
  refine ⟨⟨?_, fun i hi => ?_⟩, hc⟩
  · rintro (hf | ⟨r, _, hr, hn⟩)
    · exact hs.1 hf
    · exact hn (hs.2 r hr)
  · simp only [entry] at hi
    split at hi <;> first | (cases hi; done) | skip
    rename_i r hr
    obtain ⟨xs, k, g, h1, _⟩ := hs.2 r hi
    obtain ⟨e, k', h2⟩ := hl r (List.mem_of_getElem? hr)
    rw [h2] at h1; cases h1

theorem openArgs_ok {S Se : St} (E : StExt S Se) (hw : Se.w = S.w) : ∀ {xs : List CV} {vs : List Value} {l : List Nat} {H : Hp} (h : ArgsR S xs vs l), (∀ (j r : Nat), l[j]? = some r → Se.ι (H.length + j) = S.ι r) → (openArgs xs H).2.length ≤ Se.H.length →
    All2 (Vr Se) (openArgs xs H).1 vs ∧ (openArgs xs H).2.length = H.length + l.length ∧ (∀ (i : Nat), i < H.length → (openArgs xs H).2[i]? = H[i]?) ∧ (∀ (i : Nat) (o : AO), H.length ≤ i → (openArgs xs H).2[i]? = some o → ObOk Se i o ∧ ∃ e k, o = .box e k)
  | [], vs, l, H, h, hm, hl => by
    cases h
    refine ⟨.nil, rfl, fun _ _ => rfl, fun i o h1 h2 => ?_⟩
    have := (List.getElem?_eq_some_iff.1 h2).1
    simp [openArgs] at this; omega
  | x :: xs, vs, l, H, h, hm, hl => by
    cases h with
    | cons h1 h2 =>
      rename_i v vs l1 l2
      have t0 : (openArgs (x :: xs) H).2 = (openArgs xs (openArg x H).2).2 := rfl
      have t1 : (openArgs (x :: xs) H).1 = (openArg x H).1 :: (openArgs xs (openArg x H).2).1 := rfl
      rw [t0] at hl ⊢
      rw [t1]
      cases h1 with
      | data hx =>
        have e : openArg x H = (.c x, H) := by cases hx <;> rfl
        rw [e] at hl ⊢
        obtain ⟨a1, a2, a3, a4⟩ := openArgs_ok E hw (H := H) h2 (by simpa using hm) hl
        exact ⟨.cons (.c (hx.move E)) a1, by simpa using a2, a3, a4⟩
      | box q1 q2 q3 q4 q5 q6 q7 =>
        rename_i x' ve r k b e T fr
        have e : openArg (.boxv k x') H = (.bptr H.length 0, H ++ [.box (.c x') k]) := rfl
        rw [e] at hl ⊢
        obtain ⟨a1, a2, a3, a4⟩ := openArgs_ok E hw (H := H ++ [.box (.c x') k]) h2 (fun j r' hj => by
          have := hm (j + 1) r' (by simpa using hj)
          rw [← this]; congr 1; simp; omega) hl
        have hι : Se.ι H.length = some b := by
          have := hm 0 r (by simp)
          rw [← q2, ← this]; rfl
        have hget : (openArgs xs (H ++ [.box (.c x') k])).2[H.length]? = some (.box (.c x') k) := by rw [a3 H.length (by simp)]; simp
        have hlt : H.length < Se.H.length := Nat.lt_of_lt_of_le (List.getElem?_eq_some_iff.1 hget).1 hl
        refine ⟨.cons (.bptr _ _ _ rfl hlt fun _ _ _ => ⟨b, hι, rfl⟩) a1, by rw [a2]; simp; omega, fun i hi => by rw [a3 i (by simp; omega), List.getElem?_append_left hi], fun i o h1 h2 => ?_⟩
        by_cases hi : i = H.length
        · subst hi
          rw [hget] at h2; cases h2
          refine ⟨⟨b, ve.cells, T, fr, ve, hι, by rw [hw]; exact q3, q4, ?_, .c (q7.move E), rfl, q6⟩, _, _, rfl⟩
          have := (q7.cells.1).length
          simp only [PV.ncells]; congr 1; simp at this; omega
        · exact a4 i o (by simp; omega) h2

theorem openArgs_pre : ∀ (xs : List CV) (H : Hp) (i : Nat), i < H.length → (openArgs xs H).2[i]? = H[i]?
  | [], H, i, hi => rfl
  | x :: xs, H, i, hi => by
    show (openArgs xs (openArg x H).2).2[i]? = _
    have h1 : i < (openArg x H).2.length ∧ (openArg x H).2[i]? = H[i]? := by
      unfold openArg
      split
      · exact ⟨by simp; omega, List.getElem?_append_left hi⟩
      · exact ⟨hi, rfl⟩
    rw [openArgs_pre xs _ i h1.1, h1.2]
theorem ArgsR.box {S : St} : ∀ {xs : List CV} {vs : List Value} {l : List Nat}, ArgsR S xs vs l → ∀ (H : Hp) (i r : Nat), l[i]? = some r → ∃ e e' k, S.H[r]? = some (.box e k) ∧ (openArgs xs H).2[H.length + i]? = some (.box e' k)
  | _, _, _, .nil, H, i, r, hi => by simp at hi
  | _, _, _, .cons h1 h2, H, i, r, hi => by
    cases h1 with
    | data hx =>
      rename_i x xs v vs ls
      have e : openArg x H = (.c x, H) := by cases hx <;> rfl
      show ∃ e1 e2 k1, S.H[r]? = some (.box e1 k1) ∧ (openArgs xs (openArg x H).2).2[H.length + i]? = some (.box e2 k1)
      rw [e]
      exact h2.box H i r (by simpa using hi)
    | box q1 q2 q3 q4 q5 q6 q7 =>
      rename_i xs vs ls x' ve r0 k b e T fr
      show ∃ e1 e2 k1, S.H[r]? = some (.box e1 k1) ∧ (openArgs xs (H ++ [.box (.c x') k])).2[H.length + i]? = some (.box e2 k1)
      cases i with
      | zero =>
        simp at hi
        subst hi
        exact ⟨e, .c x', k, q1, by rw [openArgs_pre _ _ _ (by simp)]; simp⟩
      | succ i =>
        obtain ⟨e1, e2, k', z1, z2⟩ := h2.box (H ++ [.box (.c x') k]) i r (by simpa using hi)
        refine ⟨e1, e2, k', z1, ?_⟩
        rw [← z2]; congr 1; simp; omega

theorem entry_ok {S : St} (ok : Ok S) {xs : List CV} {vs : List Value} {lent : List Nat} (h : ArgsR S xs vs lent) (hd : lent.Nodup) :
    Ok (entry S lent (openArgs xs []).2) ∧ All2 (Vr (entry S lent (openArgs xs []).2)) (openArgs xs []).1 vs ∧ (openArgs xs []).2.length = lent.length := by
  have E : StExt S (entry S lent (openArgs xs []).2) := entry_st h.lent
  obtain ⟨a1, a2, a3, a4⟩ := openArgs_ok E rfl (H := []) h (fun j r hj => by simp [entry, hj]) (Nat.le_refl _)
  simp at a2
  refine ⟨⟨fun r o hr => (a4 r o (by simp) hr).1, ?_, ?_, ?_, ?_, ?_, Nat.le_refl _, ?_, ?_⟩, a1, a2⟩
  · intro r hr
    have : lent.length ≤ r := by rw [← a2]; exact hr
    simp [entry, List.getElem?_eq_none this]
  · intro i j b h1 h2
    simp only [entry] at h1 h2
    split at h1 <;> first | (cases h1; done) | skip
    rename_i r hr
    split at h2 <;> first | (cases h2; done) | skip
    rename_i r' hr'
    obtain rfl := ok.inj r r' b h1 h2
    exact (List.getElem?_inj (List.getElem?_eq_some_iff.1 hr).1 hd).1 (hr.trans hr'.symm)
  · intro i b h1
    simp only [entry] at h1
    split at h1 <;> first | (cases h1; done) | skip
    exact ok.old _ b h1
  · intro i b off h1
    simp only [entry] at h1
    split at h1 <;> first | (cases h1; done) | skip
    rename_i r hr
    rintro (hf | ⟨r', hn, hr', _⟩)
    · exact ok.free r b off h1 hf
    · obtain rfl := ok.inj r r' b h1 hr'
      exact hn (List.mem_of_getElem? hr)
  · rintro b off (hf | ⟨r', hn, hr', _⟩)
    · have := ok.forb _ _ hf; have := ok.n0; show b < S.w.heap.size; omega
    · exact ok.old r' b hr'
  · intro i b h1
    simp only [entry] at h1
    split at h1 <;> first | (cases h1; done) | skip
    exact ok.glob _ b h1
  · show S.ng ≤ S.w.heap.size
    have := ok.ng; have := ok.n0; omega

/-! ### Contracts -/
/-- What became of the variables that were lent. -/
structure LentR (S S' : St) (outs : List CV) (u : List Nat) : Prop where
  len : outs.length = S.H.length
  at_ : ∀ (i : Nat) (e : PV) (k : Nat) (x : CV), S.H[i]? = some (.box e k) → outs[i]? = some x → i ∉ u ∧ (∃ e', S'.H[i]? = some (.box e' k)) ∧ S'.ι i = S.ι i ∧
    ∃ ve b T fr, S.ι i = some b ∧ Vc S' x ve ∧ S'.w.heap[b]? = some (.cells ve.cells T fr) ∧ bOk T fr ve.cells.size k ∧ (∀ v ∈ ve.cells.toList, v.oneCell' = true) ∧ ve.cells.size = ksz k

def Contract (P : Program) (I : World → Prop) (ng : Nat) (f : FuncId) (F : Fn1) : Prop :=
  ∀ cargs rv outs, picked (F cargs) = some (rv, outs) → ∀ (S : St) (vals : Array Value), S.H = (openArgs cargs []).2 → Ok S → S.ng = ng → I S.w → All2 (Vr S) (openArgs cargs []).1 vals.toList →
    Calls P f vals S.w fun e w' => ∃ v S' u, e = .returned v ∧ S'.w = w' ∧ Ok S' ∧ Keeps S S' ∧ I w' ∧ AllR S' rv v u ∧ u.Nodup ∧ LentR S S' outs u

theorem giveBack_ok : ∀ {lent : List Nat} {outs : List CV} {H H2 : Hp}, giveBack lent outs H = some H2 → lent.Nodup →
    lent.length = outs.length ∧ H2.length = H.length ∧ (∀ r, r ∉ lent → H2[r]? = H[r]?) ∧ (∀ (i r : Nat) (x : CV), lent[i]? = some r → outs[i]? = some x → ∃ e k, H[r]? = some (.box e k) ∧ H2[r]? = some (.box (.c x) k))
  | [], [], H, H2, h, _ => by cases h; exact ⟨rfl, rfl, fun _ _ => rfl, by simp⟩
  | [], _ :: _, H, H2, h, _ => by simp [giveBack] at h
  | _ :: _, [], H, H2, h, _ => by simp [giveBack] at h
  | r :: rs, v :: vs, H, H2, h, hd => by
    simp only [giveBack] at h
    split at h <;> first | (cases h; done) | skip
    rename_i e k hr
    rw [List.nodup_cons] at hd
    obtain ⟨a1, a2, a3, a4⟩ := giveBack_ok h hd.2
    refine ⟨by simp [a1], by rw [a2]; simp, fun r' hr' => ?_, fun i r' x h1 h2 => ?_⟩
    · simp only [List.mem_cons, not_or] at hr'
      rw [a3 r' hr'.2, set_get_ne hr'.1]
    · cases i with
      | zero =>
        simp at h1 h2
        subst h1; subst h2
        exact ⟨e, k, hr, by rw [a3 r hd.1]; exact set_get_self (List.getElem?_eq_some_iff.1 hr).1⟩
      | succ i =>
        simp at h1 h2
        obtain ⟨e', k', q1, q2⟩ := a4 i r' x h1 h2
        have hne : r' ≠ r := fun e => hd.1 (e ▸ List.mem_of_getElem? h1)
        exact ⟨e', k', by rw [set_get_ne hne] at q1; exact q1, q2⟩

/-- The caller's state behind the call. -/
def behind (S S' : St) (u : List Nat) (H : Hp) : St :=
  { w := S'.w, ι := fun r => if r < S.H.length then S.ι r else match u[r - S.H.length]? with
      | some q => S'.ι q
      | none => none,
    cp := fun r => if r < S.H.length then S.cp r else match u[r - S.H.length]? with
      | some q => S'.cp q
      | none => 0,
    H := H, F := S.F, n0 := S.n0, ng := S.ng }

theorem behind_ok {S : St} (ok : Ok S) {xs : List CV} {vs : List Value} {lent : List Nat} (ha : ArgsR S xs vs lent) (hd : lent.Nodup) {S' : St} {u : List Nat} {rv : CV} {v : Value} {outs : List CV} {H2 : Hp} (ok' : Ok S') (K : Keeps (entry S lent (openArgs xs []).2) S')
    (hr : AllR S' rv v u) (hu : u.Nodup) (hL : LentR (entry S lent (openArgs xs []).2) S' outs u) (hg : giveBack lent outs S.H = some H2) :
    Good S (behind S S' u (openAll rv H2).2) ∧ Vr (behind S S' u (openAll rv H2).2) (openAll rv H2).1 v := by
  obtain ⟨g1, g2, g3, g4⟩ := giveBack_ok hg hd
  obtain ⟨e1, e2, e3⟩ := entry_ok ok ha hd
  obtain ⟨o1, o2⟩ := openAll_len hr H2
  -- a lent variable, as the callee's state has it
  have hlent : ∀ (i r : Nat), lent[i]? = some r → ∃ e k, (openArgs xs []).2[i]? = some (.box e k) := by
    intro i r hi
    have hlt : i < (openArgs xs []).2.length := by rw [e3]; exact (List.getElem?_eq_some_iff.1 hi).1
    obtain ⟨_, _, _, a4⟩ := openArgs_ok (Se := entry S lent (openArgs xs []).2) (entry_st ha.lent) rfl (H := []) ha (fun j r hj => by simp [entry, hj]) (Nat.le_refl _)
    obtain ⟨_, e, k, he⟩ := a4 i _ (by simp) (List.getElem?_eq_getElem hlt)
    exact ⟨e, k, by rw [List.getElem?_eq_getElem hlt, he]⟩
  have hout : ∀ (i r : Nat), lent[i]? = some r → ∃ x, outs[i]? = some x := by
    intro i r hi
    have : i < outs.length := by rw [← g1]; exact (List.getElem?_eq_some_iff.1 hi).1
    exact ⟨_, List.getElem?_eq_getElem this⟩
  -- whose blocks are what
  have hbl : ∀ (q b : Nat), q ∈ u → S'.ι q = some b → S.w.heap.size ≤ b := by
    intro q b hq hb
    rcases K.own q b hb with ⟨i, hi⟩ | h
    · exfalso
      simp only [entry] at hi
      split at hi <;> first | (cases hi; done) | skip
      rename_i r hri
      obtain ⟨e, k, hbx⟩ := hlent i r hri
      obtain ⟨x, hx⟩ := hout i r hri
      obtain ⟨n1, _, n3, _⟩ := hL.at_ i e k x hbx hx
      have : S'.ι i = some b := by rw [n3]; simp [entry, hri, hi]
      exact n1 (ok'.inj q i b hb this ▸ hq)
    · exact h
  have hoth : ∀ (r b : Nat), r ∉ lent → S.ι r = some b → S'.w.heap[b]? = S.w.heap[b]? := by
    intro r b hr' hb
    refine K.blk b (ok.old r b hb) fun i hi => ?_
    simp only [entry] at hi
    split at hi <;> first | (cases hi; done) | skip
    rename_i r' hri
    obtain rfl := ok.inj r r' b hb hi
    exact hr' (List.mem_of_getElem? hri)
  have ιlt : ∀ r, r < S.H.length → (behind S S' u (openAll rv H2).2).ι r = S.ι r := fun r h => by simp [behind, h]
  have ιge : ∀ (r b : Nat), ¬ r < S.H.length → (behind S S' u (openAll rv H2).2).ι r = some b → ∃ q, u[r - S.H.length]? = some q ∧ S'.ι q = some b := by
    intro r b h hb
    simp only [behind, if_neg h] at hb
    split at hb <;> first | (cases hb; done) | skip
    rename_i q hq
    exact ⟨q, hq, hb⟩
  -- what the callee's values stand on
  have hcal : ∀ {rr b q : Nat}, q ∈ u → S'.ι q = some b → ∀ off, ¬ stable S' b off := by
    intro rr b q hq hb off hs
    obtain ⟨xs0, k0, g0, h1, _⟩ := hs.2 q hb
    -- what is handed over is not sealed
    have hun : ∀ {x : CV} {v : Value} {us : List Nat}, CellR S' x v us → q ∈ us → False := by
      intro x v us h hq
      cases h with
      | data => simp at hq
      | own h => simp at hq; subst hq; rw [h1] at h; cases h
    have huns : ∀ {xs : List CV} {vs : List Value} {us : List Nat}, CellsR S' xs vs us → q ∈ us → False := by
      intro xs vs us h hq
      induction h with
      | nil => simp at hq
      | cons h1 h2 ih =>
        rcases List.mem_append.1 hq with hq | hq
        · exact hun h1 hq
        · exact ih hq
    have hunv : ∀ {x : CV} {v : Value} {us : List Nat}, ValR S' x v us → q ∈ us → False := by
      intro x v us h hq
      cases h with
      | cell h => exact hun h hq
      | agg h _ => exact huns h hq
    have hunr : ∀ {x : CV} {v : Value} {us : List Nat}, ResR S' x v us → q ∈ us → False := by
      intro x v us h hq
      cases h with
      | val h => exact hunv h hq
      | box p1 p2 p3 p4 p5 p6 p7 =>
        rcases List.mem_cons.1 hq with rfl | hq
        · rw [h1] at p1; cases p1
        · exact hunv p7 hq
    have hunt : ∀ {xs : List CV} {vs : List Value} {us : List Nat}, TupR S' xs vs us → q ∈ us → False := by
      intro xs vs us h hq
      induction h with
      | nil => simp at hq
      | cons h1 h2 ih =>
        rcases List.mem_append.1 hq with hq | hq
        · exact hunr h1 hq
        · exact ih hq
    cases hr with
    | res h => exact hunr h hq
    | tup h => exact hunt h hq
  have hF : S'.F = (entry S lent (openArgs xs []).2).F := K.F
  -- the marks of the caller's own objects
  have hkeep : ∀ r, r ∉ lent → r < S.H.length → (openAll rv H2).2[r]? = S.H[r]? := fun r h1 h2 => by rw [o2 r (by omega), g3 r h1]
  have stS' : StExt S' (behind S S' u (openAll rv H2).2) := by
    intro b off v' hs hc
    refine ⟨⟨fun hf => hs.1 (by rw [hF]; exact .inl hf), fun r hr' => ?_⟩, hc⟩
    by_cases hlt : r < S.H.length
    · rw [ιlt r hlt] at hr'
      by_cases hm : r ∈ lent
      · exfalso
        obtain ⟨i, hi⟩ := List.mem_iff_getElem?.1 hm
        obtain ⟨e, k, hbx⟩ := hlent i r hi
        obtain ⟨x, hx⟩ := hout i r hi
        obtain ⟨_, ⟨e', n2⟩, n3, _⟩ := hL.at_ i e k x hbx hx
        have : S'.ι i = some b := by rw [n3]; simp [entry, hi, hr']
        obtain ⟨xs0, k0, g0, h1, _⟩ := hs.2 i this
        rw [n2] at h1; cases h1
      · rcases Classical.em (∃ xs k g, S.H[r]? = some (.row xs k g true) ∧ off < xs.length * k) with h | h
        · obtain ⟨xs0, k0, g0, h1, h2⟩ := h
          exact ⟨xs0, k0, g0, by show (openAll rv H2).2[r]? = _; rw [hkeep r hm hlt]; exact h1, h2⟩
        · exact absurd (by rw [hF]; exact .inr ⟨r, hm, hr', h⟩) hs.1
    · obtain ⟨q, hq, hqb⟩ := ιge r b hlt hr'
      exact absurd hs (hcal (rr := 0) (List.mem_of_getElem? hq) hqb off)
  have stS : StExt S (behind S S' u (openAll rv H2).2) := by
    intro b off v' hs hc
    have hb : b < S.w.heap.size := World.block_lt_of_cell? S.w _ hc
    refine ⟨⟨hs.1, fun r hr' => ?_⟩, ?_⟩
    · by_cases hlt : r < S.H.length
      · rw [ιlt r hlt] at hr'
        obtain ⟨xs0, k0, g0, h1, h2⟩ := hs.2 r hr'
        have hm : r ∉ lent := fun hm => by
          obtain ⟨e, k, h3⟩ := ha.lent r hm
          rw [h3] at h1; cases h1
        exact ⟨xs0, k0, g0, by show (openAll rv H2).2[r]? = _; rw [hkeep r hm hlt]; exact h1, h2⟩
      · obtain ⟨q, hq, hqb⟩ := ιge r b hlt hr'
        have := hbl q b (List.mem_of_getElem? hq) hqb
        omega
    · show S'.w.cell? _ = _
      rw [cell?_heap (K.blk b hb fun i hi => ?_)]; exact hc
      simp only [entry] at hi
      split at hi <;> first | (cases hi; done) | skip
      rename_i r hri
      obtain ⟨xs0, k0, g0, h1, _⟩ := hs.2 r hi
      obtain ⟨e, k, h3⟩ := ha.lent r (List.mem_of_getElem? hri)
      rw [h3] at h1; cases h1
  have I : Import S' (behind S S' u (openAll rv H2).2) S.H.length u := ⟨rfl, stS', fun j r hj => by
    simp only [behind, if_neg (show ¬ S.H.length + j < S.H.length by omega), Nat.add_sub_cancel_left, hj]
    exact ⟨trivial, trivial⟩⟩
  have hlen : (openAll rv H2).2.length = S.H.length + u.length := by rw [o1, g2]
  obtain ⟨hv, T⟩ := openAll_ok ok' I (by show _ ≤ (openAll rv H2).2.length; omega) (H := H2) hr g2 (fun _ _ h _ => h)
  -- each object of the caller's
  have hlen0 : S.H.length ≤ (openAll rv H2).2.length := by omega
  have hold : ∀ (r : Nat) (o : AO), r < S.H.length → (openAll rv H2).2[r]? = some o → (r ∉ lent ∧ S.H[r]? = some o) ∨ (∃ (i : Nat) (e : PV) (k : Nat) (x : CV), lent[i]? = some r ∧ outs[i]? = some x ∧ S.H[r]? = some (.box e k) ∧ o = .box (.c x) k) := by
    intro r o hlt ho
    by_cases hm : r ∈ lent
    · obtain ⟨i, hi⟩ := List.mem_iff_getElem?.1 hm
      obtain ⟨x, hx⟩ := hout i r hi
      obtain ⟨e, k, q1, q2⟩ := g4 i r x hi hx
      rw [o2 r (by omega), q2] at ho
      exact .inr ⟨i, e, k, x, hi, hx, q1, (Option.some.inj ho).symm⟩
    · exact .inl ⟨hm, by rw [← hkeep r hm hlt]; exact ho⟩
  have E : Ext S (behind S S' u (openAll rv H2).2) := by
    refine ⟨stS, hlen0, ?_, ?_, ?_⟩
    · intro r e' k' hlt ho
      rcases hold r _ hlt ho with ⟨h1, h2⟩ | ⟨i, e, k, x, h1, h2, h3, h4⟩
      · exact ⟨e', k', h2, ιlt r hlt⟩
      · exact ⟨e, k, h3, ιlt r hlt⟩
    · intro r e' k' hlt ho
      rcases hold r _ hlt ho with ⟨h1, h2⟩ | ⟨i, e, k, x, h1, h2, h3, h4⟩
      · exact ⟨e', k', h2, ιlt r hlt⟩
      · cases h4
    · intro r xs' k' g' s' hlt ho
      rcases hold r _ hlt ho with ⟨h1, h2⟩ | ⟨i, e, k, x, h1, h2, h3, h4⟩
      · exact ⟨xs', k', g', s', h2, Nat.le_refl _, fun _ => ⟨rfl, rfl, ιlt r hlt, by simp [behind, hlt]⟩⟩
      · cases h4
  refine ⟨⟨⟨?_, ?_, ?_, ?_, ?_, ok.forb, ?_, ?_, ok.ng⟩, E, ⟨K.os, K.tape, K.output, K.size, ?_, ?_, rfl, rfl, rfl⟩⟩, hv⟩
  · intro r o ho
    have ho' : (openAll rv H2).2[r]? = some o := ho
    by_cases hlt : r < S.H.length
    · rcases hold r o hlt ho' with ⟨h1, h2⟩ | ⟨i, e, k, x, h1, h2, h3, h4⟩
      · exact (ok.ob r o h2).mono E (ιlt r hlt) (by simp [behind, hlt]) fun b hb => hoth r b h1 hb
      · subst h4
        obtain ⟨e0, k0, hbx⟩ := hlent i r h1
        obtain ⟨n1, _, n3, ve, b, T', fr, n4, n5, n6, n7, n8, n9⟩ := hL.at_ i e0 k0 x hbx h2
        have hb : S.ι r = some b := by simpa [entry, h1] using n4
        -- the same number of cells
        have hk : k0 = k := by
          obtain ⟨e1', e2', k', z1, z2⟩ := ha.box [] i r h1
          rw [h3] at z1; cases z1
          rw [List.length_nil, Nat.zero_add, hbx] at z2; cases z2
          rfl
        subst hk
        refine ⟨b, ve.cells, T', fr, ve, (ιlt r hlt).trans hb, n6, n7, ?_, .c (n5.move stS'), rfl, n8⟩
        have := n5.cells.1.length
        simp only [PV.ncells]; congr 1; simp at this; omega
    · have hlt2 := (List.getElem?_eq_some_iff.1 ho').1
      obtain ⟨o', q1, _, q3⟩ := T.live r (by omega) hlt2
      rw [ho'] at q1; cases q1; exact q3
  · intro r hr'
    have : (openAll rv H2).2.length ≤ r := hr'
    simp only [behind]
    rw [if_neg (by omega), List.getElem?_eq_none (by omega)]
  · intro r r' b h1 h2
    by_cases l1 : r < S.H.length <;> by_cases l2 : r' < S.H.length
    · rw [ιlt r l1] at h1; rw [ιlt r' l2] at h2; exact ok.inj r r' b h1 h2
    · rw [ιlt r l1] at h1
      obtain ⟨q, hq, hqb⟩ := ιge r' b l2 h2
      have := hbl q b (List.mem_of_getElem? hq) hqb
      have := ok.old r b h1; omega
    · rw [ιlt r' l2] at h2
      obtain ⟨q, hq, hqb⟩ := ιge r b l1 h1
      have := hbl q b (List.mem_of_getElem? hq) hqb
      have := ok.old r' b h2; omega
    · obtain ⟨q, hq, hqb⟩ := ιge r b l1 h1
      obtain ⟨q', hq', hqb'⟩ := ιge r' b l2 h2
      obtain rfl := ok'.inj q q' b hqb hqb'
      have := (List.getElem?_inj (List.getElem?_eq_some_iff.1 hq).1 hu).1 (hq.trans hq'.symm)
      omega
  · intro r b hb
    show b < S'.w.heap.size
    by_cases l1 : r < S.H.length
    · rw [ιlt r l1] at hb
      have := ok.old r b hb; have := K.size
      have : (entry S lent (openArgs xs []).2).w.heap.size = S.w.heap.size := rfl
      omega
    · obtain ⟨q, hq, hqb⟩ := ιge r b l1 hb
      exact ok'.old q b hqb
  · intro r b off hb
    by_cases l1 : r < S.H.length
    · rw [ιlt r l1] at hb; exact ok.free r b off hb
    · obtain ⟨q, hq, hqb⟩ := ιge r b l1 hb
      have h1 := hbl q b (List.mem_of_getElem? hq) hqb
      intro hf
      have := ok.forb _ _ hf; have := ok.n0; omega
  · show S.n0 ≤ S'.w.heap.size
    have := ok.n0; have := K.size
    have : (entry S lent (openArgs xs []).2).w.heap.size = S.w.heap.size := rfl
    omega
  · intro r b hb
    show S.ng ≤ b
    by_cases l1 : r < S.H.length
    · rw [ιlt r l1] at hb; exact ok.glob r b hb
    · obtain ⟨q, hq, hqb⟩ := ιge r b l1 hb
      have := ok'.glob q b hqb
      rw [K.ng] at this; exact this
  · intro b hb hn
    refine K.blk b hb fun i hi => ?_
    simp only [entry] at hi
    split at hi <;> first | (cases hi; done) | skip
    exact hn _ hi
  · intro r b hb
    by_cases l1 : r < S.H.length
    · rw [ιlt r l1] at hb; exact .inl ⟨r, hb⟩
    · obtain ⟨q, hq, hqb⟩ := ιge r b l1 hb
      exact .inr (hbl q b (List.mem_of_getElem? hq) hqb)

theorem noDup_ok : ∀ {l : List Nat}, noDup l = true → l.Nodup
  | [], _ => List.nodup_nil
  | r :: rs, h => by
    simp only [noDup, Bool.and_eq_true, Bool.not_eq_true', List.contains_eq_mem, decide_eq_false_iff_not] at h
    exact List.nodup_cons.2 ⟨h.1, noDup_ok h.2⟩

/-- A call of a function that the table knows. -/
theorem alts_ok {K : CV → List CV → Res} {res : CV × List CV} {l : Alts} : alts' l K = some res → ∃ rv outs, pickAlt l = some (rv, outs) ∧ K rv outs = some res := by
  induction l with
  | nil => intro h; cases h
  | cons x l ih =>
    intro h
    obtain ⟨b, rv, outs⟩ := x
    rcases bif_some h with ⟨hb, h⟩ | ⟨hb, h⟩
    · subst hb; exact ⟨rv, outs, rfl, h⟩
    · subst hb
      obtain ⟨rv', outs', h1, h2⟩ := ih h
      exact ⟨rv', outs', h1, h2⟩
theorem bif_none {α : Type} (b : Bool) : bif' b (none : Option α) none = none := by cases b <;> rfl
theorem alts_strict : ∀ (l : Alts) {K : CV → List CV → Res}, (∀ rv outs, K rv outs = none) → alts' l K = none
  | [], K, h => rfl
  | (b, rv, outs) :: l, K, h => by
    unfold alts'
    rw [h, alts_strict l h]
    exact bif_none _
theorem call_ok {P : Program} {I : World → Prop} {tb : Table} {f : FuncId} {S : St} {args : List PV} {vals : Array Value} {K : KV} {res : CV × List CV} (ok : Ok S) (hI : I S.w) (hc : Contract P I S.ng f (tb f)) (hv : All2 (Vr S) args vals.toList) (h : call' tb f args S.H K = some res) :
    Calls P f vals S.w fun e w' => ∃ v S' p, e = .returned v ∧ S'.w = w' ∧ Good S S' ∧ I S'.w ∧ Vr S' p v ∧ K p S'.H = some res := by
  unfold call' at h
  split at h <;> first | (cases h; done) | skip
  rename_i cargs H1 lent hcl
  split at h <;> first | (cases h; done) | skip
  rename_i hnd
  have hd := noDup_ok hnd
  split at h <;> first | (cases h; done) | skip
  rename_i l hF
  have hh := alts_ok h
  clear h
  obtain ⟨rv, outs, hF1, h⟩ := hh
  have hF : picked (tb f cargs) = some (rv, outs) := by rw [hF]; exact hF1
  split at h <;> first | (cases h; done) | skip
  rename_i H2 hg
  obtain ⟨S1, e1, M, _, ha⟩ := closeArgs_ok ok hv hcl
  subst e1
  obtain ⟨q1, q2, q3⟩ := entry_ok M.good.ok ha hd
  have hw : S1.w = S.w := M.w
  have := hc cargs rv outs hF (entry S1 lent (openArgs cargs []).2) vals rfl q1 M.good.keeps.ng (by show I S1.w; rw [hw]; exact hI) q2
  rw [show (entry S1 lent (openArgs cargs []).2).w = S.w from hw] at this
  refine this.mono ?_
  rintro e w' ⟨v, S', u, rfl, rfl, ok', K', hI', hr, hu, hL⟩
  obtain ⟨G, hv'⟩ := behind_ok M.good.ok ha hd ok' K' hr hu hL hg
  exact ⟨v, behind S1 S' u (openAll rv H2).2, (openAll rv H2).1, rfl, rfl, M.good.trans G, hI', hv', h⟩

/-! ### Calls of functions of data -/
def NF0 (f : Hp → KV → Res) : Prop := (∃ p, ∀ H K, f H K = K p H) ∨ (∀ H K, f H K = none)
theorem NF0.ret (p : PV) : NF0 (fun H K => K p H) := .inl ⟨p, fun _ _ => rfl⟩
theorem NF0.no : NF0 (fun _ _ => none) := .inr fun _ _ => rfl
theorem NF0.bif {b : Bool} {f g : Hp → KV → Res} (hf : NF0 f) (hg : NF0 g) : NF0 (fun H K => bif' b (f H K) (g H K)) := by
  cases b
  · exact hg
  · exact hf
theorem NF0.bift {b : Bool} {f : Hp → KV → Res} (hf : NF0 f) : NF0 (fun H K => bif' b (f H K) none) := hf.bif NF0.no
theorem NF0.ite {c : Prop} [Decidable c] {f g : Hp → KV → Res} (hf : NF0 f) (hg : NF0 g) : NF0 (fun H K => if c then f H K else g H K) := by
  by_cases h : c
  · simp only [h, if_true]; exact hf
  · simp only [h, if_false]; exact hg
theorem NF0.itet {c : Prop} [Decidable c] {f : Hp → KV → Res} (hf : NF0 f) : NF0 (fun H K => if c then f H K else none) := hf.ite NF0.no
theorem c_list {S : St} : ∀ {cs : List CV} {vs : List Value}, All2 (Vr S) (cs.map .c) vs → All2 (Vc S) cs vs
  | [], vs, h => by cases h; exact .nil
  | c :: cs, vs, h => by
    cases h with
    | cons h1 h2 => exact .cons (c_of h1) (c_list h2)

theorem dataCells_ok {S : St} : ∀ {ps : List PV} {vs : List Value} {cs : List CV}, All2 (Vr S) ps vs → dataCells ps = some cs → All2 (Vc S) cs vs
  | [], vs, cs, h, hc => by cases h; cases hc; exact .nil
  | p :: ps, vs, cs, h, hc => by
    cases h with
    | cons h1 h2 =>
      cases p with
      | c v =>
        simp only [dataCells] at hc
        split at hc <;> first | (cases hc; done) | skip
        split at hc <;> first | (cases hc; done) | skip
        rename_i hx
        cases hc
        exact .cons (c_of h1) (dataCells_ok h2 hx)
      | _ => simp [dataCells] at hc
theorem dataArgs_ok {S : St} : ∀ {ps : List PV} {vs : List Value} {cs : List CV}, All2 (Vr S) ps vs → dataArgs ps = some cs → All2 (Vr S) (cs.map .c) vs ∧ noBox cs = true
  | [], vs, cs, h, hc => by cases h; cases hc; exact ⟨.nil, rfl⟩
  | p :: ps, vs, cs, h, hc => by
    cases h with
    | cons h1 h2 =>
      cases p with
      | c v =>
        simp only [dataArgs] at hc
        split at hc <;> first | (cases hc; done) | skip
        rename_i hnb
        split at hc <;> first | (cases hc; done) | skip
        rename_i hx
        cases hc
        obtain ⟨a1, a2⟩ := dataArgs_ok h2 hx
        refine ⟨.cons h1 a1, ?_⟩
        cases v <;> first | exact a2 | exact (hnb _ _ rfl).elim
      | agg us =>
        simp only [dataArgs] at hc
        split at hc <;> first | (cases hc; done) | skip
        rename_i cs' vs' hx hy
        cases hc
        obtain ⟨a1, a2⟩ := dataArgs_ok h2 hy
        cases h1 with
        | agg us ws q1 q2 => exact ⟨.cons (.c (.agg _ _ (dataCells_ok q1 hx) q2)) a1, a2⟩
      | _ => simp [dataArgs] at hc
theorem dataArgs_nb : ∀ {ps : List PV} {cs : List CV}, dataArgs ps = some cs → noBox cs = true
  | [], cs, hc => by cases hc; rfl
  | p :: ps, cs, hc => by
    cases p with
    | c v =>
      simp only [dataArgs] at hc
      split at hc <;> first | (cases hc; done) | skip
      rename_i hnb
      split at hc <;> first | (cases hc; done) | skip
      rename_i hx
      cases hc
      have a2 := dataArgs_nb hx
      cases v <;> first | exact a2 | exact (hnb _ _ rfl).elim
    | agg us =>
      simp only [dataArgs] at hc
      split at hc <;> first | (cases hc; done) | skip
      rename_i cs' vs' hx hy
      cases hc
      exact dataArgs_nb (cs := vs') hy
    | _ => simp [dataArgs] at hc
theorem closeArgs_data : ∀ {cs : List CV}, noBox cs = true → ∀ H, closeArgs (cs.map .c) H = some (cs, H, [])
  | [], _, H => rfl
  | v :: l, h, H => by
    have h2 : noBox l = true := by cases v <;> first | exact h | (simp [noBox] at h; done)
    simp only [List.map_cons, closeArgs, closeArg, closeVal, closeArgs_data h2, List.nil_append]
theorem openRes_data (v : CV) : (∃ u, ∀ H, openRes v H = (.c u, H)) ∨ ∀ H, dataPV (openRes v H).1 = false ∧ ∀ l, allCV ((openRes v H).1 :: l) = false := by
  cases v with
  | sl own full k xs =>
    cases own with
    | true => exact .inr fun H => ⟨rfl, fun _ => rfl⟩
    | false => exact .inl ⟨_, fun H => rfl⟩
  | aggO cs => exact .inr fun H => ⟨rfl, fun _ => rfl⟩
  | boxv k e => exact .inr fun H => ⟨rfl, fun _ => rfl⟩
  | _ => exact .inl ⟨_, fun H => rfl⟩
theorem openTup_data : ∀ vs : List CV, (∃ ps, ∀ H, openTup vs H = (ps, H)) ∨ ∀ H, allCV (openTup vs H).1 = false
  | [] => .inl ⟨[], fun H => rfl⟩
  | v :: vs => by
    rcases openRes_data v with ⟨u, hu⟩ | hn
    · rcases openTup_data vs with ⟨ps, hp⟩ | hm
      · exact .inl ⟨.c u :: ps, fun H => by simp only [openTup, hu, hp]⟩
      · exact .inr fun H => by
          simp only [openTup, hu]
          exact hm H
    · exact .inr fun H => (hn H).2 _
theorem openAll_nf (rv : CV) : NF0 (fun H K => dataK K (openAll rv H).1 (openAll rv H).2) := by
  have res : (∀ H, openAll rv H = openRes rv H) → NF0 (fun H K => dataK K (openAll rv H).1 (openAll rv H).2) := by
    intro he
    rcases openRes_data rv with ⟨u, hu⟩ | hn
    · exact .inl ⟨.c u, fun H K => by dsimp only; rw [he, hu]; rfl⟩
    · refine .inr fun H K => ?_
      dsimp only
      rw [he]
      unfold dataK
      rw [(hn H).1]
  cases rv with
  | tup vs =>
    rcases openTup_data vs with ⟨ps, hp⟩ | hm
    · cases hc : allCV ps with
      | true =>
        refine .inl ⟨.tup ps, fun H K => ?_⟩
        simp only [openAll, hp, dataK, dataPV, hc]
      | false =>
        refine .inr fun H K => ?_
        simp only [openAll, hp, dataK, dataPV, hc]
    · refine .inr fun H K => ?_
      simp only [openAll, dataK, dataPV, hm]
  | _ => exact res fun H => rfl
theorem call_pure (tb : Table) (f : FuncId) (cs : List CV) (h : noBox cs = true) : NF0 (fun H K => call' tb f (cs.map .c) H (dataK K)) := by
  unfold call'
  simp only [closeArgs_data h, noDup, if_true]
  cases tb f cs with
  | none => exact NF0.no
  | some l =>
    induction l with
    | nil => exact NF0.no
    | cons x l ih =>
      obtain ⟨b, rv, outs⟩ := x
      refine NF0.bif ?_ ih
      cases outs with
      | nil => exact openAll_nf rv
      | cons _ _ => exact NF0.no

/-- What a handler answers is so. -/
structure HOk (P : Program) (I : World → Prop) (ng : Nat) (tb : Handler) : Prop where
  call : ∀ {f : FuncId} {S : St} {args : List PV} {vals : Array Value} {K : KV} {res : CV × List CV}, Ok S → S.ng = ng → I S.w → All2 (Vr S) args vals.toList → tb f args S.H K = some res →
    Calls P f vals S.w fun e w' => ∃ v S' p, e = .returned v ∧ S'.w = w' ∧ Good S S' ∧ I S'.w ∧ Vr S' p v ∧ K p S'.H = some res
  strict : ∀ f args H, tb f args H (fun _ _ => none) = none
  pure : ∀ f cs, noBox cs = true → NF0 (fun H K => tb f (cs.map .c) H (dataK K))

theorem call_strict {tb : Table} (f : FuncId) (args : List PV) (H : Hp) : call' tb f args H (fun _ _ => none) = none := by
  unfold call'
  split
  · rfl
  · split
    · split
      · rfl
      · refine alts_strict _ fun rv outs => ?_
        split <;> rfl
    · rfl
theorem hok_of {P : Program} {I : World → Prop} {ng : Nat} {tb : Table} (h : ∀ f, Contract P I ng f (tb f)) : HOk P I ng (call' tb) where
  call := fun {f S args vals K res} ok hng hI hv hc => call_ok ok hI (by rw [hng]; exact h f) hv hc
  strict := call_strict
  pure := call_pure tb

end Go.Pv
