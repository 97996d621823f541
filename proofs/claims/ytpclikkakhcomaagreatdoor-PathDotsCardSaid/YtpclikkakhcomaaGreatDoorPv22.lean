/- Regions whose order is drawn. -/
import Derived.Test.YtpclikkakhcomaaGreatDoorPv21
set_option linter.unusedVariables false
namespace Go.Pv
open Go

variable {P : Program} {tb : Handler}

/-! ### What an operation hangs on -/
theorem aop_congr {o : Oper} {ev ev' : Operand → PV} (h : ∀ x ∈ o.op.operands, ev x = ev' x) : aop P tb o ev = aop P tb o ev' := by
  obtain ⟨dst, op, type, pos, after, guard⟩ := o
  simp only at h
  funext H K
  have pairs : ∀ ps : Array (Nat × Operand), (∀ x ∈ ps.map (·.2), ev x = ev' x) → (ps.toList.map fun (i, x) => (i, ev x)) = (ps.toList.map fun (i, x) => (i, ev' x)) := fun ps hp =>
    List.map_congr_left fun p hm => by
      obtain ⟨i, x⟩ := p
      simp only [hp x (Array.mem_map.2 ⟨(i, x), by simpa using hm, rfl⟩)]
  cases op <;> simp only [Op.operands] at h <;> simp only [aop]
  case build t ps => rw [pairs ps fun x hx => h x (by simpa using hx)]
  case buildSlice t n ps => rw [pairs ps fun x hx => h x (by simpa using hx)]
  case makeFunc fn first captured =>
    cases fn <;> simp only
    rw [List.map_congr_left fun x hx => h x (by simp at hx ⊢; exact .inr hx)]
  case slice t x lo hi mx =>
    have hx := h x (by simp)
    have h1 : lo.map ev = lo.map ev' := by cases lo with | none => rfl | some y => simp [h y (by simp)]
    have h2 : hi.map ev = hi.map ev' := by cases hi with | none => rfl | some y => simp [h y (by simp)]
    have h3 : mx.map ev = mx.map ev' := by cases mx with | none => rfl | some y => simp [h y (by simp)]
    rw [hx, h1, h2, h3]
  case call c =>
    have hargs : c.args.toList.map ev = c.args.toList.map ev' := List.map_congr_left fun x hx => h x (by simp [Call.operands]; exact .inr (by simpa using hx))
    cases hc : c.callee with
    | builtin b => simp only [hargs]
    | value f =>
      have hf : ev f = ev' f := h f (by simp [Call.operands, hc])
      simp only [hargs, hf]
    | invoke r m => rfl
  case pick c a b => rw [h c (by simp), h a (by simp), h b (by simp)]
  case binOp op t x y u => rw [h x (by simp), h y (by simp)]
  case store t x y => rw [h x (by simp), h y (by simp)]
  case makeSlice t x y => rw [h x (by simp), h y (by simp)]
  case indexAddr t x y => rw [h x (by simp), h y (by simp)]
  case index t x y => rw [h x (by simp), h y (by simp)]
  case next x b => cases b <;> simp only; rw [h x (by simp)]
  all_goals first
    | rfl
    | (rename_i x; rw [h x (by simp)])
    | (rename_i x _; rw [h x (by simp)])
    | (rename_i x _ _; rw [h x (by simp)])


/-- What is wanted of a handler here. -/
structure HS (tb : Handler) : Prop where
  strict : ∀ f args H, tb f args H (fun _ _ => none) = none
  pure : ∀ f cs, noBox cs = true → NF0 (fun H K => tb f (cs.map .c) H (dataK K))
theorem HOk.hs {I : World → Prop} {ng : Nat} (h : HOk P I ng tb) : HS tb := ⟨h.strict, h.pure⟩

theorem aop_strict (hs : HS tb) {o : Oper} {ev : Operand → PV} {H : Hp} : aop P tb o ev H (fun _ _ => none) = none := by
  by_cases hc : opClass P o = 0 ∨ opClass P o = 1
  · rcases aop_nf (tb := tb) hs.pure (ev := ev) (H := H) hc with ⟨p, hp⟩ | hn
    · rw [hp]
    · rw [hn]
  have hconv : ∀ s d x, convert' P s d x H (fun _ _ => none) = none := by
    intro s d x
    unfold convert'
    split
    · rfl
    · rfl
    · split <;> rfl
    · split
      · split <;> rfl
      · rfl
    · split
      · split <;> rfl
      · rfl
    · split
      · exact bif_none _
      · rfl
    · rfl
  have hus : ∀ pt x n, unsafeString' P pt x n H (fun _ _ => none) = none := by
    intro pt x n
    unfold unsafeString'
    split
    · exact bif_none _
    · split
      · split
        · simp only [bif_none]
        · rfl
      · rfl
    · rfl
  have hstore : ∀ t a x, store' P t a x H (fun _ _ => none) = none := by
    intro t a x
    unfold store'
    split
    · rename_i n m hn hm
      have : ∀ y : Res, y = none → bif' (n == m) y none = none := fun y hy => by rw [hy]; exact bif_none _
      refine this _ ?_
      split
      · split
        · split
          · split <;> rfl
          · rfl
        · rfl
      · split
        · split
          · split
            · exact bif_none _
            · rfl
          · rfl
        · rfl
      · rfl
    · rfl
  have hbs : ∀ t n ps, buildSlice' P t n ps H (fun _ _ => none) = none := by
    intro t n ps
    unfold buildSlice'
    split
    · split
      · split
        · split
          · exact bif_none _
          · rfl
        · rfl
      · rfl
    · rfl
  have hms : ∀ t l c, makeSlice' P t l c H (fun _ _ => none) = none := by
    intro t l c
    unfold makeSlice'
    split
    · split
      · split
        · simp only [bif_none]
        · rfl
      · rfl
    · rfl
  have hcall : ∀ f args, tb f args H (fun _ _ => none) = none := fun f args => hs.strict f args H
  have hext : ∀ f args, ext' P f args H (fun _ _ => none) = none := by
    intro f args
    unfold ext'
    split
    · split <;> rfl
    · split <;> rfl
    · rfl
  have happ : ∀ t s x, append' P t s x H (fun _ _ => none) = none := by
    intro t s x
    unfold append'
    split
    · split
      · split
        · split
          · simp only [bif_none]
          · split
            · simp only [bif_none]
            · rfl
          · split
            · split
              · simp only [bif_none]
              · rfl
            · rfl
          · split
            · split
              · simp only [bif_none]
              · rfl
            · rfl
          · rfl
        · rfl
      · rfl
    · rfl
  obtain ⟨dst, op, type, pos, after, guard⟩ := o
  unfold aop
  cases op <;> (try simp only) <;> (try rfl)
  case pick c a b => split <;> first | exact bif_none _ | rfl
  case alloc t =>
    split
    · split <;> rfl
    · rfl
  case box t x =>
    split
    · split <;> rfl
    · rfl
  case build t ps => exact absurd (.inl rfl) hc
  case buildSlice t n ps => exact hbs _ _ _
  case load t x => exact absurd (.inr rfl) hc
  case store t x y => exact hstore _ _ _
  case nilCheck x => exact absurd (.inr rfl) hc
  case binOp op t x y u => cases op <;> first | exact absurd (.inl rfl) hc | exact absurd (.inr rfl) hc
  case unOp op t x => exact absurd (.inl rfl) hc
  case convert s d x => exact hconv _ _ _
  case makeInterface t x => exact absurd (.inl rfl) hc
  case makeFunc fn first captured =>
    cases fn <;> simp only
    split <;> rfl
  case makeSlice t l c => exact hms _ _ _
  case slice t x lo hi mx =>
    exfalso; apply hc
    simp only [opClass]
    split
    · exact .inl rfl
    · exact .inr rfl
  case fieldAddr t x f => exact absurd (.inr rfl) hc
  case field t x f => exact absurd (.inl rfl) hc
  case indexAddr t x i => exact absurd (.inr rfl) hc
  case index t x i => exact absurd (.inl rfl) hc
  case range t x => split <;> rfl
  case next x b =>
    cases b <;> simp only
    split
    · split
      · exact bif_none _
      · rfl
    · rfl
  case extract t i => exact absurd (.inl rfl) hc
  case call c =>
    split
    · unfold builtin'
      split
      · rename_i _ _ hcal
        exfalso; apply hc
        simp [opClass, hcal]
      · split
        · rfl
        · exact happ _ _ _
        · rfl
      · rename_i _ hcal
        exfalso; apply hc
        simp [opClass, hcal]
      · exact hus _ _ _
      · rfl
    · split
      · rcases pure_nf0 (P := P) hs.pure with ⟨p, hp⟩ | hn
        · exact hp H _
        · exact hn H _
      · split
        · split
          · exact hcall _ _
          · exact hext _ _
        · split
          · exact hcall _ _
          · exact hext _ _
        · rfl
    · rfl

/-! ### One step, its guard decided -/
def gd (ops : Array Oper) (o : Oper) (env : Env) : Option Bool :=
  match o.guard with
  | none => some true
  | some (j, want) => match ((ops[j]?).bind (·.dst)) with
    | none => some false
    | some t => match env[t]? with
      | some (.c (.bool b)) => some (b == want)
      | some (.tup []) => some false
      | _ => none
def act (P : Program) (tb : Handler) (ops : Array Oper) (o : Oper) (env : Env) (H : Hp) (K : KV) : Res :=
  match gd ops o env with
  | some true => aop P tb o (evl env) H K
  | some false => K (.tup []) H
  | none => none
theorem guarded_eq {ops : Array Oper} {o : Oper} {env : Env} {yes no : Env → Res} : guarded ops o env yes no = match gd ops o env with
    | some true => yes env
    | some false => no env
    | none => none := by
  cases hg : o.guard with
  | none => simp only [guarded, gd, hg]
  | some g =>
    obtain ⟨j, want⟩ := g
    cases hd : (ops[j]?).bind (·.dst) with
    | none => simp only [guarded, gd, hg, hd]
    | some t =>
      simp only [guarded, gd, hg, hd]
      cases ht : env[t]? with
      | none => rfl
      | some v =>
        split
        · rename_i b hb
          cases hb
          cases b <;> cases want <;> simp [bif', set_self ht]
        · rename_i hb
          cases hb
          rfl
        · rename_i h1 h2
          split
          all_goals first
            | rfl
            | (rename_i hh; revert hh; split <;> simp_all)
theorem aops_cons {ops : Array Oper} {i : Nat} {o : Oper} {rest : List Nat} {env : Env} {H : Hp} {K : KS} (ho : ops[i]? = some o) :
    aops P tb ops (i :: rest) env H K = act P tb ops o env H fun p H' => aops P tb ops rest (putE env o.dst p) H' K := by
  rw [aops]
  simp only [ho, guarded_eq, act]

theorem act_strict (hs : HS tb) {ops : Array Oper} {o : Oper} {env : Env} {H : Hp} : act P tb ops o env H (fun _ _ => none) = none := by
  unfold act
  split
  · exact aop_strict hs
  · rfl
  · rfl
theorem act_nf0 (hs : HS tb) {ops : Array Oper} {o : Oper} {env : Env} (h : opClass P o = 0) : NF0 (act P tb ops o env) := by
  unfold act
  split
  · exact aop_nf0 hs.pure h
  · exact NF0.ret _
  · exact NF0.no
theorem act_nf (hs : HS tb) {ops : Array Oper} {o : Oper} {env : Env} {H : Hp} (h : opClass P o = 0 ∨ opClass P o = 1) : NF H (act P tb ops o env H) := by
  unfold act
  split
  · exact aop_nf hs.pure h
  · exact NF.ret H _
  · exact NF.no H

theorem putE_ne {env : Env} {d : Option Tmp} {p : PV} {t : Nat} (h : ∀ u, d = some u → t ≠ u) : (putE env d p)[t]? = env[t]? := by
  cases d with
  | none => rfl
  | some u => exact set_get_ne (h u rfl)
theorem putE_comm {env : Env} {d e : Option Tmp} {p q : PV} (h : ∀ u, d = some u → e ≠ some u) : putE (putE env d p) e q = putE (putE env e q) d p := by
  cases d with
  | none => rfl
  | some u =>
    cases e with
    | none => rfl
    | some v =>
      have hne : u ≠ v := fun e => h u rfl (by rw [e])
      exact List.set_comm _ _ hne

theorem act_put {ops : Array Oper} {o x : Oper} {env : Env} {p : PV} (h : ∀ d, x.dst = some d → d ∉ o.looksAt ops) : act P tb ops o (putE env x.dst p) = act P tb ops o env := by
  have hg : gd ops o (putE env x.dst p) = gd ops o env := by
    unfold gd
    split
    · rfl
    · rename_i j want hg
      split
      · rfl
      · rename_i t ht
        have : (putE env x.dst p)[t]? = env[t]? := putE_ne fun u hu e => h u hu (by
          unfold Oper.looksAt
          rw [hg]
          simp [ht, e])
        rw [this]
  have he : aop P tb o (evl (putE env x.dst p)) = aop P tb o (evl env) := aop_congr fun y hy => by
    cases y with
    | tmp t =>
      have : (putE env x.dst p)[t]? = env[t]? := putE_ne fun u hu e => h u hu (by
        unfold Oper.looksAt
        refine List.mem_append_left _ (List.mem_filterMap.2 ⟨.tmp t, by simpa using hy, by simp [e]⟩))
      simp only [evl, List.getD_eq_getElem?_getD, this]
    | _ => rfl
  funext H K
  unfold act
  rw [hg, he]

/-! ### Changing places -/
/-- x looks at the memory by 'sel' alone. -/
def Sel (x : Hp → KV → Res) (sel : Hp → Option PV) : Prop := ∀ H K, x H K = match sel H with
  | some p => K p H
  | none => none
theorem sel_of {x : Hp → KV → Res} (h : ∀ H, NF H (x H)) : ∃ sel, Sel x sel := by
  have : ∀ H, ∃ o : Option PV, ∀ K, x H K = match o with
      | some p => K p H
      | none => none := fun H => by
    rcases h H with ⟨p, hp⟩ | hn
    · exact ⟨some p, hp⟩
    · exact ⟨none, hn⟩
  exact ⟨fun H => Classical.choose (this H), fun H => Classical.choose_spec (this H)⟩
theorem swapR {R : Hp → Hp → Prop} {x y : Hp → KV → Res} {sel : Hp → Option PV} (hx : Sel x sel) (hR : ∀ H H', R H H' → sel H = sel H') (hy : ∀ H k k', (∀ q H1, R H H1 → k q H1 = k' q H1) → y H k = y H k') (hys : ∀ H, y H (fun _ _ => none) = none) (k : PV → PV → Hp → Res) (H : Hp) :
    x H (fun p H1 => y H1 fun q H2 => k p q H2) = y H (fun q H1 => x H1 fun p H2 => k p q H2) := by
  rw [hx]
  cases hs : sel H with
  | none =>
    refine ((hys H).symm.trans (hy H _ _ fun q H1 hr => ?_))
    rw [hx, ← hR _ _ hr, hs]
  | some p =>
    refine hy H _ _ fun q H1 hr => ?_
    rw [hx, ← hR _ _ hr, hs]

/-- The same variables and rows. -/
def Same (H H' : Hp) : Prop := (∀ r : Nat, (∃ e k, H[r]? = some (AO.box e k)) ↔ (∃ e k, H'[r]? = some (AO.box e k))) ∧ ∀ r g : Nat, (getRow H r g).isSome = (getRow H' r g).isSome
theorem Same.refl (H : Hp) : Same H H := ⟨fun _ => Iff.rfl, fun _ _ => rfl⟩
theorem Same.trans {H H1 H2 : Hp} (h : Same H H1) (h' : Same H1 H2) : Same H H2 := ⟨fun r => (h.1 r).trans (h'.1 r), fun r g => (h.2 r g).trans (h'.2 r g)⟩
theorem same_box {H : Hp} {r k k' : Nat} {e e' : PV} (h : H[r]? = some (.box e k)) : Same H (H.set r (.box e' k')) := by
  have hl := (List.getElem?_eq_some_iff.1 h).1
  refine ⟨fun r' => ?_, fun r' g => ?_⟩
  · by_cases he : r' = r
    · subst he
      rw [set_get_self hl]
      exact ⟨fun _ => ⟨_, _, rfl⟩, fun _ => ⟨_, _, h⟩⟩
    · rw [set_get_ne he]
  · unfold getRow
    by_cases he : r' = r
    · subst he
      rw [set_get_self hl, h]
    · rw [set_get_ne he]
theorem same_row {H : Hp} {r k k' g : Nat} {xs xs' : List CV} {s s' : Bool} (h : H[r]? = some (.row xs k g s)) : Same H (H.set r (.row xs' k' g s')) := by
  have hl := (List.getElem?_eq_some_iff.1 h).1
  refine ⟨fun r' => ?_, fun r' g' => ?_⟩
  · by_cases he : r' = r
    · subst he
      rw [set_get_self hl, h]
      exact ⟨fun ⟨_, _, hh⟩ => (by cases hh), fun ⟨_, _, hh⟩ => (by cases hh)⟩
    · rw [set_get_ne he]
  · unfold getRow
    by_cases he : r' = r
    · subst he
      rw [set_get_self hl, h]
      dsimp only
      split <;> rfl
    · rw [set_get_ne he]
theorem same_seal (H : Hp) (r : Nat) : Same H (sealRow H r) := by
  unfold sealRow
  split
  · rename_i h; exact same_row h
  · exact .refl H
theorem same_closeCell {p : PV} {H H' : Hp} {x : CV} (h : closeCell p H = some (x, H')) : Same H H' := by
  unfold closeCell at h
  split at h <;> first | (cases h; done) | skip
  · split at h <;> first | (cases h; done) | skip
    cases h; exact .refl H
  · split at h <;> first | (cases h; done) | skip
    cases h; exact same_seal _ _
  · split at h <;> first | (cases h; done) | skip
    cases h; exact same_seal _ _
  · cases h; exact .refl H
theorem same_closeCells : ∀ {ps : List PV} {H H' : Hp} {xs : List CV}, closeCells ps H = some (xs, H') → Same H H'
  | [], H, H', xs, h => by cases h; exact .refl H
  | p :: ps, H, H', xs, h => by
    simp only [closeCells] at h
    split at h <;> first | (cases h; done) | skip
    rename_i x H1 hx
    split at h <;> first | (cases h; done) | skip
    rename_i xs' H2 hxs
    cases h
    exact (same_closeCell hx).trans (same_closeCells hxs)
theorem same_closeVal {p : PV} {H H' : Hp} {x : CV} (h : closeVal p H = some (x, H')) : Same H H' := by
  unfold closeVal at h
  split at h
  · cases h; exact .refl H
  · split at h <;> first | (cases h; done) | skip
    rename_i hc
    cases h; exact same_closeCells hc
  · exact same_closeCell h

theorem store_same {t : TypeId} {a x : PV} {H : Hp} {k k' : KV} (h : ∀ q H1, Same H H1 → k q H1 = k' q H1) : store' P t a x H k = store' P t a x H k' := by
  unfold store'
  split
  · congr 1
    split
    · split
      · rename_i hr
        split
        · split
          · exact h _ _ (same_box hr)
          · rfl
        · rfl
      · rfl
    · split
      · rename_i hc
        split
        · rename_i hr0
          have hr := getRow_some hr0
          split
          · congr 1
            exact h _ _ ((same_closeVal hc).trans (same_row hr))
          · rfl
        · rfl
      · rfl
    · rfl
  · rfl
theorem store_at {t : TypeId} {r o : Nat} {x : PV} {H : Hp} {k k' : KV} (h : ∀ q H1, (∀ r', r' ≠ r → H1[r']? = H[r']?) → k q H1 = k' q H1) : store' P t (.bptr r o) x H k = store' P t (.bptr r o) x H k' := by
  unfold store'
  split
  · congr 1
    dsimp only
    split
    · split
      · split
        · exact h _ _ fun r' hr' => set_get_ne hr'
        · rfl
      · rfl
    · rfl
  · rfl

theorem opt_inj {H : Hp} {s o : Option PV} (he : ∀ K : KV, (match s with
      | some p => K p H
      | none => none) = match o with
      | some p => K p H
      | none => none) : s = o := by
  classical
  cases s with
  | none =>
    cases o with
    | none => rfl
    | some p => have := he (fun _ _ => some (.nilif, [])); cases this
  | some q =>
    cases o with
    | none => have := he (fun _ _ => some (.nilif, [])); cases this
    | some p =>
      by_cases hpq : q = p
      · rw [hpq]
      · have := he (fun z _ => if z = q then some (.nilif, []) else none)
        simp [Ne.symm hpq] at this
theorem fieldAddr_same {t : TypeId} {a : PV} {f : Nat} {H H' : Hp} (h : Same H H') {sel : Hp → Option PV} (hs : Sel (fun H => fieldAddr' P t a f H) sel) : sel H = sel H' := by
  have key : ∃ o : Option PV, (∀ K, fieldAddr' P t a f H K = match o with
      | some p => K p H
      | none => none) ∧ (∀ K, fieldAddr' P t a f H' K = match o with
      | some p => K p H'
      | none => none) := by
    unfold fieldAddr'
    split
    · rename_i off ft hf
      split
      · exact ⟨none, fun _ => rfl, fun _ => rfl⟩
      · split
        · rename_i r o
          by_cases hb : ∃ e k, H[r]? = some (.box e k)
          · obtain ⟨e', k', hb'⟩ := (h.1 r).1 hb
            obtain ⟨e, k, hb⟩ := hb
            exact ⟨some (.bptr r (o + off)), fun K => by rw [hb], fun K => by rw [hb']⟩
          · have hb' : ¬ ∃ e k, H'[r]? = some (.box e k) := fun hh => hb ((h.1 r).2 hh)
            refine ⟨none, fun K => ?_, fun K => ?_⟩
            · split
              · rename_i hh; exact (hb ⟨_, _, hh⟩).elim
              · rfl
            · split
              · rename_i hh; exact (hb' ⟨_, _, hh⟩).elim
              · rfl
        · rename_i r g i o
          have := h.2 r g
          cases h1 : getRow H r g with
          | none =>
            cases h2 : getRow H' r g with
            | none => exact ⟨none, fun K => rfl, fun K => rfl⟩
            | some _ => rw [h1, h2] at this; cases this
          | some _ =>
            cases h2 : getRow H' r g with
            | none => rw [h1, h2] at this; cases this
            | some _ => exact ⟨some (.rptr r g i (o + off)), fun K => rfl, fun K => rfl⟩
        · exact ⟨some _, fun K => rfl, fun K => rfl⟩
        · exact ⟨none, fun K => rfl, fun K => rfl⟩
      · exact ⟨none, fun _ => rfl, fun _ => rfl⟩
    · exact ⟨none, fun _ => rfl, fun _ => rfl⟩
  obtain ⟨o, h1, h2⟩ := key
  exact (opt_inj fun K => (hs H K).symm.trans (h1 K)).trans (opt_inj fun K => (hs H' K).symm.trans (h2 K)).symm

/-- A slot that holds an address of variable r, or none. -/
def Loc (r : Nat) : Option PV → Prop
  | some (.bptr r' _) => r' = r
  | some (.rptr ..) => False
  | _ => True
structure RInv (ops : Array Oper) (env0 env : Env) : Prop where
  loc : ∀ a r, rootAt ops.toList env0 a = some r → Loc r env[a]?
  ext : ∀ t, isDst ops.toList t = false → env[t]? = env0[t]?

theorem RInv.refl (ops : Array Oper) (env : Env) : RInv ops env env := by
  refine ⟨fun a r h => ?_, fun _ _ => rfl⟩
  unfold rootAt at h
  split at h
  · split at h <;> first | (cases h; done) | skip
    split at h <;> first | (cases h; done) | skip
    split at h <;> first | (cases h; done) | skip
    split at h
    · rename_i r' _ he
      split at h <;> first | (cases h; done) | skip
      rename_i hrr
      cases h
      rw [he]
      exact Nat.eq_of_beq_eq_true hrr
    · cases h
    · rename_i h1 h2
      cases hz : env[a]? with
      | none => trivial
      | some p =>
        cases p <;> first | trivial | (exact (h1 _ _ hz).elim) | (exact (h2 _ _ _ _ hz).elim)
  · split at h <;> first | (cases h; done) | skip
    rename_i he
    cases h
    rw [he]; rfl

/-- What an operation's answer looks like. -/
def OutOk (o : Oper) (env : Env) (p : PV) : Prop := ∀ t, fieldOf o = some t → ∀ r o', env[t]? = some (.bptr r o') → (∃ o'', p = .bptr r o'') ∨ p = .tup []

theorem act_out {ops : Array Oper} {o : Oper} {env : Env} {H : Hp} {k k' : KV} (h : ∀ p H', OutOk o env p → k p H' = k' p H') : act P tb ops o env H k = act P tb ops o env H k' := by
  by_cases hf : ∃ t r o', fieldOf o = some t ∧ env[t]? = some (.bptr r o')
  · obtain ⟨t, r, o', h1, h2⟩ := hf
    have out1 : ∀ o'', OutOk o env (.bptr r o'') := fun o'' t' ht' r' z hz => by
      rw [h1] at ht'; cases ht'
      rw [h2] at hz; cases hz
      exact .inl ⟨_, rfl⟩
    have out2 : OutOk o env (.tup []) := fun t' ht' r' z hz => .inr rfl
    unfold act
    split
    · obtain ⟨dst, op, type, pos, after, guard⟩ := o
      unfold fieldOf at h1
      split at h1 <;> first | (cases h1; done) | skip
      rename_i ty tt f hop
      dsimp only at hop
      subst hop
      cases h1
      have hev : evl env (.tmp t) = .bptr r o' := by simp [evl, List.getD_eq_getElem?_getD, h2]
      simp only [aop, hev, fieldAddr']
      split
      · split
        · rfl
        · split
          · exact h _ _ (out1 _)
          · rfl
        · rfl
      · rfl
    · exact h _ _ out2
    · rfl
  · have : k = k' := by
      funext p H'
      exact h p H' fun t ht r o' he => (hf ⟨t, r, o', ht, he⟩).elim
    rw [this]

theorem dstIs_eq {o : Oper} {a : Nat} (h : dstIs o a = true) : o.dst = some a := by
  unfold dstIs at h
  split at h
  · rename_i b hb
    rw [hb, Nat.eq_of_beq_eq_true h]
  · cases h
theorem isDst_of {ops : Array Oper} {i : Nat} {o : Oper} {a : Nat} (ho : ops[i]? = some o) (h : o.dst = some a) : isDst ops.toList a = true := by
  unfold isDst
  refine List.any_eq_true.2 ⟨o, List.mem_of_getElem? (by simpa using ho), ?_⟩
  unfold dstIs
  rw [h]
  exact Nat.beq_refl a

theorem RInv.put {ops : Array Oper} {env0 env : Env} (R : RInv ops env0 env) {i : Nat} {o : Oper} (ho : ops[i]? = some o) {p : PV} (hp : OutOk o env p) : RInv ops env0 (putE env o.dst p) := by
  refine ⟨fun a r h => ?_, fun t ht => ?_⟩
  · by_cases hd : o.dst = some a
    · have hroot := h
      unfold rootAt at h
      rw [if_pos (isDst_of ho hd)] at h
      split at h <;> first | (cases h; done) | skip
      rename_i t hrs
      split at h <;> first | (cases h; done) | skip
      rename_i hc
      simp only [Bool.or_eq_true, Bool.not_eq_true', not_or, Bool.not_eq_true, Bool.not_eq_false] at hc
      obtain ⟨hc1, hc2⟩ := hc
      have hall := List.all_eq_true.1 hc2 o (List.mem_of_getElem? (by simpa using ho))
      have hdo : dstIs o a = true := by
        unfold dstIs; rw [hd]; exact Nat.beq_refl a
      rw [hdo] at hall
      simp only [Bool.not_true, Bool.false_or] at hall
      split at hall
      · rename_i t' hft
        obtain rfl := Nat.eq_of_beq_eq_true hall
        split at h <;> first | (cases h; done) | skip
        rename_i r1 o1 het
        have hr1 : r1 = r := by
          split at h
          · split at h <;> first | (cases h; done) | skip
            cases h; rfl
          · cases h
          · cases h; rfl
        subst hr1
        have hent : env[t']? = some (.bptr r1 o1) := by rw [R.ext _ hc1]; exact het
        have hout := hp t' hft r1 o1 hent
        rw [hd]
        show Loc r1 (env.set a p)[a]?
        by_cases hl : a < env.length
        · rw [set_get_self hl]
          rcases hout with ⟨o2, rfl⟩ | rfl
          · rfl
          · trivial
        · rw [List.getElem?_eq_none (by simpa using hl)]
          trivial
      · cases hall
    · have : (putE env o.dst p)[a]? = env[a]? := putE_ne fun u hu e => hd (by rw [hu, e])
      rw [this]
      exact R.loc a r h
  · have : (putE env o.dst p)[t]? = env[t]? := putE_ne fun u hu e => by
      have := isDst_of (a := u) ho hu
      rw [← e, ht] at this; cases this
    rw [this]
    exact R.ext t ht

/-- An operation that reads, and a store. -/
theorem swapS (hs : HS tb) {ops : Array Oper} {env0 env : Env} (R : RInv ops env0 env) {x y : Oper} (h : turnS ops.toList env0 x y = true) (H : Hp) (k : PV → PV → Hp → Res) :
    act P tb ops x env H (fun p H1 => act P tb ops y env H1 fun q H2 => k p q H2) = act P tb ops y env H (fun q H1 => act P tb ops x env H1 fun p H2 => k p q H2) := by
  obtain ⟨xd, xo, xt, xp, xa, xg⟩ := x
  obtain ⟨yd, yo, yt, yp, ya, yg⟩ := y
  unfold turnS at h
  simp only at h
  split at h <;> first | (cases h; done) | skip
  · -- a field's address
    rename_i t1 a1 f1 t2 a2 v2
    unfold act
    cases hgx : gd ops { dst := xd, op := .fieldAddr t1 a1 f1, type := xt, pos := xp, after := xa, guard := xg } env with
    | none =>
      cases gd ops { dst := yd, op := .store t2 a2 v2, type := yt, pos := yp, after := ya, guard := yg } env with
      | none => rfl
      | some b =>
        cases b
        · rfl
        · exact ((aop_strict hs)).symm
    | some b =>
      cases b with
      | false =>
        cases gd ops { dst := yd, op := .store t2 a2 v2, type := yt, pos := yp, after := ya, guard := yg } env with
        | none => rfl
        | some b => cases b <;> rfl
      | true =>
        cases gd ops { dst := yd, op := .store t2 a2 v2, type := yt, pos := yp, after := ya, guard := yg } env with
        | none =>
          rcases fieldAddr_nf (P := P) (t := t1) (a := evl env a1) (f := f1) (H := H) with ⟨p, hp⟩ | hn
          · exact hp (fun _ _ => none)
          · exact hn (fun _ _ => none)
        | some b =>
          cases b with
          | false => rfl
          | true =>
            obtain ⟨sel, hsel⟩ := sel_of (fun H => fieldAddr_nf (P := P) (t := t1) (a := evl env a1) (f := f1) (H := H))
            show fieldAddr' P t1 (evl env a1) f1 H (fun p H1 => store' P t2 (evl env a2) (evl env v2) H1 fun q H2 => k p q H2) = store' P t2 (evl env a2) (evl env v2) H fun q H1 => fieldAddr' P t1 (evl env a1) f1 H1 fun p H2 => k p q H2
            exact swapR (R := Same) (x := fun H => fieldAddr' P t1 (evl env a1) f1 H) (y := fun H => store' P t2 (evl env a2) (evl env v2) H) hsel (fun H H' hh => fieldAddr_same hh hsel) (fun H k k' hk => store_same hk) (fun H => aop_strict hs (o := { dst := yd, op := .store t2 a2 v2, type := yt, pos := yp, after := ya, guard := yg }) (ev := evl env)) k H
  · -- a load
    rename_i t1 b t2 a v2
    split at h <;> first | (cases h; done) | skip
    rename_i r r' hra hrb
    have hne : r ≠ r' := by
      intro e
      subst e
      rw [Nat.beq_refl] at h
      cases h
    have la := R.loc a r hra
    have lb := R.loc b r' hrb
    have hea : evl env (.tmp a) = (env[a]?).getD .undef := by simp [evl, List.getD_eq_getElem?_getD]
    have heb : evl env (.tmp b) = (env[b]?).getD .undef := by simp [evl, List.getD_eq_getElem?_getD]
    unfold act
    cases hgx : gd ops { dst := xd, op := .load t1 (.tmp b), type := xt, pos := xp, after := xa, guard := xg } env with
    | none =>
      cases gd ops { dst := yd, op := .store t2 (.tmp a) v2, type := yt, pos := yp, after := ya, guard := yg } env with
      | none => rfl
      | some c =>
        cases c
        · rfl
        · exact ((aop_strict hs)).symm
    | some c =>
      cases c with
      | false =>
        cases gd ops { dst := yd, op := .store t2 (.tmp a) v2, type := yt, pos := yp, after := ya, guard := yg } env with
        | none => rfl
        | some c => cases c <;> rfl
      | true =>
        cases gd ops { dst := yd, op := .store t2 (.tmp a) v2, type := yt, pos := yp, after := ya, guard := yg } env with
        | none =>
          rcases load_nf (P := P) (t := t1) (a := evl env (.tmp b)) (H := H) with ⟨p, hp⟩ | hn
          · exact hp (fun _ _ => none)
          · exact hn (fun _ _ => none)
        | some c =>
          cases c with
          | false => rfl
          | true =>
            have strict : ∀ H, store' P t2 (evl env (.tmp a)) (evl env v2) H (fun _ _ => none) = none := fun H => aop_strict hs (o := { dst := yd, op := .store t2 (.tmp a) v2, type := yt, pos := yp, after := ya, guard := yg }) (ev := evl env)
            show load' P t1 (evl env (.tmp b)) H (fun p H1 => store' P t2 (evl env (.tmp a)) (evl env v2) H1 fun q H2 => k p q H2) = store' P t2 (evl env (.tmp a)) (evl env v2) H fun q H1 => load' P t1 (evl env (.tmp b)) H1 fun p H2 => k p q H2
            -- where the store goes
            have hstore : (∃ o, evl env (.tmp a) = .bptr r o) ∨ ∀ H K, store' P t2 (evl env (.tmp a)) (evl env v2) H K = none := by
              rw [hea]
              cases hz : env[a]? with
              | none =>
                refine .inr fun H K => ?_
                show store' P t2 .undef _ H K = none
                unfold store'
                split
                · exact bif_none _
                · rfl
              | some p =>
                rw [hz] at la
                cases p with
                | bptr r1 o => exact .inl ⟨o, by cases la; rfl⟩
                | rptr _ _ _ _ => cases la
                | _ =>
                  refine .inr fun H K => ?_
                  unfold store'
                  split
                  · exact bif_none _
                  · rfl
            have hload : (∃ o, evl env (.tmp b) = .bptr r' o) ∨ NF0 (fun H => load' P t1 (evl env (.tmp b)) H) := by
              rw [heb]
              cases hz : env[b]? with
              | none => exact .inr (.inr fun H K => rfl)
              | some p =>
                rw [hz] at lb
                cases p with
                | bptr r1 o => exact .inl ⟨o, by cases lb; rfl⟩
                | rptr _ _ _ _ => cases lb
                | ro cs => exact .inr readCV_nf0
                | _ => exact .inr (.inr fun H K => rfl)
            rcases hstore with ⟨o, ho⟩ | hn
            · rcases hload with ⟨o', ho'⟩ | hl
              · rw [ho] at strict ⊢
                rw [ho']
                obtain ⟨sel, hsel⟩ := sel_of (fun H => load_nf (P := P) (t := t1) (a := .bptr r' o') (H := H))
                refine swapR (R := fun H H1 => H1[r']? = H[r']?) (x := fun H => load' P t1 (.bptr r' o') H) (y := fun H => store' P t2 (.bptr r o) (evl env v2) H) hsel (fun H H' hh => ?_) (fun H k k' hk => store_at fun q H1 hh => hk q H1 (hh r' (Ne.symm hne))) strict k H
                have hl : ∃ o : Option PV, (∀ K, load' P t1 (.bptr r' o') H K = match o with
                    | some p => K p H
                    | none => none) ∧ (∀ K, load' P t1 (.bptr r' o') H' K = match o with
                    | some p => K p H'
                    | none => none) := by
                  unfold load'
                  simp only
                  rw [hh]
                  split
                  · rename_i e1 k1 hb
                    rcases readPV_nf0 (P := P) (t := t1) (e := e1) (k := ksz k1) (off := o') with ⟨p, hp⟩ | hn
                    · exact ⟨some p, fun K => hp H K, fun K => hp H' K⟩
                    · exact ⟨none, fun K => hn H K, fun K => hn H' K⟩
                  · exact ⟨none, fun K => rfl, fun K => rfl⟩
                obtain ⟨oo, h1, h2⟩ := hl
                have e1 := fun K => (hsel H K).symm.trans (h1 K)
                have e2 := fun K => (hsel H' K).symm.trans (h2 K)
                exact (opt_inj e1).trans (opt_inj e2).symm
              · rcases hl with ⟨p, hp⟩ | hn
                · simp only [hp]
                · simp only [hn]; exact (strict H).symm
            · simp only [hn]
              rcases load_nf (P := P) (t := t1) (a := evl env (.tmp b)) (H := H) with ⟨p, hp⟩ | hn'
              · exact hp (fun _ _ => none)
              · exact hn' (fun _ _ => none)

theorem swap_ok (hs : HS tb) {ops : Array Oper} {env0 : Env} {x y : Oper} (h : mayTurn P ops env0 x y = true) (env : Env) (R : RInv ops env0 env) (H : Hp) (k : KS) :
    act P tb ops x env H (fun p H1 => act P tb ops y (putE env x.dst p) H1 fun q H2 => k (putE (putE env x.dst p) y.dst q) H2) =
    act P tb ops y env H (fun q H1 => act P tb ops x (putE env y.dst q) H1 fun p H2 => k (putE (putE env y.dst q) x.dst p) H2) := by
  unfold mayTurn at h
  simp only [Bool.and_eq_true, Bool.or_eq_true, beq_iff_eq] at h
  obtain ⟨⟨hc, h1⟩, h2⟩ := h
  obtain ⟨a1, a2, a3⟩ := Oper.apart_spec h1
  have e1 : ∀ p, act P tb ops y (putE env x.dst p) = act P tb ops y env := fun p => act_put a1
  have e2 : ∀ q, act P tb ops x (putE env y.dst q) = act P tb ops x env := fun q => act_put a3
  have e3 : ∀ p q, putE (putE env x.dst p) y.dst q = putE (putE env y.dst q) x.dst p := fun p q => putE_comm fun u hu => a2 u hu
  simp only [e1, e2, e3]
  rcases hc with (((hc | hc) | ⟨c1, c2⟩) | ht) | ht
  · rcases act_nf0 hs (ops := ops) (env := env) hc with ⟨p, hp⟩ | hn
    · simp only [hp]
    · simp only [hn]; exact (act_strict hs).symm
  · rcases act_nf0 hs (ops := ops) (env := env) hc with ⟨p, hp⟩ | hn
    · simp only [hp]
    · simp only [hn]; exact act_strict hs
  · rcases act_nf hs (ops := ops) (env := env) (H := H) (.inr c1) with ⟨p, hp⟩ | hn <;> rcases act_nf hs (ops := ops) (env := env) (H := H) (.inr c2) with ⟨q, hq⟩ | hm
    · simp only [hp, hq]
    · simp only [hp, hm]
    · simp only [hn, hq]
    · simp only [hn, hm]
  · exact swapS hs R ht H fun p q H2 => k (putE (putE env y.dst q) x.dst p) H2
  · exact (swapS hs R ht H fun q p H2 => k (putE (putE env y.dst q) x.dst p) H2).symm

theorem bubble (hs : HS tb) {ops : Array Oper} {env0 : Env} {i : Nat} {oi : Oper} (hi : ops[i]? = some oi) {L2 : List Nat} {K : KS} : ∀ {L1 : List Nat}, (∀ j ∈ L1, ∃ oj, ops[j]? = some oj ∧ mayTurn P ops env0 oj oi = true) → ∀ env H, RInv ops env0 env → aops P tb ops (L1 ++ i :: L2) env H K = aops P tb ops (i :: (L1 ++ L2)) env H K
  | [], _, _, _, _ => rfl
  | j :: L1, h, env, H, R => by
    obtain ⟨oj, hj, ht⟩ := h j (by simp)
    rw [List.cons_append, aops_cons hj]
    rw [act_out (k' := fun p H' => act P tb ops oi (putE env oj.dst p) H' fun q H2 => aops P tb ops (L1 ++ L2) (putE (putE env oj.dst p) oi.dst q) H2 K) fun p H' hp => by
      rw [bubble hs (K := K) (L2 := L2) hi (L1 := L1) (fun j hj => h j (by simp [hj])) _ _ (R.put hj hp), aops_cons hi]]
    rw [swap_ok hs ht env R H (fun env H => aops P tb ops (L1 ++ L2) env H K), aops_cons hi]
    congr 1
    funext q H1
    rw [List.cons_append, aops_cons hj]

end Go.Pv
