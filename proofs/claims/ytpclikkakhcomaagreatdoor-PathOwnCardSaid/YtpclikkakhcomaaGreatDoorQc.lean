/- Regions whose order is drawn. -/
import Derived.Test.YtpclikkakhcomaaGreatDoorQb
import Derived.Shelf.Strings.OnBuilder
import Derived.Shelf.Strings.Cut
import Derived.Shelf.Strings.Split
import Derived.Shelf.Unicode.DecodeLast
import Derived.Test.YtpclikkakhcomaaGreatDoorProg
import Derived.Lib.SpaceU
import Derived.Laws.RangeAny
import Derived.Lib.TrimUEq
import Derived.Lib.TrimU

namespace Go.Pv
set_option linter.unusedVariables false
open Go

variable {P : Program} {tb : Handler}

/-! ### What an operation hangs on -/
theorem aop_congr {o : Oper} {ev ev' : Operand → PV} (h : ∀ x ∈ o.op.operands, ev x = ev' x) : aop P tb o ev = aop P tb o ev' := by
  obtain ⟨dst, op, type, pos, after, guard⟩ := o
  simp only at h
  funext H K
  have pairs : ∀ ps : Array (Nat × Operand), (∀ x ∈ ps.map (·.2), ev x = ev' x) → (ps.toList.map fun (i, x) => (i, ev x)) = (ps.toList.map fun (i, x) => (i, ev' x)) := fun ps hp =>
    List.map_congr_left fun p hm => by
      obtain ⟨i, x⟩ := p
      simp only [hp x (Array.mem_map.2 ⟨(i, x), by simpa using hm, rfl⟩)]
  cases op <;> simp only [Op.operands] at h <;> simp only [aop]
  case build t ps => rw [pairs ps fun x hx => h x (by simpa using hx)]
  case buildSlice t n ps => rw [pairs ps fun x hx => h x (by simpa using hx)]
  case makeFunc fn first captured =>
    cases fn <;> simp only
    rw [List.map_congr_left fun x hx => h x (by simp at hx ⊢; exact .inr hx)]
  case slice t x lo hi mx =>
    have hx := h x (by simp)
    have h1 : lo.map ev = lo.map ev' := by cases lo with | none => rfl | some y => simp [h y (by simp)]
    have h2 : hi.map ev = hi.map ev' := by cases hi with | none => rfl | some y => simp [h y (by simp)]
    have h3 : mx.map ev = mx.map ev' := by cases mx with | none => rfl | some y => simp [h y (by simp)]
    rw [hx, h1, h2, h3]
  case call c =>
    have hargs : c.args.toList.map ev = c.args.toList.map ev' := List.map_congr_left fun x hx => h x (by simp [Call.operands]; exact .inr (by simpa using hx))
    cases hc : c.callee with
    | builtin b => simp only [hargs]
    | value f =>
      have hf : ev f = ev' f := h f (by simp [Call.operands, hc])
      simp only [hargs, hf]
    | invoke r m => rfl
  case pick c a b => rw [h c (by simp), h a (by simp), h b (by simp)]
  case binOp op t x y u => rw [h x (by simp), h y (by simp)]
  case store t x y => rw [h x (by simp), h y (by simp)]
  case makeSlice t x y => rw [h x (by simp), h y (by simp)]
  case indexAddr t x y => rw [h x (by simp), h y (by simp)]
  case index t x y => rw [h x (by simp), h y (by simp)]
  case next x b => cases b <;> simp only; rw [h x (by simp)]
  all_goals first
    | rfl
    | (rename_i x; rw [h x (by simp)])
    | (rename_i x _; rw [h x (by simp)])
    | (rename_i x _ _; rw [h x (by simp)])


/-- What is wanted of a handler here. -/
structure HS (tb : Handler) : Prop where
  strict : ∀ f args H, tb f args H (fun _ _ => none) = none
  pure : ∀ f cs, noBox cs = true → NF0 (fun H K => tb f (cs.map .c) H (dataK K))
theorem HOk.hs {I : World → Prop} {ng : Nat} (h : HOk P I ng tb) : HS tb := ⟨h.strict, h.pure⟩

theorem aop_strict (hs : HS tb) {o : Oper} {ev : Operand → PV} {H : Hp} : aop P tb o ev H (fun _ _ => none) = none := by
  by_cases hc : opClass P o = 0 ∨ opClass P o = 1
  · rcases aop_nf (tb := tb) hs.pure (ev := ev) (H := H) hc with ⟨p, hp⟩ | hn
    · rw [hp]
    · rw [hn]
  have hconv : ∀ s d x, convert' P s d x H (fun _ _ => none) = none := by
    intro s d x
    unfold convert'
    split
    · rfl
    · rfl
    · split <;> rfl
    · split
      · split <;> rfl
      · rfl
    · split
      · split <;> rfl
      · rfl
    · split
      · exact bif_none _
      · rfl
    · rfl
  have hus : ∀ pt x n, unsafeString' P pt x n H (fun _ _ => none) = none := by
    intro pt x n
    unfold unsafeString'
    split
    · exact bif_none _
    · split
      · split
        · simp only [bif_none]
        · rfl
      · rfl
    · rfl
  have hstore : ∀ t a x, store' P t a x H (fun _ _ => none) = none := by
    intro t a x
    unfold store'
    split
    · rename_i n m hn hm
      have : ∀ y : Res, y = none → bif' (n == m) y none = none := fun y hy => by rw [hy]; exact bif_none _
      refine this _ ?_
      split
      · split
        · split
          · exact bif_none _
          · exact bif_none _
        · rfl
      · split
        · split
          · split
            · exact bif_none _
            · rfl
          · rfl
        · rfl
      · rfl
    · rfl
  have hbs : ∀ t n ps, buildSlice' P t n ps H (fun _ _ => none) = none := by
    intro t n ps
    unfold buildSlice'
    split
    · split
      · split
        · split
          · exact bif_none _
          · rfl
        · rfl
      · rfl
    · rfl
  have hms : ∀ t l c, makeSlice' P t l c H (fun _ _ => none) = none := by
    intro t l c
    unfold makeSlice'
    split
    · split
      · split
        · simp only [bif_none]
        · rfl
      · rfl
    · rfl
  have hcall : ∀ f args, tb f args H (fun _ _ => none) = none := fun f args => hs.strict f args H
  have hext : ∀ f args, ext' P f args H (fun _ _ => none) = none := by
    intro f args
    unfold ext'
    split
    · split <;> rfl
    · split <;> rfl
    · rfl
  have hcopy : ∀ t d x, copy' P t d x H (fun _ _ => none) = none := by
    intro t d x
    unfold copy'
    split
    · split
      · split
        · exact bif_none _
        · rfl
      · rfl
    · rfl
  have happ : ∀ t s x, append' P t s x H (fun _ _ => none) = none := by
    intro t s x
    unfold append'
    split
    · split
      · split
        · split
          · simp only [bif_none]
          · split
            · simp only [bif_none]
            · rfl
          · split
            · split
              · simp only [bif_none]
              · rfl
            · rfl
          · split
            · split
              · simp only [bif_none]
              · rfl
            · rfl
          · rfl
        · rfl
      · rfl
    · rfl
  obtain ⟨dst, op, type, pos, after, guard⟩ := o
  unfold aop
  cases op <;> (try simp only) <;> (try rfl)
  case pick c a b => split <;> first | exact bif_none _ | rfl
  case alloc t =>
    split
    · split <;> rfl
    · rfl
  case box t x =>
    split
    · split <;> rfl
    · rfl
  case build t ps => exact absurd (.inl rfl) hc
  case buildSlice t n ps => exact hbs _ _ _
  case load t x => exact absurd (.inr rfl) hc
  case store t x y => exact hstore _ _ _
  case nilCheck x => exact absurd (.inr rfl) hc
  case binOp op t x y u => cases op <;> first | exact absurd (.inl rfl) hc | exact absurd (.inr rfl) hc
  case unOp op t x => exact absurd (.inl rfl) hc
  case convert s d x => exact hconv _ _ _
  case makeInterface t x => exact absurd (.inl rfl) hc
  case makeFunc fn first captured =>
    cases fn <;> simp only
    split <;> rfl
  case makeSlice t l c => exact hms _ _ _
  case slice t x lo hi mx =>
    exfalso; apply hc
    simp only [opClass]
    split
    · exact .inl rfl
    · exact .inr rfl
  case fieldAddr t x f => exact absurd (.inr rfl) hc
  case field t x f => exact absurd (.inl rfl) hc
  case indexAddr t x i => exact absurd (.inr rfl) hc
  case index t x i => exact absurd (.inl rfl) hc
  case range t x => split <;> rfl
  case next x b =>
    cases b <;> simp only
    split
    · split
      · exact bif_none _
      · rfl
    · rfl
  case extract t i => exact absurd (.inl rfl) hc
  case call c =>
    split
    · unfold builtin'
      split
      · rename_i _ _ hcal
        exfalso; apply hc
        simp [opClass, hcal]
      · split
        · rfl
        · exact happ _ _ _
        · rfl
      · exact hcopy _ _ _
      · rename_i _ hcal
        exfalso; apply hc
        simp [opClass, hcal]
      · exact hus _ _ _
      · rfl
    · split
      · rcases pure_nf0 (P := P) hs.pure with ⟨p, hp⟩ | hn
        · exact hp H _
        · exact hn H _
      · split
        · split
          · exact hcall _ _
          · exact hext _ _
        · split
          · exact hcall _ _
          · exact hext _ _
        · rfl
    · rfl

/-! ### One step, its guard decided -/
def gd (ops : Array Oper) (o : Oper) (env : Env) : Option Bool :=
  match o.guard with
  | none => some true
  | some (j, want) => match ((ops[j]?).bind (·.dst)) with
    | none => some false
    | some t => match env[t]? with
      | some (.c (.bool b)) => some (b == want)
      | some (.tup []) => some false
      | _ => none
def act (P : Program) (tb : Handler) (ops : Array Oper) (o : Oper) (env : Env) (H : Hp) (K : KV) : Res :=
  match gd ops o env with
  | some true => aop P tb o (evl env) H K
  | some false => K (.tup []) H
  | none => none
theorem guarded_eq {ops : Array Oper} {o : Oper} {env : Env} {yes no : Env → Res} : guarded ops o env yes no = match gd ops o env with
    | some true => yes env
    | some false => no env
    | none => none := by
  cases hg : o.guard with
  | none => simp only [guarded, gd, hg]
  | some g =>
    obtain ⟨j, want⟩ := g
    cases hd : (ops[j]?).bind (·.dst) with
    | none => simp only [guarded, gd, hg, hd]
    | some t =>
      simp only [guarded, gd, hg, hd]
      cases ht : env[t]? with
      | none => rfl
      | some v =>
        split
        · rename_i b hb
          cases hb
          cases b <;> cases want <;> simp [bif', set_self ht]
        · rename_i hb
          cases hb
          rfl
        · rename_i h1 h2
          split
          all_goals first
            | rfl
            | (rename_i hh; revert hh; split <;> simp_all)
theorem aops_cons {ops : Array Oper} {i : Nat} {o : Oper} {rest : List Nat} {env : Env} {H : Hp} {K : KS} (ho : ops[i]? = some o) :
    aops P tb ops (i :: rest) env H K = act P tb ops o env H fun p H' => aops P tb ops rest (putE env o.dst p) H' K := by
  rw [aops]
  simp only [ho, guarded_eq, act]

theorem act_strict (hs : HS tb) {ops : Array Oper} {o : Oper} {env : Env} {H : Hp} : act P tb ops o env H (fun _ _ => none) = none := by
  unfold act
  split
  · exact aop_strict hs
  · rfl
  · rfl
theorem act_nf0 (hs : HS tb) {ops : Array Oper} {o : Oper} {env : Env} (h : opClass P o = 0) : NF0 (act P tb ops o env) := by
  unfold act
  split
  · exact aop_nf0 hs.pure h
  · exact NF0.ret _
  · exact NF0.no
theorem act_nf (hs : HS tb) {ops : Array Oper} {o : Oper} {env : Env} {H : Hp} (h : opClass P o = 0 ∨ opClass P o = 1) : NF H (act P tb ops o env H) := by
  unfold act
  split
  · exact aop_nf hs.pure h
  · exact NF.ret H _
  · exact NF.no H

theorem putE_ne {env : Env} {d : Option Tmp} {p : PV} {t : Nat} (h : ∀ u, d = some u → t ≠ u) : (putE env d p)[t]? = env[t]? := by
  cases d with
  | none => rfl
  | some u => exact set_get_ne (h u rfl)
theorem putE_comm {env : Env} {d e : Option Tmp} {p q : PV} (h : ∀ u, d = some u → e ≠ some u) : putE (putE env d p) e q = putE (putE env e q) d p := by
  cases d with
  | none => rfl
  | some u =>
    cases e with
    | none => rfl
    | some v =>
      have hne : u ≠ v := fun e => h u rfl (by rw [e])
      exact List.set_comm _ _ hne

theorem act_put {ops : Array Oper} {o x : Oper} {env : Env} {p : PV} (h : ∀ d, x.dst = some d → d ∉ o.looksAt ops) : act P tb ops o (putE env x.dst p) = act P tb ops o env := by
  have hg : gd ops o (putE env x.dst p) = gd ops o env := by
    unfold gd
    split
    · rfl
    · rename_i j want hg
      split
      · rfl
      · rename_i t ht
        have : (putE env x.dst p)[t]? = env[t]? := putE_ne fun u hu e => h u hu (by
          unfold Oper.looksAt
          rw [hg]
          simp [ht, e])
        rw [this]
  have he : aop P tb o (evl (putE env x.dst p)) = aop P tb o (evl env) := aop_congr fun y hy => by
    cases y with
    | tmp t =>
      have : (putE env x.dst p)[t]? = env[t]? := putE_ne fun u hu e => h u hu (by
        unfold Oper.looksAt
        refine List.mem_append_left _ (List.mem_filterMap.2 ⟨.tmp t, by simpa using hy, by simp [e]⟩))
      simp only [evl, List.getD_eq_getElem?_getD, this]
    | _ => rfl
  funext H K
  unfold act
  rw [hg, he]

/-! ### Changing places -/
/-- x looks at the memory by 'sel' alone. -/
def Sel (x : Hp → KV → Res) (sel : Hp → Option PV) : Prop := ∀ H K, x H K = match sel H with
  | some p => K p H
  | none => none
theorem sel_of {x : Hp → KV → Res} (h : ∀ H, NF H (x H)) : ∃ sel, Sel x sel := by
  have : ∀ H, ∃ o : Option PV, ∀ K, x H K = match o with
      | some p => K p H
      | none => none := fun H => by
    rcases h H with ⟨p, hp⟩ | hn
    · exact ⟨some p, hp⟩
    · exact ⟨none, hn⟩
  exact ⟨fun H => Classical.choose (this H), fun H => Classical.choose_spec (this H)⟩
theorem swapR {R : Hp → Hp → Prop} {x y : Hp → KV → Res} {sel : Hp → Option PV} (hx : Sel x sel) (hR : ∀ H H', R H H' → sel H = sel H') (hy : ∀ H k k', (∀ q H1, R H H1 → k q H1 = k' q H1) → y H k = y H k') (hys : ∀ H, y H (fun _ _ => none) = none) (k : PV → PV → Hp → Res) (H : Hp) :
    x H (fun p H1 => y H1 fun q H2 => k p q H2) = y H (fun q H1 => x H1 fun p H2 => k p q H2) := by
  rw [hx]
  cases hs : sel H with
  | none =>
    refine ((hys H).symm.trans (hy H _ _ fun q H1 hr => ?_))
    rw [hx, ← hR _ _ hr, hs]
  | some p =>
    refine hy H _ _ fun q H1 hr => ?_
    rw [hx, ← hR _ _ hr, hs]

/-- The same variables and rows. -/
def Same (H H' : Hp) : Prop := (∀ r : Nat, (∃ e k, H[r]? = some (AO.box e k)) ↔ (∃ e k, H'[r]? = some (AO.box e k))) ∧ ∀ r g : Nat, (getRow H r g).isSome = (getRow H' r g).isSome
theorem Same.refl (H : Hp) : Same H H := ⟨fun _ => Iff.rfl, fun _ _ => rfl⟩
theorem Same.trans {H H1 H2 : Hp} (h : Same H H1) (h' : Same H1 H2) : Same H H2 := ⟨fun r => (h.1 r).trans (h'.1 r), fun r g => (h.2 r g).trans (h'.2 r g)⟩
theorem same_box {H : Hp} {r k k' : Nat} {e e' : PV} (h : H[r]? = some (.box e k)) : Same H (H.set r (.box e' k')) := by
  have hl := (List.getElem?_eq_some_iff.1 h).1
  refine ⟨fun r' => ?_, fun r' g => ?_⟩
  · by_cases he : r' = r
    · subst he
      rw [set_get_self hl]
      exact ⟨fun _ => ⟨_, _, rfl⟩, fun _ => ⟨_, _, h⟩⟩
    · rw [set_get_ne he]
  · unfold getRow
    by_cases he : r' = r
    · subst he
      rw [set_get_self hl, h]
    · rw [set_get_ne he]
theorem same_row {H : Hp} {r k k' g : Nat} {xs xs' : List CV} {s s' : Bool} (h : H[r]? = some (.row xs k g s)) : Same H (H.set r (.row xs' k' g s')) := by
  have hl := (List.getElem?_eq_some_iff.1 h).1
  refine ⟨fun r' => ?_, fun r' g' => ?_⟩
  · by_cases he : r' = r
    · subst he
      rw [set_get_self hl, h]
      exact ⟨fun ⟨_, _, hh⟩ => (by cases hh), fun ⟨_, _, hh⟩ => (by cases hh)⟩
    · rw [set_get_ne he]
  · unfold getRow
    by_cases he : r' = r
    · subst he
      rw [set_get_self hl, h]
      dsimp only
      split <;> rfl
    · rw [set_get_ne he]
theorem same_seal (H : Hp) (r : Nat) : Same H (sealRow H r) := by
  unfold sealRow
  split
  · rename_i h; exact same_row h
  · exact .refl H
theorem same_closeCell {p : PV} {H H' : Hp} {x : CV} (h : closeCell p H = some (x, H')) : Same H H' := by
  unfold closeCell at h
  split at h <;> first | (cases h; done) | skip
  · split at h <;> first | (cases h; done) | skip
    cases h; exact .refl H
  · split at h <;> first | (cases h; done) | skip
    cases h; exact same_seal _ _
  · split at h <;> first | (cases h; done) | skip
    cases h; exact same_seal _ _
  · cases h; exact .refl H
theorem same_closeCells : ∀ {ps : List PV} {H H' : Hp} {xs : List CV}, closeCells ps H = some (xs, H') → Same H H'
  | [], H, H', xs, h => by cases h; exact .refl H
  | p :: ps, H, H', xs, h => by
    simp only [closeCells] at h
    split at h <;> first | (cases h; done) | skip
    rename_i x H1 hx
    split at h <;> first | (cases h; done) | skip
    rename_i xs' H2 hxs
    cases h
    exact (same_closeCell hx).trans (same_closeCells hxs)
theorem same_closeVal {p : PV} {H H' : Hp} {x : CV} (h : closeVal p H = some (x, H')) : Same H H' := by
  unfold closeVal at h
  split at h
  · cases h; exact .refl H
  · split at h <;> first | (cases h; done) | skip
    rename_i hc
    cases h; exact same_closeCells hc
  · exact same_closeCell h

theorem store_same {t : TypeId} {a x : PV} {H : Hp} {k k' : KV} (h : ∀ q H1, Same H H1 → k q H1 = k' q H1) : store' P t a x H k = store' P t a x H k' := by
  unfold store'
  split
  · congr 1
    split
    · split
      · rename_i hr
        congr 1
        split
        · exact h _ _ (same_box hr)
        · rfl
      · rfl
    · split
      · rename_i hc
        split
        · rename_i hr0
          have hr := getRow_some hr0
          split
          · congr 1
            exact h _ _ ((same_closeVal hc).trans (same_row hr))
          · rfl
        · rfl
      · rfl
    · rfl
  · rfl
theorem store_at {t : TypeId} {r o : Nat} {x : PV} {H : Hp} {k k' : KV} (h : ∀ q H1, (∀ r', r' ≠ r → H1[r']? = H[r']?) → k q H1 = k' q H1) : store' P t (.bptr r o) x H k = store' P t (.bptr r o) x H k' := by
  unfold store'
  split
  · congr 1
    dsimp only
    split
    · congr 1
      split
      · exact h _ _ fun r' hr' => set_get_ne hr'
      · rfl
    · rfl
  · rfl

theorem opt_inj {H : Hp} {s o : Option PV} (he : ∀ K : KV, (match s with
      | some p => K p H
      | none => none) = match o with
      | some p => K p H
      | none => none) : s = o := by
  classical
  cases s with
  | none =>
    cases o with
    | none => rfl
    | some p => have := he (fun _ _ => some (.nilif, [])); cases this
  | some q =>
    cases o with
    | none => have := he (fun _ _ => some (.nilif, [])); cases this
    | some p =>
      by_cases hpq : q = p
      · rw [hpq]
      · have := he (fun z _ => if z = q then some (.nilif, []) else none)
        simp [Ne.symm hpq] at this
theorem fieldAddr_same {t : TypeId} {a : PV} {f : Nat} {H H' : Hp} (h : Same H H') {sel : Hp → Option PV} (hs : Sel (fun H => fieldAddr' P t a f H) sel) : sel H = sel H' := by
  have key : ∃ o : Option PV, (∀ K, fieldAddr' P t a f H K = match o with
      | some p => K p H
      | none => none) ∧ (∀ K, fieldAddr' P t a f H' K = match o with
      | some p => K p H'
      | none => none) := by
    unfold fieldAddr'
    split
    · rename_i off ft hf
      split
      · exact ⟨none, fun _ => rfl, fun _ => rfl⟩
      · split
        · rename_i r o
          by_cases hb : ∃ e k, H[r]? = some (.box e k)
          · obtain ⟨e', k', hb'⟩ := (h.1 r).1 hb
            obtain ⟨e, k, hb⟩ := hb
            exact ⟨some (.bptr r (o + off)), fun K => by rw [hb], fun K => by rw [hb']⟩
          · have hb' : ¬ ∃ e k, H'[r]? = some (.box e k) := fun hh => hb ((h.1 r).2 hh)
            refine ⟨none, fun K => ?_, fun K => ?_⟩
            · split
              · rename_i hh; exact (hb ⟨_, _, hh⟩).elim
              · rfl
            · split
              · rename_i hh; exact (hb' ⟨_, _, hh⟩).elim
              · rfl
        · rename_i r g i o
          have := h.2 r g
          cases h1 : getRow H r g with
          | none =>
            cases h2 : getRow H' r g with
            | none => exact ⟨none, fun K => rfl, fun K => rfl⟩
            | some _ => rw [h1, h2] at this; cases this
          | some _ =>
            cases h2 : getRow H' r g with
            | none => rw [h1, h2] at this; cases this
            | some _ => exact ⟨some (.rptr r g i (o + off)), fun K => rfl, fun K => rfl⟩
        · exact ⟨some _, fun K => rfl, fun K => rfl⟩
        · exact ⟨none, fun K => rfl, fun K => rfl⟩
      · exact ⟨none, fun _ => rfl, fun _ => rfl⟩
    · exact ⟨none, fun _ => rfl, fun _ => rfl⟩
  obtain ⟨o, h1, h2⟩ := key
  exact (opt_inj fun K => (hs H K).symm.trans (h1 K)).trans (opt_inj fun K => (hs H' K).symm.trans (h2 K)).symm

/-- A slot that holds an address of variable r, or none. -/
def Loc (r : Nat) : Option PV → Prop
  | some (.bptr r' _) => r' = r
  | some (.rptr ..) => False
  | _ => True
structure RInv (ops : Array Oper) (env0 env : Env) : Prop where
  loc : ∀ a r, rootAt ops.toList env0 a = some r → Loc r env[a]?
  ext : ∀ t, isDst ops.toList t = false → env[t]? = env0[t]?

theorem RInv.refl (ops : Array Oper) (env : Env) : RInv ops env env := by
  refine ⟨fun a r h => ?_, fun _ _ => rfl⟩
  unfold rootAt at h
  split at h
  · split at h <;> first | (cases h; done) | skip
    split at h <;> first | (cases h; done) | skip
    split at h <;> first | (cases h; done) | skip
    split at h
    · rename_i r' _ he
      split at h <;> first | (cases h; done) | skip
      rename_i hrr
      cases h
      rw [he]
      exact Nat.eq_of_beq_eq_true hrr
    · cases h
    · rename_i h1 h2
      cases hz : env[a]? with
      | none => trivial
      | some p =>
        cases p <;> first | trivial | (exact (h1 _ _ hz).elim) | (exact (h2 _ _ _ _ hz).elim)
  · split at h <;> first | (cases h; done) | skip
    rename_i he
    cases h
    rw [he]; rfl

/-- What an operation's answer looks like. -/
def OutOk (o : Oper) (env : Env) (p : PV) : Prop := ∀ t, fieldOf o = some t → ∀ r o', env[t]? = some (.bptr r o') → (∃ o'', p = .bptr r o'') ∨ p = .tup []

theorem act_out {ops : Array Oper} {o : Oper} {env : Env} {H : Hp} {k k' : KV} (h : ∀ p H', OutOk o env p → k p H' = k' p H') : act P tb ops o env H k = act P tb ops o env H k' := by
  by_cases hf : ∃ t r o', fieldOf o = some t ∧ env[t]? = some (.bptr r o')
  · obtain ⟨t, r, o', h1, h2⟩ := hf
    have out1 : ∀ o'', OutOk o env (.bptr r o'') := fun o'' t' ht' r' z hz => by
      rw [h1] at ht'; cases ht'
      rw [h2] at hz; cases hz
      exact .inl ⟨_, rfl⟩
    have out2 : OutOk o env (.tup []) := fun t' ht' r' z hz => .inr rfl
    unfold act
    split
    · obtain ⟨dst, op, type, pos, after, guard⟩ := o
      unfold fieldOf at h1
      split at h1 <;> first | (cases h1; done) | skip
      rename_i ty tt f hop
      dsimp only at hop
      subst hop
      cases h1
      have hev : evl env (.tmp t) = .bptr r o' := by simp [evl, List.getD_eq_getElem?_getD, h2]
      simp only [aop, hev, fieldAddr']
      split
      · split
        · rfl
        · split
          · exact h _ _ (out1 _)
          · rfl
        · rfl
      · rfl
    · exact h _ _ out2
    · rfl
  · have : k = k' := by
      funext p H'
      exact h p H' fun t ht r o' he => (hf ⟨t, r, o', ht, he⟩).elim
    rw [this]

theorem dstIs_eq {o : Oper} {a : Nat} (h : dstIs o a = true) : o.dst = some a := by
  unfold dstIs at h
  split at h
  · rename_i b hb
    rw [hb, Nat.eq_of_beq_eq_true h]
  · cases h
theorem isDst_of {ops : Array Oper} {i : Nat} {o : Oper} {a : Nat} (ho : ops[i]? = some o) (h : o.dst = some a) : isDst ops.toList a = true := by
  unfold isDst
  refine List.any_eq_true.2 ⟨o, List.mem_of_getElem? (by simpa using ho), ?_⟩
  unfold dstIs
  rw [h]
  exact Nat.beq_refl a

theorem RInv.put {ops : Array Oper} {env0 env : Env} (R : RInv ops env0 env) {i : Nat} {o : Oper} (ho : ops[i]? = some o) {p : PV} (hp : OutOk o env p) : RInv ops env0 (putE env o.dst p) := by
  refine ⟨fun a r h => ?_, fun t ht => ?_⟩
  · by_cases hd : o.dst = some a
    · have hroot := h
      unfold rootAt at h
      rw [if_pos (isDst_of ho hd)] at h
      split at h <;> first | (cases h; done) | skip
      rename_i t hrs
      split at h <;> first | (cases h; done) | skip
      rename_i hc
      simp only [Bool.or_eq_true, Bool.not_eq_true', not_or, Bool.not_eq_true, Bool.not_eq_false] at hc
      obtain ⟨hc1, hc2⟩ := hc
      have hall := List.all_eq_true.1 hc2 o (List.mem_of_getElem? (by simpa using ho))
      have hdo : dstIs o a = true := by
        unfold dstIs; rw [hd]; exact Nat.beq_refl a
      rw [hdo] at hall
      simp only [Bool.not_true, Bool.false_or] at hall
      split at hall
      · rename_i t' hft
        obtain rfl := Nat.eq_of_beq_eq_true hall
        split at h <;> first | (cases h; done) | skip
        rename_i r1 o1 het
        have hr1 : r1 = r := by
          split at h
          · split at h <;> first | (cases h; done) | skip
            cases h; rfl
          · cases h
          · cases h; rfl
        subst hr1
        have hent : env[t']? = some (.bptr r1 o1) := by rw [R.ext _ hc1]; exact het
        have hout := hp t' hft r1 o1 hent
        rw [hd]
        show Loc r1 (env.set a p)[a]?
        by_cases hl : a < env.length
        · rw [set_get_self hl]
          rcases hout with ⟨o2, rfl⟩ | rfl
          · rfl
          · trivial
        · rw [List.getElem?_eq_none (by simpa using hl)]
          trivial
      · cases hall
    · have : (putE env o.dst p)[a]? = env[a]? := putE_ne fun u hu e => hd (by rw [hu, e])
      rw [this]
      exact R.loc a r h
  · have : (putE env o.dst p)[t]? = env[t]? := putE_ne fun u hu e => by
      have := isDst_of (a := u) ho hu
      rw [← e, ht] at this; cases this
    rw [this]
    exact R.ext t ht

/-- An operation that reads, and a store. -/
theorem swapS (hs : HS tb) {ops : Array Oper} {env0 env : Env} (R : RInv ops env0 env) {x y : Oper} (h : turnS ops.toList env0 x y = true) (H : Hp) (k : PV → PV → Hp → Res) :
    act P tb ops x env H (fun p H1 => act P tb ops y env H1 fun q H2 => k p q H2) = act P tb ops y env H (fun q H1 => act P tb ops x env H1 fun p H2 => k p q H2) := by
  obtain ⟨xd, xo, xt, xp, xa, xg⟩ := x
  obtain ⟨yd, yo, yt, yp, ya, yg⟩ := y
  unfold turnS at h
  simp only at h
  split at h <;> first | (cases h; done) | skip
  · -- a field's address
    rename_i t1 a1 f1 t2 a2 v2
    unfold act
    cases hgx : gd ops { dst := xd, op := .fieldAddr t1 a1 f1, type := xt, pos := xp, after := xa, guard := xg } env with
    | none =>
      cases gd ops { dst := yd, op := .store t2 a2 v2, type := yt, pos := yp, after := ya, guard := yg } env with
      | none => rfl
      | some b =>
        cases b
        · rfl
        · exact ((aop_strict hs)).symm
    | some b =>
      cases b with
      | false =>
        cases gd ops { dst := yd, op := .store t2 a2 v2, type := yt, pos := yp, after := ya, guard := yg } env with
        | none => rfl
        | some b => cases b <;> rfl
      | true =>
        cases gd ops { dst := yd, op := .store t2 a2 v2, type := yt, pos := yp, after := ya, guard := yg } env with
        | none =>
          rcases fieldAddr_nf (P := P) (t := t1) (a := evl env a1) (f := f1) (H := H) with ⟨p, hp⟩ | hn
          · exact hp (fun _ _ => none)
          · exact hn (fun _ _ => none)
        | some b =>
          cases b with
          | false => rfl
          | true =>
            obtain ⟨sel, hsel⟩ := sel_of (fun H => fieldAddr_nf (P := P) (t := t1) (a := evl env a1) (f := f1) (H := H))
            show fieldAddr' P t1 (evl env a1) f1 H (fun p H1 => store' P t2 (evl env a2) (evl env v2) H1 fun q H2 => k p q H2) = store' P t2 (evl env a2) (evl env v2) H fun q H1 => fieldAddr' P t1 (evl env a1) f1 H1 fun p H2 => k p q H2
            exact swapR (R := Same) (x := fun H => fieldAddr' P t1 (evl env a1) f1 H) (y := fun H => store' P t2 (evl env a2) (evl env v2) H) hsel (fun H H' hh => fieldAddr_same hh hsel) (fun H k k' hk => store_same hk) (fun H => aop_strict hs (o := { dst := yd, op := .store t2 a2 v2, type := yt, pos := yp, after := ya, guard := yg }) (ev := evl env)) k H
  · -- a load
    rename_i t1 b t2 a v2
    split at h <;> first | (cases h; done) | skip
    rename_i r r' hra hrb
    have hne : r ≠ r' := by
      intro e
      subst e
      rw [Nat.beq_refl] at h
      cases h
    have la := R.loc a r hra
    have lb := R.loc b r' hrb
    have hea : evl env (.tmp a) = (env[a]?).getD .undef := by simp [evl, List.getD_eq_getElem?_getD]
    have heb : evl env (.tmp b) = (env[b]?).getD .undef := by simp [evl, List.getD_eq_getElem?_getD]
    unfold act
    cases hgx : gd ops { dst := xd, op := .load t1 (.tmp b), type := xt, pos := xp, after := xa, guard := xg } env with
    | none =>
      cases gd ops { dst := yd, op := .store t2 (.tmp a) v2, type := yt, pos := yp, after := ya, guard := yg } env with
      | none => rfl
      | some c =>
        cases c
        · rfl
        · exact ((aop_strict hs)).symm
    | some c =>
      cases c with
      | false =>
        cases gd ops { dst := yd, op := .store t2 (.tmp a) v2, type := yt, pos := yp, after := ya, guard := yg } env with
        | none => rfl
        | some c => cases c <;> rfl
      | true =>
        cases gd ops { dst := yd, op := .store t2 (.tmp a) v2, type := yt, pos := yp, after := ya, guard := yg } env with
        | none =>
          rcases load_nf (P := P) (t := t1) (a := evl env (.tmp b)) (H := H) with ⟨p, hp⟩ | hn
          · exact hp (fun _ _ => none)
          · exact hn (fun _ _ => none)
        | some c =>
          cases c with
          | false => rfl
          | true =>
            have strict : ∀ H, store' P t2 (evl env (.tmp a)) (evl env v2) H (fun _ _ => none) = none := fun H => aop_strict hs (o := { dst := yd, op := .store t2 (.tmp a) v2, type := yt, pos := yp, after := ya, guard := yg }) (ev := evl env)
            show load' P t1 (evl env (.tmp b)) H (fun p H1 => store' P t2 (evl env (.tmp a)) (evl env v2) H1 fun q H2 => k p q H2) = store' P t2 (evl env (.tmp a)) (evl env v2) H fun q H1 => load' P t1 (evl env (.tmp b)) H1 fun p H2 => k p q H2
            -- where the store goes
            have hstore : (∃ o, evl env (.tmp a) = .bptr r o) ∨ ∀ H K, store' P t2 (evl env (.tmp a)) (evl env v2) H K = none := by
              rw [hea]
              cases hz : env[a]? with
              | none =>
                refine .inr fun H K => ?_
                show store' P t2 .undef _ H K = none
                unfold store'
                split
                · exact bif_none _
                · rfl
              | some p =>
                rw [hz] at la
                cases p with
                | bptr r1 o => exact .inl ⟨o, by cases la; rfl⟩
                | rptr _ _ _ _ => cases la
                | _ =>
                  refine .inr fun H K => ?_
                  unfold store'
                  split
                  · exact bif_none _
                  · rfl
            have hload : (∃ o, evl env (.tmp b) = .bptr r' o) ∨ NF0 (fun H => load' P t1 (evl env (.tmp b)) H) := by
              rw [heb]
              cases hz : env[b]? with
              | none => exact .inr (.inr fun H K => rfl)
              | some p =>
                rw [hz] at lb
                cases p with
                | bptr r1 o => exact .inl ⟨o, by cases lb; rfl⟩
                | rptr _ _ _ _ => cases lb
                | ro cs => exact .inr readCV_nf0
                | _ => exact .inr (.inr fun H K => rfl)
            rcases hstore with ⟨o, ho⟩ | hn
            · rcases hload with ⟨o', ho'⟩ | hl
              · rw [ho] at strict ⊢
                rw [ho']
                obtain ⟨sel, hsel⟩ := sel_of (fun H => load_nf (P := P) (t := t1) (a := .bptr r' o') (H := H))
                refine swapR (R := fun H H1 => H1[r']? = H[r']?) (x := fun H => load' P t1 (.bptr r' o') H) (y := fun H => store' P t2 (.bptr r o) (evl env v2) H) hsel (fun H H' hh => ?_) (fun H k k' hk => store_at fun q H1 hh => hk q H1 (hh r' (Ne.symm hne))) strict k H
                have hl : ∃ o : Option PV, (∀ K, load' P t1 (.bptr r' o') H K = match o with
                    | some p => K p H
                    | none => none) ∧ (∀ K, load' P t1 (.bptr r' o') H' K = match o with
                    | some p => K p H'
                    | none => none) := by
                  unfold load'
                  simp only
                  rw [hh]
                  split
                  · rename_i e1 k1 hb
                    rcases readPV_nf0 (P := P) (t := t1) (e := e1) (k := ksz k1) (off := o') with ⟨p, hp⟩ | hn
                    · exact ⟨some p, fun K => hp H K, fun K => hp H' K⟩
                    · exact ⟨none, fun K => hn H K, fun K => hn H' K⟩
                  · exact ⟨none, fun K => rfl, fun K => rfl⟩
                obtain ⟨oo, h1, h2⟩ := hl
                have e1 := fun K => (hsel H K).symm.trans (h1 K)
                have e2 := fun K => (hsel H' K).symm.trans (h2 K)
                exact (opt_inj e1).trans (opt_inj e2).symm
              · rcases hl with ⟨p, hp⟩ | hn
                · simp only [hp]
                · simp only [hn]; exact (strict H).symm
            · simp only [hn]
              rcases load_nf (P := P) (t := t1) (a := evl env (.tmp b)) (H := H) with ⟨p, hp⟩ | hn'
              · exact hp (fun _ _ => none)
              · exact hn' (fun _ _ => none)

theorem swap_ok (hs : HS tb) {ops : Array Oper} {env0 : Env} {x y : Oper} (h : mayTurn P ops env0 x y = true) (env : Env) (R : RInv ops env0 env) (H : Hp) (k : KS) :
    act P tb ops x env H (fun p H1 => act P tb ops y (putE env x.dst p) H1 fun q H2 => k (putE (putE env x.dst p) y.dst q) H2) =
    act P tb ops y env H (fun q H1 => act P tb ops x (putE env y.dst q) H1 fun p H2 => k (putE (putE env y.dst q) x.dst p) H2) := by
  unfold mayTurn at h
  simp only [Bool.and_eq_true, Bool.or_eq_true, beq_iff_eq] at h
  obtain ⟨⟨hc, h1⟩, h2⟩ := h
  obtain ⟨a1, a2, a3⟩ := Oper.apart_spec h1
  have e1 : ∀ p, act P tb ops y (putE env x.dst p) = act P tb ops y env := fun p => act_put a1
  have e2 : ∀ q, act P tb ops x (putE env y.dst q) = act P tb ops x env := fun q => act_put a3
  have e3 : ∀ p q, putE (putE env x.dst p) y.dst q = putE (putE env y.dst q) x.dst p := fun p q => putE_comm fun u hu => a2 u hu
  simp only [e1, e2, e3]
  rcases hc with (((hc | hc) | ⟨c1, c2⟩) | ht) | ht
  · rcases act_nf0 hs (ops := ops) (env := env) hc with ⟨p, hp⟩ | hn
    · simp only [hp]
    · simp only [hn]; exact (act_strict hs).symm
  · rcases act_nf0 hs (ops := ops) (env := env) hc with ⟨p, hp⟩ | hn
    · simp only [hp]
    · simp only [hn]; exact act_strict hs
  · rcases act_nf hs (ops := ops) (env := env) (H := H) (.inr c1) with ⟨p, hp⟩ | hn <;> rcases act_nf hs (ops := ops) (env := env) (H := H) (.inr c2) with ⟨q, hq⟩ | hm
    · simp only [hp, hq]
    · simp only [hp, hm]
    · simp only [hn, hq]
    · simp only [hn, hm]
  · exact swapS hs R ht H fun p q H2 => k (putE (putE env y.dst q) x.dst p) H2
  · exact (swapS hs R ht H fun q p H2 => k (putE (putE env y.dst q) x.dst p) H2).symm

theorem bubble (hs : HS tb) {ops : Array Oper} {env0 : Env} {i : Nat} {oi : Oper} (hi : ops[i]? = some oi) {L2 : List Nat} {K : KS} : ∀ {L1 : List Nat}, (∀ j ∈ L1, ∃ oj, ops[j]? = some oj ∧ mayTurn P ops env0 oj oi = true) → ∀ env H, RInv ops env0 env → aops P tb ops (L1 ++ i :: L2) env H K = aops P tb ops (i :: (L1 ++ L2)) env H K
  | [], _, _, _, _ => rfl
  | j :: L1, h, env, H, R => by
    obtain ⟨oj, hj, ht⟩ := h j (by simp)
    rw [List.cons_append, aops_cons hj]
    rw [act_out (k' := fun p H' => act P tb ops oi (putE env oj.dst p) H' fun q H2 => aops P tb ops (L1 ++ L2) (putE (putE env oj.dst p) oi.dst q) H2 K) fun p H' hp => by
      rw [bubble hs (K := K) (L2 := L2) hi (L1 := L1) (fun j hj => h j (by simp [hj])) _ _ (R.put hj hp), aops_cons hi]]
    rw [swap_ok hs ht env R H (fun env H => aops P tb ops (L1 ++ L2) env H K), aops_cons hi]
    congr 1
    funext q H1
    rw [List.cons_append, aops_cons hj]

end Go.Pv

/- Regions whose order is drawn come to what the text's order comes to. -/
namespace Go.Pv
set_option linter.unusedVariables false
open Go

variable {P : Program} {I : World → Prop} {tb : Handler}

/-! ### What stands ahead -/
def Shut (ops : Array Oper) (L : Nat → Prop) : Prop := ∀ k o, ops[k]? = some o → L k → ∀ e ∈ o.after, Region.binds .any e = true → L e.on
def Ahead (ops : Array Oper) (k j : Nat) : Prop := ∀ L : Nat → Prop, Shut ops L → (∀ o, ops[k]? = some o → ∀ e ∈ o.after, Region.binds .any e = true → L e.on) → L j

theorem ancOf_bit {acc : List Nat} {j : Nat} : ∀ {es : List Edge}, (ancOf acc es).testBit j = true → ∃ e ∈ es, Region.binds .any e = true ∧ (e.on = j ∨ (acc.getD e.on 0).testBit j = true)
  | [], h => by simp [ancOf] at h
  | e :: es, h => by
    unfold ancOf at h
    split at h
    · rename_i hb
      rw [Nat.testBit_or, Nat.testBit_or, Nat.testBit_two_pow] at h
      simp only [Bool.or_eq_true, decide_eq_true_eq] at h
      rcases h with (h | h) | h
      · exact ⟨e, by simp, hb, .inl h⟩
      · exact ⟨e, by simp, hb, .inr h⟩
      · obtain ⟨e', h1, h2⟩ := ancOf_bit h
        exact ⟨e', by simp [h1], h2⟩
    · obtain ⟨e', h1, h2⟩ := ancOf_bit h
      exact ⟨e', by simp [h1], h2⟩

theorem ancGo_ok {ops : Array Oper} : ∀ {os : List Oper} {ahead : List Oper} {acc : List Nat}, ops.toList = ahead ++ os → acc.length = ahead.length →
    (∀ k j, (acc.getD k 0).testBit j = true → Ahead ops k j) → ∀ k j, ((ancGo os acc).getD k 0).testBit j = true → Ahead ops k j
  | [], ahead, acc, h1, h2, h3, k, j, h => h3 k j h
  | o :: os, ahead, acc, h1, h2, h3, k, j, h => by
    unfold ancGo at h
    refine ancGo_ok (ahead := ahead ++ [o]) (by simpa using h1) (by simp [h2]) (fun k j h => ?_) k j h
    rw [List.getD_eq_getElem?_getD] at h
    by_cases hk : k < acc.length
    · rw [List.getElem?_append_left hk, ← List.getD_eq_getElem?_getD] at h
      exact h3 k j h
    · rw [List.getElem?_append_right (by omega)] at h
      by_cases hk0 : k - acc.length = 0
      · rw [hk0] at h
        simp only [List.getElem?_cons_zero, Option.getD_some] at h
        obtain ⟨e, he, hb, hc⟩ := ancOf_bit h
        have hko : ops[k]? = some o := by
          rw [← Array.getElem?_toList, h1, List.getElem?_append_right (by omega), show k - ahead.length = 0 by omega]
          rfl
        intro L hL h0
        have hLe := h0 o hko e (by simpa using he) hb
        rcases hc with rfl | hc
        · exact hLe
        · exact h3 _ _ hc L hL fun o' ho' e' he' hb' => hL _ _ ho' hLe e' he' hb'
      · rw [List.getElem?_eq_none (by simp; omega)] at h
        simp at h

theorem backOk_ok {os : List Oper} : ∀ {n i : Nat} {o : Oper}, backOk n os = true → os[i]? = some o → ∀ e ∈ o.after, Region.binds .any e = true → e.on < n + i := by
  induction os with
  | nil => intro n i o _ h; simp at h
  | cons p os ih =>
    intro n i o hb ho e he hbi
    simp only [backOk, Bool.and_eq_true] at hb
    cases i with
    | zero =>
      simp at ho; subst ho
      have := (Array.all_eq_true'.1 hb.1) e he
      simp [hbi] at this
      omega
    | succ i =>
      have := ih hb.2 (by simpa using ho) e he hbi
      omega

/-! ### One step -/
theorem act_ok {ops : Array Oper} {Q : Exit → Act → World → Prop} {res : CV × List CV} {K : KV} {S : St} {i : Nat} {o : Oper} {env : Env} {a : Act} (ho : ops[i]? = some o)
    (ok : Ok S) (hg : OnGlobals I S.ng) (hI : I S.w) (tbl : HOk P I S.ng tb) (hE : EnvR S env a) (hd : a.defers = [])
    (h : act P tb ops o env S.H K = some res) :
    wpOp P ops Q i (fun a' w' => ∃ S' p, S'.w = w' ∧ Good S S' ∧ I S'.w ∧ EnvR S' (putE env o.dst p) a' ∧ a'.defers = [] ∧ K p S'.H = some res) a S.w := by
  unfold wpOp
  rw [ho]
  have h' : guarded ops o env (fun env => aop P tb o (evl env) S.H fun p H => K p H) (fun env => K (.tup []) S.H) = some res := by
    rw [guarded_eq]; exact h
  have hput : ∀ env' : Env, env' = env → True := fun _ _ => trivial
  -- guarded_ok hands back an env that is env itself
  unfold act at h
  have key : (Region.wanted o (yielded ops a.tmps) = true ∧ gd ops o env = some true) ∨ (Region.wanted o (yielded ops a.tmps) = false ∧ gd ops o env = some false) := by
    cases hgd : gd ops o env with
    | none => rw [hgd] at h; cases h
    | some b =>
      have hg1 : guarded ops o env (fun _ => if b then some res else none) (fun _ => if b then none else some res) = some res := by
        rw [guarded_eq, hgd]; cases b <;> rfl
      rcases guarded_ok hE hg1 with ⟨hw, _, _, h1⟩ | ⟨hw, _, _, h1⟩
      · cases b
        · simp at h1
        · exact .inl ⟨hw, rfl⟩
      · cases b
        · exact .inr ⟨hw, rfl⟩
        · simp at h1
  rcases key with ⟨hw, hgd⟩ | ⟨hw, hgd⟩
  · rw [hgd] at h
    dsimp only at h ⊢
    rw [if_pos hw]
    refine .inl (Oper.wp_mono ?_ (aop_ok (Q := Q) ok hg hI tbl (evl_ok hE) h))
    rintro a' w' ⟨S', p, v, rfl, rfl, G, hI', hv, hk⟩
    exact ⟨S', p, rfl, G, hI', put_ok (hE.mono G.ext) hv, by rw [put_defers]; exact hd, hk⟩
  · rw [hgd] at h
    dsimp only at h ⊢
    rw [if_neg (by rw [hw]; simp)]
    exact ⟨S, .tup [], rfl, Good.refl ok, hI, put_ok hE (.tup _ _ .nil), by rw [put_defers]; exact hd, h⟩

/-! ### What is not yet taken -/
def unlisted (ops : Array Oper) (listed : Array Bool) : List Nat := (List.range ops.size).filter fun i => !listed.getD i true

theorem unlisted_mem {ops : Array Oper} {listed : Array Bool} {i : Nat} : i ∈ unlisted ops listed ↔ i < ops.size ∧ listed.getD i true = false := by
  simp [unlisted]

theorem filter_split {p : Nat → Bool} {n i : Nat} (hi : i < n) (hp : p i = true) :
    (List.range n).filter p = (List.range i).filter p ++ i :: ((List.range' (i + 1) (n - i - 1)).filter p) := by
  have : List.range n = List.range i ++ i :: List.range' (i + 1) (n - i - 1) := by
    rw [List.range_eq_range', List.range_eq_range', ← List.range'_succ, show n - i - 1 + 1 = n - i by omega]
    have := @List.range'_append 0 i (n - i) 1
    simp at this
    rw [show i + (n - i) = n by omega] at this
    exact this.symm
  rw [this, List.filter_append, List.filter_cons_of_pos hp]
theorem unlisted_split {ops : Array Oper} {listed : Array Bool} {i : Nat} (hi : i ∈ unlisted ops listed) (hs : listed.size = ops.size) :
    ∃ L1 L2, unlisted ops listed = L1 ++ i :: L2 ∧ unlisted ops (listed.setIfInBounds i true) = L1 ++ L2 ∧ (∀ j ∈ L1, j < i ∧ listed.getD j true = false) := by
  obtain ⟨h1, h2⟩ := unlisted_mem.1 hi
  have hset : ∀ j, (listed.setIfInBounds i true).getD j true = if j = i then true else listed.getD j true := by
    intro j
    simp only [Array.getD_eq_getD_getElem?]
    by_cases e : j = i
    · subst e; rw [if_pos rfl, Array.getElem?_setIfInBounds_self]; split <;> rfl
    · rw [if_neg e, Array.getElem?_setIfInBounds_ne (Ne.symm e)]
  refine ⟨(List.range i).filter fun j => !listed.getD j true, (List.range' (i + 1) (ops.size - i - 1)).filter fun j => !listed.getD j true, filter_split h1 (by rw [h2]; rfl), ?_, fun j hj => by simpa using hj⟩
  unfold unlisted
  have : List.range ops.size = List.range i ++ i :: List.range' (i + 1) (ops.size - i - 1) := by
    rw [List.range_eq_range', List.range_eq_range', ← List.range'_succ, show ops.size - i - 1 + 1 = ops.size - i by omega]
    have := @List.range'_append 0 i (ops.size - i) 1
    simp at this
    rw [show i + (ops.size - i) = ops.size by omega] at this
    exact this.symm
  rw [this, List.filter_append, List.filter_cons_of_neg (by rw [hset, if_pos rfl]; simp)]
  congr 1
  · exact List.filter_congr fun j hj => by rw [hset, if_neg (by have := List.mem_range.1 hj; omega)]
  · exact List.filter_congr fun j hj => by rw [hset, if_neg (by have := List.mem_range'_1.1 hj; omega)]

theorem ready_mem {ops : Array Oper} {listed : Array Bool} {i : Nat} : i ∈ Region.ready .any ops listed ↔ i < ops.size ∧ listed.getD i true = false ∧ ∃ o, ops[i]? = some o ∧ ∀ e ∈ o.after, Region.binds .any e = true → listed.getD e.on false = true := by
  unfold Region.ready
  simp only [List.mem_filter, List.mem_range, Bool.and_eq_true, Bool.not_eq_true']
  constructor
  · rintro ⟨h1, h2, h3⟩
    refine ⟨h1, h2, ops[i], by simp [h1], fun e he hb => ?_⟩
    rw [Array.getElem?_eq_getElem h1] at h3
    simp only [Option.map_some, Option.getD_some] at h3
    have := Array.all_eq_true'.1 h3 e he
    simpa [hb] using this
  · rintro ⟨h1, h2, o, ho, h3⟩
    refine ⟨h1, h2, ?_⟩
    rw [ho]
    simp only [Option.map_some, Option.getD_some]
    refine Array.all_eq_true'.2 fun e he => ?_
    cases hb : Region.binds .any e with
    | false => rfl
    | true => simp [h3 e he hb]

theorem any_ok {ops : Array Oper} {Q : Exit → Act → World → Prop} {res : CV × List CV} {K : KS} {nl : Nat} {S0 : St} (hQ : ∀ a w, Post nl S0 I K res a w → Q .normal a w)
    {env0 : Env} (hdr : drawOk P ops env0 = true) : ∀ (n : Nat) {listed : Array Bool} {S : St} {env : Env} {a : Act}, listed.size = ops.size →
    Shut ops (fun k => listed.getD k false = true) → (unlisted ops listed).length ≤ n →
    Ok S → Goes nl S0 S → OnGlobals I S.ng → I S.w → (HOk P I S.ng tb) → EnvR S env a → a.defers = [] → RInv ops env0 env →
    aops P tb ops (unlisted ops listed) env S.H K = some res → wpAny P .any ops Q n listed a S.w := by
  have hdr' := hdr
  unfold drawOk at hdr'
  simp only [Bool.and_eq_true] at hdr'
  obtain ⟨⟨_, hback⟩, hpairs⟩ := hdr'
  have hanc := ancGo_ok (ops := ops) (os := ops.toList) (ahead := []) (acc := []) rfl rfl (by simp)
  have nil_ok : ∀ {listed : Array Bool} {S : St} {env : Env} {a : Act}, unlisted ops listed = [] → Ok S → Goes nl S0 S → I S.w → EnvR S env a → a.defers = [] →
      aops P tb ops (unlisted ops listed) env S.H K = some res → Q .normal a S.w := by
    intro listed S env a hn ok K0 hI hE hd h
    rw [hn] at h
    exact hQ _ _ ⟨S, env, rfl, ok, K0, hI, hE, hd, h⟩
  intro n
  induction n with
  | zero =>
    intro listed S env a hs hsh hn ok K0 hg hI tbl hE hd hR h
    have hu : unlisted ops listed = [] := List.length_eq_zero_iff.1 (by omega)
    refine ⟨List.eq_nil_iff_forall_not_mem.2 fun i hi => ?_, nil_ok hu ok K0 hI hE hd h⟩
    obtain ⟨h1, h2, _⟩ := ready_mem.1 hi
    have : i ∈ unlisted ops listed := unlisted_mem.2 ⟨h1, h2⟩
    rw [hu] at this; cases this
  | succ n ih =>
    intro listed S env a hs hsh hn ok K0 hg hI tbl hE hd hR h
    have low : ∀ {j : Nat}, j < ops.size → j ∉ unlisted ops listed → listed.getD j false = true := by
      intro j hj hm
      have : listed.getD j true ≠ false := fun e => hm (unlisted_mem.2 ⟨hj, e⟩)
      rw [Array.getD_eq_getD_getElem?, Array.getElem?_eq_getElem (by omega)] at this ⊢
      simpa using this
    refine ⟨fun hr => nil_ok (listed := listed) ?_ ok K0 hI hE hd h, fun i hi => ?_⟩
    · cases hu : unlisted ops listed with
      | nil => rfl
      | cons i L =>
        exfalso
        have him : i ∈ unlisted ops listed := by rw [hu]; simp
        obtain ⟨L1, L2, h1, _, h3⟩ := unlisted_split him hs
        have hL1 : L1 = [] := by
          cases L1 with
          | nil => rfl
          | cons j L1 =>
            rw [hu] at h1
            simp at h1
            have := h3 j (by simp)
            omega
        subst hL1
        obtain ⟨hi1, hi2⟩ := unlisted_mem.1 him
        have : i ∈ Region.ready .any ops listed := by
          refine ready_mem.2 ⟨hi1, hi2, ops[i], by simp [hi1], fun e he hb => ?_⟩
          have hlt := backOk_ok hback (i := i) (o := ops[i]) (by simp [hi1]) e he hb
          refine low (by omega) fun hm => ?_
          obtain ⟨M1, M2, g1, _, g3⟩ := unlisted_split hm hs
          rw [h1] at g1
          cases M1 with
          | nil => simp at g1; omega
          | cons m M1 =>
            simp at g1
            have := g3 m (by simp)
            omega
        rw [hr] at this; cases this
    · obtain ⟨hi1, hi2, o, ho, hes⟩ := ready_mem.1 hi
      have him : i ∈ unlisted ops listed := unlisted_mem.2 ⟨hi1, hi2⟩
      obtain ⟨L1, L2, h1, h2, h3⟩ := unlisted_split him hs
      have hturn : ∀ j ∈ L1, ∃ oj, ops[j]? = some oj ∧ mayTurn P ops env0 oj o = true := by
        intro j hj
        obtain ⟨hj1, hj2⟩ := h3 j hj
        have hjs : j < ops.size := by omega
        refine ⟨ops[j], by simp [hjs], ?_⟩
        unfold pairsOk at hpairs
        have := List.all_eq_true.1 (List.all_eq_true.1 hpairs i (List.mem_range.2 hi1)) j (List.mem_range.2 hj1)
        rw [Array.getElem?_eq_getElem hjs, ho] at this
        simp only [Bool.or_eq_true] at this
        refine this.resolve_left fun hb => ?_
        have := hanc i j hb _ hsh fun o' ho' e he hbe => by rw [ho] at ho'; cases ho'; exact hes e he hbe
        rw [Array.getD_eq_getD_getElem?, Array.getElem?_eq_getElem (by omega)] at this hj2
        simp at this hj2
        rw [this] at hj2; cases hj2
      rw [h1, bubble tbl.hs ho hturn env S.H hR, aops_cons ho, ← h2] at h
      classical
      rw [act_out (k' := fun p H' => if OutOk o env p then aops P tb ops (unlisted ops (listed.setIfInBounds i true)) (putE env o.dst p) H' K else none) fun p H' hp => by rw [if_pos hp]] at h
      refine wpOp_mono ?_ (act_ok ho ok hg hI tbl hE hd h)
      rintro a' w' ⟨S', p, rfl, G, hI', hE', hd', hk⟩
      have hout : OutOk o env p := by
        refine Classical.byContradiction fun hn => ?_
        rw [if_neg hn] at hk; cases hk
      rw [if_pos hout] at hk
      refine ih (by simpa using hs) (fun k o' ho' hk e he hb => ?_) ?_ G.ok (K0.good G) (by rw [G.keeps.ng]; exact hg) hI' (by rw [G.keeps.ng]; exact tbl) hE' hd' (hR.put ho hout) hk
      · have up : ∀ {m : Nat}, listed.getD m false = true → (listed.setIfInBounds i true).getD m false = true := by
          intro m hm
          rw [Array.getD_eq_getD_getElem?] at hm ⊢
          by_cases e : m = i
          · subst e; rw [Array.getElem?_setIfInBounds_self, if_pos (by omega)]; rfl
          · rw [Array.getElem?_setIfInBounds_ne (Ne.symm e)]; exact hm
        by_cases e' : k = i
        · subst e'
          rw [ho] at ho'; cases ho'
          exact up (hes e he hb)
        · dsimp only at hk
          rw [Array.getD_eq_getD_getElem?, Array.getElem?_setIfInBounds_ne (Ne.symm e'), ← Array.getD_eq_getD_getElem?] at hk
          exact up (hsh k o' ho' hk e he hb)
      · rw [h1] at hn
        rw [h2]
        simp at hn ⊢
        omega

theorem region_ok {id : Nat} {ops : Array Oper} {draw : Bool} {Q : Exit → Act → World → Prop} {res : CV × List CV} {K : KS} {S : St} {env : Env} {a : Act} {nl : Nat} {S0 : St} (hQ : ∀ a w, Post nl S0 I K res a w → Q .normal a w) (K0 : Goes nl S0 S)
    (ok : Ok S) (hg : OnGlobals I S.ng) (hI : I S.w) (tbl : HOk P I S.ng tb) (hE : EnvR S env a) (hd : a.defers = [])
    (h : (if draw && !drawOk P ops env then none else aops P tb ops (List.range ops.size) env S.H K) = some res) : (Code.region id ops draw).wp P Q a S.w := by
  cases draw with
  | false => exact wp_region (aops_ok hQ _ ok K0 hg hI tbl hE hd (by simpa using h))
  | true =>
    cases hdr : drawOk P ops env with
    | false => simp [hdr] at h
    | true =>
      simp only [hdr, Bool.not_true, Bool.and_false, Bool.false_eq_true, if_false] at h
      have hm : P.follows .mixedOrders = true := by
        have := hdr
        unfold drawOk at this
        simp only [Bool.and_eq_true] at this
        exact this.1.1
      have hu : unlisted ops (Array.replicate ops.size false) = List.range ops.size := by
        unfold unlisted
        refine List.filter_eq_self.2 fun i hi => ?_
        rw [Array.getD_eq_getD_getElem?, Array.getElem?_replicate, if_pos (List.mem_range.1 hi)]; rfl
      have G := drawn_good ok (S.w.drawn + 1)
      refine wp_region_any hm (any_ok (S := S.drawn (S.w.drawn + 1)) hQ hdr ops.size (by simp) ?_ ?_ G.ok (K0.good G) (by rw [G.keeps.ng]; exact hg) (hg S.w _ (fun _ _ => rfl) hI) (by rw [G.keeps.ng]; exact tbl) (hE.mono G.ext) hd (RInv.refl ops env) (by rw [hu]; exact h))
      · intro k o ho hk
        exfalso
        rw [Array.getD_eq_getD_getElem?, Array.getElem?_replicate] at hk
        split at hk <;> simp at hk
      · rw [hu]; simp

end Go.Pv

/- The end of a function's body. -/
namespace Go.Pv
set_option linter.unusedVariables false
open Go

variable {P : Program} {I : World → Prop} {tb : Handler}

/-! ### Results -/
theorem resVals_ok {S : St} (ok : Ok S) {env : Env} {a : Act} {res : CV × List CV} (hE : EnvR S env a) {g : ResultVar → Sem Value} (g1 : ∀ t, g (.tmp t) = pure (a.tmps.getD t undef)) (g2 : ∀ b t, g (.cell b t) = do loadVar t (← asAddr (a.tmps.getD b undef))) : ∀ {rs : List ResultVar} {K : List PV → Res}, resVals P rs env S.H K = some res →
    ∃ ps vs, (rs.mapM g).run P S.w = .ok vs S.w ∧ All2 (Vr S) ps vs ∧ K ps = some res
  | [], K, h => ⟨[], [], rfl, .nil, h⟩
  | .tmp t :: rs, K, h => by
    simp only [resVals] at h
    obtain ⟨ps, vs, h1, h2, h3⟩ := resVals_ok ok hE g1 g2 h
    refine ⟨_, a.tmps.getD t undef :: vs, ?_, .cons (evl_ok hE (.tmp t)) h2, h3⟩
    simp only [List.mapM_cons, g1, Sem.run_bind, Sem.run_pure, Result.andThen_ok]
    rw [h1]; rfl
  | .cell b t :: rs, K, h => by
    simp only [resVals] at h
    obtain ⟨u, p, h1, h2, h3⟩ := load_pure ok (evl_ok hE (.tmp b)) h
    obtain ⟨ps, vs, q1, q2, q3⟩ := resVals_ok ok hE g1 g2 h3
    refine ⟨_, u :: vs, ?_, .cons h2 q2, q3⟩
    have hl : (do loadVar t (← asAddr (a.tmps.getD b undef)) : Sem Value).run P S.w = .ok u S.w := by
      revert h1
      show (Instr.loadAt t (a.tmps.getD b undef)).run P S.w = .ok u S.w → _
      cases hv : a.tmps.getD b undef with
      | pointer o =>
        cases o with
        | none => intro h1; simp [Instr.loadAt, Instr.sureAddr, stuck] at h1
        | some ad => exact id
      | _ => intro h1; simp [Instr.loadAt, Instr.sureAddr, stuck] at h1
    rw [List.mapM_cons, g2, Sem.run_bind, hl]
    simp only [Result.andThen_ok, Sem.run_bind, q1, Sem.run_pure]

def resG (tmps : Array Value) : ResultVar → Sem Value
  | .tmp t => pure (tmps.getD t undef)
  | .cell b t => do loadVar t (← asAddr (tmps.getD b undef))
theorem results_eq (fn : Func) (tmps : Array Value) : results fn tmps = (do
    let vs ← fn.results.mapM (resG tmps)
    pure (if h : vs.size = 1 then vs[0] else .tuple vs)) := by
  unfold results
  congr 1
theorem results_ok {S : St} (ok : Ok S) {env : Env} {a : Act} {res : CV × List CV} {fn : Func} (hE : EnvR S env a) {K : List PV → Res} (h : resVals P fn.results.toList env S.H K = some res) :
    ∃ ps v, (results fn a.tmps).run P S.w = .ok v S.w ∧ Vr S (match ps with | [p] => p | ps => .tup ps) v ∧ K ps = some res := by
  obtain ⟨ps, vs, h1, h2, h3⟩ := resVals_ok ok hE (g := resG a.tmps) (fun _ => rfl) (fun _ _ => rfl) h
  refine ⟨ps, if h : vs.toArray.size = 1 then vs.toArray[0] else .tuple vs.toArray, ?_, ?_, h3⟩
  · rw [results_eq, Sem.run_bind, Array.mapM_eq_mapM_toList, Sem.run_map, h1]
    rfl
  · cases h2 with
    | nil => exact .tup _ _ .nil
    | cons q1 q2 =>
      cases q2 with
      | nil => exact q1
      | cons q2 q3 => exact .tup _ _ (.cons q1 (.cons q2 q3))

/-! ### The lent variables -/
theorem own_of_closeCells : ∀ {S : St} (ok : Ok S) {used : List Nat} {Hd Hd' : Hp} {ps : List PV} {vs : List Value} {xs : List CV} (k : Killed S.H used Hd) (hv : All2 (Vr S) ps vs) (h : closeCells ps Hd = some (xs, Hd')),
    ∃ S', Own S S' used Hd' [] ∧ All2 (Vc S') xs vs
  | S, ok, used, Hd, Hd', [], vs, xs, k, hv, h => by
    cases hv; cases h
    exact ⟨S, ⟨.refl ok, by simpa using k, fun _ _ => rfl, by simp, by simp, rfl⟩, .nil⟩
  | S, ok, used, Hd, Hd', p :: ps, vs, xs, k, hv, h => by
    cases hv with
    | cons h1 h2 =>
      simp only [closeCells] at h
      split at h <;> first | (cases h; done) | skip
      rename_i x H1 hx
      split at h <;> first | (cases h; done) | skip
      rename_i xs' H2 hxs
      cases h
      obtain ⟨S1, o1, c1⟩ := own_of_close ok k h1 hx
      obtain ⟨S2, o2, c2⟩ := own_of_closeCells o1.m.good.ok o1.k (h2.imp fun _ _ _ h => h.mono o1.m.good.ext) hxs
      exact ⟨S2, by simpa using o1.trans o2, .cons (c1.mono o2.m.good.ext) c2⟩
theorem own_of_closeVal {S : St} (ok : Ok S) {used : List Nat} {Hd Hd' : Hp} {p : PV} {v : Value} {x : CV} (k : Killed S.H used Hd) (hv : Vr S p v) (h : closeVal p Hd = some (x, Hd')) :
    ∃ S', Own S S' used Hd' [] ∧ Vc S' x v := by
  unfold closeVal at h
  split at h <;> first | (cases h; done) | skip
  · cases h
    exact ⟨S, ⟨.refl ok, by simpa using k, fun _ _ => rfl, by simp, by simp, rfl⟩, c_of hv⟩
  · split at h <;> first | (cases h; done) | skip
    rename_i vs' H1 hc
    cases h
    cases hv with
    | agg ps vs h1 h2 =>
      obtain ⟨S', o, c⟩ := own_of_closeCells ok k h1 hc
      exact ⟨S', o, .agg _ _ c h2⟩
  · exact own_of_close ok k hv h

theorem lentBack_ok : ∀ {ks : List Nat} {r : Nat} {S : St} (ok : Ok S) {used : List Nat} {Hd Hd' : Hp} {outs : List CV} (k : Killed S.H used Hd) (hu : ∀ i, i ∈ used → i < r) (h : lentBack r ks Hd = some (outs, Hd')),
    ∃ S', Own S S' used Hd' (List.range' r ks.length) ∧ outs.length = ks.length ∧ ∀ (i n : Nat) (x : CV), ks[i]? = some n → outs[i]? = some x →
      (∃ e, S'.H[r + i]? = some (.box e n)) ∧ ∃ ve b T fr, S'.ι (r + i) = some b ∧ Vc S' x ve ∧ S'.w.heap[b]? = some (.cells ve.cells T fr) ∧ bOk T fr ve.cells.size n ∧ (∀ v ∈ ve.cells.toList, v.oneCell' = true) ∧ ve.cells.size = ksz n
  | [], r, S, ok, used, Hd, Hd', outs, k, hu, h => by
    cases h
    exact ⟨S, ⟨.refl ok, by simpa using k, fun _ _ => rfl, by simp, by simp, rfl⟩, rfl, by simp⟩
  | n :: ks, r, S, ok, used, Hd, Hd', outs, k, hu, h => by
    simp only [lentBack] at h
    split at h <;> first | (cases h; done) | skip
    rename_i e n' hr
    split at h <;> first | (cases h; done) | skip
    rename_i hn
    subst hn
    split at h <;> first | (cases h; done) | skip
    rename_i x H1 hx
    split at h <;> first | (cases h; done) | skip
    rename_i xs H2 hxs
    cases h
    obtain ⟨hr1, hr2⟩ := k.live hr (by simp)
    obtain ⟨b, cs, T, fr, ve, q1, q2, q3, q4, q5, q6, q7⟩ := ok.ob r _ hr1
    obtain ⟨S1, o1, c1⟩ := own_of_closeVal ok k q5 hx
    have k1 := o1.k
    rw [List.append_nil] at k1
    have hb1 : S1.H[r]? = some (.box e n') := (k1.live (closeVal_box hx hr) (by simp)).1
    have ob1 : Own S S1 used (H1.set r .dead) [r] := ⟨o1.m, k1.kill (List.getElem?_eq_some_iff.1 hb1).1, o1.keep, by simpa using hr2, by simp, o1.len⟩
    obtain ⟨S2, o2, l2, g2⟩ := lentBack_ok (r := r + 1) ob1.m.good.ok ob1.k (fun i hi => by
      rcases List.mem_append.1 hi with hi | hi
      · have := hu i hi; omega
      · simp at hi; omega) hxs
    refine ⟨S2, ?_, by simp [l2], fun i m y hi hy => ?_⟩
    · have := ob1.trans o2
      rw [List.length_cons, List.range'_succ]
      exact this
    · cases i with
      | zero =>
        simp at hi hy
        subst hi; subst hy
        refine ⟨⟨e, by rw [Nat.add_zero, o2.keep r (by simp)]; exact hb1⟩, ve, b, T, fr, ?_, c1.mono o2.m.good.ext, ?_, ?_, ?_, ?_⟩
        · rw [Nat.add_zero, o2.m.ι, o1.m.ι]; exact q1
        · rw [o2.m.w, o1.m.w, q6]; exact q2
        · rw [q6]; exact q3
        · rw [q6]; exact q7
        · exact q5.size q4
      | succ i =>
        have := g2 i m y (by simpa using hi) (by simpa using hy)
        rw [show r + 1 + i = r + (i + 1) by omega] at this
        exact this

theorem lentOf_get : ∀ {H : Hp} {i : Nat} {e : PV} {k : Nat}, H[i]? = some (.box e k) → (lentOf H)[i]? = some k
  | [], i, e, k, h => by simp at h
  | o :: H, 0, e, k, h => by simp at h; subst h; simp [lentOf]
  | o :: H, i + 1, e, k, h => by
    have := lentOf_get (H := H) (i := i) (by simpa using h)
    cases o <;> simpa [lentOf] using this
theorem lentOf_len : ∀ {H : Hp}, (lentOf H).length = H.length
  | [] => rfl
  | o :: H => by cases o <;> simp [lentOf, lentOf_len (H := H)]

/-- What the function has come to, at its end. -/
theorem finish_ok {S0 S : St} (ok : Ok S) (go : Goes S0.H.length S0 S) {env : Env} {a : Act} {fn : Func} {e : Ex} {rv : CV} {outs : List CV} (hE : EnvR S env a)
    (h : finish P fn (lentOf S0.H) e env S.H = some (rv, outs)) :
    ∃ v S' u, (results fn a.tmps).run P S.w = .ok v S.w ∧ S'.w = S.w ∧ Ok S' ∧ Keeps S0 S' ∧ AllR S' rv v u ∧ u.Nodup ∧ LentR S0 S' outs u := by
  unfold finish at h
  split at h <;> first | (cases h; done) | skip
  obtain ⟨ps, v, h1, h2, h3⟩ := results_ok ok hE h
  clear h
  split at h3 <;> first | (cases h3; done) | skip
  rename_i outs' H1 hl
  split at h3 <;> first | (cases h3; done) | skip
  rename_i rv' H2 ho
  cases h3
  obtain ⟨S1, o1, l1, g1⟩ := lentBack_ok ok (Killed.refl _) (by simp) hl
  obtain ⟨S2, u, o2, c2⟩ := ownAll_ok o1.m.good.ok o1.k (h2.mono o1.m.good.ext) ho
  refine ⟨v, S2, u, h1, by rw [o2.m.w, o1.m.w], o2.m.good.ok, (go.keeps.trans o1.m.good.keeps).trans o2.m.good.keeps, c2, o2.nodup, by rw [l1, lentOf_len], fun i e0 k x hi hx => ?_⟩
  have hk := lentOf_get hi
  have hil : i < S0.H.length := (List.getElem?_eq_some_iff.1 hi).1
  obtain ⟨⟨e1, b1⟩, ve, b, T, fr, r1, r2, r3, r4, r5, r6⟩ := g1 i k x hk hx
  rw [Nat.zero_add] at b1 r1
  have him : i ∈ [] ++ List.range' 0 (lentOf S0.H).length := by simp [List.mem_range'_1, lentOf_len, hil]
  obtain ⟨e', k', hSb, _⟩ := o1.m.good.ext.box i e1 k (by rw [← o1.len]; exact (List.getElem?_eq_some_iff.1 b1).1) b1
  obtain ⟨_, hι⟩ := go.box i e' k' hil hSb
  refine ⟨fun hm => o2.fresh i hm him, ⟨e1, by rw [o2.keep i him]; exact b1⟩, by rw [o2.m.ι, o1.m.ι, hι], ve, b, T, fr, ?_, r2.mono o2.m.good.ext, by rw [o2.m.w]; exact r3, r4, r5, r6⟩
  rw [← hι, ← o1.m.ι]; exact r1

end Go.Pv

/- Code comes to what the interpreter says; a function's contract. -/
namespace Go.Pv
set_option linter.unusedVariables false
open Go

variable {P : Program} {I : World → Prop} {tb : Handler}

def ofEx : Ex → Exit
  | .normal => .normal
  | .exit id => .exit id
  | .ret => .ret

/-- What must hold behind the code. -/
def Behind (nl : Nat) (S0 : St) (I : World → Prop) (K : KX) (res : CV × List CV) (Q : Exit → Act → World → Prop) : Prop := ∀ e a w, Post nl S0 I (K e) res a w → Q (ofEx e) a w

theorem least (p : Nat → Prop) : (∃ k, p k) → ∃ k, p k ∧ ∀ j, p j → k ≤ j := by
  rintro ⟨k, hk⟩
  induction k using Nat.strongRecOn with
  | _ k ih =>
    by_cases h : ∃ j, j < k ∧ p j
    · obtain ⟨j, h1, h2⟩ := h
      exact ih j h1 h2
    · exact ⟨k, hk, fun j hj => Nat.le_of_not_lt fun hlt => h ⟨j, hlt, hj⟩⟩


open Classical in
theorem wp_rounds {c : Code} {Q : Exit → Act → World → Prop} {a : Act} {w : World} (J : Nat → Act → World → Prop) {k : Nat} (h : J k a w)
    (round : ∀ k a w, J k a w → ∃ j, j + 1 = k ∧ c.wp P (Exit.then (J j) Q) a w) : (Code.loop c).wp P Q a w := by
  let μ : Act → World → Nat := fun a w => if h : ∃ k, J k a w then Classical.choose (least (fun k => J k a w) h) else 0
  have μ1 : ∀ a w k, J k a w → J (μ a w) a w ∧ μ a w ≤ k := by
    intro a w k hk
    have he : ∃ k, J k a w := ⟨k, hk⟩
    have := Classical.choose_spec (least (fun k => J k a w) he)
    simp only [μ, dif_pos he]
    exact ⟨this.1, this.2 k hk⟩
  refine wp_loop (fun a w => ∃ k, J k a w) μ ⟨k, h⟩ ?_
  rintro a w ⟨k, hk⟩
  obtain ⟨h1, _⟩ := μ1 a w k hk
  obtain ⟨j, hj, hw⟩ := round _ a w h1
  refine wp_mono hw fun e a' w' hq => ?_
  cases e with
  | normal => exact ⟨⟨j, hq⟩, by have := (μ1 a' w' j hq).2; omega⟩
  | _ => exact hq

theorem Goes.less {n m : Nat} {S S' : St} (h : Goes m S S') (hn : n ≤ m) : Goes n S S' := ⟨h.keeps, Nat.le_trans hn h.len, h.st, fun r e' k' hr hb => h.box r e' k' (by omega) hb, fun r s' p' hr hb => h.iter r s' p' (by omega) hb, fun r xs' k' g' s' hr hb => h.row r xs' k' g' s' (by omega) hb⟩

theorem aexec_ok {nl : Nat} {S0 : St} {an : Ann} {fuel : Nat} {res : CV × List CV} (hg : OnGlobals I S0.ng) (tbl : HOk P I S0.ng tb) (han : ∀ i h, an i = some h → nl ≤ h.base) :
    ∀ (c : Code) {K : KX} {Q : Exit → Act → World → Prop} {S : St} {env : Env} {a : Act}, Ok S → Goes nl S0 S → I S.w → EnvR S env a → a.defers = [] → Behind nl S0 I K res Q →
      aexec P tb an fuel c env S.H K = some res → c.wp P Q a S.w := by
  intro c
  induction c with
  | skip => intro K Q S env a ok go hI hE hd hQ h; exact wp_skip (hQ .normal _ _ ⟨S, env, rfl, ok, go, hI, hE, hd, h⟩)
  | label l => intro K Q S env a ok go hI hE hd hQ h; exact wp_label (hQ .normal _ _ ⟨S, env, rfl, ok, go, hI, hE, hd, h⟩)
  | exit id => intro K Q S env a ok go hI hE hd hQ h; exact wp_exit (hQ (.exit id) _ _ ⟨S, env, rfl, ok, go, hI, hE, hd, h⟩)
  | ret => intro K Q S env a ok go hI hE hd hQ h; exact wp_ret (hQ .ret _ _ ⟨S, env, rfl, ok, go, hI, hE, hd, h⟩)
  | region id ops draw =>
    intro K Q S env a ok go hI hE hd hQ h
    unfold aexec at h
    unfold atHead at h
    split at h
    · exact region_ok (hQ .normal) go ok (by rw [go.keeps.ng]; exact hg) hI (by rw [go.keeps.ng]; exact tbl) hE hd h
    rename_i hdr hh
    have hbase := han _ hdr hh
    split at h <;> first | (cases h; done) | skip
    rename_i env1 H1 he
    obtain ⟨S1, rfl, e2, ok1, go1, hE1⟩ := enterHead_ok ok hE he
    rw [← e2]
    have go2 := go.trans (go1.less hbase)
    exact region_ok (hQ .normal) go2 ok1 (by rw [go2.keeps.ng]; exact hg) (by rw [e2]; exact hI) (by rw [go2.keeps.ng]; exact tbl) hE1 hd h
  | seq x y ihx ihy =>
    intro K Q S env a ok go hI hE hd hQ h
    unfold aexec at h
    refine wp_seq (ihx ok go hI hE hd ?_ h)
    rintro e a' w' ⟨S', env', rfl, ok', go', hI', hE', hd', hk⟩
    cases e with
    | normal => exact ihy ok' go' hI' hE' hd' hQ hk
    | exit id => exact hQ (.exit id) _ _ ⟨S', env', rfl, ok', go', hI', hE', hd', hk⟩
    | ret => exact hQ .ret _ _ ⟨S', env', rfl, ok', go', hI', hE', hd', hk⟩
  | cond c x y ihx ihy =>
    intro K Q S env a ok go hI hE hd hQ h
    unfold aexec at h
    split at h <;> first | (cases h; done) | skip
    rename_i t ht
    have hv : a.eval c = .bool t := bool_of (ht ▸ evl_ok hE c)
    refine wp_cond hv ?_
    split at h
    · rename_i s
      have hs : env[s]? = some (.c (.bool t)) := by
        simp only [evl, List.getD_eq_getElem?_getD] at ht
        cases he : env[s]? with
        | none => rw [he] at ht; cases ht
        | some p => rw [he] at ht; exact congrArg some ht
      have hb := bool_at hE hs
      have hset : EnvR S (env.set s (.c (.bool t))) a := set_ok hE hb (Vb ..)
      rcases bif_some h with ⟨rfl, h'⟩ | ⟨rfl, h'⟩
      · exact ihx ok go hI hset hd hQ h'
      · exact ihy ok go hI hset hd hQ h'
    · rcases bif_some h with ⟨rfl, h'⟩ | ⟨rfl, h'⟩
      · exact ihx ok go hI hE hd hQ h'
      · exact ihy ok go hI hE hd hQ h'
  | block id b ih =>
    intro K Q S env a ok go hI hE hd hQ h
    unfold aexec at h
    refine wp_block (ih ok go hI hE hd ?_ h)
    rintro e a' w' ⟨S', env', rfl, ok', go', hI', hE', hd', hk⟩
    cases e with
    | normal => exact hQ .normal _ _ ⟨S', env', rfl, ok', go', hI', hE', hd', hk⟩
    | ret => exact hQ .ret _ _ ⟨S', env', rfl, ok', go', hI', hE', hd', hk⟩
    | exit id' =>
      show (if id' = id then Q .normal a' S'.w else Q (.exit id') a' S'.w)
      dsimp only at hk
      split
      · rename_i e; rw [if_pos e] at hk; exact hQ .normal _ _ ⟨S', env', rfl, ok', go', hI', hE', hd', hk⟩
      · rename_i e; rw [if_neg e] at hk; exact hQ (.exit id') _ _ ⟨S', env', rfl, ok', go', hI', hE', hd', hk⟩
  | loop b ih =>
    intro K Q S env a ok go hI hE hd hQ h
    unfold aexec at h
    split at h
    · refine wp_rounds (fun k a w => ∃ S' env', S'.w = w ∧ Ok S' ∧ Goes nl S0 S' ∧ I S'.w ∧ EnvR S' env' a ∧ a.defers = [] ∧ aloop (fun env H => some (env, H)) (fun env H K => aexec P tb an fuel b env H K) k env' S'.H K = some res) ⟨S, env, rfl, ok, go, hI, hE, hd, h⟩ ?_
      rintro k a' w' ⟨S', env', rfl, ok', go', hI', hE', hd', hk⟩
      cases k with
      | zero => simp [aloop] at hk
      | succ k =>
        refine ⟨k, rfl, ?_⟩
        simp only [aloop] at hk
        refine ih ok' go' hI' hE' hd' ?_ hk
        rintro e a2 w2 ⟨S2, env2, rfl, ok2, go2, hI2, hE2, hd2, hk2⟩
        cases e with
        | normal => exact ⟨S2, env2, rfl, ok2, go2, hI2, hE2, hd2, hk2⟩
        | exit id => exact hQ (.exit id) _ _ ⟨S2, env2, rfl, ok2, go2, hI2, hE2, hd2, hk2⟩
        | ret => exact hQ .ret _ _ ⟨S2, env2, rfl, ok2, go2, hI2, hE2, hd2, hk2⟩
    rename_i hdr hh
    have hbase : nl ≤ hdr.base := by
      cases hf : firstRegion b with
      | none => rw [hf] at hh; cases hh
      | some i => rw [hf] at hh; exact han i hdr hh
    refine wp_rounds (fun k a w => ∃ S' env', S'.w = w ∧ Ok S' ∧ Goes nl S0 S' ∧ I S'.w ∧ EnvR S' env' a ∧ a.defers = [] ∧ aloop (enterHead hdr) (fun env H K => aexec P tb an fuel b env H K) k env' S'.H K = some res) ⟨S, env, rfl, ok, go, hI, hE, hd, h⟩ ?_
    rintro k a' w' ⟨S', env', rfl, ok', go', hI', hE', hd', hk⟩
    cases k with
    | zero => simp [aloop] at hk
    | succ k =>
      refine ⟨k, rfl, ?_⟩
      simp only [aloop] at hk
      split at hk <;> first | (cases hk; done) | skip
      rename_i env1 H1 he
      obtain ⟨S1, rfl, e2, ok1, go1, hE1⟩ := enterHead_ok ok' hE' he
      rw [← e2]
      refine ih ok1 (go'.trans (go1.less hbase)) (by rw [e2]; exact hI') hE1 hd' ?_ hk
      rintro e a2 w2 ⟨S2, env2, rfl, ok2, go2, hI2, hE2, hd2, hk2⟩
      cases e with
      | normal => exact ⟨S2, env2, rfl, ok2, go2, hI2, hE2, hd2, hk2⟩
      | exit id => exact hQ (.exit id) _ _ ⟨S2, env2, rfl, ok2, go2, hI2, hE2, hd2, hk2⟩
      | ret => exact hQ .ret _ _ ⟨S2, env2, rfl, ok2, go2, hI2, hE2, hd2, hk2⟩
  | _ => intro K Q S env a ok go hI hE hd hQ h; unfold aexec at h; cases h

/-- The entry's slots. -/
theorem entry_env {S : St} {ps : List PV} {vals : Array Value} (n : Nat) (h : All2 (Vr S) ps vals.toList) : EnvR S (ps ++ List.replicate (n - ps.length) .undef) { tmps := vals ++ Array.replicate (n - vals.size) undef, defers := [] } := by
  show All2 (Vr S) _ (vals ++ Array.replicate (n - vals.size) undef).toList
  rw [Array.toList_append, Array.toList_replicate]
  have hl : ps.length = vals.size := by simpa using h.length
  rw [hl]
  have : ∀ m, All2 (Vr S) (List.replicate m PV.undef) (List.replicate m undef) := by
    intro m
    induction m with
    | zero => exact .nil
    | succ m ih => exact .cons (.undef _) ih
  exact All2.append h (this _)

theorem contract_of {f : FuncId} {F : Fn1} {ng : Nat} (an : Ann) (hg : OnGlobals I ng) (tbl : HOk P I ng tb)
    (h : ∀ cargs rv outs, picked (F cargs) = some (rv, outs) → ∃ fuel, abody P tb an fuel f cargs = some (rv, outs)) : Contract P I ng f F := by
  intro cargs rv outs hF S vals hH ok hng hI hv
  subst hng
  obtain ⟨fuel, hb⟩ := h cargs rv outs hF
  clear h hF
  unfold abody at hb
  split at hb <;> first | (cases hb; done) | skip
  rename_i fn hf
  split at hb <;> first | (cases hb; done) | skip
  rename_i body hbd
  split at hb
  rename_i ps H ho
  rw [ho] at hH hv
  simp only at hH hv
  subst hH
  refine calls_of_wp hf hbd (aexec_ok (nl := S.H.length) (S0 := S) hg tbl (fun i h hi => ?_) body ok (Goes.refl (Nat.le_refl _)) hI (entry_env _ hv) rfl ?_ hb)
  · cases hai : an i with
    | none => simp [filt, hai] at hi
    | some h' =>
      simp only [filt, hai, Option.filter_some] at hi
      split at hi
      · rename_i hc
        cases hi
        simpa using hc
      · cases hi
  · rintro e a w ⟨S', env', rfl, ok', go', hI', hE', hd', hk⟩
    have := finish_ok ok' go' hE' hk
    obtain ⟨v, S2, u, h1, h2, h3, h4, h5, h6, h7⟩ := this
    have key : a.defers = [] ∧ ∃ v, (results fn a.tmps).run P S'.w = .ok v S'.w ∧ ∃ v' S'' u, Ending.returned v = .returned v' ∧ S''.w = S'.w ∧ Ok S'' ∧ Keeps S S'' ∧ I S'.w ∧ AllR S'' rv v' u ∧ u.Nodup ∧ LentR S S'' outs u :=
      ⟨hd', v, h1, v, S2, u, rfl, h2, h3, h4, hI', h5, h6, h7⟩
    cases e with
    | normal => exact key
    | ret => exact key
    | exit id => simp [finish] at hk

end Go.Pv

/- Tables of functions that come to what the interpreter says. -/
namespace Go.Pv
set_option linter.unusedVariables false
open Go

variable {P : Program} {I : World → Prop}

def Known (P : Program) (I : World → Prop) (ng : Nat) (tb : Table) : Prop := ∀ f, Contract P I ng f (tb f)

def noTable : Table := fun _ _ => none
theorem known_no {ng : Nat} : Known P I ng noTable := fun f cargs rv outs h => by cases h

/-- One function more, by its own contract. -/
def addF (tb : Table) (f : FuncId) (F : Fn1) : Table := fun g => if Nat.beq g f then F else tb g
theorem known_add {ng : Nat} {tb : Table} {f : FuncId} {F : Fn1} (h : Known P I ng tb) (hF : Contract P I ng f F) : Known P I ng (addF tb f F) := by
  intro g
  unfold addF
  split
  · rename_i e
    obtain rfl := Nat.eq_of_beq_eq_true e
    exact hF
  · exact h g

/-- What the interpreter says, taken as it is. -/
def bodyF (P : Program) (tb : Table) (an : Ann) (fuel : Nat) (f : FuncId) : Fn1 := fun cargs =>
  match abody P (call' tb) an fuel f cargs with
  | some (rv, outs) => some [(true, rv, outs)]
  | none => none
theorem known_body {ng : Nat} {tb : Table} {an : Ann} {fuel : Nat} {f : FuncId} (hg : OnGlobals I ng) (h : Known P I ng tb) : Contract P I ng f (bodyF P tb an fuel f) :=
  contract_of an hg (hok_of h) fun cargs rv outs hF => by
    unfold bodyF at hF
    cases hb : abody P (call' tb) an fuel f cargs with
    | none => rw [hb] at hF; cases hF
    | some r =>
      obtain ⟨rv', outs'⟩ := r
      rw [hb] at hF
      cases hF
      exact ⟨fuel, hb⟩

/-- Annotations as a list. -/
def annOf (l : List (Nat × Head)) : Ann := fun i => match l with
  | [] => none
  | (j, h) :: l => if Nat.beq i j then some h else annOf l i

/-- All functions of a list, each by those behind it. -/
def bodies (P : Program) (fuel : Nat) : List (FuncId × List (Nat × Head)) → Table → Table
  | [], tb => tb
  | (f, an) :: l, tb => addF (bodies P fuel l tb) f (bodyF P (bodies P fuel l tb) (annOf an) fuel f)
theorem known_bodies {ng : Nat} {fuel : Nat} {tb : Table} (hg : OnGlobals I ng) (h : Known P I ng tb) : ∀ l, Known P I ng (bodies P fuel l tb)
  | [] => h
  | (f, an) :: l => known_add (known_bodies hg h l) (known_body hg (known_bodies hg h l))

end Go.Pv

/- Loops, taken apart: what runs ahead of the first loop, one round, what runs behind it. -/
namespace Go.Pv
set_option linter.unusedVariables false
open Go

theorem aloop_rounds {P : Program} {tb : Handler} {an : Ann} {fuel : Nat} {hd : Head} {b : Code} {K : KX} : ∀ (k : Nat) (env : Env) (H : Hp), aloop (enterHead hd) (fun env H K => aexec P tb an fuel b env H K) k env H K = headK hd (fun env H => rounds P tb an fuel hd b k env H K) env H
  | 0, env, H => by
    unfold aloop headK
    split <;> rfl
  | k + 1, env, H => by
    unfold aloop headK
    split
    · rfl
    · rename_i e H1 he
      show aexec P tb an fuel b e H1 _ = aexec P tb an fuel b e H1 _
      congr 1
      funext x env H
      cases x
      · exact aloop_rounds k env H
      · rfl
      · rfl

theorem roundsOf_succ {P : Program} {tb : Handler} {an : Ann} {fuel : Nat} {hd : Head} {c : Code} {k : Nat} {env : Env} {H : Hp} {K : KX} : roundsOf P tb an fuel hd c (k + 1) env H K = round P tb an fuel hd c env H (fun env H => roundsOf P tb an fuel hd c k env H K) K := rfl

theorem loopAt_eq {P : Program} {tb : Handler} {an : Ann} {fuel : Nat} {hd : Head} {c : Code} {env : Env} {H : Hp} {K : KX} : loopAt P tb an fuel hd c env H K = headK hd (fun env H => roundsOf P tb an fuel hd c fuel env H K) env H := aloop_rounds ..

end Go.Pv

/- Calls whose bodies are run in place. -/
namespace Go.Pv
set_option linter.unusedVariables false
open Go

variable {P : Program} {I : World → Prop} {tb : Handler}

theorem aops_strict (hs : HS tb) {ops : Array Oper} : ∀ (l : List Nat) (env : Env) (H : Hp), aops P tb ops l env H (fun _ _ => none) = none
  | [], env, H => rfl
  | i :: l, env, H => by
    cases ho : ops[i]? with
    | none =>
      rw [aops]
      simp only [ho]
      exact aops_strict hs l env H
    | some o =>
      rw [aops_cons ho]
      have : (fun p H' => aops P tb ops l (putE env o.dst p) H' (fun _ _ => none)) = fun _ _ => none := by
        funext p H'
        exact aops_strict hs l _ _
      rw [this]
      exact act_strict hs

theorem toNone (F : KX → Res) (h : F (fun _ _ _ => none) = none) {K : KX} (hK : ∀ e env H, K e env H = none) : F K = none := by
  have : K = fun _ _ _ => none := by
    funext e env H
    exact hK e env H
  rw [this]; exact h
theorem toNoneV (F : KV → Res) (h : F (fun _ _ => none) = none) {K : KV} (hK : ∀ p H, K p H = none) : F K = none := by
  have : K = fun _ _ => none := by
    funext p H
    exact hK p H
  rw [this]; exact h
theorem aloop_strict {hd : Env → Hp → Option (Env × Hp)} {body : Env → Hp → KX → Res} (hb : ∀ env H, body env H (fun _ _ _ => none) = none) : ∀ (k : Nat) (env : Env) (H : Hp), aloop hd body k env H (fun _ _ _ => none) = none
  | 0, env, H => rfl
  | k + 1, env, H => by
    simp only [aloop]
    split
    · rfl
    · rename_i e1 H1 he
      refine toNone (body e1 H1) (hb e1 H1) fun e env H => ?_
      cases e
      · exact aloop_strict hb k env H
      · rfl
      · rfl

theorem aexec_strict (hs : HS tb) {an : Ann} {fuel : Nat} : ∀ (c : Code) (env : Env) (H : Hp), aexec P tb an fuel c env H (fun _ _ _ => none) = none := by
  intro c
  induction c with
  | skip => intro env H; rfl
  | label l => intro env H; rfl
  | exit id => intro env H; rfl
  | ret => intro env H; rfl
  | region id ops draw =>
    intro env H
    unfold aexec atHead
    have h1 : ∀ env H, (if draw && !drawOk P ops env then none else aops P tb ops (List.range ops.size) env H fun _ _ => none) = none := fun env H => by
      split
      · rfl
      · exact aops_strict hs _ _ _
    split
    · exact h1 _ _
    · split
      · rfl
      · exact h1 _ _
  | seq a b iha ihb =>
    intro env H
    unfold aexec
    refine toNone (aexec P tb an fuel a env H) (iha env H) fun e env H => ?_
    cases e
    · exact ihb env H
    · rfl
    · rfl
  | cond c a b iha ihb =>
    intro env H
    unfold aexec
    split
    · split
      · rw [iha, ihb]; exact bif_none _
      · rw [iha, ihb]; exact bif_none _
    · rfl
  | block id b ih =>
    intro env H
    unfold aexec
    refine toNone (aexec P tb an fuel b env H) (ih env H) fun e env H => ?_
    cases e
    · rfl
    · dsimp only; split <;> rfl
    · rfl
  | loop b ih =>
    intro env H
    unfold aexec
    split
    · exact aloop_strict (fun env H => ih env H) _ _ _
    · exact aloop_strict (fun env H => ih env H) _ _ _
  | _ => intro env H; rfl

theorem load_strict {t : TypeId} {a : PV} {H : Hp} : load' P t a H (fun _ _ => none) = none := by
  rcases load_nf (P := P) (t := t) (a := a) (H := H) with ⟨p, hp⟩ | hn
  · rw [hp]
  · rw [hn]
theorem resVals_strict : ∀ (rs : List ResultVar) (env : Env) (H : Hp), resVals P rs env H (fun _ => none) = none
  | [], env, H => rfl
  | .tmp t :: rs, env, H => by
    simp only [resVals]
    exact resVals_strict rs env H
  | .cell a t :: rs, env, H => by
    simp only [resVals]
    exact toNoneV (load' P t (env.getD a .undef) H) load_strict fun p H' => resVals_strict rs env H

theorem inl_strict (hs : HS tb) {an : Ann} {fuel : Nat} (f : FuncId) (args : List PV) (H : Hp) : inl P tb an fuel f args H (fun _ _ => none) = none := by
  unfold inl
  split
  · rfl
  split
  · rename_i fn hf
    split
    · rename_i body hb
      refine toNone (aexec P tb (filt an H.length) fuel body _ H) (aexec_strict hs _ _ _) fun e env H => ?_
      cases e
      · exact resVals_strict _ _ _
      · rfl
      · exact resVals_strict _ _ _
    · rfl
  · rfl

theorem filt_base {an : Ann} {n : Nat} : ∀ i h, filt an n i = some h → n ≤ h.base := by
  intro i h hi
  cases hai : an i with
  | none => simp [filt, hai] at hi
  | some h' =>
    simp only [filt, hai, Option.filter_some] at hi
    split at hi
    · rename_i hc
      cases hi
      simpa using hc
    · cases hi

theorem inl_ok {ng : Nat} {an : Ann} {fuel : Nat} (hg : OnGlobals I ng) (tbl : HOk P I ng tb) {f : FuncId} {S : St} {args : List PV} {vals : Array Value} {K : KV} {res : CV × List CV} (ok : Ok S) (hng : S.ng = ng) (hI : I S.w) (hv : All2 (Vr S) args vals.toList) (h : inl P tb an fuel f args S.H K = some res) :
    Calls P f vals S.w fun e w' => ∃ v S' p, e = .returned v ∧ S'.w = w' ∧ Good S S' ∧ I S'.w ∧ Vr S' p v ∧ K p S'.H = some res := by
  subst hng
  unfold inl at h
  split at h <;> first | (cases h; done) | skip
  split at h <;> first | (cases h; done) | skip
  rename_i fn hf
  split at h <;> first | (cases h; done) | skip
  rename_i body hbd
  refine calls_of_wp hf hbd (aexec_ok (nl := S.H.length) (S0 := S) hg tbl filt_base body ok (Goes.refl (Nat.le_refl _)) hI (entry_env _ hv) rfl ?_ h)
  rintro e a w ⟨S', env', rfl, ok', go', hI', hE', hd', hk⟩
  have G : Good S S' := ⟨ok', go'.ext, go'.keeps⟩
  have key : resVals P fn.results.toList env' S'.H (fun ps => K (match ps with | [p] => p | ps => .tup ps) S'.H) = some res →
      a.defers = [] ∧ ∃ v, (results fn a.tmps).run P S'.w = .ok v S'.w ∧ ∃ v' S'' p, Ending.returned v = .returned v' ∧ S''.w = S'.w ∧ Good S S'' ∧ I S''.w ∧ Vr S'' p v' ∧ K p S''.H = some res := by
    intro hk
    obtain ⟨ps, v, h1, h2, h3⟩ := results_ok ok' hE' hk
    exact ⟨hd', v, h1, v, S', _, rfl, rfl, G, hI', h2, h3⟩
  cases e with
  | normal => exact key hk
  | ret => exact key hk
  | exit id => cases hk

theorem allCV_map : ∀ cs : List CV, allCV (cs.map .c) = true
  | [] => rfl
  | _ :: l => allCV_map l
theorem inls_ok {ng : Nat} {an : Ann} {fuel : Nat} (hg : OnGlobals I ng) (tbl : HOk P I ng tb) : ∀ (l : List FuncId), HOk P I ng (inls P an fuel l tb)
  | [] => tbl
  | f :: l => {
    call := fun {g S args vals K res} ok hng hI hv h => by
      have ih := inls_ok (an := an) (fuel := fuel) hg tbl l
      simp only [inls] at h
      split at h
      · rename_i e
        obtain rfl := Nat.eq_of_beq_eq_true e
        exact inl_ok hg ih ok hng hI hv h
      · exact ih.call ok hng hI hv h
    strict := fun g args H => by
      have ih := inls_ok (an := an) (fuel := fuel) hg tbl l
      simp only [inls]
      split
      · exact inl_strict ih.hs _ _ _
      · exact ih.strict _ _ _
    pure := fun g cs hn => by
      have ih := inls_ok (an := an) (fuel := fuel) hg tbl l
      simp only [inls]
      split
      · refine .inr fun H K => ?_
        unfold inl
        exact if_pos (allCV_map cs)
      · exact ih.pure _ _ hn }

end Go.Pv

/- Tables of functions run in place among others; contracts that others have proved. -/
namespace Go.Pv
set_option linter.unusedVariables false
open Go

variable {P : Program} {I : World → Prop}

/-- What the interpreter says, some callees being run in place. -/
def bodyI (P : Program) (tb : Handler) (fuel : Nat) (f : FuncId) : Fn1 := fun cargs =>
  match abody P tb (fun _ => none) fuel f cargs with
  | some (rv, outs) => some [(true, rv, outs)]
  | none => none
theorem contract_bodyI {ng : Nat} {tb : Handler} {fuel : Nat} {f : FuncId} (hg : OnGlobals I ng) (h : HOk P I ng tb) : Contract P I ng f (bodyI P tb fuel f) :=
  contract_of _ hg h fun cargs rv outs hF => by
    unfold bodyI at hF
    cases hb : abody P tb (fun _ => none) fuel f cargs with
    | none => rw [hb] at hF; cases hF
    | some r =>
      obtain ⟨rv', outs'⟩ := r
      rw [hb] at hF
      cases hF
      exact ⟨fuel, hb⟩
/-- All functions of a list, each by those behind it; those of il are run in place. -/
def bodiesI (P : Program) (fuel : Nat) (il : List FuncId) : List FuncId → Table → Table
  | [], tb => tb
  | f :: l, tb => addF (bodiesI P fuel il l tb) f (bodyI P (inls P (fun _ => none) fuel il (call' (bodiesI P fuel il l tb))) fuel f)
theorem known_bodiesI {ng : Nat} {fuel : Nat} {il : List FuncId} {tb : Table} (hg : OnGlobals I ng) (h : Known P I ng tb) : ∀ l, Known P I ng (bodiesI P fuel il l tb)
  | [] => h
  | f :: l => known_add (known_bodiesI hg h l) (contract_bodyI hg (inls_ok hg (hok_of (known_bodiesI hg h l)) il))

theorem openArgs_data : ∀ {cargs : List CV}, noBox cargs = true → ∀ H, openArgs cargs H = (cargs.map .c, H)
  | [], _, H => rfl
  | v :: l, h, H => by
    have h1 : openArg v H = (.c v, H) := by cases v <;> first | rfl | (simp [noBox] at h; done)
    have h2 : noBox l = true := by cases v <;> first | exact h | (simp [noBox] at h; done)
    simp only [openArgs, h1, openArgs_data h2, List.map_cons]
def isData (rv : CV) (v : Value) : Prop := (∀ S : St, Vc S rv v) ∨ ∃ xs vs, rv = .tup xs ∧ v = .tuple vs ∧ ∀ S : St, All2 (Vc S) xs vs.toList
theorem tup_data {S : St} : ∀ {xs : List CV} {vs : List Value}, All2 (Vc S) xs vs → TupR S xs vs []
  | _, _, .nil => .nil
  | _, _, .cons h1 h2 => TupR.cons (u := []) (us := []) (.val (.cell (.data h1))) (tup_data h2)

/-- A contract of a function of data that leaves what was there as it was. -/
theorem contract_pure {f : FuncId} {F : Fn1} {ng : Nat} (hg : OnGlobals I ng)
    (h : ∀ cargs rv outs, picked (F cargs) = some (rv, outs) → outs = [] ∧ noBox cargs = true ∧ ∀ (S : St) (vals : Array Value), Ok S → All2 (Vc S) cargs vals.toList →
      Calls P f vals S.w fun e w' => ∃ v, e = .returned v ∧ isData rv v ∧ RowKit.Below S.w.heap.size S.w w') : Contract P I ng f F := by
  intro cargs rv outs hF S vals hH ok hng hI hv
  obtain ⟨rfl, hb, h⟩ := h cargs rv outs hF
  rw [openArgs_data hb] at hH hv
  refine (h S vals ok (c_list hv)).mono ?_
  rintro e w' ⟨v, rfl, hd, B⟩
  have hι : ∀ r, S.ι r = none := fun r => ok.out r (by rw [hH]; exact Nat.zero_le _)
  let S' : St := { S with w := w' }
  have K : Keeps S S' := ⟨B.os, B.tape, B.output, B.size, fun b hb _ => B.block b hb, fun r b hr => .inl ⟨r, hr⟩, rfl, rfl, rfl⟩
  have ok' : Ok S' := by
    refine ⟨fun r o hr => ?_, fun r _ => hι r, fun r r' b h1 _ => ?_, fun r b h1 => ?_, fun r b off h1 => ?_, ok.forb, Nat.le_trans ok.n0 B.size, fun r b h1 => ?_, ok.ng⟩
    · have hr' : S.H[r]? = some o := hr
      rw [hH] at hr'; simp at hr'
    all_goals
      have h1' : S.ι r = some b := h1
      rw [hι] at h1'; cases h1'
  refine ⟨v, S', [], rfl, rfl, ok', K, ?_, ?_, List.nodup_nil, ⟨by rw [hH]; rfl, fun i e k x hi => ?_⟩⟩
  · have := K.inv (I := I) ok (by rw [hng]; exact hg) hI
    exact this
  · rcases hd with hd | ⟨xs, vs, rfl, rfl, hd⟩
    · exact .res (.val (.cell (.data (hd S'))))
    · exact .tup (tup_data (hd S'))
  · rw [hH] at hi; simp at hi

end Go.Pv

/- Code whose loops are left undone, each by itself. -/
namespace Go.Pv
set_option linter.unusedVariables false
open Go

/-- How many loops stand in the code (loops in loops aside). -/
def nLoops : Code → Nat
  | .seq a b => nLoops a + nLoops b
  | .cond _ a b => nLoops a + nLoops b
  | .block _ b => nLoops b
  | .loop _ => 1
  | _ => 0
/-- The code, its loops left undone: the n-th one leaves by the number 1000000 + n. -/
def cutN : Nat → Code → Code
  | n, .seq a b => .seq (cutN n a) (cutN (n + nLoops a) b)
  | n, .cond x a b => .cond x (cutN n a) (cutN (n + nLoops a) b)
  | n, .block id b => .block id (cutN n b)
  | n, .loop _ => .exit (1000000 + n)
  | _, c => c
/-- The n-th loop's body. -/
def bodyN : Nat → Code → Code
  | n, .seq a b => if n < nLoops a then bodyN n a else bodyN (n - nLoops a) b
  | n, .cond _ a b => if n < nLoops a then bodyN n a else bodyN (n - nLoops a) b
  | n, .block _ b => bodyN n b
  | _, .loop b => b
  | _, _ => .skip
/-- What runs behind the n-th loop. -/
def restN (P : Program) (tb : Handler) (an : Ann) (fuel : Nat) : Nat → Code → KX → KX
  | n, .seq a b, K => if n < nLoops a then restN P tb an fuel n a (thenK (fun env H => aexec P tb an fuel b env H K) K) else restN P tb an fuel (n - nLoops a) b K
  | n, .cond _ a b, K => if n < nLoops a then restN P tb an fuel n a K else restN P tb an fuel (n - nLoops a) b K
  | n, .block id b, K => restN P tb an fuel n b (blockK id K)
  | _, _, K => K
def cutNK (L : Nat → Env → Hp → Res) (K : KX) : KX := fun e env H => match e with
  | .exit id => if Nat.ble 1000000 id then L (id - 1000000) env H else K (.exit id) env H
  | e => K e env H
/-- Are the numbers of exits small? -/
def idsOk : Code → Bool
  | .seq a b => idsOk a && idsOk b
  | .cond _ a b => idsOk a && idsOk b
  | .block id b => Nat.blt id 1000000 && idsOk b
  | .loop b => idsOk b
  | .exit id => Nat.blt id 1000000
  | _ => true
/-- The code with its loops left to L. -/
def parts (P : Program) (tb : Handler) (an : Ann) (fuel : Nat) (c : Code) (env : Env) (H : Hp) (L : Nat → Env → Hp → Res) (K : KX) : Res := aexec P tb an fuel (cutN 0 c) env H (cutNK L K)

theorem ble_iff {a b : Nat} : Nat.ble a b = true ↔ a ≤ b := ⟨Nat.le_of_ble_eq_true, Nat.ble_eq_true_of_le⟩

theorem cut_eq {P : Program} {tb : Handler} {an : Ann} {fuel : Nat} {L : Nat → Env → Hp → Res} : ∀ (c : Code) (n : Nat) (K : KX) (env : Env) (H : Hp), idsOk c = true →
    (∀ i env H, i < nLoops c → L (n + i) env H = aexec P tb an fuel (.loop (bodyN i c)) env H (restN P tb an fuel i c K)) →
    aexec P tb an fuel c env H K = aexec P tb an fuel (cutN n c) env H (cutNK L K) := by
  intro c
  induction c with
  | seq a b iha ihb =>
    intro n K env H ho hL
    simp only [idsOk, Bool.and_eq_true] at ho
    have hb : ∀ env H, aexec P tb an fuel b env H K = aexec P tb an fuel (cutN (n + nLoops a) b) env H (cutNK L K) := fun env H => ihb _ K env H ho.2 fun i env H hi => by
      rw [Nat.add_assoc, hL (nLoops a + i) env H (by simp only [nLoops]; omega)]
      simp only [bodyN, restN, if_neg (show ¬ nLoops a + i < nLoops a by omega), Nat.add_sub_cancel_left]
    have ha := iha n (thenK (fun env H => aexec P tb an fuel b env H K) K) env H ho.1 fun i env H hi => by
      rw [hL i env H (by simp only [nLoops]; omega)]
      simp only [bodyN, restN, if_pos hi]
    have e1 : aexec P tb an fuel (.seq a b) env H K = aexec P tb an fuel a env H (thenK (fun env H => aexec P tb an fuel b env H K) K) := by
      show aexec P tb an fuel a env H _ = aexec P tb an fuel a env H _
      congr 1
    rw [e1, ha]
    show aexec P tb an fuel (cutN n a) env H _ = aexec P tb an fuel (cutN n a) env H _
    congr 1
    funext e env H
    cases e with
    | normal => exact hb env H
    | exit id =>
      simp only [cutNK]
      split <;> rfl
    | ret => rfl
  | cond x a b iha ihb =>
    intro n K env H ho hL
    simp only [idsOk, Bool.and_eq_true] at ho
    have hb : ∀ env H, aexec P tb an fuel b env H K = aexec P tb an fuel (cutN (n + nLoops a) b) env H (cutNK L K) := fun env H => ihb _ K env H ho.2 fun i env H hi => by
      rw [Nat.add_assoc, hL (nLoops a + i) env H (by simp only [nLoops]; omega)]
      simp only [bodyN, restN, if_neg (show ¬ nLoops a + i < nLoops a by omega), Nat.add_sub_cancel_left]
    have ha : ∀ env H, aexec P tb an fuel a env H K = aexec P tb an fuel (cutN n a) env H (cutNK L K) := fun env H => iha n K env H ho.1 fun i env H hi => by
      rw [hL i env H (by simp only [nLoops]; omega)]
      simp only [bodyN, restN, if_pos hi]
    simp only [cutN, aexec, ha, hb]
  | block id b ih =>
    intro n K env H ho hL
    simp only [idsOk, Bool.and_eq_true] at ho
    have hid : id < 1000000 := by
      have := ho.1
      unfold Nat.blt at this
      have := Nat.le_of_ble_eq_true this
      omega
    have e1 : ∀ K' : KX, ∀ c, aexec P tb an fuel (.block id c) env H K' = aexec P tb an fuel c env H (blockK id K') := by
      intro K' c
      show aexec P tb an fuel c env H _ = aexec P tb an fuel c env H _
      congr 1
    rw [e1, ih n (blockK id K) env H ho.2 fun i env H hi => by
      rw [hL i env H hi]
      rfl]
    show _ = aexec P tb an fuel (.block id (cutN n b)) env H _
    rw [e1]
    congr 1
    funext e env H
    cases e with
    | normal => rfl
    | ret => rfl
    | exit id' =>
      simp only [cutNK, blockK]
      by_cases hbig : 1000000 ≤ id'
      · have h1 : Nat.ble 1000000 id' = true := ble_iff.2 hbig
        simp only [h1, if_true, if_neg (show ¬ id' = id by omega)]
      · have h1 : ¬ Nat.ble 1000000 id' = true := fun h => hbig (ble_iff.1 h)
        simp only [if_neg h1]
  | loop b ih =>
    intro n K env H ho hL
    have h0 : L n env H = aexec P tb an fuel (.loop b) env H K := hL 0 env H Nat.zero_lt_one
    have h1 : Nat.ble 1000000 (1000000 + n) = true := ble_iff.2 (Nat.le_add_right _ _)
    have h2 : aexec P tb an fuel (cutN n (.loop b)) env H (cutNK L K) = if Nat.ble 1000000 (1000000 + n) then L (1000000 + n - 1000000) env H else K (.exit (1000000 + n)) env H := rfl
    rw [h2, if_pos h1, Nat.add_sub_cancel_left, h0]
  | exit id =>
    intro n K env H ho hL
    simp only [cutN, aexec, cutNK]
    simp only [idsOk] at ho
    have hid : id < 1000000 := by
      unfold Nat.blt at ho
      have := Nat.le_of_ble_eq_true ho
      omega
    rw [if_neg (by rw [ble_iff]; omega)]
  | region id ops draw =>
    intro n K env H ho hL
    simp only [cutN, aexec]
    rfl
  | skip => intro n K env H ho hL; rfl
  | label l => intro n K env H ho hL; rfl
  | ret => intro n K env H ho hL; rfl
  | _ => intro n K env H ho hL; rfl

theorem parts_eq {P : Program} {tb : Handler} {an : Ann} {fuel : Nat} {c : Code} {env : Env} {H : Hp} {K : KX} (h : idsOk c = true) :
    aexec P tb an fuel c env H K = parts P tb an fuel c env H (fun i env H => aexec P tb an fuel (.loop (bodyN i c)) env H (restN P tb an fuel i c K)) K :=
  cut_eq c 0 K env H h fun i env H _ => by rw [Nat.zero_add]

/-- A loop, by its rounds. -/
theorem loop_eq {P : Program} {tb : Handler} {an : Ann} {fuel : Nat} {b : Code} {env : Env} {H : Hp} {K : KX} {hd : Head} (h : (firstRegion b).bind an = some hd) :
    aexec P tb an fuel (.loop b) env H K = headK hd (fun env H => rounds P tb an fuel hd b fuel env H K) env H := by
  rw [← aloop_rounds]
  simp only [aexec, h]
theorem rounds_succ {P : Program} {tb : Handler} {an : Ann} {fuel : Nat} {hd : Head} {b : Code} {k : Nat} {env : Env} {H : Hp} {K : KX} :
    rounds P tb an fuel hd b (k + 1) env H K = aexec P tb an fuel b env H (thenK (headK hd fun env H => rounds P tb an fuel hd b k env H K) K) := rfl

/-- A function, from its slots on. -/
def bodyOf (P : Program) (tb : Handler) (an : Ann) (fuel : Nat) (f : FuncId) (ps : List PV) (H : Hp) : Res := aexec P tb (filt an H.length) fuel (codeOf P f) (envOf P f ps) H (endOf P f (lentOf H))

end Go.Pv

/-
  DERIVED: THE SHELF's CONTRACTS AT THIS DUMP, IN PLAIN WORDS (tools/lay-plain.mjs out of 'TryzShelf.lean', which tools/lay-shelf.mjs wrote): THE SAME DECLARATIONS UNDER THE SAME NAMES: 'import', 'namespace', 'open', 'def', 'theorem' AND NOTHING ELSE: no command of the shelf's: FOR A HAND-IN. Each laying: the table of numbers ('.._ren') and one theorem, a field a fact of the dump's own or the kernel's comparison; each contract: ONE APPLICATION.
-/
namespace Go.Proofs
open Go.Shelf
def Tryz.lays156_ren : Go.Shelf.Ren := ⟨fun | 156 => 39 | 165 => 66 | 166 => 50 | 169 => 51 | 240 => 76 | 241 => 89 | 276 => 100 | 277 => 110 | n => n, fun | 31 => 54 | 9 => 9 | 3 => 3 | 4 => 4 | 0 => 0 | 20 => 20 | 72 => 63 | 76 => 51 | 70 => 61 | 37 => 60 | 75 => 50 | 127 => 92 | 164 => 113 | 5 => 5 | 80 => 64 | n => n, fun | n => n⟩
theorem Tryz.lays156 : Go.Proofs.Lays.n156 Tryz.prog Tryz.lays156_ren := {
  mixed := by kernel_rfl
  f156 := Tryz.func39.trans (congrArg some (by kernel_rfl))
  f165 := Tryz.func66.trans (congrArg some (by kernel_rfl))
  f166 := Tryz.func50.trans (congrArg some (by kernel_rfl))
  f169 := Tryz.func51.trans (congrArg some (by kernel_rfl))
  f240 := Tryz.func76.trans (congrArg some (by kernel_rfl))
  f241 := Tryz.func89.trans (congrArg some (by kernel_rfl))
  f276 := Tryz.func100.trans (congrArg some (by kernel_rfl))
  f277 := Tryz.func110.trans (congrArg some (by kernel_rfl))
  t0 := Tryz.underlying0
  a0 := Tryz.isAgg0
  z0 := Tryz.sizeOf0
  v0 := Tryz.zeroValue0
  t3 := Tryz.underlying3
  a3 := Tryz.isAgg3
  z3 := Tryz.sizeOf3
  v3 := Tryz.zeroValue3
  t4 := Tryz.underlying4
  a4 := Tryz.isAgg4
  z4 := Tryz.sizeOf4
  v4 := Tryz.zeroValue4
  t9 := Tryz.underlying9
  a9 := Tryz.isAgg9
  z9 := Tryz.sizeOf9
  v9 := Tryz.zeroValue9
  t20 := Tryz.underlying20
  a20 := Tryz.isAgg20
  z20 := Tryz.sizeOf20
  v20 := Tryz.zeroValue20
  t31 := Tryz.underlying54
  a31 := Tryz.isAgg54
  z31 := Tryz.sizeOf54
  v31 := Tryz.zeroValue54
  t37 := Tryz.underlying60
  a37 := Tryz.isAgg60
  z37 := Tryz.sizeOf60
  v37 := Tryz.zeroValue60
  t70 := Tryz.underlying61
  a70 := Tryz.isAgg61
  z70 := Tryz.sizeOf61
  v70 := Tryz.zeroValue61
  t72 := Tryz.underlying63
  a72 := Tryz.isAgg63
  z72 := Tryz.sizeOf63
  v72 := Tryz.zeroValue63
  t75 := Tryz.underlying50
  a75 := Tryz.isAgg50
  z75 := Tryz.sizeOf50
  v75 := Tryz.zeroValue50
  t76 := Tryz.underlying51
  a76 := Tryz.isAgg51
  z76 := Tryz.sizeOf51
  v76 := Tryz.zeroValue51
  t127 := Tryz.underlying92
  a127 := Tryz.isAgg92
  z127 := Tryz.sizeOf92
  v127 := Tryz.zeroValue92
  t164 := Tryz.underlying113
  a164 := Tryz.isAgg113
  z164 := Tryz.sizeOf113
  v164 := Tryz.zeroValue113 }
theorem Tryz.Builder_Extra_156 : Builder.Extra Tryz.prog Tryz.lays156_ren := {
  sizeBuilder := by kernel_rfl
  liesBuilder := by kernel_rfl
  t5 := Tryz.underlying5
  a5 := Tryz.isAgg5
  z5 := Tryz.sizeOf5
  v5 := Tryz.zeroValue5
  infoByte := by kernel_rfl
  cellsByte := by kernel_rfl
  sizeByte := by kernel_rfl
  neB5 := by decide }
open Go.RowKit in
/-- No element: the empty string; the world is as it was. (Whatever the slice's address and capacity: a nil slice too.) (LAID: no walk: one application.) -/
theorem Tryz.strings_Join_none (a : Option Addr) (c : Nat) (sep : ByteArray) (w : World) :
    Calls Tryz.prog 39 #[.slice a 0 c, .string sep] w fun e w' => e = .returned (.string ⟨#[]⟩) ∧ w' = w := Any.strings_Join_none Tryz.lays156 Tryz.Builder_Extra_156 a c sep w
open Go.RowKit in
/-- strings.Join: "Join concatenates the elements of its first argument to create a single string. The separator string sep is placed between elements in the resulting string.": HOWEVER MANY ELEMENTS. Below the heap's end the world is as it was. (LAID: no walk: one application.) -/
theorem Tryz.strings_Join (bk o c : Nat) (xs : List ByteArray) (sep : ByteArray) (w : World) (hcells : ∀ (j : Nat) x, xs[j]? = some x → w.cell? ⟨bk, o + j, none⟩ = some (.string x)) (hbk : bk < w.heap.size) (hN : xs.length ≤ 140737488355328) (hcap : xs.length ≤ c) (hlen : (Lib.join (xs.map (·.data.toList)) sep.data.toList).length ≤ 140737488355328) :
    Calls Tryz.prog 39 #[.slice (some ⟨bk, o, none⟩) xs.length c, .string sep] w fun e w' => e = .returned (.string ⟨(Lib.join (xs.map (·.data.toList)) sep.data.toList).toArray⟩) ∧ Below w.heap.size w w' := Any.strings_Join Tryz.lays156 Tryz.Builder_Extra_156 bk o c xs sep w hcells hbk hN hcap hlen
def Tryz.lays220_ren : Go.Shelf.Ren := ⟨fun | 220 => 99 | 219 => 118 | 217 => 65 | 225 => 126 | 224 => 125 | 267 => 136 | 266 => 88 | 314 => 140 | n => n, fun | 9 => 9 | 4 => 4 | 3 => 3 | 5 => 5 | 46 => 94 | 146 => 158 | 51 => 138 | n => n, fun | 1 => 0 | n => n⟩
theorem Tryz.lays220 : Go.Proofs.Lays.n220 Tryz.prog Tryz.lays220_ren := {
  mixed := by kernel_rfl
  f217 := Tryz.func65.trans (congrArg some (by kernel_rfl))
  f219 := Tryz.func118.trans (congrArg some (by kernel_rfl))
  f220 := Tryz.func99.trans (congrArg some (by kernel_rfl))
  f224 := Tryz.func125.trans (congrArg some (by kernel_rfl))
  f225 := Tryz.func126.trans (congrArg some (by kernel_rfl))
  f266 := Tryz.func88.trans (congrArg some (by kernel_rfl))
  f267 := Tryz.func136.trans (congrArg some (by kernel_rfl))
  f314 := Tryz.func140.trans (congrArg some (by kernel_rfl))
  t3 := Tryz.underlying3
  a3 := Tryz.isAgg3
  z3 := Tryz.sizeOf3
  v3 := Tryz.zeroValue3
  t4 := Tryz.underlying4
  a4 := Tryz.isAgg4
  z4 := Tryz.sizeOf4
  v4 := Tryz.zeroValue4
  t5 := Tryz.underlying5
  a5 := Tryz.isAgg5
  z5 := Tryz.sizeOf5
  v5 := Tryz.zeroValue5
  t9 := Tryz.underlying9
  a9 := Tryz.isAgg9
  z9 := Tryz.sizeOf9
  v9 := Tryz.zeroValue9
  t46 := Tryz.underlying94
  a46 := Tryz.isAgg94
  z46 := Tryz.sizeOf94
  v46 := Tryz.zeroValue94
  t51 := Tryz.underlying138
  a51 := Tryz.isAgg138
  z51 := Tryz.sizeOf138
  v51 := Tryz.zeroValue138
  t146 := Tryz.underlying158
  a146 := Tryz.isAgg158
  z146 := Tryz.sizeOf158
  v146 := Tryz.zeroValue158
  g1 := by kernel_rfl }
open Go.RowKit Go.Lib in
/-- internal/stringslite.Cut (what strings.Cut calls): IT RETURNS 'Lib.cut s sep'; the world is as it was but for the count of draws. (LAID: no walk: one application.) -/
theorem Tryz.stringslite_Cut (s sep : ByteArray) (m : Int) (w : World) (hs : s.size < 4294967281) (hm : w.cell? ⟨0, 0, none⟩ = some (.int .i64 m)) :
    Calls Tryz.prog 99 #[.string s, .string sep] w fun e w' => e = .returned (.tuple #[.string ⟨(Lib.cut s.data.toList sep.data.toList).1.toArray⟩, .string ⟨(Lib.cut s.data.toList sep.data.toList).2.1.toArray⟩, .bool (Lib.cut s.data.toList sep.data.toList).2.2]) ∧ ∃ n, w' = w.drewN n := Any.stringslite_Cut Tryz.lays220 s sep m w hs hm
def Tryz.lays145_ren : Go.Shelf.Ren := ⟨fun | 145 => 73 | 220 => 99 | 219 => 118 | 217 => 65 | 225 => 126 | 224 => 125 | 267 => 136 | 266 => 88 | 314 => 140 | n => n, fun | 9 => 9 | 4 => 4 | 59 => 89 | 3 => 3 | 5 => 5 | 46 => 94 | 146 => 158 | 51 => 138 | n => n, fun | 1 => 0 | n => n⟩
theorem Tryz.lays145 : Go.Proofs.Lays.n145 Tryz.prog Tryz.lays145_ren := {
  mixed := by kernel_rfl
  f145 := Tryz.func73.trans (congrArg some (by kernel_rfl))
  f217 := Tryz.func65.trans (congrArg some (by kernel_rfl))
  f219 := Tryz.func118.trans (congrArg some (by kernel_rfl))
  f220 := Tryz.func99.trans (congrArg some (by kernel_rfl))
  f224 := Tryz.func125.trans (congrArg some (by kernel_rfl))
  f225 := Tryz.func126.trans (congrArg some (by kernel_rfl))
  f266 := Tryz.func88.trans (congrArg some (by kernel_rfl))
  f267 := Tryz.func136.trans (congrArg some (by kernel_rfl))
  f314 := Tryz.func140.trans (congrArg some (by kernel_rfl))
  t3 := Tryz.underlying3
  a3 := Tryz.isAgg3
  z3 := Tryz.sizeOf3
  v3 := Tryz.zeroValue3
  t4 := Tryz.underlying4
  a4 := Tryz.isAgg4
  z4 := Tryz.sizeOf4
  v4 := Tryz.zeroValue4
  t5 := Tryz.underlying5
  a5 := Tryz.isAgg5
  z5 := Tryz.sizeOf5
  v5 := Tryz.zeroValue5
  t9 := Tryz.underlying9
  a9 := Tryz.isAgg9
  z9 := Tryz.sizeOf9
  v9 := Tryz.zeroValue9
  t46 := Tryz.underlying94
  a46 := Tryz.isAgg94
  z46 := Tryz.sizeOf94
  v46 := Tryz.zeroValue94
  t51 := Tryz.underlying138
  a51 := Tryz.isAgg138
  z51 := Tryz.sizeOf138
  v51 := Tryz.zeroValue138
  t59 := Tryz.underlying89
  a59 := Tryz.isAgg89
  z59 := Tryz.sizeOf89
  v59 := Tryz.zeroValue89
  t146 := Tryz.underlying158
  a146 := Tryz.isAgg158
  z146 := Tryz.sizeOf158
  v146 := Tryz.zeroValue158
  g1 := by kernel_rfl }
open Go.RowKit Go.Lib in
/-- strings.Cut: "Cut slices s around the first instance of sep, returning the text before and after sep. The found result reports whether sep appears in s. If sep does not appear in s, cut returns s, "", false.": IT RETURNS 'Lib.cut s sep'; the world is as it was but for the count of draws. (LAID: no walk: one application.) -/
theorem Tryz.strings_Cut (s sep : ByteArray) (m : Int) (w : World) (hs : s.size < 4294967281) (hm : w.cell? ⟨0, 0, none⟩ = some (.int .i64 m)) :
    Calls Tryz.prog 73 #[.string s, .string sep] w fun e w' => e = .returned (.tuple #[.string ⟨(Lib.cut s.data.toList sep.data.toList).1.toArray⟩, .string ⟨(Lib.cut s.data.toList sep.data.toList).2.1.toArray⟩, .bool (Lib.cut s.data.toList sep.data.toList).2.2]) ∧ ∃ n, w' = w.drewN n := Any.strings_Cut Tryz.lays145 s sep m w hs hm
def Tryz.lays138_ren : Go.Shelf.Ren := ⟨fun | 138 => 142 | 195 => 143 | 218 => 144 | 143 => 135 | 219 => 118 | 217 => 65 | 225 => 126 | 224 => 125 | 267 => 136 | 266 => 88 | 314 => 140 | n => n, fun | 9 => 9 | 3 => 3 | 4 => 4 | 5 => 5 | 0 => 0 | 46 => 94 | 146 => 158 | 51 => 138 | n => n, fun | 1 => 0 | n => n⟩
theorem Tryz.lays138 : Go.Proofs.Lays.n138 Tryz.prog Tryz.lays138_ren := {
  mixed := by kernel_rfl
  f138 := Tryz.func142.trans (congrArg some (by kernel_rfl))
  f143 := Tryz.func135.trans (congrArg some (by kernel_rfl))
  f195 := Tryz.func143.trans (congrArg some (by kernel_rfl))
  f217 := Tryz.func65.trans (congrArg some (by kernel_rfl))
  f218 := Tryz.func144.trans (congrArg some (by kernel_rfl))
  f219 := Tryz.func118.trans (congrArg some (by kernel_rfl))
  f224 := Tryz.func125.trans (congrArg some (by kernel_rfl))
  f225 := Tryz.func126.trans (congrArg some (by kernel_rfl))
  f266 := Tryz.func88.trans (congrArg some (by kernel_rfl))
  f267 := Tryz.func136.trans (congrArg some (by kernel_rfl))
  f314 := Tryz.func140.trans (congrArg some (by kernel_rfl))
  t0 := Tryz.underlying0
  a0 := Tryz.isAgg0
  z0 := Tryz.sizeOf0
  v0 := Tryz.zeroValue0
  t3 := Tryz.underlying3
  a3 := Tryz.isAgg3
  z3 := Tryz.sizeOf3
  v3 := Tryz.zeroValue3
  t4 := Tryz.underlying4
  a4 := Tryz.isAgg4
  z4 := Tryz.sizeOf4
  v4 := Tryz.zeroValue4
  t5 := Tryz.underlying5
  a5 := Tryz.isAgg5
  z5 := Tryz.sizeOf5
  v5 := Tryz.zeroValue5
  t9 := Tryz.underlying9
  a9 := Tryz.isAgg9
  z9 := Tryz.sizeOf9
  v9 := Tryz.zeroValue9
  t46 := Tryz.underlying94
  a46 := Tryz.isAgg94
  z46 := Tryz.sizeOf94
  v46 := Tryz.zeroValue94
  t51 := Tryz.underlying138
  a51 := Tryz.isAgg138
  z51 := Tryz.sizeOf138
  v51 := Tryz.zeroValue138
  t146 := Tryz.underlying158
  a146 := Tryz.isAgg158
  z146 := Tryz.sizeOf158
  v146 := Tryz.zeroValue158
  g1 := by kernel_rfl }
open Go.RowKit Go.Lib in
/-- strings.Count at whatever sep that is not empty: the two roads under one statement. (LAID: no walk: one application.) -/
theorem Tryz.strings_Count_any (s sep : ByteArray) (m : Int) (w : World) (hs : s.size < 4294967281) (hm : w.cell? ⟨0, 0, none⟩ = some (.int .i64 m)) (h1 : 1 ≤ sep.size) :
    Calls Tryz.prog 142 #[.string s, .string sep] w fun e w' => e = .returned (.int .i64 (Lib.countB s sep)) ∧ w' = w := Any.strings_Count_any Tryz.lays138 s sep m w hs hm h1
def Tryz.lays221_ren : Go.Shelf.Ren := ⟨fun | 221 => 139 | 268 => 141 | 138 => 142 | 143 => 135 | 195 => 143 | 197 => 80 | 218 => 144 | 219 => 118 | 260 => 105 | 217 => 65 | 225 => 126 | 224 => 125 | 267 => 136 | 266 => 88 | 314 => 140 | n => n, fun | 9 => 9 | 3 => 3 | 31 => 54 | 4 => 4 | 0 => 0 | 105 => 96 | 21 => 21 | 5 => 5 | 46 => 94 | 119 => 142 | 139 => 145 | 138 => 144 | 146 => 158 | 51 => 138 | n => n, fun | 1 => 0 | 3 => 4 | 4 => 5 | n => n⟩
theorem Tryz.lays221 : Go.Proofs.Lays.n221 Tryz.prog Tryz.lays221_ren := {
  mixed := by kernel_rfl
  f138 := Tryz.func142.trans (congrArg some (by kernel_rfl))
  f143 := Tryz.func135.trans (congrArg some (by kernel_rfl))
  f195 := Tryz.func143.trans (congrArg some (by kernel_rfl))
  f197 := Tryz.func80.trans (congrArg some (by kernel_rfl))
  f217 := Tryz.func65.trans (congrArg some (by kernel_rfl))
  f218 := Tryz.func144.trans (congrArg some (by kernel_rfl))
  f219 := Tryz.func118.trans (congrArg some (by kernel_rfl))
  f221 := Tryz.func139.trans (congrArg some (by kernel_rfl))
  f224 := Tryz.func125.trans (congrArg some (by kernel_rfl))
  f225 := Tryz.func126.trans (congrArg some (by kernel_rfl))
  f260 := Tryz.func105.trans (congrArg some (by kernel_rfl))
  f266 := Tryz.func88.trans (congrArg some (by kernel_rfl))
  f267 := Tryz.func136.trans (congrArg some (by kernel_rfl))
  f268 := Tryz.func141.trans (congrArg some (by kernel_rfl))
  f314 := Tryz.func140.trans (congrArg some (by kernel_rfl))
  t0 := Tryz.underlying0
  a0 := Tryz.isAgg0
  z0 := Tryz.sizeOf0
  v0 := Tryz.zeroValue0
  t3 := Tryz.underlying3
  a3 := Tryz.isAgg3
  z3 := Tryz.sizeOf3
  v3 := Tryz.zeroValue3
  t4 := Tryz.underlying4
  a4 := Tryz.isAgg4
  z4 := Tryz.sizeOf4
  v4 := Tryz.zeroValue4
  t5 := Tryz.underlying5
  a5 := Tryz.isAgg5
  z5 := Tryz.sizeOf5
  v5 := Tryz.zeroValue5
  t9 := Tryz.underlying9
  a9 := Tryz.isAgg9
  z9 := Tryz.sizeOf9
  v9 := Tryz.zeroValue9
  t21 := Tryz.underlying21
  a21 := Tryz.isAgg21
  z21 := Tryz.sizeOf21
  v21 := Tryz.zeroValue21
  t31 := Tryz.underlying54
  a31 := Tryz.isAgg54
  z31 := Tryz.sizeOf54
  v31 := Tryz.zeroValue54
  t46 := Tryz.underlying94
  a46 := Tryz.isAgg94
  z46 := Tryz.sizeOf94
  v46 := Tryz.zeroValue94
  t51 := Tryz.underlying138
  a51 := Tryz.isAgg138
  z51 := Tryz.sizeOf138
  v51 := Tryz.zeroValue138
  t105 := Tryz.underlying96
  a105 := Tryz.isAgg96
  z105 := Tryz.sizeOf96
  v105 := Tryz.zeroValue96
  t119 := Tryz.underlying142
  a119 := Tryz.isAgg142
  z119 := Tryz.sizeOf142
  t138 := Tryz.underlying144
  a138 := Tryz.isAgg144
  z138 := Tryz.sizeOf144
  v138 := Tryz.zeroValue144
  t139 := Tryz.underlying145
  a139 := Tryz.isAgg145
  z139 := Tryz.sizeOf145
  v139 := Tryz.zeroValue145
  t146 := Tryz.underlying158
  a146 := Tryz.isAgg158
  z146 := Tryz.sizeOf158
  v146 := Tryz.zeroValue158
  g1 := by kernel_rfl
  g3 := by kernel_rfl
  g4 := by kernel_rfl }
open Go.RowKit Go.Lib in
theorem Tryz.strings_genSplit (s sep : ByteArray) (sv : Nat) (n : Int) (N : Nat) (m : Int) (w : World) (hs : s.size < 4294967281) (hm : w.cell? ⟨0, 0, none⟩ = some (.int .i64 m)) (h1 : 1 ≤ sep.size) (hsv : sv ≤ sep.size) (hn0 : n ≠ 0) (hn63 : n ≤ 9223372036854775807) (hN : (N : Int) = min (if n < 0 then (Lib.countB s sep : Int) + 1 else n) ((s.size : Int) + 1)) :
    Calls Tryz.prog 139 #[.string s, .string sep, .int .i64 sv, .int .i64 n] w fun e w' =>
      e = .returned (.slice (some ⟨w.heap.size, 0, none⟩) (Lib.splitB sep sv (N - 1) s).length N) ∧ w' = w.alloc (.cells (Lib.cellsOf (Lib.splitB sep sv (N - 1) s) N) 9) := Any.strings_genSplit Tryz.lays221 (by kernel_rfl) s sep sv n N m w hs hm h1 hsv hn0 hn63 hN
def Tryz.lays146_ren : Go.Shelf.Ren := ⟨fun | 146 => 132 | 221 => 139 | 268 => 141 | 138 => 142 | 143 => 135 | 195 => 143 | 197 => 80 | 218 => 144 | 219 => 118 | 260 => 105 | 217 => 65 | 225 => 126 | 224 => 125 | 267 => 136 | 266 => 88 | 314 => 140 | n => n, fun | 9 => 9 | 31 => 54 | 3 => 3 | 4 => 4 | 0 => 0 | 105 => 96 | 21 => 21 | 5 => 5 | 46 => 94 | 119 => 142 | 139 => 145 | 138 => 144 | 146 => 158 | 51 => 138 | n => n, fun | 1 => 0 | 3 => 4 | 4 => 5 | n => n⟩
theorem Tryz.lays146 : Go.Proofs.Lays.n146 Tryz.prog Tryz.lays146_ren := {
  mixed := by kernel_rfl
  f138 := Tryz.func142.trans (congrArg some (by kernel_rfl))
  f143 := Tryz.func135.trans (congrArg some (by kernel_rfl))
  f146 := Tryz.func132.trans (congrArg some (by kernel_rfl))
  f195 := Tryz.func143.trans (congrArg some (by kernel_rfl))
  f197 := Tryz.func80.trans (congrArg some (by kernel_rfl))
  f217 := Tryz.func65.trans (congrArg some (by kernel_rfl))
  f218 := Tryz.func144.trans (congrArg some (by kernel_rfl))
  f219 := Tryz.func118.trans (congrArg some (by kernel_rfl))
  f221 := Tryz.func139.trans (congrArg some (by kernel_rfl))
  f224 := Tryz.func125.trans (congrArg some (by kernel_rfl))
  f225 := Tryz.func126.trans (congrArg some (by kernel_rfl))
  f260 := Tryz.func105.trans (congrArg some (by kernel_rfl))
  f266 := Tryz.func88.trans (congrArg some (by kernel_rfl))
  f267 := Tryz.func136.trans (congrArg some (by kernel_rfl))
  f268 := Tryz.func141.trans (congrArg some (by kernel_rfl))
  f314 := Tryz.func140.trans (congrArg some (by kernel_rfl))
  t0 := Tryz.underlying0
  a0 := Tryz.isAgg0
  z0 := Tryz.sizeOf0
  v0 := Tryz.zeroValue0
  t3 := Tryz.underlying3
  a3 := Tryz.isAgg3
  z3 := Tryz.sizeOf3
  v3 := Tryz.zeroValue3
  t4 := Tryz.underlying4
  a4 := Tryz.isAgg4
  z4 := Tryz.sizeOf4
  v4 := Tryz.zeroValue4
  t5 := Tryz.underlying5
  a5 := Tryz.isAgg5
  z5 := Tryz.sizeOf5
  v5 := Tryz.zeroValue5
  t9 := Tryz.underlying9
  a9 := Tryz.isAgg9
  z9 := Tryz.sizeOf9
  v9 := Tryz.zeroValue9
  t21 := Tryz.underlying21
  a21 := Tryz.isAgg21
  z21 := Tryz.sizeOf21
  v21 := Tryz.zeroValue21
  t31 := Tryz.underlying54
  a31 := Tryz.isAgg54
  z31 := Tryz.sizeOf54
  v31 := Tryz.zeroValue54
  t46 := Tryz.underlying94
  a46 := Tryz.isAgg94
  z46 := Tryz.sizeOf94
  v46 := Tryz.zeroValue94
  t51 := Tryz.underlying138
  a51 := Tryz.isAgg138
  z51 := Tryz.sizeOf138
  v51 := Tryz.zeroValue138
  t105 := Tryz.underlying96
  a105 := Tryz.isAgg96
  z105 := Tryz.sizeOf96
  v105 := Tryz.zeroValue96
  t119 := Tryz.underlying142
  a119 := Tryz.isAgg142
  z119 := Tryz.sizeOf142
  t138 := Tryz.underlying144
  a138 := Tryz.isAgg144
  z138 := Tryz.sizeOf144
  v138 := Tryz.zeroValue144
  t139 := Tryz.underlying145
  a139 := Tryz.isAgg145
  z139 := Tryz.sizeOf145
  v139 := Tryz.zeroValue145
  t146 := Tryz.underlying158
  a146 := Tryz.isAgg158
  z146 := Tryz.sizeOf158
  v146 := Tryz.zeroValue158
  g1 := by kernel_rfl
  g3 := by kernel_rfl
  g4 := by kernel_rfl }
open Go.RowKit Go.Lib in
/-- strings.Split. (LAID: no walk: one application.) -/
theorem Tryz.strings_Split (s sep : ByteArray) (m : Int) (w : World) (hs : s.size < 4294967281) (hm : w.cell? ⟨0, 0, none⟩ = some (.int .i64 m)) (h1 : 1 ≤ sep.size) :
    Calls Tryz.prog 132 #[.string s, .string sep] w fun e w' =>
      e = .returned (.slice (some ⟨w.heap.size, 0, none⟩) (Lib.countB s sep + 1) (Lib.countB s sep + 1)) ∧ w' = w.alloc (.cells ((Lib.splitB sep 0 (Lib.countB s sep) s).map Value.string).toArray 9) := Any.strings_Split Tryz.lays146 (by kernel_rfl) s sep m w hs hm h1
def Tryz.lays271_ren : Go.Shelf.Ren := ⟨fun | 271 => 112 | 120 => 130 | 197 => 80 | 260 => 105 | n => n, fun | 9 => 9 | 21 => 21 | 3 => 3 | 4 => 4 | 5 => 5 | 105 => 96 | 119 => 142 | 0 => 0 | 46 => 94 | 139 => 145 | 138 => 144 | n => n, fun | 3 => 4 | 4 => 5 | n => n⟩
theorem Tryz.lays271 : Go.Proofs.Lays.n271 Tryz.prog Tryz.lays271_ren := {
  mixed := by kernel_rfl
  f120 := Tryz.func130.trans (congrArg some (by kernel_rfl))
  f197 := Tryz.func80.trans (congrArg some (by kernel_rfl))
  f260 := Tryz.func105.trans (congrArg some (by kernel_rfl))
  f271 := Tryz.func112.trans (congrArg some (by kernel_rfl))
  t0 := Tryz.underlying0
  a0 := Tryz.isAgg0
  z0 := Tryz.sizeOf0
  v0 := Tryz.zeroValue0
  t3 := Tryz.underlying3
  a3 := Tryz.isAgg3
  z3 := Tryz.sizeOf3
  v3 := Tryz.zeroValue3
  t4 := Tryz.underlying4
  a4 := Tryz.isAgg4
  z4 := Tryz.sizeOf4
  v4 := Tryz.zeroValue4
  t5 := Tryz.underlying5
  a5 := Tryz.isAgg5
  z5 := Tryz.sizeOf5
  v5 := Tryz.zeroValue5
  t9 := Tryz.underlying9
  a9 := Tryz.isAgg9
  z9 := Tryz.sizeOf9
  v9 := Tryz.zeroValue9
  t21 := Tryz.underlying21
  a21 := Tryz.isAgg21
  z21 := Tryz.sizeOf21
  v21 := Tryz.zeroValue21
  t46 := Tryz.underlying94
  a46 := Tryz.isAgg94
  z46 := Tryz.sizeOf94
  v46 := Tryz.zeroValue94
  t105 := Tryz.underlying96
  a105 := Tryz.isAgg96
  z105 := Tryz.sizeOf96
  v105 := Tryz.zeroValue96
  t119 := Tryz.underlying142
  a119 := Tryz.isAgg142
  z119 := Tryz.sizeOf142
  t138 := Tryz.underlying144
  a138 := Tryz.isAgg144
  z138 := Tryz.sizeOf144
  v138 := Tryz.zeroValue144
  t139 := Tryz.underlying145
  a139 := Tryz.isAgg145
  z139 := Tryz.sizeOf145
  v139 := Tryz.zeroValue145
  g3 := by kernel_rfl
  g4 := by kernel_rfl }
open Go.RowKit Go.Lib in
/-- **unicode/utf8.DecodeLastRuneInString AT EVERY STRING.** (LAID: no walk: one application.) -/
theorem Tryz.utf8_DecodeLastRuneInString (s : ByteArray) (w : World) (hs : s.size ≤ 9223372036854775807) (hT : Lib.Utf8Tabs 4 5 w) :
    Calls Tryz.prog 112 #[.string s] w fun e w' => e = .returned (.tuple #[.int .i32 (Lib.decodeLastL s.data.toList).1, .int .i64 (Lib.decodeLastL s.data.toList).2]) ∧ Below w.heap.size w w' := Any.utf8_DecodeLastRuneInString Tryz.lays271 s w hs hT
end Go.Proofs

/- strings.Join, as the shelf says it. -/
namespace Go.Pv
set_option linter.unusedVariables false
open Go Go.Proofs

def isStrC : CV → Bool
  | .str _ => true
  | _ => false
def partsOf (xs : List CV) : List (List UInt8) := xs.map fun x => x.toStr.data.toList
def joinCV (xs : List CV) (sep : ByteArray) : ByteArray := ⟨(Lib.join (partsOf xs) sep.data.toList).toArray⟩
def FJoin : Fn1 := fun cargs => match cargs with
  | [.sl _ _ 1 xs, .str sep] => some [(xs.all isStrC && (decide (xs.length ≤ 140737488355328) && decide ((Lib.join (partsOf xs) sep.data.toList).length ≤ 140737488355328)), .str (joinCV xs sep), [])]
  | [.nilsl, .str sep] => some [(true, .str ⟨#[]⟩, [])]
  | _ => none

theorem strs_flat : ∀ {xs : List CV}, xs.all isStrC = true → elemCells xs = xs
  | [], _ => rfl
  | x :: xs, h => by
    simp only [List.all_cons, Bool.and_eq_true] at h
    have ih := strs_flat h.2
    cases x <;> simp [isStrC] at h
    show _ :: elemCells xs = _
    rw [ih]
theorem strs_cells {S : St} : ∀ {xs : List CV} {vs : List Value}, All2 (Vc S) xs vs → xs.all isStrC = true → vs = xs.map fun x => .string x.toStr
  | [], _, .nil, _ => rfl
  | x :: xs, _, .cons h1 h2, h => by
    simp only [List.all_cons, Bool.and_eq_true] at h
    have ih := strs_cells h2 h.2
    cases x <;> simp [isStrC] at h
    cases h1
    simp [ih, CV.toStr]

theorem c39 {I : World → Prop} {ng : Nat} (hg : OnGlobals I ng) : Contract Tryz.prog I ng 39 FJoin := contract_pure hg fun cargs rv outs h => by
  unfold FJoin at h
  split at h <;> first | (cases h; done) | skip
  · rename_i own full xs sep
    cases hc : (xs.all isStrC && (decide (xs.length ≤ 140737488355328) && decide ((Lib.join (partsOf xs) sep.data.toList).length ≤ 140737488355328))) with
    | false => rw [hc] at h; cases h
    | true =>
      rw [hc] at h
      cases h
      simp only [Bool.and_eq_true, decide_eq_true_eq] at hc
      obtain ⟨hs, hN, hlen⟩ := hc
      refine ⟨rfl, rfl, fun S vals ok hv => ?_⟩
      obtain ⟨l⟩ := vals
      cases hv with
      | cons h1 h2 =>
        cases h2 with
        | cons h2 h3 =>
          cases h3
          cases h2
          rename_i v1
          have fin : ∀ S' : St, Vc S' (.str (joinCV xs sep)) (.string (joinCV xs sep)) := fun S' => .str _
          cases h1 with
          | sl full k xs a c vs q1 q2 q3 q4 q5 =>
            rw [strs_flat hs] at q2
            have hvs := strs_cells q2 hs
            by_cases hx : xs = []
            · subst hx
              refine (Tryz.strings_Join_none (some a) c sep S.w).mono ?_
              rintro e w' ⟨rfl, rfl⟩
              exact ⟨_, rfl, .inl fin, RowKit.Below.refl _ _⟩
            · have hpos : 0 < xs.length := by cases xs with | nil => exact absurd rfl hx | cons _ _ => simp
              obtain ⟨x0, hx0⟩ : ∃ x, xs[0]? = some x := ⟨xs[0], by simp [hpos]⟩
              have hr0 := q3 0 (.string x0.toStr) (by rw [hvs, List.getElem?_map, hx0]; rfl)
              obtain ⟨bk, o, spot⟩ := a
              have hsp : spot = none := hr0.1
              subst hsp
              have := Tryz.strings_Join bk o c (xs.map CV.toStr) sep S.w (fun j x hj => by
                  rw [List.getElem?_map] at hj
                  cases hxj : xs[j]? with
                  | none => rw [hxj] at hj; cases hj
                  | some y =>
                    rw [hxj] at hj
                    cases hj
                    exact (q3 j (.string y.toStr) (by rw [hvs, List.getElem?_map, hxj]; rfl)).2.2.1) (World.block_lt_of_cell? S.w _ hr0.2.2.1) (by simpa using hN) (by simpa using q4) (by rw [List.map_map]; exact hlen)
              rw [List.length_map, List.map_map] at this
              refine this.mono ?_
              rintro e w' ⟨rfl, hb⟩
              exact ⟨_, rfl, .inl fin, hb⟩
          | slnil k =>
            refine (Tryz.strings_Join_none none 0 sep S.w).mono ?_
            rintro e w' ⟨rfl, rfl⟩
            exact ⟨_, rfl, .inl fin, RowKit.Below.refl _ _⟩
  · rename_i sep
    cases h
    refine ⟨rfl, rfl, fun S vals ok hv => ?_⟩
    obtain ⟨l⟩ := vals
    cases hv with
    | cons h1 h2 =>
      cases h2 with
      | cons h2 h3 =>
        cases h3
        cases h2
        cases h1
        refine (Tryz.strings_Join_none none 0 sep S.w).mono ?_
        rintro e w' ⟨rfl, rfl⟩
        exact ⟨_, rfl, .inl fun S' => .str _, RowKit.Below.refl _ _⟩

end Go.Pv

/- Paths without dots: what the code does. -/
namespace Go.Pv
set_option linter.unusedVariables false
set_option maxRecDepth 100000
open Go Go.Proofs

def pre (s p : ByteArray) : Bool := decide (p.size ≤ s.size) && (s.extract 0 p.size).toList == p.toList
def joinLen (xs : List CV) (sep : ByteArray) : Nat := (Lib.join (partsOf xs) sep.data.toList).length
def P36 : Fn1 := fun x => match x with
  | [.str s, .str p] => some [(true, .bool (pre s p), [])]
  | _ => none
def P37 : Fn1 := fun x => match x with
  | [.str s, .str p] => some [(pre s p, .str (s.extract p.size s.size), []), (true, .str s, [])]
  | _ => none
def P38 : Fn1 := fun x => match x with
  | [.str s, .int .u8 c] => some [(true, .int .i64 (Lib.indexByte s.data.toList c.toNat.toUInt8), [])]
  | _ => none
def PJoin : Fn1 := fun cargs => match cargs with
  | [.sl _ _ 1 xs, .str sep] => some [(xs.all isStrC && (decide (xs.length ≤ 140737488355328) && decide (joinLen xs sep ≤ 140737488355328)), .str (joinCV xs sep), [])]
  | [.nilsl, .str sep] => some [(true, .str ⟨#[]⟩, [])]
  | _ => none
def U0 : Table := fun _ _ => none
def U65 : Table := fun g => if Nat.beq g 65 then P38 else U0 g
def U63 : Table := fun g => if Nat.beq g 63 then P36 else U65 g
def U64 : Table := fun g => if Nat.beq g 64 then P37 else U63 g
def U36 : Table := fun g => if Nat.beq g 36 then P36 else U64 g
def U37 : Table := fun g => if Nat.beq g 37 then P37 else U36 g
def U38 : Table := fun g => if Nat.beq g 38 then P38 else U37 g
def U39 : Table := fun g => if Nat.beq g 39 then PJoin else U38 g
def an19 : Ann := fun i => if Nat.beq i 2 then some ⟨[0, 3], [(3, 1)], 0⟩ else none
theorem tree65 (s : ByteArray) (c : Int) : abody Tryz.prog (call' U0) (fun _ => none) 1 65 [.str s, .int .u8 c] =
 some (CV.int IntKind.i64 (Lib.indexByte s.data.toList c.toNat.toUInt8), []) := by kernel_rfl
theorem tree63 (s p : ByteArray) : abody Tryz.prog (call' U65) (fun _ => none) 1 63 [.str s, .str p] =
 bif' (decide ((↑s.size : Int) ≥ (↑p.size : Int))) (bif' (decide ((↑p.size : Int) ≤ (↑s.size : Int))) (some (CV.bool ((s.extract (Int.toNat 0) (↑p.size : Int).toNat).toList == p.toList), [])) none) (some (CV.bool false, [])) := by kernel_rfl
theorem tree64 (s p : ByteArray) : abody Tryz.prog (call' U63) (fun _ => none) 1 64 [.str s, .str p] =
 bif' (pre s p) (bif' (decide ((↑p.size : Int) ≤ (↑s.size : Int))) (bif' (decide ((↑s.size : Int) ≤ (↑s.size : Int))) (some (CV.str (s.extract (↑p.size : Int).toNat (↑s.size : Int).toNat), [])) none) none) (some (CV.str s, [])) := by kernel_rfl
theorem tree36 (s p : ByteArray) : abody Tryz.prog (call' U64) (fun _ => none) 1 36 [.str s, .str p] =
 some (CV.bool (pre s p), []) := by kernel_rfl
theorem tree37 (s p : ByteArray) : abody Tryz.prog (call' U36) (fun _ => none) 1 37 [.str s, .str p] =
 bif' (pre s p) (some (CV.str (s.extract p.size s.size), [])) (some (CV.str s, [])) := by kernel_rfl
theorem tree38 (s : ByteArray) (c : Int) : abody Tryz.prog (call' U37) (fun _ => none) 1 38 [.str s, .int .u8 c] =
 some (CV.int IntKind.i64 (Lib.indexByte s.data.toList c.toNat.toUInt8), []) := by kernel_rfl
theorem before19 (s : ByteArray) (n : Nat) (L : Env → Hp → Res) : before Tryz.prog (call' U39) (filt an19 0) n (codeOf Tryz.prog 19) (envOf Tryz.prog 19 [.c (.str s)]) [] L (endOf Tryz.prog 19 []) =
 L (mkEnv 66 [(0, PV.c (CV.str s)), (2, PV.c (CV.str (ByteArray.mk (Array.mk [])))), (3, PV.c CV.nilsl)]) [] := by kernel_rfl
theorem round19 (s : ByteArray) (n : Nat) (xs : List CV) (R : Env → Hp → Res) : round Tryz.prog (call' U39) (filt an19 0) n ⟨[0, 3], [(3, 1)], 0⟩ (codeOf Tryz.prog 19) (mkEnv 66 [(0, .c (.str s)), (3, .rw 0 0)]) [.row xs 1 0 false] R (endOf Tryz.prog 19 []) =
 bif' (!s.toList == (ByteArray.mk #[]).toList) (bif' (pre s (ByteArray.mk #[46, 46, 47])) (bif' (decide (3 ≤ (↑s.size : Int))) (bif' (decide ((↑s.size : Int) ≤ (↑s.size : Int))) (R (mkEnv 66 [(0, PV.c (CV.str (s.extract (Int.toNat 3) (↑s.size : Int).toNat))), (3, PV.rw 0 0)]) [AO.row xs 1 0 false]) none) none) (bif' (pre s (ByteArray.mk #[46, 47])) (bif' (decide (2 ≤ (↑s.size : Int))) (bif' (decide ((↑s.size : Int) ≤ (↑s.size : Int))) (R (mkEnv 66 [(0, PV.c (CV.str (s.extract (Int.toNat 2) (↑s.size : Int).toNat))), (3, PV.rw 0 0)]) [AO.row xs 1 0 false]) none) none) (bif' (pre s (ByteArray.mk #[47, 46, 47])) (bif' (decide (2 ≤ (↑s.size : Int))) (bif' (decide ((↑s.size : Int) ≤ (↑s.size : Int))) (R (mkEnv 66 [(0, PV.c (CV.str (s.extract (Int.toNat 2) (↑s.size : Int).toNat))), (3, PV.rw 0 0)]) [AO.row xs 1 0 false]) none) none) (bif' (s.toList == (ByteArray.mk #[47, 46]).toList) (R (mkEnv 66 [(0, PV.c (CV.str (ByteArray.mk (Array.mk [(47 : UInt8)])))), (3, PV.rw 0 0)]) [AO.row xs 1 0 false]) (bif' (pre s (ByteArray.mk #[47, 46, 46, 47])) (bif' (decide (3 ≤ (↑s.size : Int))) (bif' (decide ((↑s.size : Int) ≤ (↑s.size : Int))) (bif' (pre (s.extract (Int.toNat 3) (↑s.size : Int).toNat) (ByteArray.mk #[47])) (bif' (fitsS ((ByteArray.mk #[47]).size + ((s.extract (Int.toNat 3) (↑s.size : Int).toNat).extract (ByteArray.mk #[47]).size (s.extract (Int.toNat 3) (↑s.size : Int).toNat).size).size)) (bif' (decide ((↑xs.length : Int) > 0)) (bif' (decide (0 ≤ IntKind.i64.wrap ((↑xs.length : Int) - 1))) (bif' (decide (IntKind.i64.wrap ((↑xs.length : Int) - 1) ≤ (↑xs.length : Int))) (R (mkEnv 66 [(0, PV.c (CV.str (ByteArray.mk #[47] ++ (s.extract (Int.toNat 3) (↑s.size : Int).toNat).extract (ByteArray.mk #[47]).size (s.extract (Int.toNat 3) (↑s.size : Int).toNat).size))), (3, PV.rw 0 0)]) [AO.row (List.take ((IntKind.i64.wrap ((↑xs.length : Int) - 1)).toNat - Int.toNat 0) xs) 1 0 false]) none) none) (R (mkEnv 66 [(0, PV.c (CV.str (ByteArray.mk #[47] ++ (s.extract (Int.toNat 3) (↑s.size : Int).toNat).extract (ByteArray.mk #[47]).size (s.extract (Int.toNat 3) (↑s.size : Int).toNat).size))), (3, PV.rw 0 0)]) [AO.row xs 1 0 false])) none) (bif' (fitsS ((ByteArray.mk #[47]).size + (s.extract (Int.toNat 3) (↑s.size : Int).toNat).size)) (bif' (decide ((↑xs.length : Int) > 0)) (bif' (decide (0 ≤ IntKind.i64.wrap ((↑xs.length : Int) - 1))) (bif' (decide (IntKind.i64.wrap ((↑xs.length : Int) - 1) ≤ (↑xs.length : Int))) (R (mkEnv 66 [(0, PV.c (CV.str (ByteArray.mk #[47] ++ s.extract (Int.toNat 3) (↑s.size : Int).toNat))), (3, PV.rw 0 0)]) [AO.row (List.take ((IntKind.i64.wrap ((↑xs.length : Int) - 1)).toNat - Int.toNat 0) xs) 1 0 false]) none) none) (R (mkEnv 66 [(0, PV.c (CV.str (ByteArray.mk #[47] ++ s.extract (Int.toNat 3) (↑s.size : Int).toNat))), (3, PV.rw 0 0)]) [AO.row xs 1 0 false])) none)) none) none) (bif' (s.toList == (ByteArray.mk #[47, 46, 46]).toList) (bif' (decide (3 ≤ (↑s.size : Int))) (bif' (decide ((↑s.size : Int) ≤ (↑s.size : Int))) (bif' (pre (s.extract (Int.toNat 3) (↑s.size : Int).toNat) (ByteArray.mk #[47])) (bif' (fitsS ((ByteArray.mk #[47]).size + ((s.extract (Int.toNat 3) (↑s.size : Int).toNat).extract (ByteArray.mk #[47]).size (s.extract (Int.toNat 3) (↑s.size : Int).toNat).size).size)) (bif' (decide ((↑xs.length : Int) > 0)) (bif' (decide (0 ≤ IntKind.i64.wrap ((↑xs.length : Int) - 1))) (bif' (decide (IntKind.i64.wrap ((↑xs.length : Int) - 1) ≤ (↑xs.length : Int))) (R (mkEnv 66 [(0, PV.c (CV.str (ByteArray.mk #[47] ++ (s.extract (Int.toNat 3) (↑s.size : Int).toNat).extract (ByteArray.mk #[47]).size (s.extract (Int.toNat 3) (↑s.size : Int).toNat).size))), (3, PV.rw 0 0)]) [AO.row (List.take ((IntKind.i64.wrap ((↑xs.length : Int) - 1)).toNat - Int.toNat 0) xs) 1 0 false]) none) none) (R (mkEnv 66 [(0, PV.c (CV.str (ByteArray.mk #[47] ++ (s.extract (Int.toNat 3) (↑s.size : Int).toNat).extract (ByteArray.mk #[47]).size (s.extract (Int.toNat 3) (↑s.size : Int).toNat).size))), (3, PV.rw 0 0)]) [AO.row xs 1 0 false])) none) (bif' (fitsS ((ByteArray.mk #[47]).size + (s.extract (Int.toNat 3) (↑s.size : Int).toNat).size)) (bif' (decide ((↑xs.length : Int) > 0)) (bif' (decide (0 ≤ IntKind.i64.wrap ((↑xs.length : Int) - 1))) (bif' (decide (IntKind.i64.wrap ((↑xs.length : Int) - 1) ≤ (↑xs.length : Int))) (R (mkEnv 66 [(0, PV.c (CV.str (ByteArray.mk #[47] ++ s.extract (Int.toNat 3) (↑s.size : Int).toNat))), (3, PV.rw 0 0)]) [AO.row (List.take ((IntKind.i64.wrap ((↑xs.length : Int) - 1)).toNat - Int.toNat 0) xs) 1 0 false]) none) none) (R (mkEnv 66 [(0, PV.c (CV.str (ByteArray.mk #[47] ++ s.extract (Int.toNat 3) (↑s.size : Int).toNat))), (3, PV.rw 0 0)]) [AO.row xs 1 0 false])) none)) none) none) (bif' (s.toList == (ByteArray.mk #[46]).toList) (R (mkEnv 66 [(0, PV.c (CV.str (ByteArray.mk (Array.mk [])))), (3, PV.rw 0 0)]) [AO.row xs 1 0 false]) (bif' (s.toList == (ByteArray.mk #[46, 46]).toList) (R (mkEnv 66 [(0, PV.c (CV.str (ByteArray.mk (Array.mk [])))), (3, PV.rw 0 0)]) [AO.row xs 1 0 false]) (bif' (decide (1 ≤ (↑s.size : Int))) (bif' (decide ((↑s.size : Int) ≤ (↑s.size : Int))) (bif' (IntKind.i64.wrap (Lib.indexByte (s.extract (Int.toNat 1) (↑s.size : Int).toNat).data.toList (Int.toNat 47).toUInt8 + 1) == 0) (bif' (decide ((↑s.size : Int) ≤ (↑s.size : Int))) (bif' (decide ((xs.length + ((List.replicate 1 (CV.str (ByteArray.mk #[]))).set 0 (CV.str (s.extract (Int.toNat 0) (↑s.size : Int).toNat))).length) * Tryz.prog.types[9].bytes ≤ 70368744177664)) (bif' (decide ((↑s.size : Int) ≤ (↑s.size : Int))) (bif' (decide ((↑s.size : Int) ≤ (↑s.size : Int))) (R (mkEnv 66 [(0, PV.c (CV.str (s.extract (↑s.size : Int).toNat (↑s.size : Int).toNat))), (3, PV.rw 0 0)]) [AO.row (xs ++ (List.replicate 1 (CV.str (ByteArray.mk #[]))).set 0 (CV.str (s.extract (Int.toNat 0) (↑s.size : Int).toNat))) 1 0 false]) none) none) none) none) (bif' (decide (0 ≤ IntKind.i64.wrap (Lib.indexByte (s.extract (Int.toNat 1) (↑s.size : Int).toNat).data.toList (Int.toNat 47).toUInt8 + 1))) (bif' (decide (IntKind.i64.wrap (Lib.indexByte (s.extract (Int.toNat 1) (↑s.size : Int).toNat).data.toList (Int.toNat 47).toUInt8 + 1) ≤ (↑s.size : Int))) (bif' (decide ((xs.length + ((List.replicate 1 (CV.str (ByteArray.mk #[]))).set 0 (CV.str (s.extract (Int.toNat 0) (IntKind.i64.wrap (Lib.indexByte (s.extract (Int.toNat 1) (↑s.size : Int).toNat).data.toList (Int.toNat 47).toUInt8 + 1)).toNat))).length) * Tryz.prog.types[9].bytes ≤ 70368744177664)) (bif' (decide (0 ≤ IntKind.i64.wrap (Lib.indexByte (s.extract (Int.toNat 1) (↑s.size : Int).toNat).data.toList (Int.toNat 47).toUInt8 + 1))) (bif' (decide (IntKind.i64.wrap (Lib.indexByte (s.extract (Int.toNat 1) (↑s.size : Int).toNat).data.toList (Int.toNat 47).toUInt8 + 1) ≤ (↑s.size : Int))) (bif' (decide ((↑s.size : Int) ≤ (↑s.size : Int))) (R (mkEnv 66 [(0, PV.c (CV.str (s.extract (IntKind.i64.wrap (Lib.indexByte (s.extract (Int.toNat 1) (↑s.size : Int).toNat).data.toList (Int.toNat 47).toUInt8 + 1)).toNat (↑s.size : Int).toNat))), (3, PV.rw 0 0)]) [AO.row (xs ++ (List.replicate 1 (CV.str (ByteArray.mk #[]))).set 0 (CV.str (s.extract (Int.toNat 0) (IntKind.i64.wrap (Lib.indexByte (s.extract (Int.toNat 1) (↑s.size : Int).toNat).data.toList (Int.toNat 47).toUInt8 + 1)).toNat))) 1 0 false]) none) none) none) none) none) none)) none) none))))))))) (bif' (xs.all isStrC && (decide (xs.length ≤ 140737488355328) && decide (joinLen xs (ByteArray.mk #[]) ≤ 140737488355328))) (some (CV.str (joinCV xs (ByteArray.mk #[])), [])) none) := by kernel_rfl
theorem tree6 (s : ByteArray) : abody Tryz.prog (call' U39) (fun _ => none) 1 22 [.str s, .str s] =
 bif' (decide ((↑s.size : Int) ≥ (↑s.size : Int))) (bif' (decide ((↑s.size : Int) ≤ (↑s.size : Int))) (some (CV.bool ((s.extract (Int.toNat 0) (↑s.size : Int).toNat).toList == s.toList), [])) none) (some (CV.bool false, [])) := by kernel_rfl

end Go.Pv

/- Paths without dots, by definition: what the code does. -/
namespace Go.Pv
set_option linter.unusedVariables false
set_option maxRecDepth 100000
open Go Go.Proofs

def P22 : Fn1 := fun x => match x with
  | [.str s, .str p] => some [(true, .bool (pre s p), [])]
  | _ => none
def V0 : Table := fun _ _ => none
def V22 : Table := fun g => if Nat.beq g 22 then P22 else V0 g
def an8 : Ann := fun i => if Nat.beq i 3 then some ⟨[0, 3, 4], [], 0⟩ else if Nat.beq i 23 then some ⟨[0, 3, 4, 5], [], 0⟩ else if Nat.beq i 6 then some ⟨[0, 3, 4, 6], [], 0⟩ else none
def h8 : Head := ⟨[0, 3, 4], [], 0⟩
def h80 : Head := ⟨[0, 3, 4, 5], [], 0⟩
def h81 : Head := ⟨[0, 3, 4, 6], [], 0⟩
def LL (L0 L1 : Env → Hp → Res) (i : Nat) : Env → Hp → Res := if Nat.beq i 0 then headK h80 L0 else headK h81 L1
noncomputable def c8 : Code := codeOf Tryz.prog 8
noncomputable def b8 : Code := bodyN 0 c8
noncomputable def K8 (n : Nat) : KX := restN Tryz.prog (call' V22) (filt an8 0) n 0 c8 (endOf Tryz.prog 8 [])
theorem tree22 (s p : ByteArray) : abody Tryz.prog (call' V0) (fun _ => none) 1 22 [.str s, .str p] =
 bif' (decide ((↑s.size : Int) ≥ (↑p.size : Int))) (bif' (decide ((↑p.size : Int) ≤ (↑s.size : Int))) (some (CV.bool ((s.extract (Int.toNat 0) (↑p.size : Int).toNat).toList == p.toList), [])) none) (some (CV.bool false, [])) := by kernel_rfl
theorem before8 (s : ByteArray) (n : Nat) (R : Env → Hp → Res) : parts Tryz.prog (call' V22) (filt an8 0) n c8 (envOf Tryz.prog 8 [.c (.str s)]) [] (fun _ => headK h8 R) (endOf Tryz.prog 8 []) =
 R (mkEnv 92 [(0, PV.c (CV.str s)), (3, PV.c (CV.str (ByteArray.mk (Array.mk [])))), (4, PV.c (CV.int IntKind.i64 (Int.ofNat 0)))]) [] := by kernel_rfl
theorem round8 (s t : ByteArray) (n : Nat) (m : Int) (L0 L1 : Env → Hp → Res) (R : Env → Hp → Res) : parts Tryz.prog (call' V22) (filt an8 0) n b8 (mkEnv 92 [(0, .c (.str s)), (3, .c (.str t)), (4, .c (.int .i64 m))]) [] (LL L0 L1) (thenK (headK h8 R) (K8 n)) =
 bif' (!s.toList == (ByteArray.mk #[]).toList) (bif' (decide (m < 5000)) (bif' (pre s (ByteArray.mk #[46, 46, 47])) (bif' (decide (3 ≤ (↑s.size : Int))) (bif' (decide ((↑s.size : Int) ≤ (↑s.size : Int))) (R (mkEnv 92 [(0, PV.c (CV.str (s.extract (Int.toNat 3) (↑s.size : Int).toNat))), (3, PV.c (CV.str t)), (4, PV.c (CV.int IntKind.i64 (IntKind.i64.wrap (m + 1))))]) []) none) none) (bif' (pre s (ByteArray.mk #[46, 47])) (bif' (decide (2 ≤ (↑s.size : Int))) (bif' (decide ((↑s.size : Int) ≤ (↑s.size : Int))) (R (mkEnv 92 [(0, PV.c (CV.str (s.extract (Int.toNat 2) (↑s.size : Int).toNat))), (3, PV.c (CV.str t)), (4, PV.c (CV.int IntKind.i64 (IntKind.i64.wrap (m + 1))))]) []) none) none) (bif' (pre s (ByteArray.mk #[47, 46, 47])) (bif' (decide (2 ≤ (↑s.size : Int))) (bif' (decide ((↑s.size : Int) ≤ (↑s.size : Int))) (R (mkEnv 92 [(0, PV.c (CV.str (s.extract (Int.toNat 2) (↑s.size : Int).toNat))), (3, PV.c (CV.str t)), (4, PV.c (CV.int IntKind.i64 (IntKind.i64.wrap (m + 1))))]) []) none) none) (bif' (s.toList == (ByteArray.mk #[47, 46]).toList) (R (mkEnv 92 [(0, PV.c (CV.str (ByteArray.mk (Array.mk [(47 : UInt8)])))), (3, PV.c (CV.str t)), (4, PV.c (CV.int IntKind.i64 (IntKind.i64.wrap (m + 1))))]) []) (bif' (pre s (ByteArray.mk #[47, 46, 46, 47])) (bif' (s.toList == (ByteArray.mk #[47, 46, 46]).toList) (L0 (mkEnv 92 [(0, PV.c (CV.str (ByteArray.mk (Array.mk [(47 : UInt8)])))), (3, PV.c (CV.str t)), (4, PV.c (CV.int IntKind.i64 m)), (5, PV.c (CV.int IntKind.i64 (↑t.size : Int)))]) []) (bif' (decide (3 ≤ (↑s.size : Int))) (bif' (decide ((↑s.size : Int) ≤ (↑s.size : Int))) (L0 (mkEnv 92 [(0, PV.c (CV.str (s.extract (Int.toNat 3) (↑s.size : Int).toNat))), (3, PV.c (CV.str t)), (4, PV.c (CV.int IntKind.i64 m)), (5, PV.c (CV.int IntKind.i64 (↑t.size : Int)))]) []) none) none)) (bif' (s.toList == (ByteArray.mk #[47, 46, 46]).toList) (bif' (s.toList == (ByteArray.mk #[47, 46, 46]).toList) (L0 (mkEnv 92 [(0, PV.c (CV.str (ByteArray.mk (Array.mk [(47 : UInt8)])))), (3, PV.c (CV.str t)), (4, PV.c (CV.int IntKind.i64 m)), (5, PV.c (CV.int IntKind.i64 (↑t.size : Int)))]) []) (bif' (decide (3 ≤ (↑s.size : Int))) (bif' (decide ((↑s.size : Int) ≤ (↑s.size : Int))) (L0 (mkEnv 92 [(0, PV.c (CV.str (s.extract (Int.toNat 3) (↑s.size : Int).toNat))), (3, PV.c (CV.str t)), (4, PV.c (CV.int IntKind.i64 m)), (5, PV.c (CV.int IntKind.i64 (↑t.size : Int)))]) []) none) none)) (bif' (s.toList == (ByteArray.mk #[46]).toList) (R (mkEnv 92 [(0, PV.c (CV.str (ByteArray.mk (Array.mk [])))), (3, PV.c (CV.str t)), (4, PV.c (CV.int IntKind.i64 (IntKind.i64.wrap (m + 1))))]) []) (bif' (s.toList == (ByteArray.mk #[46, 46]).toList) (R (mkEnv 92 [(0, PV.c (CV.str (ByteArray.mk (Array.mk [])))), (3, PV.c (CV.str t)), (4, PV.c (CV.int IntKind.i64 (IntKind.i64.wrap (m + 1))))]) []) (L1 (mkEnv 92 [(0, PV.c (CV.str s)), (3, PV.c (CV.str t)), (4, PV.c (CV.int IntKind.i64 m)), (6, PV.c (CV.int IntKind.i64 (Int.ofNat 1)))]) []))))))))) (some (CV.str t, []))) (some (CV.str t, [])) := by kernel_rfl
theorem inner0 (s t : ByteArray) (n : Nat) (m k : Int) (R R' : Env → Hp → Res) : aexec Tryz.prog (call' V22) (filt an8 0) n (bodyN 0 b8) (mkEnv 92 [(0, .c (.str s)), (3, .c (.str t)), (4, .c (.int .i64 m)), (5, .c (.int .i64 k))]) [] (thenK (headK h80 R') (restN Tryz.prog (call' V22) (filt an8 0) n 0 b8 (thenK (headK h8 R) (K8 n)))) =
 bif' (decide (k > 0)) (bif' (decide (0 ≤ IntKind.i64.wrap (k - 1))) (bif' (decide (IntKind.i64.wrap (k - 1) < (↑t.size : Int))) (bif' (byteAt t (IntKind.i64.wrap (k - 1)).toNat != 47) (R' (mkEnv 92 [(0, PV.c (CV.str s)), (3, PV.c (CV.str t)), (4, PV.c (CV.int IntKind.i64 m)), (5, PV.c (CV.int IntKind.i64 (IntKind.i64.wrap (k - 1))))]) []) (bif' (decide (k > 0)) (bif' (decide (0 ≤ IntKind.i64.wrap (k - 1))) (bif' (decide (IntKind.i64.wrap (k - 1) ≤ (↑t.size : Int))) (R (mkEnv 92 [(0, PV.c (CV.str s)), (3, PV.c (CV.str (t.extract (Int.toNat 0) (IntKind.i64.wrap (k - 1)).toNat))), (4, PV.c (CV.int IntKind.i64 (IntKind.i64.wrap (m + 1))))]) []) none) none) (bif' (decide (0 ≤ k)) (bif' (decide (k ≤ (↑t.size : Int))) (R (mkEnv 92 [(0, PV.c (CV.str s)), (3, PV.c (CV.str (t.extract (Int.toNat 0) k.toNat))), (4, PV.c (CV.int IntKind.i64 (IntKind.i64.wrap (m + 1))))]) []) none) none))) none) none) (bif' (decide (k > 0)) (bif' (decide (0 ≤ IntKind.i64.wrap (k - 1))) (bif' (decide (IntKind.i64.wrap (k - 1) ≤ (↑t.size : Int))) (R (mkEnv 92 [(0, PV.c (CV.str s)), (3, PV.c (CV.str (t.extract (Int.toNat 0) (IntKind.i64.wrap (k - 1)).toNat))), (4, PV.c (CV.int IntKind.i64 (IntKind.i64.wrap (m + 1))))]) []) none) none) (bif' (decide (0 ≤ k)) (bif' (decide (k ≤ (↑t.size : Int))) (R (mkEnv 92 [(0, PV.c (CV.str s)), (3, PV.c (CV.str (t.extract (Int.toNat 0) k.toNat))), (4, PV.c (CV.int IntKind.i64 (IntKind.i64.wrap (m + 1))))]) []) none) none)) := by kernel_rfl
theorem inner1 (s t : ByteArray) (n : Nat) (m k : Int) (R R' : Env → Hp → Res) : aexec Tryz.prog (call' V22) (filt an8 0) n (bodyN 1 b8) (mkEnv 92 [(0, .c (.str s)), (3, .c (.str t)), (4, .c (.int .i64 m)), (6, .c (.int .i64 k))]) [] (thenK (headK h81 R') (restN Tryz.prog (call' V22) (filt an8 0) n 1 b8 (thenK (headK h8 R) (K8 n)))) =
 bif' (decide (k < (↑s.size : Int))) (bif' (decide (0 ≤ k)) (bif' (decide (k < (↑s.size : Int))) (bif' (byteAt s k.toNat != 47) (R' (mkEnv 92 [(0, PV.c (CV.str s)), (3, PV.c (CV.str t)), (4, PV.c (CV.int IntKind.i64 m)), (6, PV.c (CV.int IntKind.i64 (IntKind.i64.wrap (k + 1))))]) []) (bif' (decide (0 ≤ k)) (bif' (decide (k ≤ (↑s.size : Int))) (bif' (fitsS (t.size + (s.extract (Int.toNat 0) k.toNat).size)) (bif' (decide (0 ≤ k)) (bif' (decide (k ≤ (↑s.size : Int))) (bif' (decide ((↑s.size : Int) ≤ (↑s.size : Int))) (R (mkEnv 92 [(0, PV.c (CV.str (s.extract k.toNat (↑s.size : Int).toNat))), (3, PV.c (CV.str (t ++ s.extract (Int.toNat 0) k.toNat))), (4, PV.c (CV.int IntKind.i64 (IntKind.i64.wrap (m + 1))))]) []) none) none) none) none) none) none)) none) none) (bif' (decide (0 ≤ k)) (bif' (decide (k ≤ (↑s.size : Int))) (bif' (fitsS (t.size + (s.extract (Int.toNat 0) k.toNat).size)) (bif' (decide (0 ≤ k)) (bif' (decide (k ≤ (↑s.size : Int))) (bif' (decide ((↑s.size : Int) ≤ (↑s.size : Int))) (R (mkEnv 92 [(0, PV.c (CV.str (s.extract k.toNat (↑s.size : Int).toNat))), (3, PV.c (CV.str (t ++ s.extract (Int.toNat 0) k.toNat))), (4, PV.c (CV.int IntKind.i64 (IntKind.i64.wrap (m + 1))))]) []) none) none) none) none) none) none) := by kernel_rfl

end Go.Pv

/- Texts as lists of bytes; branches; small numbers: plain laws. -/
namespace Go.Pv
set_option linter.unusedVariables false
open Go

theorem bif_dec {α : Type} {p : Prop} [Decidable p] (x y : Option α) : bif' (decide p) x y = if p then x else y := by
  by_cases h : p
  · rw [if_pos h, decide_eq_true h]; rfl
  · rw [if_neg h, decide_eq_false h]; rfl
theorem bif_t {α : Type} {b : Bool} (x y : Option α) (h : b = true) : bif' b x y = x := by subst h; rfl
theorem bif_f {α : Type} {b : Bool} (x y : Option α) (h : b = false) : bif' b x y = y := by subst h; rfl
theorem bif_b {α : Type} (b : Bool) (x y : Option α) : bif' b x y = if b = true then x else y := by cases b <;> rfl

theorem fits_small {n : Nat} (h : n ≤ 100000) : fitsS n = true := Nat.ble_eq_true_of_le (by omega)
theorem wrp {i k : Nat} (h : i ≤ 100000) (hk : k ≤ 100000) : IntKind.i64.wrap ((i : Int) + (k : Int)) = ((i + k : Nat) : Int) := by
  rw [wrap_id (by omega) (by omega)]; omega
theorem wrm {i : Nat} (h : i ≤ 100000) : IntKind.i64.wrap (((i + 1 : Nat) : Int) - 1) = (i : Int) := by
  rw [wrap_id (by omega) (by omega)]; omega

/-! ### Texts -/
/-- The text of some bytes. -/
def mkS (l : List UInt8) : ByteArray := ⟨l.toArray⟩
theorem mkS_data (l : List UInt8) : (mkS l).data.toList = l := rfl
theorem mkS_bl (s : ByteArray) : mkS s.data.toList = s := by
  apply ByteArray.ext; simp [mkS]
theorem mkS_inj {a b : List UInt8} (h : mkS a = mkS b) : a = b := by
  have := congrArg (fun s => s.data.toList) h
  exact this
theorem mkS_size (l : List UInt8) : (mkS l).size = l.length := rfl
theorem mkS_app (a b : List UInt8) : mkS a ++ mkS b = mkS (a ++ b) := by
  apply ByteArray.ext
  rw [ByteArray.data_append]
  simp [mkS]
theorem mkS_ext (l : List UInt8) (a b : Nat) : (mkS l).extract a b = mkS ((l.drop a).take (b - a)) := by
  apply ByteArray.ext
  rw [ByteArray.data_extract]
  apply Array.ext'
  rw [Array.toList_extract, List.extract_eq_take_drop]
  rfl
theorem mkS_at (l : List UInt8) (i : Nat) : byteAt (mkS l) i = ((l.getD i 0).toNat : Int) := rfl
theorem mk_lit (p : Array UInt8) : ByteArray.mk p = mkS p.toList := by simp [mkS]

theorem toList_loop (s : ByteArray) : ∀ (n i : Nat) (r : List UInt8), s.size - i = n → ByteArray.toList.loop s i r = r.reverse ++ s.data.toList.drop i
  | 0, i, r, h => by
    unfold ByteArray.toList.loop
    have hl : s.data.toList.length = s.size := Array.length_toList
    rw [if_neg (by omega), List.drop_of_length_le (by omega), List.append_nil]
  | n + 1, i, r, h => by
    unfold ByteArray.toList.loop
    have hl : s.data.toList.length = s.size := Array.length_toList
    have hi : i < s.data.toList.length := by omega
    rw [if_pos (by omega), toList_loop s n (i + 1) _ (by omega), List.drop_eq_getElem_cons hi, List.reverse_cons, List.append_assoc]
    congr 2
    have hi' : i < s.data.size := by rw [← Array.length_toList]; exact hi
    simp [ByteArray.get!]
    rw [getElem!_pos s.data i hi']
theorem toList_data (s : ByteArray) : s.toList = s.data.toList := by
  have := toList_loop s s.size 0 [] rfl
  simpa [ByteArray.toList] using this
theorem mkS_toList (l : List UInt8) : (mkS l).toList = l := toList_data _
theorem beq_list (a b : List UInt8) : (a == b) = decide (a = b) := by
  rw [Bool.eq_iff_iff]; simp

end Go.Pv

/- Functions of data with one loop. -/
namespace Go.Pv
set_option linter.unusedVariables false
open Go

theorem abody_eq {P : Program} {tb : Handler} {an : Ann} {n : Nat} {f : FuncId} {cargs : List CV} (hb : noBox cargs = true) (hf : ((P.funcs[f]?).bind (·.body)).isSome = true) :
    abody P tb an n f cargs = aexec P tb (filt an 0) n (codeOf P f) (envOf P f (cargs.map .c)) [] (endOf P f []) := by
  unfold abody codeOf envOf endOf
  cases h1 : P.funcs[f]? with
  | none => rw [h1] at hf; cases hf
  | some fn =>
    cases h2 : fn.body with
    | none => rw [h1] at hf; simp [h2] at hf
    | some c =>
      simp only [openArgs_data hb, h2]
      rfl
theorem loop1 {P : Program} {tb : Handler} {an : Ann} {n : Nat} {f : FuncId} {hd : Head} {cargs : List CV} {X : Res} (hb : noBox cargs = true) (hf : ((P.funcs[f]?).bind (·.body)).isSome = true)
    (hi : idsOk (codeOf P f) = true) (hl : nLoops (codeOf P f) = 1) (hh : (firstRegion (bodyN 0 (codeOf P f))).bind (filt an 0) = some hd)
    (hp : parts P tb (filt an 0) n (codeOf P f) (envOf P f (cargs.map .c)) [] (fun _ => headK hd fun env H => rounds P tb (filt an 0) n hd (bodyN 0 (codeOf P f)) n env H (restN P tb (filt an 0) n 0 (codeOf P f) (endOf P f []))) (endOf P f []) = X) :
    abody P tb an n f cargs = X := by
  rw [abody_eq hb hf, ← hp]
  refine cut_eq (codeOf P f) 0 _ _ _ hi fun i env H hlt => ?_
  rw [hl] at hlt
  obtain rfl : i = 0 := by omega
  exact (loop_eq hh).symm

theorem wrp1 {i : Nat} (h : i ≤ 100000) : IntKind.i64.wrap ((i : Int) + 1) = ((i + 1 : Nat) : Int) := wrp (k := 1) h (by omega)
/-! (Not by 'rfl': so that simp turns the conditions' instances too.) -/
theorem sizeM (l : List UInt8) : (mkS l).size = l.length := by cases l <;> rfl
theorem atM (l : List UInt8) (i : Nat) : byteAt (mkS l) i = ((l.getD i 0).toNat : Int) := by cases l <;> rfl
theorem dataM (l : List UInt8) : (mkS l).data.toList = l := by cases l <;> rfl
theorem natM (n : Nat) : ((n : Int)).toNat = n := by cases n <;> rfl
/-- Facts about lists. -/
theorem drop_getD {l : List UInt8} {i : Nat} (h : i < l.length) : l.drop i = l.getD i 0 :: l.drop (i + 1) := by
  rw [List.drop_eq_getElem_cons h]
  simp [List.getD_eq_getElem?_getD, h]
theorem index_mem (l : List UInt8) (c : UInt8) : decide (Lib.indexByte l c ≥ 0) = l.any fun b => decide (b = c) := by
  induction l with
  | nil => rfl
  | cons b l ih =>
    rw [List.any_cons, ← ih]
    show decide ((if b == c then (0 : Int) else if Lib.indexByte l c == -1 then -1 else Lib.indexByte l c + 1) ≥ 0) = _
    by_cases hb : b = c
    · subst hb; simp
    · have h1 : (b == c) = false := by simpa using hb
      rw [h1, decide_eq_false hb]
      simp only [Bool.false_eq_true, if_false, Bool.false_or]
      have := Lib.indexByte_ge l c
      by_cases h2 : Lib.indexByte l c = -1
      · rw [h2]; rfl
      · rw [if_neg (by simpa using h2)]
        rw [Bool.eq_iff_iff, decide_eq_true_eq, decide_eq_true_eq]
        omega
theorem u8_cast (c : UInt8) : (((c.toNat : Nat) : Int).toNat).toUInt8 = c := by
  simp
theorem u8_cast' (c : UInt8) : c.toNat.toUInt8 = c := by simp
theorem u8_int {a b : UInt8} : ((a.toNat : Nat) : Int) = ((b.toNat : Nat) : Int) ↔ a = b := by
  constructor
  · intro h; exact UInt8.toNat.inj (by omega)
  · intro h; rw [h]

end Go.Pv

/- Parts of URLs: what the code of small functions does. -/
namespace Go.Pv
set_option linter.unusedVariables false
set_option maxRecDepth 100000
open Go Go.Proofs

def inS (p : ByteArray) (c : Int) : Bool := p.data.toList.any fun b => decide ((b.toNat : Int) = c)
def findL (p : List UInt8) : List UInt8 → Nat
  | [] => 0
  | b :: t => if inS (mkS p) b.toNat then 0 else findL p t + 1
def findI (s : ByteArray) (i : Nat) (p : ByteArray) : Nat := i + findL p.data.toList (s.data.toList.drop i)
def allS (s p : ByteArray) : Bool := s.data.toList.all fun b => inS p b.toNat
def asciiS (p : ByteArray) : Bool := p.data.toList.all fun b => decide (b.toNat < 128)
def preS (s p : ByteArray) : Bool := p.data.toList.isPrefixOf s.data.toList
def sufS (s p : ByteArray) : Bool := p.data.toList.isSuffixOf s.data.toList
def lastL : Nat → List UInt8 → Int → Int
  | 0, _, _ => -1
  | k + 1, l, c => if ((l.getD k 0).toNat : Int) = c then (k : Int) else lastL k l c
def lastI (s : ByteArray) (c : Int) : Int := lastL s.size s.data.toList c
def hx (c : Int) : Int := if 48 ≤ c ∧ c ≤ 57 then c - 48 else if 97 ≤ c ∧ c ≤ 102 then c - 87 else if 65 ≤ c ∧ c ≤ 70 then c - 55 else -1
def lastR (s : ByteArray) : Int := ((Lib.decodeLastL s.data.toList).1 : Int)
def lastN (s : ByteArray) : Int := ((Lib.decodeLastL s.data.toList).2 : Int)
def okU (c : UInt8) : Bool := decide (33 ≤ c.toNat) && (decide (c.toNat ≤ 126) && !([34, 60, 62, 92, 94, 96, 123, 124, 125] : List UInt8).contains c)
def hexd (c : UInt8) : Bool := decide (0 ≤ hx c.toNat)
def stL : List UInt8 → Bool
  | [] => true
  | c :: t => okU c && ((!decide (c = 37) || (match t with
    | a :: b :: _ => hexd a && hexd b
    | _ => false)) && stL t)
def stS (s : ByteArray) : Bool := stL s.data.toList
def digS (s : ByteArray) : Bool := s.data.toList.all fun b => decide (48 ≤ b.toNat) && decide (b.toNat ≤ 57)
def L61 : Fn1 := fun x => match x with
  | [.str s, .int .u8 c] => some [(true, .int .i64 (Lib.indexByte s.data.toList c.toNat.toUInt8), [])]
  | _ => none
def L54 : Fn1 := fun x => match x with
  | [.str s, .int .u8 c] => some [(decide (s.size ≤ 10000), .int .i64 (lastI s c), [])]
  | _ => none
def L53 : Fn1 := fun x => match x with
  | [.str s, .str p] => some [(true, .bool (preS s p), [])]
  | _ => none
def L69 : Fn1 := fun x => match x with
  | [.str s, .str p] => some [(decide (s.size ≤ 10000), .bool (sufS s p), [])]
  | _ => none
def L26 : Fn1 := fun x => match x with
  | [.str s, .str p] => some [(preS s p, .tup [.str (s.extract p.size s.size), .bool true], []), (true, .tup [.str s, .bool false], [])]
  | _ => none
def L46 : Fn1 := fun x => match x with
  | [.str s, .str p] => some [(decide (s.size ≤ 10000) && sufS s p, .tup [.str (s.extract 0 (s.size - p.size)), .bool true], []), (decide (s.size ≤ 10000), .tup [.str s, .bool false], [])]
  | _ => none
def L31 : Fn1 := fun x => match x with
  | [.int .u8 c] => some [(true, .bool (decide ((97 ≤ c ∧ c ≤ 122) ∨ (65 ≤ c ∧ c ≤ 90))), [])]
  | _ => none
def L32 : Fn1 := fun x => match x with
  | [.int .u8 c] => some [(true, .bool (decide (48 ≤ c ∧ c ≤ 57)), [])]
  | _ => none
def L33 : Fn1 := fun x => match x with
  | [.int .u8 c, .str p] => some [(decide (p.size ≤ 10000), .bool (inS p c), [])]
  | _ => none
def L39 : Fn1 := fun x => match x with
  | [.str s, .int .i64 i, .str p] => some [(decide (0 ≤ i) && (decide (i ≤ (s.size : Int)) && (decide (s.size ≤ 10000) && decide (p.size ≤ 10000))), .int .i64 (findI s i.toNat p), [])]
  | _ => none
def L40 : Fn1 := fun x => match x with
  | [.str s] => some [(decide (s.size ≤ 10000), .bool (digS s), [])]
  | _ => none
def L52 : Fn1 := fun x => match x with
  | [.str s] => some [(decide (s.size ≤ 10000), .tup [.int .i32 (lastR s), .int .i64 (lastN s)], [])]
  | _ => none
def L23 : Fn1 := fun x => match x with
  | [.str s, .str p] => some [(decide (s.size ≤ 10000) && decide (p.size ≤ 10000), .tup [.str (s.extract 0 (findI s 0 p)), .str (s.extract (findI s 0 p) s.size)], [])]
  | _ => none
def L24 : Fn1 := fun x => match x with
  | [.str s, .str p] => some [(decide (s.size ≤ 10000) && (decide (p.size ≤ 100) && asciiS p), .bool (allS s p), [])]
  | _ => none
def L17 : Fn1 := fun x => match x with
  | [.str s] => some [(decide (s.size ≤ 10000), .bool (stS s), [])]
  | _ => none
def L35 : Fn1 := fun x => match x with
  | [.int .u8 c] => some [(decide (0 ≤ c) && decide (c < 256), .int .i64 (hx c), [])]
  | _ => none
def A0 : Table := fun _ _ => none
def A61 : Table := fun g => if Nat.beq g 65 then L61 else A0 g
def A29 : Table := fun g => if Nat.beq g 38 then L61 else A61 g
def A54 : Table := fun g => if Nat.beq g 49 then L54 else A29 g
def A45 : Table := fun g => if Nat.beq g 25 then L54 else A54 g
def A53 : Table := fun g => if Nat.beq g 63 then L53 else A45 g
def A69 : Table := fun g => if Nat.beq g 131 then L69 else A53 g
def A44 : Table := fun g => if Nat.beq g 96 then L26 else A69 g
def A26 : Table := fun g => if Nat.beq g 71 then L26 else A44 g
def A55 : Table := fun g => if Nat.beq g 113 then L46 else A26 g
def A46 : Table := fun g => if Nat.beq g 97 then L46 else A55 g
def A31 : Table := fun g => if Nat.beq g 42 then L31 else A46 g
def A32 : Table := fun g => if Nat.beq g 43 then L32 else A31 g
def A33 : Table := fun g => if Nat.beq g 44 then L33 else A32 g
def A39 : Table := fun g => if Nat.beq g 41 then L39 else A33 g
def A40 : Table := fun g => if Nat.beq g 45 then L40 else A39 g
def A52 : Table := fun g => if Nat.beq g 112 then L52 else A40 g
def A23 : Table := fun g => if Nat.beq g 68 then L23 else A52 g
def hL54 : Head := ⟨[0, 1, 5], [], 0⟩
def aL54 : Ann := fun i => if Nat.beq i 2 then some hL54 else none
def hL33 : Head := ⟨[0, 1, 5], [], 0⟩
def aL33 : Ann := fun i => if Nat.beq i 2 then some hL33 else none
def hL39 : Head := ⟨[0, 2, 7], [], 0⟩
def aL39 : Ann := fun i => if Nat.beq i 2 then some hL39 else none
def hL40 : Head := ⟨[0, 3], [], 0⟩
def aL40 : Ann := fun i => if Nat.beq i 2 then some hL40 else none
def hL23 : Head := ⟨[0, 1, 6], [], 0⟩
def aL23 : Ann := fun i => if Nat.beq i 2 then some hL23 else none
theorem ur49 (s : ByteArray) (c : Int) : abody Tryz.prog (call' A0) (fun _ => none) 1 65 [.str s, .int .u8 c] =
 some (CV.int IntKind.i64 (Lib.indexByte s.data.toList c.toNat.toUInt8), []) := by kernel_rfl
theorem ur29 (s : ByteArray) (c : Int) : abody Tryz.prog (call' A61) (fun _ => none) 1 38 [.str s, .int .u8 c] =
 some (CV.int IntKind.i64 (Lib.indexByte s.data.toList c.toNat.toUInt8), []) := by kernel_rfl
theorem ub54 (s : ByteArray) (c : Int) (n : Nat) (R : Env → Hp → Res) : parts Tryz.prog (call' A29) (filt aL54 0) n (codeOf Tryz.prog 49) (envOf Tryz.prog 49 [.c (.str s), .c (.int .u8 c)]) [] (fun _ => headK hL54 R) (endOf Tryz.prog 49 []) =
 R (mkEnv 19 [(0, PV.c (CV.str s)), (1, PV.c (CV.int IntKind.u8 c)), (5, PV.c (CV.int IntKind.i64 (IntKind.i64.wrap ((↑s.size : Int) - 1))))]) [] := by kernel_rfl
theorem uc54 (s : ByteArray) (c i : Int) (n : Nat) (R : Env → Hp → Res) : aexec Tryz.prog (call' A29) (filt aL54 0) n (bodyN 0 (codeOf Tryz.prog 49)) (mkEnv 19 [(0, .c (.str s)), (1, .c (.int .u8 c)), (5, .c (.int .i64 i))]) [] (thenK (headK hL54 R) (restN Tryz.prog (call' A29) (filt aL54 0) n 0 (codeOf Tryz.prog 49) (endOf Tryz.prog 49 []))) =
 bif' (decide (i ≥ 0)) (bif' (decide (0 ≤ i)) (bif' (decide (i < (↑s.size : Int))) (bif' (byteAt s i.toNat == c) (some (CV.int IntKind.i64 i, [])) (R (mkEnv 19 [(0, PV.c (CV.str s)), (1, PV.c (CV.int IntKind.u8 c)), (5, PV.c (CV.int IntKind.i64 (IntKind.i64.wrap (i - 1))))]) [])) none) none) (some (CV.int IntKind.i64 (Int.negSucc 0), [])) := by kernel_rfl
theorem ur45 (s : ByteArray) (c : Int) : abody Tryz.prog (call' A54) (fun _ => none) 1 25 [.str s, .int .u8 c] =
 bif' (decide (s.size ≤ 10000)) (some (CV.int IntKind.i64 (lastI s c), [])) none := by kernel_rfl
theorem ur53 (s p : ByteArray) : abody Tryz.prog (call' A45) (fun _ => none) 1 63 [.str s, .str p] =
 bif' (decide ((↑s.size : Int) ≥ (↑p.size : Int))) (bif' (decide ((↑p.size : Int) ≤ (↑s.size : Int))) (some (CV.bool ((s.extract (Int.toNat 0) (↑p.size : Int).toNat).toList == p.toList), [])) none) (some (CV.bool false, [])) := by kernel_rfl
theorem ur69 (s p : ByteArray) : abody Tryz.prog (call' A53) (fun _ => none) 1 131 [.str s, .str p] =
 bif' (decide ((↑s.size : Int) ≥ (↑p.size : Int))) (bif' (decide (0 ≤ IntKind.i64.wrap ((↑s.size : Int) - (↑p.size : Int)))) (bif' (decide (IntKind.i64.wrap ((↑s.size : Int) - (↑p.size : Int)) ≤ (↑s.size : Int))) (bif' (decide ((↑s.size : Int) ≤ (↑s.size : Int))) (some (CV.bool ((s.extract (IntKind.i64.wrap ((↑s.size : Int) - (↑p.size : Int))).toNat (↑s.size : Int).toNat).toList == p.toList), [])) none) none) none) (some (CV.bool false, [])) := by kernel_rfl
theorem ur44 (s p : ByteArray) : abody Tryz.prog (call' A69) (fun _ => none) 1 96 [.str s, .str p] =
 bif' (!preS s p) (some (CV.tup [CV.str s, CV.bool false], [])) (bif' (decide ((↑p.size : Int) ≤ (↑s.size : Int))) (bif' (decide ((↑s.size : Int) ≤ (↑s.size : Int))) (some (CV.tup [CV.str (s.extract (↑p.size : Int).toNat (↑s.size : Int).toNat), CV.bool true], [])) none) none) := by kernel_rfl
theorem ur26 (s p : ByteArray) : abody Tryz.prog (call' A44) (fun _ => none) 1 71 [.str s, .str p] =
 bif' (preS s p) (some (CV.tup [CV.str (s.extract p.size s.size), CV.bool true], [])) (some (CV.tup [CV.str s, CV.bool false], [])) := by kernel_rfl
theorem ur55 (s p : ByteArray) : abody Tryz.prog (call' A26) (fun _ => none) 1 113 [.str s, .str p] =
 bif' (decide (s.size ≤ 10000)) (bif' (!sufS s p) (some (CV.tup [CV.str s, CV.bool false], [])) (bif' (decide (0 ≤ IntKind.i64.wrap ((↑s.size : Int) - (↑p.size : Int)))) (bif' (decide (IntKind.i64.wrap ((↑s.size : Int) - (↑p.size : Int)) ≤ (↑s.size : Int))) (some (CV.tup [CV.str (s.extract (Int.toNat 0) (IntKind.i64.wrap ((↑s.size : Int) - (↑p.size : Int))).toNat), CV.bool true], [])) none) none)) none := by kernel_rfl
theorem ur46 (s p : ByteArray) : abody Tryz.prog (call' A55) (fun _ => none) 1 97 [.str s, .str p] =
 bif' (decide (s.size ≤ 10000) && sufS s p) (some (CV.tup [CV.str (s.extract 0 (s.size - p.size)), CV.bool true], [])) (bif' (decide (s.size ≤ 10000)) (some (CV.tup [CV.str s, CV.bool false], [])) none) := by kernel_rfl
theorem ur31 (c : Int) : abody Tryz.prog (call' A46) (fun _ => none) 1 42 [.int .u8 c] =
 bif' (decide (c ≥ 97)) (bif' (decide (c ≤ 122)) (some (CV.bool true, [])) (bif' (decide (c ≥ 65)) (some (CV.bool (decide (c ≤ 90)), [])) (some (CV.bool false, [])))) (bif' (decide (c ≥ 65)) (some (CV.bool (decide (c ≤ 90)), [])) (some (CV.bool false, []))) := by kernel_rfl
theorem ur32 (c : Int) : abody Tryz.prog (call' A31) (fun _ => none) 1 43 [.int .u8 c] =
 bif' (decide (c ≥ 48)) (some (CV.bool (decide (c ≤ 57)), [])) (some (CV.bool false, [])) := by kernel_rfl
theorem ub33 (p : ByteArray) (c : Int) (n : Nat) (R : Env → Hp → Res) : parts Tryz.prog (call' A32) (filt aL33 0) n (codeOf Tryz.prog 44) (envOf Tryz.prog 44 [.c (.int .u8 c), .c (.str p)]) [] (fun _ => headK hL33 R) (endOf Tryz.prog 44 []) =
 R (mkEnv 17 [(0, PV.c (CV.int IntKind.u8 c)), (1, PV.c (CV.str p)), (5, PV.c (CV.int IntKind.i64 (Int.ofNat 0)))]) [] := by kernel_rfl
theorem uc33 (p : ByteArray) (c i : Int) (n : Nat) (R : Env → Hp → Res) : aexec Tryz.prog (call' A32) (filt aL33 0) n (bodyN 0 (codeOf Tryz.prog 44)) (mkEnv 17 [(0, .c (.int .u8 c)), (1, .c (.str p)), (5, .c (.int .i64 i))]) [] (thenK (headK hL33 R) (restN Tryz.prog (call' A32) (filt aL33 0) n 0 (codeOf Tryz.prog 44) (endOf Tryz.prog 44 []))) =
 bif' (decide (i < (↑p.size : Int))) (bif' (decide (0 ≤ i)) (bif' (decide (i < (↑p.size : Int))) (bif' (byteAt p i.toNat == c) (some (CV.bool true, [])) (R (mkEnv 17 [(0, PV.c (CV.int IntKind.u8 c)), (1, PV.c (CV.str p)), (5, PV.c (CV.int IntKind.i64 (IntKind.i64.wrap (i + 1))))]) [])) none) none) (some (CV.bool false, [])) := by kernel_rfl
theorem ub39 (s p : ByteArray) (j : Int) (n : Nat) (R : Env → Hp → Res) : parts Tryz.prog (call' A33) (filt aL39 0) n (codeOf Tryz.prog 41) (envOf Tryz.prog 41 [.c (.str s), .c (.int .i64 j), .c (.str p)]) [] (fun _ => headK hL39 R) (endOf Tryz.prog 41 []) =
 R (mkEnv 23 [(0, PV.c (CV.str s)), (2, PV.c (CV.str p)), (7, PV.c (CV.int IntKind.i64 j))]) [] := by kernel_rfl
theorem uc39 (s p : ByteArray) (i : Int) (n : Nat) (R : Env → Hp → Res) : aexec Tryz.prog (call' A33) (filt aL39 0) n (bodyN 0 (codeOf Tryz.prog 41)) (mkEnv 23 [(0, .c (.str s)), (2, .c (.str p)), (7, .c (.int .i64 i))]) [] (thenK (headK hL39 R) (restN Tryz.prog (call' A33) (filt aL39 0) n 0 (codeOf Tryz.prog 41) (endOf Tryz.prog 41 []))) =
 bif' (decide (i < (↑s.size : Int))) (bif' (decide (0 ≤ i)) (bif' (decide (i < (↑s.size : Int))) (bif' (decide (p.size ≤ 10000)) (bif' (inS p (byteAt s i.toNat)) (some (CV.int IntKind.i64 i, [])) (R (mkEnv 23 [(0, PV.c (CV.str s)), (2, PV.c (CV.str p)), (7, PV.c (CV.int IntKind.i64 (IntKind.i64.wrap (i + 1))))]) [])) none) none) none) (some (CV.int IntKind.i64 (↑s.size : Int), [])) := by kernel_rfl
theorem ub40 (s : ByteArray) (n : Nat) (R : Env → Hp → Res) : parts Tryz.prog (call' A39) (filt aL40 0) n (codeOf Tryz.prog 45) (envOf Tryz.prog 45 [.c (.str s)]) [] (fun _ => headK hL40 R) (endOf Tryz.prog 45 []) =
 R (mkEnv 15 [(0, PV.c (CV.str s)), (3, PV.c (CV.int IntKind.i64 (Int.ofNat 0)))]) [] := by kernel_rfl
theorem uc40 (s : ByteArray) (i : Int) (n : Nat) (R : Env → Hp → Res) : aexec Tryz.prog (call' A39) (filt aL40 0) n (bodyN 0 (codeOf Tryz.prog 45)) (mkEnv 15 [(0, .c (.str s)), (3, .c (.int .i64 i))]) [] (thenK (headK hL40 R) (restN Tryz.prog (call' A39) (filt aL40 0) n 0 (codeOf Tryz.prog 45) (endOf Tryz.prog 45 []))) =
 bif' (decide (i < (↑s.size : Int))) (bif' (decide (0 ≤ i)) (bif' (decide (i < (↑s.size : Int))) (bif' (!decide (48 ≤ byteAt s i.toNat ∧ byteAt s i.toNat ≤ 57)) (some (CV.bool false, [])) (R (mkEnv 15 [(0, PV.c (CV.str s)), (3, PV.c (CV.int IntKind.i64 (IntKind.i64.wrap (i + 1))))]) [])) none) none) (some (CV.bool true, [])) := by kernel_rfl
theorem ub23 (s p : ByteArray) (n : Nat) (R : Env → Hp → Res) : parts Tryz.prog (call' A52) (filt aL23 0) n (codeOf Tryz.prog 68) (envOf Tryz.prog 68 [.c (.str s), .c (.str p)]) [] (fun _ => headK hL23 R) (endOf Tryz.prog 68 []) =
 R (mkEnv 26 [(0, PV.c (CV.str s)), (1, PV.c (CV.str p)), (6, PV.c (CV.int IntKind.i64 (Int.ofNat 0)))]) [] := by kernel_rfl
theorem uc23 (s p : ByteArray) (i : Int) (n : Nat) (R : Env → Hp → Res) : aexec Tryz.prog (call' A52) (filt aL23 0) n (bodyN 0 (codeOf Tryz.prog 68)) (mkEnv 26 [(0, .c (.str s)), (1, .c (.str p)), (6, .c (.int .i64 i))]) [] (thenK (headK hL23 R) (restN Tryz.prog (call' A52) (filt aL23 0) n 0 (codeOf Tryz.prog 68) (endOf Tryz.prog 68 []))) =
 bif' (decide (i < (↑s.size : Int))) (bif' (decide (0 ≤ i)) (bif' (decide (i < (↑s.size : Int))) (bif' (decide (Lib.indexByte p.data.toList (byteAt s i.toNat).toNat.toUInt8 ≥ 0)) (bif' (decide (0 ≤ i)) (bif' (decide (i ≤ (↑s.size : Int))) (bif' (decide (0 ≤ i)) (bif' (decide (i ≤ (↑s.size : Int))) (bif' (decide ((↑s.size : Int) ≤ (↑s.size : Int))) (some (CV.tup [CV.str (s.extract (Int.toNat 0) i.toNat), CV.str (s.extract i.toNat (↑s.size : Int).toNat)], [])) none) none) none) none) none) (R (mkEnv 26 [(0, PV.c (CV.str s)), (1, PV.c (CV.str p)), (6, PV.c (CV.int IntKind.i64 (IntKind.i64.wrap (i + 1))))]) [])) none) none) (some (CV.tup [CV.str s, CV.str ⟨⟨[]⟩⟩], [])) := by kernel_rfl

end Go.Pv

/- Parts of URLs: contracts of small functions. -/
namespace Go.Pv
set_option linter.unusedVariables false
set_option maxRecDepth 100000
open Go Go.Proofs

abbrev Kw (I : World → Prop) (ng : Nat) (tb : Table) : Prop := Known Tryz.prog I ng tb
abbrev Cw (I : World → Prop) (ng : Nat) (f : FuncId) (F : Fn1) : Prop := Contract Tryz.prog I ng f F
variable {I : World → Prop} {ng : Nat}

theorem data_len (s : ByteArray) : s.data.toList.length = s.size := Array.length_toList
theorem pre_pre (l q : List UInt8) : (decide (q.length ≤ l.length) && ((l.drop 0).take q.length == q)) = q.isPrefixOf l := by
  rw [Bool.eq_iff_iff, Bool.and_eq_true, decide_eq_true_eq, beq_iff_eq, List.isPrefixOf_iff_prefix, List.prefix_iff_eq_take, List.drop_zero]
  constructor
  · rintro ⟨_, h⟩; exact h.symm
  · intro h
    refine ⟨?_, h.symm⟩
    have := congrArg List.length h
    rw [List.length_take] at this
    omega
theorem prefix_le {q l : List UInt8} (h : q.isPrefixOf l = true) : q.length ≤ l.length := (List.isPrefixOf_iff_prefix.1 h).length_le
theorem suffix_le {q l : List UInt8} (h : q.isSuffixOf l = true) : q.length ≤ l.length := (List.isSuffixOf_iff_suffix.1 h).length_le

/-! ### IndexByte, LastIndexByte -/
theorem g61 (hg : OnGlobals I ng) : Kw I ng A61 := known_add known_no (contract_of (fun _ => none) hg (hok_of known_no) fun cargs rv outs h => by
  unfold L61 at h
  split at h
  · cases h; exact ⟨1, ur49 _ _⟩
  · cases h)
theorem g29 (hg : OnGlobals I ng) : Kw I ng A29 := known_add (g61 hg) (contract_of (fun _ => none) hg (hok_of (g61 hg)) fun cargs rv outs h => by
  unfold L61 at h
  split at h
  · cases h; exact ⟨1, ur29 _ _⟩
  · cases h)
theorem lo54 (n : Nat) (s : List UInt8) (c : Int) (hs : s.length ≤ 10000) : ∀ (j k : Nat), k < j → k ≤ s.length →
    rounds Tryz.prog (call' A29) (filt aL54 0) n hL54 (bodyN 0 (codeOf Tryz.prog 49)) j (mkEnv 19 [(0, .c (.str (mkS s))), (1, .c (.int .u8 c)), (5, .c (.int .i64 ((k : Int) - 1)))]) [] (restN Tryz.prog (call' A29) (filt aL54 0) n 0 (codeOf Tryz.prog 49) (endOf Tryz.prog 49 [])) = some (.int .i64 (lastL k s c), [])
  | 0, k, hj, hk => by omega
  | j + 1, k, hj, hk => by
    rw [rounds_succ, uc54]
    simp only [bif_dec]
    simp only [mkS_at, mkS_size, bif_b]
    cases k with
    | zero => rw [if_neg (by omega)]; rfl
    | succ k =>
      have e : ((k + 1 : Nat) : Int) - 1 = (k : Int) := by omega
      rw [e, if_pos (by omega), if_pos (by omega), if_pos (by omega)]
      simp only [Int.toNat_natCast]
      by_cases hc : ((s.getD k 0).toNat : Int) = c
      · rw [if_pos (by simpa using hc)]
        unfold lastL
        rw [if_pos hc]
      · rw [if_neg (by simpa using hc)]
        have hw : IntKind.i64.wrap ((k : Int) - 1) = (k : Int) - 1 := by
          cases k with
          | zero => rfl
          | succ k => rw [wrm (by omega)]; omega
        rw [hw]
        have := lo54 n s c hs j k (by omega) (by omega)
        rw [this]
        conv => rhs; unfold lastL
        rw [if_neg hc]
theorem g54 (hg : OnGlobals I ng) : Kw I ng A54 := known_add (g29 hg) (contract_of aL54 hg (hok_of (g29 hg)) fun cargs rv outs h => by
  unfold L54 at h
  split at h <;> first | (cases h; done) | skip
  rename_i s c
  by_cases hs : s.size ≤ 10000
  · simp only [picked, pickAlt, decide_eq_true hs] at h
    cases h
    refine ⟨12000, loop1 rfl (by kernel_rfl) (by kernel_rfl) (by kernel_rfl) (hd := hL54) (by kernel_rfl) ?_⟩
    have hl := data_len s
    have := ub54 s c 12000 (fun env H => rounds Tryz.prog (call' A29) (filt aL54 0) 12000 hL54 (bodyN 0 (codeOf Tryz.prog 49)) 12000 env H (restN Tryz.prog (call' A29) (filt aL54 0) 12000 0 (codeOf Tryz.prog 49) (endOf Tryz.prog 49 [])))
    refine this.trans ?_
    have hw : IntKind.i64.wrap ((s.size : Int) - 1) = ((s.size : Nat) : Int) - 1 := by
      cases hz : s.size with
      | zero => rfl
      | succ k => rw [wrm (by omega)]; omega
    have hlo := lo54 12000 s.data.toList c (by omega) 12000 s.size (by omega) (by omega)
    rw [mkS_bl] at hlo
    rw [hw]
    exact hlo
  · simp only [picked, pickAlt, decide_eq_false hs] at h; cases h)
theorem g45 (hg : OnGlobals I ng) : Kw I ng A45 := known_add (g54 hg) (contract_of (fun _ => none) hg (hok_of (g54 hg)) fun cargs rv outs h => by
  unfold L54 at h
  split at h <;> first | (cases h; done) | skip
  rename_i s c
  by_cases hs : s.size ≤ 10000
  · simp only [picked, pickAlt, decide_eq_true hs] at h
    cases h
    exact ⟨1, by rw [ur45, bif_t _ _ (decide_eq_true hs)]⟩
  · simp only [picked, pickAlt, decide_eq_false hs] at h; cases h)

/-! ### Prefixes and suffixes -/
theorem g53 (hg : OnGlobals I ng) : Kw I ng A53 := known_add (g45 hg) (contract_of (fun _ => none) hg (hok_of (g45 hg)) fun cargs rv outs h => by
  unfold L53 at h
  split at h <;> first | (cases h; done) | skip
  rename_i s p
  cases h
  refine ⟨1, ?_⟩
  rw [ur53]
  unfold preS
  rw [← mkS_bl s, ← mkS_bl p, mkS_data, mkS_data]
  generalize s.data.toList = l
  generalize p.data.toList = q
  simp only [bif_dec]
  rw [← pre_pre]
  simp only [mkS_size, mkS_ext, mkS_toList, show Int.toNat 0 = 0 from rfl, Nat.sub_zero, Int.toNat_natCast]
  by_cases hq : q.length ≤ l.length
  · rw [if_pos (by omega), if_pos (by omega), decide_eq_true hq, Bool.true_and]
  · rw [if_neg (by omega), decide_eq_false hq, Bool.false_and])
theorem g69 (hg : OnGlobals I ng) : Kw I ng A69 := known_add (g53 hg) (contract_of (fun _ => none) hg (hok_of (g53 hg)) fun cargs rv outs h => by
  unfold L69 at h
  split at h <;> first | (cases h; done) | skip
  rename_i s p
  by_cases hs : s.size ≤ 10000
  · simp only [picked, pickAlt, decide_eq_true hs] at h
    cases h
    refine ⟨1, ?_⟩
    rw [ur69]
    unfold sufS
    rw [← mkS_bl s, ← mkS_bl p, mkS_data, mkS_data]
    have hl := data_len s
    have hl : s.data.toList.length ≤ 10000 := by omega
    generalize s.data.toList = l at *
    generalize p.data.toList = q
    simp only [bif_dec]
    simp only [mkS_size, mkS_ext, mkS_toList, Int.le_refl, if_true]
    by_cases hq : q.length ≤ l.length
    · have hw : IntKind.i64.wrap ((l.length : Int) - (q.length : Int)) = ((l.length - q.length : Nat) : Int) := by
        rw [wrap_id (by omega) (by omega)]; omega
      rw [if_pos (by omega), hw, if_pos (by omega), if_pos (by omega)]
      simp only [Int.toNat_natCast]
      congr 3
      rw [List.take_of_length_le (by simp), Bool.eq_iff_iff, beq_iff_eq, List.isSuffixOf_iff_suffix, List.suffix_iff_eq_drop]
      exact eq_comm
    · rw [if_neg (by omega)]
      congr 3
      refine (Bool.eq_false_iff.2 fun h => hq (suffix_le h)).symm
  · simp only [picked, pickAlt, decide_eq_false hs] at h; cases h)
theorem g44 (hg : OnGlobals I ng) : Kw I ng A44 := known_add (g69 hg) (contract_of (fun _ => none) hg (hok_of (g69 hg)) fun cargs rv outs h => by
  unfold L26 at h
  split at h <;> first | (cases h; done) | skip
  rename_i s p
  refine ⟨1, ?_⟩
  rw [ur44]
  cases hp : preS s p with
  | true =>
    rw [hp] at h
    cases h
    have hl : p.size ≤ s.size := by
      have := prefix_le hp
      rw [data_len, data_len] at this; exact this
    rw [show (!true) = false from rfl, bif_f _ _ rfl, bif_dec, if_pos (by omega), bif_dec, if_pos (by omega)]
    simp
  | false =>
    rw [hp] at h
    cases h
    rw [show (!false) = true from rfl, bif_t _ _ rfl])
theorem g26 (hg : OnGlobals I ng) : Kw I ng A26 := known_add (g44 hg) (contract_of (fun _ => none) hg (hok_of (g44 hg)) fun cargs rv outs h => by
  unfold L26 at h
  split at h <;> first | (cases h; done) | skip
  rename_i s p
  refine ⟨1, ?_⟩
  rw [ur26]
  cases hp : preS s p with
  | true => rw [hp] at h; cases h; rfl
  | false => rw [hp] at h; cases h; rfl)
theorem g55 (hg : OnGlobals I ng) : Kw I ng A55 := known_add (g26 hg) (contract_of (fun _ => none) hg (hok_of (g26 hg)) fun cargs rv outs h => by
  unfold L46 at h
  split at h <;> first | (cases h; done) | skip
  rename_i s p
  by_cases hs : s.size ≤ 10000
  · simp only [picked, pickAlt, decide_eq_true hs, Bool.true_and] at h
    refine ⟨1, ?_⟩
    rw [ur55, bif_t _ _ (decide_eq_true hs)]
    cases hp : sufS s p with
    | true =>
      rw [hp] at h
      cases h
      have hl : p.size ≤ s.size := by
        have := suffix_le hp
        rw [data_len, data_len] at this; exact this
      have hw : IntKind.i64.wrap ((s.size : Int) - (p.size : Int)) = ((s.size - p.size : Nat) : Int) := by
        rw [wrap_id (by omega) (by omega)]; omega
      rw [show (!true) = false from rfl, bif_f _ _ rfl, hw, bif_dec, if_pos (by omega), bif_dec, if_pos (by omega)]
      simp
    | false =>
      rw [hp] at h
      cases h
      rw [show (!false) = true from rfl, bif_t _ _ rfl]
  · simp only [picked, pickAlt, decide_eq_false hs, Bool.false_and] at h; cases h)
theorem g46 (hg : OnGlobals I ng) : Kw I ng A46 := known_add (g55 hg) (contract_of (fun _ => none) hg (hok_of (g55 hg)) fun cargs rv outs h => by
  unfold L46 at h
  split at h <;> first | (cases h; done) | skip
  rename_i s p
  by_cases hs : s.size ≤ 10000
  · simp only [picked, pickAlt, decide_eq_true hs, Bool.true_and] at h
    refine ⟨1, ?_⟩
    rw [ur46, decide_eq_true hs, Bool.true_and]
    cases hp : sufS s p with
    | true => rw [hp] at h; cases h; rfl
    | false => rw [hp] at h; cases h; rfl
  · simp only [picked, pickAlt, decide_eq_false hs, Bool.false_and] at h; cases h)

end Go.Pv

/- Parts of URLs: contracts of small functions with loops. -/
namespace Go.Pv
set_option linter.unusedVariables false
set_option maxRecDepth 100000
open Go Go.Proofs
variable {I : World → Prop} {ng : Nat}

theorem g31 (hg : OnGlobals I ng) : Kw I ng A31 := known_add (g46 hg) (contract_of (fun _ => none) hg (hok_of (g46 hg)) fun cargs rv outs h => by
  unfold L31 at h
  split at h <;> first | (cases h; done) | skip
  rename_i c
  cases h
  refine ⟨1, ?_⟩
  rw [ur31]
  simp only [bif_dec]
  by_cases h1 : c ≥ 97
  · rw [if_pos h1]
    by_cases h2 : c ≤ 122
    · rw [if_pos h2, decide_eq_true (by omega)]
    · rw [if_neg h2, if_pos (by omega), decide_eq_false (by omega), decide_eq_false (by omega)]
  · rw [if_neg h1]
    by_cases h2 : c ≥ 65
    · rw [if_pos h2]
      congr 3
      rw [Bool.eq_iff_iff, decide_eq_true_eq, decide_eq_true_eq]; omega
    · rw [if_neg h2, decide_eq_false (by omega)])
theorem g32 (hg : OnGlobals I ng) : Kw I ng A32 := known_add (g31 hg) (contract_of (fun _ => none) hg (hok_of (g31 hg)) fun cargs rv outs h => by
  unfold L32 at h
  split at h <;> first | (cases h; done) | skip
  rename_i c
  cases h
  refine ⟨1, ?_⟩
  rw [ur32]
  simp only [bif_dec]
  by_cases h1 : c ≥ 48
  · rw [if_pos h1]
    congr 3
    rw [Bool.eq_iff_iff, decide_eq_true_eq, decide_eq_true_eq]; omega
  · rw [if_neg h1, decide_eq_false (by omega)])

/-! ### Within -/
noncomputable abbrev R33 (n j : Nat) (env : Env) (H : Hp) : Res := rounds Tryz.prog (call' A32) (filt aL33 0) n hL33 (bodyN 0 (codeOf Tryz.prog 44)) j env H (restN Tryz.prog (call' A32) (filt aL33 0) n 0 (codeOf Tryz.prog 44) (endOf Tryz.prog 44 []))
theorem lo33 (n : Nat) (p : List UInt8) (c : Int) (hs : p.length ≤ 10000) : ∀ (j k : Nat), p.length < j + k → k ≤ p.length →
    R33 n j (mkEnv 17 [(0, .c (.int .u8 c)), (1, .c (.str (mkS p))), (5, .c (.int .i64 (k : Int)))]) [] = some (.bool ((p.drop k).any fun b => decide ((b.toNat : Int) = c)), [])
  | 0, k, hj, hk => by omega
  | j + 1, k, hj, hk => by
    unfold R33
    rw [rounds_succ, uc33]
    simp only [bif_dec]
    simp only [atM, sizeM, bif_b, natM]
    by_cases h1 : k < p.length
    · rw [if_pos (by omega), if_pos (by omega), if_pos (by omega), drop_getD h1, List.any_cons]
      by_cases hc : ((p.getD k 0).toNat : Int) = c
      · rw [if_pos (by simpa using hc), decide_eq_true hc]; rfl
      · rw [if_neg (by simpa using hc), decide_eq_false hc, wrp1 (i := k) (by omega), Bool.false_or]
        exact lo33 n p c hs j (k + 1) (by omega) (by omega)
    · rw [if_neg (by omega), List.drop_of_length_le (by omega)]; rfl
theorem g33 (hg : OnGlobals I ng) : Kw I ng A33 := known_add (g32 hg) (contract_of aL33 hg (hok_of (g32 hg)) fun cargs rv outs h => by
  unfold L33 at h
  split at h <;> first | (cases h; done) | skip
  rename_i c p
  by_cases hs : p.size ≤ 10000
  · simp only [picked, pickAlt, decide_eq_true hs] at h
    cases h
    refine ⟨12000, loop1 rfl (by kernel_rfl) (by kernel_rfl) (by kernel_rfl) (hd := hL33) (by kernel_rfl) ?_⟩
    have hl := data_len p
    refine (ub33 p c 12000 (R33 12000 12000)).trans ?_
    have hlo := lo33 12000 p.data.toList c (by omega) 12000 0 (by omega) (by omega)
    rw [mkS_bl] at hlo
    exact hlo
  · simp only [picked, pickAlt, decide_eq_false hs] at h; cases h)

/-! ### find -/
noncomputable abbrev R39 (n j : Nat) (env : Env) (H : Hp) : Res := rounds Tryz.prog (call' A33) (filt aL39 0) n hL39 (bodyN 0 (codeOf Tryz.prog 41)) j env H (restN Tryz.prog (call' A33) (filt aL39 0) n 0 (codeOf Tryz.prog 41) (endOf Tryz.prog 41 []))
theorem lo39 (n : Nat) (s p : List UInt8) (hs : s.length ≤ 10000) (hp : p.length ≤ 10000) : ∀ (j k : Nat), s.length < j + k → k ≤ s.length →
    R39 n j (mkEnv 23 [(0, .c (.str (mkS s))), (2, .c (.str (mkS p))), (7, .c (.int .i64 (k : Int)))]) [] = some (.int .i64 ((k + findL p (s.drop k) : Nat) : Int), [])
  | 0, k, hj, hk => by omega
  | j + 1, k, hj, hk => by
    unfold R39
    rw [rounds_succ, uc39]
    simp only [bif_dec]
    simp only [atM, sizeM, bif_b, natM]
    by_cases h1 : k < s.length
    · rw [if_pos (by omega), if_pos (by omega), if_pos (by omega), if_pos hp, drop_getD h1]
      by_cases hc : inS (mkS p) ((s.getD k 0).toNat : Int) = true
      · rw [if_pos hc]
        unfold findL
        rw [if_pos hc, Nat.add_zero]
      · rw [if_neg hc, wrp1 (i := k) (by omega)]
        have := lo39 n s p hs hp j (k + 1) (by omega) (by omega)
        unfold R39 at this
        rw [this]
        conv => rhs; unfold findL
        rw [if_neg hc]
        congr 4
        omega
    · rw [if_neg (by omega), List.drop_of_length_le (by omega)]
      unfold findL
      have : k = s.length := by omega
      rw [this, Nat.add_zero]
theorem g39 (hg : OnGlobals I ng) : Kw I ng A39 := known_add (g33 hg) (contract_of aL39 hg (hok_of (g33 hg)) fun cargs rv outs h => by
  unfold L39 at h
  split at h <;> first | (cases h; done) | skip
  rename_i s i p
  by_cases hc : 0 ≤ i ∧ i ≤ (s.size : Int) ∧ s.size ≤ 10000 ∧ p.size ≤ 10000
  · obtain ⟨h1, h2, h3, h4⟩ := hc
    simp only [picked, pickAlt, decide_eq_true h1, decide_eq_true h2, decide_eq_true h3, decide_eq_true h4, Bool.and_self] at h
    cases h
    obtain ⟨k, rfl⟩ : ∃ k : Nat, i = k := ⟨i.toNat, by omega⟩
    refine ⟨12000, loop1 rfl (by kernel_rfl) (by kernel_rfl) (by kernel_rfl) (hd := hL39) (by kernel_rfl) ?_⟩
    have hl := data_len s
    have hl' := data_len p
    refine (ub39 s p k 12000 (R39 12000 12000)).trans ?_
    have hlo := lo39 12000 s.data.toList p.data.toList (by omega) (by omega) 12000 k (by omega) (by omega)
    rw [mkS_bl, mkS_bl] at hlo
    exact hlo
  · have : (decide (0 ≤ i) && (decide (i ≤ (s.size : Int)) && (decide (s.size ≤ 10000) && decide (p.size ≤ 10000)))) = false := by
      refine Bool.eq_false_iff.2 fun hh => hc ?_
      simpa using hh
    simp only [picked, pickAlt, this] at h; cases h)

/-! ### digits -/
noncomputable abbrev R40 (n j : Nat) (env : Env) (H : Hp) : Res := rounds Tryz.prog (call' A39) (filt aL40 0) n hL40 (bodyN 0 (codeOf Tryz.prog 45)) j env H (restN Tryz.prog (call' A39) (filt aL40 0) n 0 (codeOf Tryz.prog 45) (endOf Tryz.prog 45 []))
theorem lo40 (n : Nat) (s : List UInt8) (hs : s.length ≤ 10000) : ∀ (j k : Nat), s.length < j + k → k ≤ s.length →
    R40 n j (mkEnv 15 [(0, .c (.str (mkS s))), (3, .c (.int .i64 (k : Int)))]) [] = some (.bool ((s.drop k).all fun b => decide (48 ≤ b.toNat) && decide (b.toNat ≤ 57)), [])
  | 0, k, hj, hk => by omega
  | j + 1, k, hj, hk => by
    unfold R40
    rw [rounds_succ, uc40]
    simp only [bif_dec]
    simp only [bif_b, Bool.not_eq_true', decide_eq_false_iff_not]
    simp only [atM, sizeM, natM]
    by_cases h1 : k < s.length
    · rw [if_pos (by omega), if_pos (by omega), if_pos (by omega), drop_getD h1, List.all_cons]
      by_cases hc : 48 ≤ (s.getD k 0).toNat ∧ (s.getD k 0).toNat ≤ 57
      · rw [if_neg (by omega), decide_eq_true hc.1, decide_eq_true hc.2, wrp1 (i := k) (by omega), Bool.true_and, Bool.true_and]
        exact lo40 n s hs j (k + 1) (by omega) (by omega)
      · rw [if_pos (by omega)]
        have : (decide (48 ≤ (s.getD k 0).toNat) && decide ((s.getD k 0).toNat ≤ 57)) = false := Bool.eq_false_iff.2 fun hh => hc (by simpa using hh)
        rw [this]; rfl
    · rw [if_neg (by omega), List.drop_of_length_le (by omega)]; rfl
theorem g40 (hg : OnGlobals I ng) : Kw I ng A40 := known_add (g39 hg) (contract_of aL40 hg (hok_of (g39 hg)) fun cargs rv outs h => by
  unfold L40 at h
  split at h <;> first | (cases h; done) | skip
  rename_i s
  by_cases hs : s.size ≤ 10000
  · simp only [picked, pickAlt, decide_eq_true hs] at h
    cases h
    refine ⟨12000, loop1 rfl (by kernel_rfl) (by kernel_rfl) (by kernel_rfl) (hd := hL40) (by kernel_rfl) ?_⟩
    have hl := data_len s
    refine (ub40 s 12000 (R40 12000 12000)).trans ?_
    have hlo := lo40 12000 s.data.toList (by omega) 12000 0 (by omega) (by omega)
    rw [mkS_bl] at hlo
    exact hlo
  · simp only [picked, pickAlt, decide_eq_false hs] at h; cases h)

/-! ### upTo -/
theorem any_in (p : List UInt8) (c : UInt8) : inS (mkS p) (c.toNat : Int) = decide (Lib.indexByte p c ≥ 0) := by
  rw [index_mem]
  unfold inS
  rw [mkS_data]
  congr 1
  funext b
  rw [Bool.eq_iff_iff, decide_eq_true_eq, decide_eq_true_eq]
  exact u8_int
noncomputable abbrev R23 (n j : Nat) (env : Env) (H : Hp) : Res := rounds Tryz.prog (call' A52) (filt aL23 0) n hL23 (bodyN 0 (codeOf Tryz.prog 68)) j env H (restN Tryz.prog (call' A52) (filt aL23 0) n 0 (codeOf Tryz.prog 68) (endOf Tryz.prog 68 []))
theorem lo23 (n : Nat) (s p : List UInt8) (hs : s.length ≤ 10000) : ∀ (j k : Nat), s.length < j + k → k ≤ s.length →
    R23 n j (mkEnv 26 [(0, .c (.str (mkS s))), (1, .c (.str (mkS p))), (6, .c (.int .i64 (k : Int)))]) [] = some (.tup [.str ((mkS s).extract 0 (k + findL p (s.drop k))), .str ((mkS s).extract (k + findL p (s.drop k)) s.length)], [])
  | 0, k, hj, hk => by omega
  | j + 1, k, hj, hk => by
    unfold R23
    rw [rounds_succ, uc23]
    simp only [bif_dec]
    simp only [atM, sizeM, bif_b, natM, u8_cast', dataM, Int.le_refl, if_true]
    by_cases h1 : k < s.length
    · rw [if_pos (by omega), if_pos (by omega), if_pos (by omega), drop_getD h1]
      by_cases hc : Lib.indexByte p (s.getD k 0) ≥ 0
      · rw [if_pos hc, if_pos (by omega), if_pos (by omega), if_pos (by omega), if_pos (by omega)]
        unfold findL
        rw [any_in, if_pos (decide_eq_true hc), Nat.add_zero]
        rfl
      · rw [if_neg hc, wrp1 (i := k) (by omega)]
        have := lo23 n s p hs j (k + 1) (by omega) (by omega)
        unfold R23 at this
        rw [this]
        have e : k + findL p (s.getD k 0 :: s.drop (k + 1)) = k + 1 + findL p (s.drop (k + 1)) := by
          conv => lhs; unfold findL
          rw [any_in, if_neg (by simpa using hc)]; omega
        rw [e]
    · rw [if_neg (by omega), List.drop_of_length_le (by omega)]
      unfold findL
      have : k = s.length := by omega
      rw [this, Nat.add_zero, mkS_ext, mkS_ext]
      simp
      rfl
theorem g23 (hg : OnGlobals I ng) (h52 : Kw I ng A52) : Kw I ng A23 := known_add h52 (contract_of aL23 hg (hok_of h52) fun cargs rv outs h => by
  unfold L23 at h
  split at h <;> first | (cases h; done) | skip
  rename_i s p
  by_cases hc : s.size ≤ 10000 ∧ p.size ≤ 10000
  · obtain ⟨hs, hp⟩ := hc
    simp only [picked, pickAlt, decide_eq_true hs, decide_eq_true hp, Bool.and_self] at h
    cases h
    refine ⟨12000, loop1 rfl (by kernel_rfl) (by kernel_rfl) (by kernel_rfl) (hd := hL23) (by kernel_rfl) ?_⟩
    have hl := data_len s
    refine (ub23 s p 12000 (R23 12000 12000)).trans ?_
    have hlo := lo23 12000 s.data.toList p.data.toList (by omega) 12000 0 (by omega) (by omega)
    rw [mkS_bl, mkS_bl, hl] at hlo
    exact hlo
  · have : (decide (s.size ≤ 10000) && decide (p.size ≤ 10000)) = false := by
      refine Bool.eq_false_iff.2 fun hh => hc ?_
      simpa using hh
    simp only [picked, pickAlt, this] at h; cases h)

end Go.Pv

/- Parts of URLs: runes of a set cut off; which texts have only such: trees. -/
namespace Go.Pv
set_option linter.unusedVariables false
set_option maxRecDepth 100000
open Go Go.Proofs

def clS (s p : ByteArray) : Nat := (s.data.toList.takeWhile fun b => inS p b.toNat).length
def crL (p : ByteArray) : Nat → List UInt8 → Nat
  | 0, _ => 0
  | k + 1, l => if inS p (l.getD k 0).toNat then crL p k l else k + 1
def crS (s p : ByteArray) : Nat := crL p s.size s.data.toList
def L19 : Fn1 := fun x => match x with
  | [.str s] => some [
    (decide (s.size = 2) && (decide (0 ≤ hx (byteAt s 0)) && decide (0 ≤ hx (byteAt s 1))), .tup [.sl true false 1 [.int .u8 (16 * hx (byteAt s 0) + hx (byteAt s 1))], .bool true], []),
    (decide (s.size = 2), .tup [.nilsl, .bool false], [])]
  | _ => none
def L43 : Fn1 := fun x => match x with
  | [.str s, .str p] => some [(decide (s.size ≤ 10000) && (decide (p.size ≤ 100) && asciiS p), .str (s.extract (clS s p) s.size), [])]
  | _ => none
def L42 : Fn1 := fun x => match x with
  | [.str s, .str p] => some [(decide (s.size ≤ 10000) && (decide (p.size ≤ 100) && asciiS p), .str (s.extract 0 (crS s p)), [])]
  | _ => none
def A35 : Table := fun g => if Nat.beq g 87 then L35 else A23 g
def A19 : Table := fun g => if Nat.beq g 61 then L19 else A35 g
def A17 : Table := fun g => if Nat.beq g 40 then L17 else A19 g
def A43 : Table := fun g => if Nat.beq g 95 then L43 else A17 g
def A42 : Table := fun g => if Nat.beq g 94 then L42 else A43 g
def A24 : Table := fun g => if Nat.beq g 69 then L24 else A42 g
def A25 : Table := fun g => if Nat.beq g 70 then L17 else A24 g
def hL17 : Head := ⟨[0, 3], [], 0⟩
def aL17 : Ann := fun i => if Nat.beq i 2 then some hL17 else none
def hL43 : Head := ⟨[0, 1, 11], [], 1⟩
def hI43 : Head := ⟨[0, 1, 5, 6, 7, 11, 17], [], 2⟩
def aL43 : Ann := fun i => if Nat.beq i 2 then some hL43 else if Nat.beq i 6 then some hI43 else none
def hL42 : Head := ⟨[0, 1], [], 0⟩
def hI42 : Head := ⟨[0, 1, 5, 6, 7, 19], [], 1⟩
def aL42 : Ann := fun i => if Nat.beq i 1 then some hL42 else if Nat.beq i 5 then some hI42 else none
def hL25 : Head := ⟨[0, 3], [], 0⟩
def aL25 : Ann := fun i => if Nat.beq i 2 then some hL25 else none
noncomputable def bL43 : Code := bodyN 0 (codeOf Tryz.prog 95)
noncomputable def KL43 (n : Nat) : KX := restN Tryz.prog (call' A17) (filt aL43 0) n 0 (codeOf Tryz.prog 95) (endOf Tryz.prog 95 [])
noncomputable def bL42 : Code := bodyN 0 (codeOf Tryz.prog 94)
noncomputable def KL42 (n : Nat) : KX := restN Tryz.prog (call' A43) (filt aL42 0) n 0 (codeOf Tryz.prog 94) (endOf Tryz.prog 94 [])
theorem ur35 (c : Int) : abody Tryz.prog (call' A23) (fun _ => none) 1 87 [.int .u8 c] =
 bif' (decide (c ≥ 48)) (bif' (decide (c ≤ 57)) (some (CV.int IntKind.i64 (IntKind.i64.wrap (IntKind.u8.wrap (c - 48))), [])) (bif' (decide (c ≥ 97)) (bif' (decide (c ≤ 102)) (some (CV.int IntKind.i64 (IntKind.i64.wrap (IntKind.i64.wrap (IntKind.u8.wrap (c - 97)) + 10)), [])) (bif' (decide (c ≥ 65)) (bif' (decide (c ≤ 70)) (some (CV.int IntKind.i64 (IntKind.i64.wrap (IntKind.i64.wrap (IntKind.u8.wrap (c - 65)) + 10)), [])) (some (CV.int IntKind.i64 (Int.negSucc 0), []))) (some (CV.int IntKind.i64 (Int.negSucc 0), [])))) (bif' (decide (c ≥ 65)) (bif' (decide (c ≤ 70)) (some (CV.int IntKind.i64 (IntKind.i64.wrap (IntKind.i64.wrap (IntKind.u8.wrap (c - 65)) + 10)), [])) (some (CV.int IntKind.i64 (Int.negSucc 0), []))) (some (CV.int IntKind.i64 (Int.negSucc 0), []))))) (bif' (decide (c ≥ 97)) (bif' (decide (c ≤ 102)) (some (CV.int IntKind.i64 (IntKind.i64.wrap (IntKind.i64.wrap (IntKind.u8.wrap (c - 97)) + 10)), [])) (bif' (decide (c ≥ 65)) (bif' (decide (c ≤ 70)) (some (CV.int IntKind.i64 (IntKind.i64.wrap (IntKind.i64.wrap (IntKind.u8.wrap (c - 65)) + 10)), [])) (some (CV.int IntKind.i64 (Int.negSucc 0), []))) (some (CV.int IntKind.i64 (Int.negSucc 0), [])))) (bif' (decide (c ≥ 65)) (bif' (decide (c ≤ 70)) (some (CV.int IntKind.i64 (IntKind.i64.wrap (IntKind.i64.wrap (IntKind.u8.wrap (c - 65)) + 10)), [])) (some (CV.int IntKind.i64 (Int.negSucc 0), []))) (some (CV.int IntKind.i64 (Int.negSucc 0), [])))) := by kernel_rfl
theorem ur19 (a b : UInt8) : abody Tryz.prog (call' A35) (fun _ => none) 3 61 [.str ⟨#[a, b]⟩] =
 bif' (decide (0 ≤ byteAt (ByteArray.mk #[a, b]) (Int.toNat 0)) && decide (byteAt (ByteArray.mk #[a, b]) (Int.toNat 0) < 256)) (bif' (decide (hx (byteAt (ByteArray.mk #[a, b]) (Int.toNat 0)) < 0)) (some (CV.tup [CV.nilsl, CV.bool false], [])) (bif' (decide (0 ≤ byteAt (ByteArray.mk #[a, b]) (IntKind.i64.wrap (0 + 1)).toNat) && decide (byteAt (ByteArray.mk #[a, b]) (IntKind.i64.wrap (0 + 1)).toNat < 256)) (bif' (decide (hx (byteAt (ByteArray.mk #[a, b]) (IntKind.i64.wrap (0 + 1)).toNat) < 0)) (some (CV.tup [CV.nilsl, CV.bool false], [])) (bif' (decide (0 ≤ byteAt (ByteArray.mk #[a, b]) (Int.toNat 0)) && decide (byteAt (ByteArray.mk #[a, b]) (Int.toNat 0) < 256)) (bif' (decide (0 ≤ byteAt (ByteArray.mk #[a, b]) (IntKind.i64.wrap (0 + 1)).toNat) && decide (byteAt (ByteArray.mk #[a, b]) (IntKind.i64.wrap (0 + 1)).toNat < 256)) (some (CV.tup [CV.sl true false 1 [CV.int IntKind.u8 (IntKind.u8.wrap (IntKind.i64.wrap (IntKind.i64.wrap (16 * hx (byteAt (ByteArray.mk #[a, b]) (Int.toNat 0))) + hx (byteAt (ByteArray.mk #[a, b]) (IntKind.i64.wrap (0 + 1)).toNat))))], CV.bool true], [])) none) none)) none)) none := by kernel_rfl
theorem ub17 (s : ByteArray) (n : Nat) (R : Env → Hp → Res) : parts Tryz.prog (call' A19) (filt aL17 0) n (codeOf Tryz.prog 40) (envOf Tryz.prog 40 [.c (.str s)]) [] (fun _ => headK hL17 R) (endOf Tryz.prog 40 []) =
 R (mkEnv 49 [(0, PV.c (CV.str s)), (3, PV.c (CV.int IntKind.i64 (Int.ofNat 0)))]) [] := by kernel_rfl
theorem uc17 (s : ByteArray) (i : Int) (n : Nat) (R : Env → Hp → Res) : aexec Tryz.prog (call' A19) (filt aL17 0) n (bodyN 0 (codeOf Tryz.prog 40)) (mkEnv 49 [(0, .c (.str s)), (3, .c (.int .i64 i))]) [] (thenK (headK hL17 R) (restN Tryz.prog (call' A19) (filt aL17 0) n 0 (codeOf Tryz.prog 40) (endOf Tryz.prog 40 []))) =
 bif' (decide (i < (↑s.size : Int))) (bif' (decide (0 ≤ i)) (bif' (decide (i < (↑s.size : Int))) (bif' (decide (byteAt s i.toNat < 33)) (some (CV.bool false, [])) (bif' (decide (byteAt s i.toNat > 126)) (some (CV.bool false, [])) (bif' (inS (ByteArray.mk #[34, 60, 62, 92, 94, 123, 124, 125]) (byteAt s i.toNat)) (some (CV.bool false, [])) (bif' (byteAt s i.toNat == 96) (some (CV.bool false, [])) (bif' (byteAt s i.toNat == 37) (bif' (decide (IntKind.i64.wrap (i + 3) > (↑s.size : Int))) (some (CV.bool false, [])) (bif' (decide (0 ≤ IntKind.i64.wrap (i + 1))) (bif' (decide (IntKind.i64.wrap (i + 1) ≤ IntKind.i64.wrap (i + 3))) (bif' (decide (IntKind.i64.wrap (i + 3) ≤ (↑s.size : Int))) (bif' (decide ((s.extract (IntKind.i64.wrap (i + 1)).toNat (IntKind.i64.wrap (i + 3)).toNat).size = 2) && (decide (0 ≤ hx (byteAt (s.extract (IntKind.i64.wrap (i + 1)).toNat (IntKind.i64.wrap (i + 3)).toNat) 0)) && decide (0 ≤ hx (byteAt (s.extract (IntKind.i64.wrap (i + 1)).toNat (IntKind.i64.wrap (i + 3)).toNat) 1)))) (R (mkEnv 49 [(0, PV.c (CV.str s)), (3, PV.c (CV.int IntKind.i64 (IntKind.i64.wrap (i + 1))))]) []) (bif' (decide ((s.extract (IntKind.i64.wrap (i + 1)).toNat (IntKind.i64.wrap (i + 3)).toNat).size = 2)) (some (CV.bool false, [])) none)) none) none) none)) (R (mkEnv 49 [(0, PV.c (CV.str s)), (3, PV.c (CV.int IntKind.i64 (IntKind.i64.wrap (i + 1))))]) [])))))) none) none) (some (CV.bool true, [])) := by kernel_rfl
theorem ub43 (s p : ByteArray) (n : Nat) (R : Env → Hp → Res) : parts Tryz.prog (call' A17) (filt aL43 0) n (codeOf Tryz.prog 95) (envOf Tryz.prog 95 [.c (.str s), .c (.str p)]) [] (fun _ => headK hL43 R) (endOf Tryz.prog 95 []) =
 R (mkEnv 32 [(0, PV.c (CV.str s)), (1, PV.c (CV.str p)), (11, PV.iter 0)]) [AO.iter s 0] := by kernel_rfl
theorem uc43 (s p : ByteArray) (i n : Nat) (L R : Env → Hp → Res) : parts Tryz.prog (call' A17) (filt aL43 0) n bL43 (mkEnv 32 [(0, .c (.str s)), (1, .c (.str p)), (11, .iter 0)]) [.iter s i] (fun _ => headK hI43 L) (thenK (headK hL43 R) (KL43 n)) =
 bif' (decide (i < s.size)) (L (mkEnv 32 [(0, PV.c (CV.str s)), (1, PV.c (CV.str p)), (5, PV.c (CV.int IntKind.i64 (↑i : Int))), (6, PV.c (CV.int IntKind.i32 (↑(Utf8.decode s i).fst : Int))), (7, PV.c (CV.bool false)), (11, PV.iter 0), (17, PV.iter 1)]) [AO.iter s (i + (Utf8.decode s i).snd), AO.iter p 0]) (some (CV.str ⟨⟨[]⟩⟩, [])) := by kernel_rfl
theorem ud43 (s p : ByteArray) (c d : Int) (t : Bool) (i j n : Nat) (L R : Env → Hp → Res) : aexec Tryz.prog (call' A17) (filt aL43 0) n (bodyN 0 bL43) (mkEnv 32 [(0, .c (.str s)), (1, .c (.str p)), (5, .c (.int .i64 d)), (6, .c (.int .i32 c)), (7, .c (.bool t)), (11, .iter 0), (17, .iter 1)]) [.iter s i, .iter p j] (thenK (headK hI43 L) (restN Tryz.prog (call' A17) (filt aL43 0) n 0 bL43 (thenK (headK hL43 R) (KL43 n)))) =
 bif' (decide (j < p.size)) (bif' t (L (mkEnv 32 [(0, PV.c (CV.str s)), (1, PV.c (CV.str p)), (5, PV.c (CV.int IntKind.i64 d)), (6, PV.c (CV.int IntKind.i32 c)), (7, PV.c (CV.bool true)), (11, PV.iter 0), (17, PV.iter 1)]) [AO.iter s i, AO.iter p (j + (Utf8.decode p j).snd)]) (L (mkEnv 32 [(0, PV.c (CV.str s)), (1, PV.c (CV.str p)), (5, PV.c (CV.int IntKind.i64 d)), (6, PV.c (CV.int IntKind.i32 c)), (7, PV.c (CV.bool (c == (↑(Utf8.decode p j).fst : Int)))), (11, PV.iter 0), (17, PV.iter 1)]) [AO.iter s i, AO.iter p (j + (Utf8.decode p j).snd)])) (bif' (!t) (bif' (decide (0 ≤ d)) (bif' (decide (d ≤ (↑s.size : Int))) (bif' (decide ((↑s.size : Int) ≤ (↑s.size : Int))) (some (CV.str (s.extract d.toNat (↑s.size : Int).toNat), [])) none) none) none) (R (mkEnv 32 [(0, PV.c (CV.str s)), (1, PV.c (CV.str p)), (11, PV.iter 0)]) [AO.iter s i])) := by kernel_rfl
theorem ub42 (s p : ByteArray) (n : Nat) (R : Env → Hp → Res) : parts Tryz.prog (call' A43) (filt aL42 0) n (codeOf Tryz.prog 94) (envOf Tryz.prog 94 [.c (.str s), .c (.str p)]) [] (fun _ => headK hL42 R) (endOf Tryz.prog 94 []) =
 R (mkEnv 39 [(0, PV.c (CV.str s)), (1, PV.c (CV.str p))]) [] := by kernel_rfl
theorem uc42 (s p : ByteArray) (n : Nat) (L R : Env → Hp → Res) : parts Tryz.prog (call' A43) (filt aL42 0) n bL42 (mkEnv 39 [(0, .c (.str s)), (1, .c (.str p))]) [] (fun _ => headK hI42 L) (thenK (headK hL42 R) (KL42 n)) =
 bif' (decide ((↑s.size : Int) > 0)) (bif' (decide (s.size ≤ 10000)) (L (mkEnv 39 [(0, PV.c (CV.str s)), (1, PV.c (CV.str p)), (5, PV.c (CV.int IntKind.i32 (lastR s))), (6, PV.c (CV.int IntKind.i64 (lastN s))), (7, PV.c (CV.bool false)), (19, PV.iter 0)]) [AO.iter p 0]) none) (some (CV.str s, [])) := by kernel_rfl
theorem ud42 (s p : ByteArray) (c d : Int) (t : Bool) (j n : Nat) (L R : Env → Hp → Res) : aexec Tryz.prog (call' A43) (filt aL42 0) n (bodyN 0 bL42) (mkEnv 39 [(0, .c (.str s)), (1, .c (.str p)), (5, .c (.int .i32 c)), (6, .c (.int .i64 d)), (7, .c (.bool t)), (19, .iter 0)]) [.iter p j] (thenK (headK hI42 L) (restN Tryz.prog (call' A43) (filt aL42 0) n 0 bL42 (thenK (headK hL42 R) (KL42 n)))) =
 bif' (decide (j < p.size)) (bif' t (L (mkEnv 39 [(0, PV.c (CV.str s)), (1, PV.c (CV.str p)), (5, PV.c (CV.int IntKind.i32 c)), (6, PV.c (CV.int IntKind.i64 d)), (7, PV.c (CV.bool true)), (19, PV.iter 0)]) [AO.iter p (j + (Utf8.decode p j).snd)]) (L (mkEnv 39 [(0, PV.c (CV.str s)), (1, PV.c (CV.str p)), (5, PV.c (CV.int IntKind.i32 c)), (6, PV.c (CV.int IntKind.i64 d)), (7, PV.c (CV.bool (c == (↑(Utf8.decode p j).fst : Int)))), (19, PV.iter 0)]) [AO.iter p (j + (Utf8.decode p j).snd)])) (bif' (!t) (some (CV.str s, [])) (bif' (decide (0 ≤ IntKind.i64.wrap ((↑s.size : Int) - d))) (bif' (decide (IntKind.i64.wrap ((↑s.size : Int) - d) ≤ (↑s.size : Int))) (R (mkEnv 39 [(0, PV.c (CV.str (s.extract (Int.toNat 0) (IntKind.i64.wrap ((↑s.size : Int) - d)).toNat))), (1, PV.c (CV.str p))]) []) none) none)) := by kernel_rfl
theorem ur24 (s p : ByteArray) : abody Tryz.prog (call' A42) (fun _ => none) 1 69 [.str s, .str p] =
 bif' (decide (s.size ≤ 10000) && (decide (p.size ≤ 100) && asciiS p)) (bif' (decide ((s.extract (clS s p) s.size).size ≤ 10000) && (decide (p.size ≤ 100) && asciiS p)) (some (CV.bool (((s.extract (clS s p) s.size).extract 0 (crS (s.extract (clS s p) s.size) p)).toList == (ByteArray.mk #[]).toList), [])) none) none := by kernel_rfl
theorem ub25 (s : ByteArray) (n : Nat) (R : Env → Hp → Res) : parts Tryz.prog (call' A24) (filt aL25 0) n (codeOf Tryz.prog 70) (envOf Tryz.prog 70 [.c (.str s)]) [] (fun _ => headK hL25 R) (endOf Tryz.prog 70 []) =
 R (mkEnv 46 [(0, PV.c (CV.str s)), (3, PV.c (CV.int IntKind.i64 (Int.ofNat 0)))]) [] := by kernel_rfl
theorem uc25 (s : ByteArray) (i : Int) (n : Nat) (R : Env → Hp → Res) : aexec Tryz.prog (call' A24) (filt aL25 0) n (bodyN 0 (codeOf Tryz.prog 70)) (mkEnv 46 [(0, .c (.str s)), (3, .c (.int .i64 i))]) [] (thenK (headK hL25 R) (restN Tryz.prog (call' A24) (filt aL25 0) n 0 (codeOf Tryz.prog 70) (endOf Tryz.prog 70 []))) =
 bif' (decide (i < (↑s.size : Int))) (bif' (decide (0 ≤ i)) (bif' (decide (i < (↑s.size : Int))) (bif' (decide (byteAt s i.toNat ≤ 32)) (some (CV.bool false, [])) (bif' (decide (byteAt s i.toNat > 126)) (some (CV.bool false, [])) (bif' (decide (Lib.indexByte (ByteArray.mk #[34, 60, 62, 92, 94, 96, 123, 124, 125]).data.toList (byteAt s i.toNat).toNat.toUInt8 ≥ 0)) (some (CV.bool false, [])) (bif' (byteAt s i.toNat == 37) (bif' (decide (IntKind.i64.wrap (i + 2) ≥ (↑s.size : Int))) (some (CV.bool false, [])) (bif' (decide (0 ≤ IntKind.i64.wrap (i + 1))) (bif' (decide (IntKind.i64.wrap (i + 1) ≤ IntKind.i64.wrap (i + 3))) (bif' (decide (IntKind.i64.wrap (i + 3) ≤ (↑s.size : Int))) (bif' (decide ((s.extract (IntKind.i64.wrap (i + 1)).toNat (IntKind.i64.wrap (i + 3)).toNat).size ≤ 10000) && (decide ((ByteArray.mk #[48, 49, 50, 51, 52, 53, 54, 55, 56, 57, 97, 98, 99, 100, 101, 102, 65, 66, 67, 68, 69, 70]).size ≤ 100) && asciiS (ByteArray.mk #[48, 49, 50, 51, 52, 53, 54, 55, 56, 57, 97, 98, 99, 100, 101, 102, 65, 66, 67, 68, 69, 70]))) (bif' (!allS (s.extract (IntKind.i64.wrap (i + 1)).toNat (IntKind.i64.wrap (i + 3)).toNat) (ByteArray.mk #[48, 49, 50, 51, 52, 53, 54, 55, 56, 57, 97, 98, 99, 100, 101, 102, 65, 66, 67, 68, 69, 70])) (some (CV.bool false, [])) (R (mkEnv 46 [(0, PV.c (CV.str s)), (3, PV.c (CV.int IntKind.i64 (IntKind.i64.wrap (i + 1))))]) [])) none) none) none) none)) (R (mkEnv 46 [(0, PV.c (CV.str s)), (3, PV.c (CV.int IntKind.i64 (IntKind.i64.wrap (i + 1))))]) []))))) none) none) (some (CV.bool true, [])) := by kernel_rfl

end Go.Pv

/- Parts of URLs: hex digits; which texts may stand; runes of a set. -/
namespace Go.Pv
set_option linter.unusedVariables false
set_option maxRecDepth 100000
open Go Go.Proofs
variable {I : World → Prop} {ng : Nat}

/-! ### A hex digit; two -/
def d35 (c : Int) : Int := if c ≥ 48 then if c ≤ 57 then IntKind.i64.wrap (IntKind.u8.wrap (c - 48)) else
    if c ≥ 97 then if c ≤ 102 then IntKind.i64.wrap (IntKind.i64.wrap (IntKind.u8.wrap (c - 97)) + 10) else
      if c ≥ 65 then if c ≤ 70 then IntKind.i64.wrap (IntKind.i64.wrap (IntKind.u8.wrap (c - 65)) + 10) else -1 else -1
    else if c ≥ 65 then if c ≤ 70 then IntKind.i64.wrap (IntKind.i64.wrap (IntKind.u8.wrap (c - 65)) + 10) else -1 else -1
  else if c ≥ 97 then if c ≤ 102 then IntKind.i64.wrap (IntKind.i64.wrap (IntKind.u8.wrap (c - 97)) + 10) else
      if c ≥ 65 then if c ≤ 70 then IntKind.i64.wrap (IntKind.i64.wrap (IntKind.u8.wrap (c - 65)) + 10) else -1 else -1
    else if c ≥ 65 then if c ≤ 70 then IntKind.i64.wrap (IntKind.i64.wrap (IntKind.u8.wrap (c - 65)) + 10) else -1 else -1
theorem d35_hx : ∀ n : Nat, n < 256 → d35 (n : Int) = hx (n : Int) := by decide +kernel
theorem g35 (hg : OnGlobals I ng) (h : Kw I ng A23) : Kw I ng A35 := known_add h (contract_of (fun _ => none) hg (hok_of h) fun cargs rv outs h => by
  unfold L35 at h
  split at h <;> first | (cases h; done) | skip
  rename_i c
  by_cases hc : 0 ≤ c ∧ c < 256
  · simp only [picked, pickAlt, decide_eq_true hc.1, decide_eq_true hc.2, Bool.and_self] at h
    cases h
    obtain ⟨n, rfl⟩ : ∃ n : Nat, c = n := ⟨c.toNat, by omega⟩
    refine ⟨1, ?_⟩
    rw [← d35_hx n (by omega), ur35]
    simp only [bif_dec]
    unfold d35
    repeat' split
    all_goals rfl
  · have : (decide (0 ≤ c) && decide (c < 256)) = false := Bool.eq_false_iff.2 fun hh => hc (by simpa using hh)
    simp only [picked, pickAlt, this] at h; cases h)
theorem hx_le (c : Int) : -1 ≤ hx c ∧ hx c ≤ 15 := by
  unfold hx
  split
  · omega
  · split
    · omega
    · split <;> omega
theorem two_of {s : ByteArray} (h : s.size = 2) : ∃ a b, s = ⟨#[a, b]⟩ := by
  obtain ⟨⟨l⟩⟩ := s
  match l, h with
  | [a, b], _ => exact ⟨a, b, rfl⟩
theorem nib19 : ∀ x : Nat, x < 16 → ∀ y : Nat, y < 16 → IntKind.u8.wrap (IntKind.i64.wrap (IntKind.i64.wrap (16 * (x : Int)) + (y : Int))) = 16 * (x : Int) + y := by decide +kernel
theorem byte_lt (s : ByteArray) (i : Nat) : 0 ≤ byteAt s i ∧ byteAt s i < 256 := by
  unfold byteAt
  have := (s.data.toList.getD i 0).toNat_lt
  omega
theorem wrap01 : (IntKind.i64.wrap (0 + 1)).toNat = 1 := by decide +kernel
theorem g19 (hg : OnGlobals I ng) (h : Kw I ng A23) : Kw I ng A19 := known_add (g35 hg h) (contract_of (fun _ => none) hg (hok_of (g35 hg h)) fun cargs rv outs h => by
  unfold L19 at h
  split at h <;> first | (cases h; done) | skip
  rename_i s
  have hs : s.size = 2 := by
    simp only [picked, pickAlt] at h
    split at h
    · rename_i hb; simp only [Bool.and_eq_true, decide_eq_true_eq] at hb; exact hb.1
    · split at h
      · rename_i hb; exact of_decide_eq_true hb
      · cases h
  obtain ⟨a, b, rfl⟩ := two_of hs
  refine ⟨3, ?_⟩
  rw [ur19]
  have h0 := byte_lt ⟨#[a, b]⟩ 0
  have h1 := byte_lt ⟨#[a, b]⟩ 1
  simp only [wrap01, show (Int.toNat 0) = 0 from rfl]
  rw [bif_t _ none (by simp [h0])]
  have hx0 := hx_le (byteAt ⟨#[a, b]⟩ 0)
  have hx1 := hx_le (byteAt ⟨#[a, b]⟩ 1)
  rw [show (decide (0 ≤ byteAt ⟨#[a, b]⟩ 0) && decide (byteAt ⟨#[a, b]⟩ 0 < 256)) = true by simp [h0], show (decide (0 ≤ byteAt ⟨#[a, b]⟩ 1) && decide (byteAt ⟨#[a, b]⟩ 1 < 256)) = true by simp [h1]]
  simp only [show ∀ x y : Res, bif' true x y = x from fun _ _ => rfl]
  generalize hx (byteAt ⟨#[a, b]⟩ 0) = x at *
  generalize hx (byteAt ⟨#[a, b]⟩ 1) = y at *
  simp only [bif_dec]
  simp only [picked, pickAlt, hs, decide_true, Bool.true_and] at h
  by_cases c0 : x < 0
  · rw [if_pos c0]
    rw [show (decide (0 ≤ x) && decide (0 ≤ y)) = false by simp; omega] at h
    exact h
  · rw [if_neg c0]
    by_cases c1 : y < 0
    · rw [if_pos c1]
      rw [show (decide (0 ≤ x) && decide (0 ≤ y)) = false by simp; omega] at h
      exact h
    · rw [if_neg c1]
      rw [show (decide (0 ≤ x) && decide (0 ≤ y)) = true by simp; omega] at h
      obtain ⟨m, rfl⟩ : ∃ m : Nat, x = m := ⟨x.toNat, by omega⟩
      obtain ⟨k, rfl⟩ : ∃ k : Nat, y = k := ⟨y.toNat, by omega⟩
      rw [nib19 m (by omega) k (by omega)]
      exact h)

/-! ### What may stand -/
theorem ext2 {s : List UInt8} {k : Nat} (h : k + 3 ≤ s.length) : (mkS s).extract (k + 1) (k + 3) = mkS [s.getD (k + 1) 0, s.getD (k + 2) 0] := by
  rw [mkS_ext]
  congr 1
  rw [drop_getD (show k + 1 < s.length by omega), drop_getD (show k + 1 + 1 < s.length by omega)]
  simp
theorem never8 : ∀ n : Nat, n < 256 → (inS (ByteArray.mk #[34, 60, 62, 92, 94, 123, 124, 125]) (n : Int) || decide (n = 96)) = ([34, 60, 62, 92, 94, 96, 123, 124, 125] : List UInt8).contains (UInt8.ofNat n) := by decide +kernel
theorem never9 : ∀ n : Nat, n < 256 → decide (Lib.indexByte (ByteArray.mk #[34, 60, 62, 92, 94, 96, 123, 124, 125]).data.toList (UInt8.ofNat n) ≥ 0) = ([34, 60, 62, 92, 94, 96, 123, 124, 125] : List UInt8).contains (UInt8.ofNat n) := by decide +kernel
/-- One byte of a text: may it, with what follows it, stand? -/
def okAt (s : List UInt8) (k : Nat) : Bool := okU (s.getD k 0) && (!decide (s.getD k 0 = 37) || (decide (k + 3 ≤ s.length) && (hexd (s.getD (k + 1) 0) && hexd (s.getD (k + 2) 0))))
theorem stL_at {s : List UInt8} {k : Nat} (h : k < s.length) : stL (s.drop k) = (okAt s k && stL (s.drop (k + 1))) := by
  rw [drop_getD h]
  conv => lhs; unfold stL
  unfold okAt
  rw [Bool.and_assoc]
  congr 2
  congr 1
  by_cases h3 : k + 3 ≤ s.length
  · rw [drop_getD (show k + 1 < s.length by omega), drop_getD (show k + 1 + 1 < s.length by omega), decide_eq_true h3, Bool.true_and]
  · rw [decide_eq_false h3, Bool.false_and]
    by_cases h2 : k + 2 ≤ s.length
    · rw [drop_getD (show k + 1 < s.length by omega), List.drop_of_length_le (by omega)]
    · rw [List.drop_of_length_le (by omega)]
theorem wrp3 {i k : Nat} (h : i ≤ 100000) (hk : k ≤ 100000) : IntKind.i64.wrap ((i : Int) + (k : Int)) = ((i + k : Nat) : Int) := wrp h hk
theorem u8n (c : UInt8) : UInt8.ofNat c.toNat = c := by simp

noncomputable abbrev R17 (n j : Nat) (env : Env) (H : Hp) : Res := rounds Tryz.prog (call' A19) (filt aL17 0) n hL17 (bodyN 0 (codeOf Tryz.prog 40)) j env H (restN Tryz.prog (call' A19) (filt aL17 0) n 0 (codeOf Tryz.prog 40) (endOf Tryz.prog 40 []))
theorem lo17 (n : Nat) (s : List UInt8) (hs : s.length ≤ 10000) : ∀ (j k : Nat), s.length < j + k → k ≤ s.length →
    R17 n j (mkEnv 49 [(0, .c (.str (mkS s))), (3, .c (.int .i64 (k : Int)))]) [] = some (.bool (stL (s.drop k)), [])
  | 0, k, hj, hk => by omega
  | j + 1, k, hj, hk => by
    unfold R17
    rw [rounds_succ, uc17]
    have w1 : IntKind.i64.wrap ((k : Int) + 1) = ((k + 1 : Nat) : Int) := wrp1 (by omega)
    have w3 : IntKind.i64.wrap ((k : Int) + 3) = ((k + 3 : Nat) : Int) := wrp (i := k) (k := 3) (by omega) (by omega)
    simp only [bif_dec]
    simp only [atM, sizeM, bif_b, natM, w1, w3]
    by_cases h1 : k < s.length
    · rw [if_pos (by omega), if_pos (by omega), if_pos (by omega), stL_at h1]
      have hn := never8 (s.getD k 0).toNat (UInt8.toNat_lt _)
      rw [u8n] at hn
      unfold okAt okU
      generalize hc : s.getD k 0 = c at *
      have ih := lo17 n s hs j (k + 1) (by omega) (by omega)
      unfold R17 at ih
      by_cases a1 : (c.toNat : Int) < 33
      · rw [if_pos a1, decide_eq_false (show ¬ 33 ≤ c.toNat by omega)]; rfl
      rw [if_neg a1, decide_eq_true (show 33 ≤ c.toNat by omega), Bool.true_and]
      by_cases a2 : (c.toNat : Int) > 126
      · rw [if_pos a2, decide_eq_false (show ¬ c.toNat ≤ 126 by omega)]; rfl
      rw [if_neg a2, decide_eq_true (show c.toNat ≤ 126 by omega), Bool.true_and, ← hn]
      by_cases a3 : inS (ByteArray.mk #[34, 60, 62, 92, 94, 123, 124, 125]) (c.toNat : Int) = true
      · rw [if_pos a3, a3]; rfl
      rw [if_neg a3, Bool.eq_false_iff.2 a3, Bool.false_or]
      by_cases a4 : c.toNat = 96
      · have a4' : (c.toNat : Int) = 96 := by omega
        rw [if_pos (beq_iff_eq.2 a4'), decide_eq_true a4]; rfl
      have a4' : ¬ (c.toNat : Int) = 96 := by omega
      rw [if_neg (fun h => a4' (beq_iff_eq.1 h)), decide_eq_false a4, Bool.not_false, Bool.true_and]
      by_cases a5 : c = 37
      · rw [if_pos (by rw [a5]; rfl), decide_eq_true a5, Bool.not_true, Bool.false_or]
        by_cases a6 : k + 3 ≤ s.length
        · rw [if_neg (by omega), if_pos (by omega), if_pos (by omega), if_pos (by omega), decide_eq_true a6, Bool.true_and, ext2 a6]
          simp only [sizeM, atM]
          have e0 : ([s.getD (k + 1) 0, s.getD (k + 2) 0] : List UInt8).getD 0 0 = s.getD (k + 1) 0 := rfl
          have e1 : ([s.getD (k + 1) 0, s.getD (k + 2) 0] : List UInt8).getD 1 0 = s.getD (k + 2) 0 := rfl
          have e2 : ([s.getD (k + 1) 0, s.getD (k + 2) 0] : List UInt8).length = 2 := rfl
          rw [e0, e1, e2, show decide (2 = 2) = true from rfl, Bool.true_and]
          unfold hexd
          by_cases a7 : (decide (0 ≤ hx ((s.getD (k + 1) 0).toNat : Int)) && decide (0 ≤ hx ((s.getD (k + 2) 0).toNat : Int))) = true
          · rw [if_pos a7, a7, ih, Bool.true_and]
          · rw [if_neg a7, Bool.eq_false_iff.2 a7, if_pos rfl]; rfl
        · rw [if_pos (by omega), decide_eq_false a6]; rfl
      · have : ¬ (c.toNat : Int) = 37 := by
          intro e
          exact a5 (UInt8.toNat.inj (show c.toNat = (37 : UInt8).toNat by have : (37 : UInt8).toNat = 37 := rfl; omega))
        rw [if_neg (by simpa using this), ih, decide_eq_false a5]
        rfl
    · rw [if_neg (by omega), List.drop_of_length_le (by omega)]; rfl
theorem g17 (hg : OnGlobals I ng) (h : Kw I ng A23) : Kw I ng A17 := known_add (g19 hg h) (contract_of aL17 hg (hok_of (g19 hg h)) fun cargs rv outs h => by
  unfold L17 at h
  split at h <;> first | (cases h; done) | skip
  rename_i s
  by_cases hs : s.size ≤ 10000
  · simp only [picked, pickAlt, decide_eq_true hs] at h
    cases h
    refine ⟨12000, loop1 rfl (by kernel_rfl) (by kernel_rfl) (by kernel_rfl) (hd := hL17) (by kernel_rfl) ?_⟩
    have hl := data_len s
    refine (ub17 s 12000 (R17 12000 12000)).trans ?_
    have hlo := lo17 12000 s.data.toList (by omega) 12000 0 (by omega) (by omega)
    rw [mkS_bl] at hlo
    exact hlo
  · simp only [picked, pickAlt, decide_eq_false hs] at h; cases h)

end Go.Pv
