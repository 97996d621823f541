/- Regions whose order is drawn. -/
import Derived.Test.YtpclikkakhcomaaDoorPv21
set_option linter.unusedVariables false
namespace Go.Pv
open Go

variable {P : Program} {tb : Table}

/-! ### What an operation hangs on -/
theorem aop_congr {o : Oper} {ev ev' : Operand → PV} (h : ∀ x ∈ o.op.operands, ev x = ev' x) : aop P tb o ev = aop P tb o ev' := by
  obtain ⟨dst, op, type, pos, after, guard⟩ := o
  simp only at h
  funext H K
  have pairs : ∀ ps : Array (Nat × Operand), (∀ x ∈ ps.map (·.2), ev x = ev' x) → (ps.toList.map fun (i, x) => (i, ev x)) = (ps.toList.map fun (i, x) => (i, ev' x)) := fun ps hp =>
    List.map_congr_left fun p hm => by
      obtain ⟨i, x⟩ := p
      simp only [hp x (Array.mem_map.2 ⟨(i, x), by simpa using hm, rfl⟩)]
  cases op <;> simp only [Op.operands] at h <;> simp only [aop]
  case build t ps => rw [pairs ps fun x hx => h x (by simpa using hx)]
  case buildSlice t n ps => rw [pairs ps fun x hx => h x (by simpa using hx)]
  case makeFunc fn first captured =>
    cases fn <;> simp only
    rw [List.map_congr_left fun x hx => h x (by simp at hx ⊢; exact .inr hx)]
  case slice t x lo hi mx =>
    have hx := h x (by simp)
    have h1 : lo.map ev = lo.map ev' := by cases lo with | none => rfl | some y => simp [h y (by simp)]
    have h2 : hi.map ev = hi.map ev' := by cases hi with | none => rfl | some y => simp [h y (by simp)]
    have h3 : mx.map ev = mx.map ev' := by cases mx with | none => rfl | some y => simp [h y (by simp)]
    rw [hx, h1, h2, h3]
  case call c =>
    have hargs : c.args.toList.map ev = c.args.toList.map ev' := List.map_congr_left fun x hx => h x (by simp [Call.operands]; exact .inr (by simpa using hx))
    cases hc : c.callee with
    | builtin b => simp only [hargs]
    | value f =>
      have hf : ev f = ev' f := h f (by simp [Call.operands, hc])
      simp only [hargs, hf]
    | invoke r m => rfl
  case pick c a b => rw [h c (by simp), h a (by simp), h b (by simp)]
  case binOp op t x y u => rw [h x (by simp), h y (by simp)]
  case store t x y => rw [h x (by simp), h y (by simp)]
  case makeSlice t x y => rw [h x (by simp), h y (by simp)]
  case indexAddr t x y => rw [h x (by simp), h y (by simp)]
  case index t x y => rw [h x (by simp), h y (by simp)]
  case next x b => cases b <;> simp only; rw [h x (by simp)]
  all_goals first
    | rfl
    | (rename_i x; rw [h x (by simp)])
    | (rename_i x _; rw [h x (by simp)])
    | (rename_i x _ _; rw [h x (by simp)])

theorem bif_none {α : Type} (b : Bool) : bif' b (none : Option α) none = none := by cases b <;> rfl

theorem alts_strict : ∀ (l : Alts) {K : CV → List CV → Res}, (∀ rv outs, K rv outs = none) → alts' l K = none
  | [], K, h => rfl
  | (b, rv, outs) :: l, K, h => by
    unfold alts'
    rw [h, alts_strict l h]
    exact bif_none _
theorem aop_strict {o : Oper} {ev : Operand → PV} {H : Hp} : aop P tb o ev H (fun _ _ => none) = none := by
  by_cases hc : opClass P o = 0 ∨ opClass P o = 1
  · rcases aop_nf (tb := tb) (ev := ev) (H := H) hc with ⟨p, hp⟩ | hn
    · rw [hp]
    · rw [hn]
  have hconv : ∀ s d x, convert' P s d x H (fun _ _ => none) = none := by
    intro s d x
    unfold convert'
    split
    · rfl
    · rfl
    · split <;> rfl
    · split
      · exact bif_none _
      · rfl
    · rfl
  have hstore : ∀ t a x, store' P t a x H (fun _ _ => none) = none := by
    intro t a x
    unfold store'
    split
    · rename_i n m hn hm
      have : ∀ y : Res, y = none → bif' (n == m) y none = none := fun y hy => by rw [hy]; exact bif_none _
      refine this _ ?_
      split
      · split
        · split
          · split <;> rfl
          · rfl
        · rfl
      · split
        · split
          · split
            · exact bif_none _
            · rfl
          · rfl
        · rfl
      · rfl
    · rfl
  have hbs : ∀ t n ps, buildSlice' P t n ps H (fun _ _ => none) = none := by
    intro t n ps
    unfold buildSlice'
    split
    · split
      · split
        · split
          · exact bif_none _
          · rfl
        · rfl
      · rfl
    · rfl
  have hms : ∀ t l c, makeSlice' P t l c H (fun _ _ => none) = none := by
    intro t l c
    unfold makeSlice'
    split
    · split
      · split
        · simp only [bif_none]
        · rfl
      · rfl
    · rfl
  have hcall : ∀ f args, call' tb f args H (fun _ _ => none) = none := by
    intro f args
    unfold call'
    split
    · rfl
    · split
      · split
        · rfl
        · refine alts_strict _ fun rv outs => ?_
          split <;> rfl
      · rfl
  have hext : ∀ f args, ext' P f args H (fun _ _ => none) = none := by
    intro f args
    unfold ext'
    split
    · split <;> rfl
    · rfl
  have happ : ∀ t s x, append' P t s x H (fun _ _ => none) = none := by
    intro t s x
    unfold append'
    split
    · split
      · split
        · split
          · simp only [bif_none]
          · split
            · simp only [bif_none]
            · rfl
          · split
            · split
              · simp only [bif_none]
              · rfl
            · rfl
          · split
            · split
              · simp only [bif_none]
              · rfl
            · rfl
          · rfl
        · rfl
      · rfl
    · rfl
  obtain ⟨dst, op, type, pos, after, guard⟩ := o
  unfold aop
  cases op <;> (try simp only) <;> (try rfl)
  case pick c a b => split <;> first | exact bif_none _ | rfl
  case alloc t => split <;> rfl
  case box t x => split <;> rfl
  case build t ps => exact absurd (.inl rfl) hc
  case buildSlice t n ps => exact hbs _ _ _
  case load t x => exact absurd (.inr rfl) hc
  case store t x y => exact hstore _ _ _
  case nilCheck x => exact absurd (.inr rfl) hc
  case binOp op t x y u => cases op <;> first | exact absurd (.inl rfl) hc | exact absurd (.inr rfl) hc
  case unOp op t x => exact absurd (.inl rfl) hc
  case convert s d x => exact hconv _ _ _
  case makeInterface t x => exact absurd (.inl rfl) hc
  case makeFunc fn first captured =>
    cases fn <;> simp only
    split <;> rfl
  case makeSlice t l c => exact hms _ _ _
  case slice t x lo hi mx =>
    exfalso; apply hc
    simp only [opClass]
    split
    · exact .inl rfl
    · exact .inr rfl
  case fieldAddr t x f => exact absurd (.inr rfl) hc
  case field t x f => exact absurd (.inl rfl) hc
  case indexAddr t x i => exact absurd (.inr rfl) hc
  case index t x i => exact absurd (.inl rfl) hc
  case range t x => split <;> rfl
  case next x b =>
    cases b <;> simp only
    split
    · split
      · exact bif_none _
      · rfl
    · rfl
  case extract t i => exact absurd (.inl rfl) hc
  case call c =>
    split
    · unfold builtin'
      split
      · rename_i _ _ hcal
        exfalso; apply hc
        simp [opClass, hcal]
      · split
        · rfl
        · exact happ _ _ _
        · rfl
      · rfl
    · split
      · split
        · exact hcall _ _
        · exact hext _ _
      · split
        · exact hcall _ _
        · exact hext _ _
      · rfl
    · rfl

/-! ### One step, its guard decided -/
def gd (ops : Array Oper) (o : Oper) (env : Env) : Option Bool :=
  match o.guard with
  | none => some true
  | some (j, want) => match ((ops[j]?).bind (·.dst)) with
    | none => some false
    | some t => match env[t]? with
      | some (.c (.bool b)) => some (b == want)
      | some (.tup []) => some false
      | _ => none
def act (P : Program) (tb : Table) (ops : Array Oper) (o : Oper) (env : Env) (H : Hp) (K : KV) : Res :=
  match gd ops o env with
  | some true => aop P tb o (evl env) H K
  | some false => K (.tup []) H
  | none => none
theorem guarded_eq {ops : Array Oper} {o : Oper} {env : Env} {yes no : Env → Res} : guarded ops o env yes no = match gd ops o env with
    | some true => yes env
    | some false => no env
    | none => none := by
  cases hg : o.guard with
  | none => simp only [guarded, gd, hg]
  | some g =>
    obtain ⟨j, want⟩ := g
    cases hd : (ops[j]?).bind (·.dst) with
    | none => simp only [guarded, gd, hg, hd]
    | some t =>
      simp only [guarded, gd, hg, hd]
      cases ht : env[t]? with
      | none => rfl
      | some v =>
        split
        · rename_i b hb
          cases hb
          cases b <;> cases want <;> simp [bif', set_self ht]
        · rename_i hb
          cases hb
          rfl
        · rename_i h1 h2
          split
          all_goals first
            | rfl
            | (rename_i hh; revert hh; split <;> simp_all)
theorem aops_cons {ops : Array Oper} {i : Nat} {o : Oper} {rest : List Nat} {env : Env} {H : Hp} {K : KS} (ho : ops[i]? = some o) :
    aops P tb ops (i :: rest) env H K = act P tb ops o env H fun p H' => aops P tb ops rest (putE env o.dst p) H' K := by
  rw [aops]
  simp only [ho, guarded_eq, act]

theorem act_strict {ops : Array Oper} {o : Oper} {env : Env} {H : Hp} : act P tb ops o env H (fun _ _ => none) = none := by
  unfold act
  split
  · exact aop_strict
  · rfl
  · rfl
theorem act_nf0 {ops : Array Oper} {o : Oper} {env : Env} (h : opClass P o = 0) : NF0 (act P tb ops o env) := by
  unfold act
  split
  · exact aop_nf0 h
  · exact NF0.ret _
  · exact NF0.no
theorem act_nf {ops : Array Oper} {o : Oper} {env : Env} {H : Hp} (h : opClass P o = 0 ∨ opClass P o = 1) : NF H (act P tb ops o env H) := by
  unfold act
  split
  · exact aop_nf h
  · exact NF.ret H _
  · exact NF.no H

theorem putE_ne {env : Env} {d : Option Tmp} {p : PV} {t : Nat} (h : ∀ u, d = some u → t ≠ u) : (putE env d p)[t]? = env[t]? := by
  cases d with
  | none => rfl
  | some u => exact set_get_ne (h u rfl)
theorem putE_comm {env : Env} {d e : Option Tmp} {p q : PV} (h : ∀ u, d = some u → e ≠ some u) : putE (putE env d p) e q = putE (putE env e q) d p := by
  cases d with
  | none => rfl
  | some u =>
    cases e with
    | none => rfl
    | some v =>
      have hne : u ≠ v := fun e => h u rfl (by rw [e])
      exact List.set_comm _ _ hne

theorem act_put {ops : Array Oper} {o x : Oper} {env : Env} {p : PV} (h : ∀ d, x.dst = some d → d ∉ o.looksAt ops) : act P tb ops o (putE env x.dst p) = act P tb ops o env := by
  have hg : gd ops o (putE env x.dst p) = gd ops o env := by
    unfold gd
    split
    · rfl
    · rename_i j want hg
      split
      · rfl
      · rename_i t ht
        have : (putE env x.dst p)[t]? = env[t]? := putE_ne fun u hu e => h u hu (by
          unfold Oper.looksAt
          rw [hg]
          simp [ht, e])
        rw [this]
  have he : aop P tb o (evl (putE env x.dst p)) = aop P tb o (evl env) := aop_congr fun y hy => by
    cases y with
    | tmp t =>
      have : (putE env x.dst p)[t]? = env[t]? := putE_ne fun u hu e => h u hu (by
        unfold Oper.looksAt
        refine List.mem_append_left _ (List.mem_filterMap.2 ⟨.tmp t, by simpa using hy, by simp [e]⟩))
      simp only [evl, List.getD_eq_getElem?_getD, this]
    | _ => rfl
  funext H K
  unfold act
  rw [hg, he]

theorem swap_ok {ops : Array Oper} {x y : Oper} (h : mayTurn P ops x y = true) (env : Env) (H : Hp) (k : KS) :
    act P tb ops x env H (fun p H1 => act P tb ops y (putE env x.dst p) H1 fun q H2 => k (putE (putE env x.dst p) y.dst q) H2) =
    act P tb ops y env H (fun q H1 => act P tb ops x (putE env y.dst q) H1 fun p H2 => k (putE (putE env y.dst q) x.dst p) H2) := by
  unfold mayTurn at h
  simp only [Bool.and_eq_true, Bool.or_eq_true, beq_iff_eq] at h
  obtain ⟨⟨hc, h1⟩, h2⟩ := h
  obtain ⟨a1, a2, a3⟩ := Oper.apart_spec h1
  have e1 : ∀ p, act P tb ops y (putE env x.dst p) = act P tb ops y env := fun p => act_put a1
  have e2 : ∀ q, act P tb ops x (putE env y.dst q) = act P tb ops x env := fun q => act_put a3
  have e3 : ∀ p q, putE (putE env x.dst p) y.dst q = putE (putE env y.dst q) x.dst p := fun p q => putE_comm fun u hu => a2 u hu
  simp only [e1, e2, e3]
  rcases hc with (hc | hc) | ⟨c1, c2⟩
  · rcases act_nf0 (tb := tb) (ops := ops) (env := env) hc with ⟨p, hp⟩ | hn
    · simp only [hp]
    · simp only [hn]; exact act_strict.symm
  · rcases act_nf0 (tb := tb) (ops := ops) (env := env) hc with ⟨p, hp⟩ | hn
    · simp only [hp]
    · simp only [hn]; exact act_strict
  · rcases act_nf (tb := tb) (ops := ops) (env := env) (H := H) (.inr c1) with ⟨p, hp⟩ | hn <;> rcases act_nf (tb := tb) (ops := ops) (env := env) (H := H) (.inr c2) with ⟨q, hq⟩ | hm
    · simp only [hp, hq]
    · simp only [hp, hm]
    · simp only [hn, hq]
    · simp only [hn, hm]

theorem bubble {ops : Array Oper} {i : Nat} {oi : Oper} (hi : ops[i]? = some oi) {L2 : List Nat} {K : KS} : ∀ {L1 : List Nat}, (∀ j ∈ L1, ∃ oj, ops[j]? = some oj ∧ mayTurn P ops oj oi = true) → ∀ env H, aops P tb ops (L1 ++ i :: L2) env H K = aops P tb ops (i :: (L1 ++ L2)) env H K
  | [], _, _, _ => rfl
  | j :: L1, h, env, H => by
    obtain ⟨oj, hj, ht⟩ := h j (by simp)
    have ih := fun env H => bubble (K := K) (L2 := L2) hi (L1 := L1) (fun j hj => h j (by simp [hj])) env H
    rw [List.cons_append, aops_cons hj]
    simp only [ih, aops_cons hi]
    rw [swap_ok ht env H (fun env H => aops P tb ops (L1 ++ L2) env H K)]
    congr 1
    funext q H1
    rw [List.cons_append, aops_cons hj]

end Go.Pv
