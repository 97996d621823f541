/- Calls whose bodies are run in place. -/
import Derived.Test.YtpclikkakhcomaaGreatDoorPv27
set_option linter.unusedVariables false
namespace Go.Pv
open Go

variable {P : Program} {I : World → Prop} {tb : Handler}

theorem aops_strict (hs : HS tb) {ops : Array Oper} : ∀ (l : List Nat) (env : Env) (H : Hp), aops P tb ops l env H (fun _ _ => none) = none
  | [], env, H => rfl
  | i :: l, env, H => by
    cases ho : ops[i]? with
    | none =>
      rw [aops]
      simp only [ho]
      exact aops_strict hs l env H
    | some o =>
      rw [aops_cons ho]
      have : (fun p H' => aops P tb ops l (putE env o.dst p) H' (fun _ _ => none)) = fun _ _ => none := by
        funext p H'
        exact aops_strict hs l _ _
      rw [this]
      exact act_strict hs

theorem toNone (F : KX → Res) (h : F (fun _ _ _ => none) = none) {K : KX} (hK : ∀ e env H, K e env H = none) : F K = none := by
  have : K = fun _ _ _ => none := by
    funext e env H
    exact hK e env H
  rw [this]; exact h
theorem toNoneV (F : KV → Res) (h : F (fun _ _ => none) = none) {K : KV} (hK : ∀ p H, K p H = none) : F K = none := by
  have : K = fun _ _ => none := by
    funext p H
    exact hK p H
  rw [this]; exact h
theorem aloop_strict {hd : Env → Hp → Option (Env × Hp)} {body : Env → Hp → KX → Res} (hb : ∀ env H, body env H (fun _ _ _ => none) = none) : ∀ (k : Nat) (env : Env) (H : Hp), aloop hd body k env H (fun _ _ _ => none) = none
  | 0, env, H => rfl
  | k + 1, env, H => by
    simp only [aloop]
    split
    · rfl
    · rename_i e1 H1 he
      refine toNone (body e1 H1) (hb e1 H1) fun e env H => ?_
      cases e
      · exact aloop_strict hb k env H
      · rfl
      · rfl

theorem aexec_strict (hs : HS tb) {an : Ann} {fuel : Nat} : ∀ (c : Code) (env : Env) (H : Hp), aexec P tb an fuel c env H (fun _ _ _ => none) = none := by
  intro c
  induction c with
  | skip => intro env H; rfl
  | label l => intro env H; rfl
  | exit id => intro env H; rfl
  | ret => intro env H; rfl
  | region id ops draw =>
    intro env H
    unfold aexec
    split
    · rfl
    · exact aops_strict hs _ _ _
  | seq a b iha ihb =>
    intro env H
    unfold aexec
    refine toNone (aexec P tb an fuel a env H) (iha env H) fun e env H => ?_
    cases e
    · exact ihb env H
    · rfl
    · rfl
  | cond c a b iha ihb =>
    intro env H
    unfold aexec
    split
    · split
      · rw [iha, ihb]; exact bif_none _
      · rw [iha, ihb]; exact bif_none _
    · rfl
  | block id b ih =>
    intro env H
    unfold aexec
    refine toNone (aexec P tb an fuel b env H) (ih env H) fun e env H => ?_
    cases e
    · rfl
    · dsimp only; split <;> rfl
    · rfl
  | loop b ih =>
    intro env H
    unfold aexec
    split
    · exact aloop_strict (fun env H => ih env H) _ _ _
    · exact aloop_strict (fun env H => ih env H) _ _ _
  | _ => intro env H; rfl

theorem load_strict {t : TypeId} {a : PV} {H : Hp} : load' P t a H (fun _ _ => none) = none := by
  rcases load_nf (P := P) (t := t) (a := a) (H := H) with ⟨p, hp⟩ | hn
  · rw [hp]
  · rw [hn]
theorem resVals_strict : ∀ (rs : List ResultVar) (env : Env) (H : Hp), resVals P rs env H (fun _ => none) = none
  | [], env, H => rfl
  | .tmp t :: rs, env, H => by
    simp only [resVals]
    exact resVals_strict rs env H
  | .cell a t :: rs, env, H => by
    simp only [resVals]
    exact toNoneV (load' P t (env.getD a .undef) H) load_strict fun p H' => resVals_strict rs env H

theorem inl_strict (hs : HS tb) {an : Ann} {fuel : Nat} (f : FuncId) (args : List PV) (H : Hp) : inl P tb an fuel f args H (fun _ _ => none) = none := by
  unfold inl
  split
  · rfl
  split
  · rename_i fn hf
    split
    · rename_i body hb
      refine toNone (aexec P tb (filt an H.length) fuel body _ H) (aexec_strict hs _ _ _) fun e env H => ?_
      cases e
      · exact resVals_strict _ _ _
      · rfl
      · exact resVals_strict _ _ _
    · rfl
  · rfl

theorem filt_base {an : Ann} {n : Nat} : ∀ i h, filt an n i = some h → n ≤ h.base := by
  intro i h hi
  cases hai : an i with
  | none => simp [filt, hai] at hi
  | some h' =>
    simp only [filt, hai, Option.filter_some] at hi
    split at hi
    · rename_i hc
      cases hi
      simpa using hc
    · cases hi

theorem inl_ok {ng : Nat} {an : Ann} {fuel : Nat} (hg : OnGlobals I ng) (tbl : HOk P I ng tb) {f : FuncId} {S : St} {args : List PV} {vals : Array Value} {K : KV} {res : CV × List CV} (ok : Ok S) (hng : S.ng = ng) (hI : I S.w) (hv : All2 (Vr S) args vals.toList) (h : inl P tb an fuel f args S.H K = some res) :
    Calls P f vals S.w fun e w' => ∃ v S' p, e = .returned v ∧ S'.w = w' ∧ Good S S' ∧ I S'.w ∧ Vr S' p v ∧ K p S'.H = some res := by
  subst hng
  unfold inl at h
  split at h <;> first | (cases h; done) | skip
  split at h <;> first | (cases h; done) | skip
  rename_i fn hf
  split at h <;> first | (cases h; done) | skip
  rename_i body hbd
  refine calls_of_wp hf hbd (aexec_ok (nl := S.H.length) (S0 := S) hg tbl filt_base body ok (Goes.refl (Nat.le_refl _)) hI (entry_env _ hv) rfl ?_ h)
  rintro e a w ⟨S', env', rfl, ok', go', hI', hE', hd', hk⟩
  have G : Good S S' := ⟨ok', go'.ext, go'.keeps⟩
  have key : resVals P fn.results.toList env' S'.H (fun ps => K (match ps with | [p] => p | ps => .tup ps) S'.H) = some res →
      a.defers = [] ∧ ∃ v, (results fn a.tmps).run P S'.w = .ok v S'.w ∧ ∃ v' S'' p, Ending.returned v = .returned v' ∧ S''.w = S'.w ∧ Good S S'' ∧ I S''.w ∧ Vr S'' p v' ∧ K p S''.H = some res := by
    intro hk
    obtain ⟨ps, v, h1, h2, h3⟩ := results_ok ok' hE' hk
    exact ⟨hd', v, h1, v, S', _, rfl, rfl, G, hI', h2, h3⟩
  cases e with
  | normal => exact key hk
  | ret => exact key hk
  | exit id => cases hk

theorem allCV_map : ∀ cs : List CV, allCV (cs.map .c) = true
  | [] => rfl
  | _ :: l => allCV_map l
theorem inls_ok {ng : Nat} {an : Ann} {fuel : Nat} (hg : OnGlobals I ng) (tbl : HOk P I ng tb) : ∀ (l : List FuncId), HOk P I ng (inls P an fuel l tb)
  | [] => tbl
  | f :: l => {
    call := fun {g S args vals K res} ok hng hI hv h => by
      have ih := inls_ok (an := an) (fuel := fuel) hg tbl l
      simp only [inls] at h
      split at h
      · rename_i e
        obtain rfl := Nat.eq_of_beq_eq_true e
        exact inl_ok hg ih ok hng hI hv h
      · exact ih.call ok hng hI hv h
    strict := fun g args H => by
      have ih := inls_ok (an := an) (fuel := fuel) hg tbl l
      simp only [inls]
      split
      · exact inl_strict ih.hs _ _ _
      · exact ih.strict _ _ _
    pure := fun g cs hn => by
      have ih := inls_ok (an := an) (fuel := fuel) hg tbl l
      simp only [inls]
      split
      · refine .inr fun H K => ?_
        unfold inl
        exact if_pos (allCV_map cs)
      · exact ih.pure _ _ hn }

end Go.Pv
