/- Code comes to what the interpreter says; a function's contract. -/
import Derived.Test.YtpclikkakhcomaaGreatDoorPv24
set_option linter.unusedVariables false
namespace Go.Pv
open Go

variable {P : Program} {I : World → Prop} {tb : Handler}

def ofEx : Ex → Exit
  | .normal => .normal
  | .exit id => .exit id
  | .ret => .ret

/-- What must hold behind the code. -/
def Behind (nl : Nat) (S0 : St) (I : World → Prop) (K : KX) (res : CV × List CV) (Q : Exit → Act → World → Prop) : Prop := ∀ e a w, Post nl S0 I (K e) res a w → Q (ofEx e) a w

theorem least (p : Nat → Prop) : (∃ k, p k) → ∃ k, p k ∧ ∀ j, p j → k ≤ j := by
  rintro ⟨k, hk⟩
  induction k using Nat.strongRecOn with
  | _ k ih =>
    by_cases h : ∃ j, j < k ∧ p j
    · obtain ⟨j, h1, h2⟩ := h
      exact ih j h1 h2
    · exact ⟨k, hk, fun j hj => Nat.le_of_not_lt fun hlt => h ⟨j, hlt, hj⟩⟩


open Classical in
theorem wp_rounds {c : Code} {Q : Exit → Act → World → Prop} {a : Act} {w : World} (J : Nat → Act → World → Prop) {k : Nat} (h : J k a w)
    (round : ∀ k a w, J k a w → ∃ j, j + 1 = k ∧ c.wp P (Exit.then (J j) Q) a w) : (Code.loop c).wp P Q a w := by
  let μ : Act → World → Nat := fun a w => if h : ∃ k, J k a w then Classical.choose (least (fun k => J k a w) h) else 0
  have μ1 : ∀ a w k, J k a w → J (μ a w) a w ∧ μ a w ≤ k := by
    intro a w k hk
    have he : ∃ k, J k a w := ⟨k, hk⟩
    have := Classical.choose_spec (least (fun k => J k a w) he)
    simp only [μ, dif_pos he]
    exact ⟨this.1, this.2 k hk⟩
  refine wp_loop (fun a w => ∃ k, J k a w) μ ⟨k, h⟩ ?_
  rintro a w ⟨k, hk⟩
  obtain ⟨h1, _⟩ := μ1 a w k hk
  obtain ⟨j, hj, hw⟩ := round _ a w h1
  refine wp_mono hw fun e a' w' hq => ?_
  cases e with
  | normal => exact ⟨⟨j, hq⟩, by have := (μ1 a' w' j hq).2; omega⟩
  | _ => exact hq

theorem Goes.less {n m : Nat} {S S' : St} (h : Goes m S S') (hn : n ≤ m) : Goes n S S' := ⟨h.keeps, Nat.le_trans hn h.len, h.st, fun r e' k' hr hb => h.box r e' k' (by omega) hb, fun r s' p' hr hb => h.iter r s' p' (by omega) hb, fun r xs' k' g' s' hr hb => h.row r xs' k' g' s' (by omega) hb⟩

theorem aexec_ok {nl : Nat} {S0 : St} {an : Ann} {fuel : Nat} {res : CV × List CV} (hg : OnGlobals I S0.ng) (tbl : HOk P I S0.ng tb) (han : ∀ i h, an i = some h → nl ≤ h.base) :
    ∀ (c : Code) {K : KX} {Q : Exit → Act → World → Prop} {S : St} {env : Env} {a : Act}, Ok S → Goes nl S0 S → I S.w → EnvR S env a → a.defers = [] → Behind nl S0 I K res Q →
      aexec P tb an fuel c env S.H K = some res → c.wp P Q a S.w := by
  intro c
  induction c with
  | skip => intro K Q S env a ok go hI hE hd hQ h; exact wp_skip (hQ .normal _ _ ⟨S, env, rfl, ok, go, hI, hE, hd, h⟩)
  | label l => intro K Q S env a ok go hI hE hd hQ h; exact wp_label (hQ .normal _ _ ⟨S, env, rfl, ok, go, hI, hE, hd, h⟩)
  | exit id => intro K Q S env a ok go hI hE hd hQ h; exact wp_exit (hQ (.exit id) _ _ ⟨S, env, rfl, ok, go, hI, hE, hd, h⟩)
  | ret => intro K Q S env a ok go hI hE hd hQ h; exact wp_ret (hQ .ret _ _ ⟨S, env, rfl, ok, go, hI, hE, hd, h⟩)
  | region id ops draw =>
    intro K Q S env a ok go hI hE hd hQ h
    unfold aexec at h
    exact region_ok (hQ .normal) go ok (by rw [go.keeps.ng]; exact hg) hI (by rw [go.keeps.ng]; exact tbl) hE hd h
  | seq x y ihx ihy =>
    intro K Q S env a ok go hI hE hd hQ h
    unfold aexec at h
    refine wp_seq (ihx ok go hI hE hd ?_ h)
    rintro e a' w' ⟨S', env', rfl, ok', go', hI', hE', hd', hk⟩
    cases e with
    | normal => exact ihy ok' go' hI' hE' hd' hQ hk
    | exit id => exact hQ (.exit id) _ _ ⟨S', env', rfl, ok', go', hI', hE', hd', hk⟩
    | ret => exact hQ .ret _ _ ⟨S', env', rfl, ok', go', hI', hE', hd', hk⟩
  | cond c x y ihx ihy =>
    intro K Q S env a ok go hI hE hd hQ h
    unfold aexec at h
    split at h <;> first | (cases h; done) | skip
    rename_i t ht
    have hv : a.eval c = .bool t := bool_of (ht ▸ evl_ok hE c)
    refine wp_cond hv ?_
    split at h
    · rename_i s
      have hs : env[s]? = some (.c (.bool t)) := by
        simp only [evl, List.getD_eq_getElem?_getD] at ht
        cases he : env[s]? with
        | none => rw [he] at ht; cases ht
        | some p => rw [he] at ht; exact congrArg some ht
      have hb := bool_at hE hs
      have hset : EnvR S (env.set s (.c (.bool t))) a := set_ok hE hb (Vb ..)
      rcases bif_some h with ⟨rfl, h'⟩ | ⟨rfl, h'⟩
      · exact ihx ok go hI hset hd hQ h'
      · exact ihy ok go hI hset hd hQ h'
    · rcases bif_some h with ⟨rfl, h'⟩ | ⟨rfl, h'⟩
      · exact ihx ok go hI hE hd hQ h'
      · exact ihy ok go hI hE hd hQ h'
  | block id b ih =>
    intro K Q S env a ok go hI hE hd hQ h
    unfold aexec at h
    refine wp_block (ih ok go hI hE hd ?_ h)
    rintro e a' w' ⟨S', env', rfl, ok', go', hI', hE', hd', hk⟩
    cases e with
    | normal => exact hQ .normal _ _ ⟨S', env', rfl, ok', go', hI', hE', hd', hk⟩
    | ret => exact hQ .ret _ _ ⟨S', env', rfl, ok', go', hI', hE', hd', hk⟩
    | exit id' =>
      show (if id' = id then Q .normal a' S'.w else Q (.exit id') a' S'.w)
      dsimp only at hk
      split
      · rename_i e; rw [if_pos e] at hk; exact hQ .normal _ _ ⟨S', env', rfl, ok', go', hI', hE', hd', hk⟩
      · rename_i e; rw [if_neg e] at hk; exact hQ (.exit id') _ _ ⟨S', env', rfl, ok', go', hI', hE', hd', hk⟩
  | loop b ih =>
    intro K Q S env a ok go hI hE hd hQ h
    unfold aexec at h
    split at h
    · refine wp_rounds (fun k a w => ∃ S' env', S'.w = w ∧ Ok S' ∧ Goes nl S0 S' ∧ I S'.w ∧ EnvR S' env' a ∧ a.defers = [] ∧ aloop (fun env H => some (env, H)) (fun env H K => aexec P tb an fuel b env H K) k env' S'.H K = some res) ⟨S, env, rfl, ok, go, hI, hE, hd, h⟩ ?_
      rintro k a' w' ⟨S', env', rfl, ok', go', hI', hE', hd', hk⟩
      cases k with
      | zero => simp [aloop] at hk
      | succ k =>
        refine ⟨k, rfl, ?_⟩
        simp only [aloop] at hk
        refine ih ok' go' hI' hE' hd' ?_ hk
        rintro e a2 w2 ⟨S2, env2, rfl, ok2, go2, hI2, hE2, hd2, hk2⟩
        cases e with
        | normal => exact ⟨S2, env2, rfl, ok2, go2, hI2, hE2, hd2, hk2⟩
        | exit id => exact hQ (.exit id) _ _ ⟨S2, env2, rfl, ok2, go2, hI2, hE2, hd2, hk2⟩
        | ret => exact hQ .ret _ _ ⟨S2, env2, rfl, ok2, go2, hI2, hE2, hd2, hk2⟩
    rename_i hdr hh
    have hbase : nl ≤ hdr.base := by
      cases hf : firstRegion b with
      | none => rw [hf] at hh; cases hh
      | some i => rw [hf] at hh; exact han i hdr hh
    refine wp_rounds (fun k a w => ∃ S' env', S'.w = w ∧ Ok S' ∧ Goes nl S0 S' ∧ I S'.w ∧ EnvR S' env' a ∧ a.defers = [] ∧ aloop (enterHead hdr) (fun env H K => aexec P tb an fuel b env H K) k env' S'.H K = some res) ⟨S, env, rfl, ok, go, hI, hE, hd, h⟩ ?_
    rintro k a' w' ⟨S', env', rfl, ok', go', hI', hE', hd', hk⟩
    cases k with
    | zero => simp [aloop] at hk
    | succ k =>
      refine ⟨k, rfl, ?_⟩
      simp only [aloop] at hk
      split at hk <;> first | (cases hk; done) | skip
      rename_i env1 H1 he
      obtain ⟨S1, rfl, e2, ok1, go1, hE1⟩ := enterHead_ok ok' hE' he
      rw [← e2]
      refine ih ok1 (go'.trans (go1.less hbase)) (by rw [e2]; exact hI') hE1 hd' ?_ hk
      rintro e a2 w2 ⟨S2, env2, rfl, ok2, go2, hI2, hE2, hd2, hk2⟩
      cases e with
      | normal => exact ⟨S2, env2, rfl, ok2, go2, hI2, hE2, hd2, hk2⟩
      | exit id => exact hQ (.exit id) _ _ ⟨S2, env2, rfl, ok2, go2, hI2, hE2, hd2, hk2⟩
      | ret => exact hQ .ret _ _ ⟨S2, env2, rfl, ok2, go2, hI2, hE2, hd2, hk2⟩
  | _ => intro K Q S env a ok go hI hE hd hQ h; unfold aexec at h; cases h

/-- The entry's slots. -/
theorem entry_env {S : St} {ps : List PV} {vals : Array Value} (n : Nat) (h : All2 (Vr S) ps vals.toList) : EnvR S (ps ++ List.replicate (n - ps.length) .undef) { tmps := vals ++ Array.replicate (n - vals.size) undef, defers := [] } := by
  show All2 (Vr S) _ (vals ++ Array.replicate (n - vals.size) undef).toList
  rw [Array.toList_append, Array.toList_replicate]
  have hl : ps.length = vals.size := by simpa using h.length
  rw [hl]
  have : ∀ m, All2 (Vr S) (List.replicate m PV.undef) (List.replicate m undef) := by
    intro m
    induction m with
    | zero => exact .nil
    | succ m ih => exact .cons (.undef _) ih
  exact All2.append h (this _)

theorem contract_of {f : FuncId} {F : Fn1} {ng : Nat} (an : Ann) (hg : OnGlobals I ng) (tbl : HOk P I ng tb)
    (h : ∀ cargs rv outs, picked (F cargs) = some (rv, outs) → ∃ fuel, abody P tb an fuel f cargs = some (rv, outs)) : Contract P I ng f F := by
  intro cargs rv outs hF S vals hH ok hng hI hv
  subst hng
  obtain ⟨fuel, hb⟩ := h cargs rv outs hF
  clear h hF
  unfold abody at hb
  split at hb <;> first | (cases hb; done) | skip
  rename_i fn hf
  split at hb <;> first | (cases hb; done) | skip
  rename_i body hbd
  split at hb
  rename_i ps H ho
  rw [ho] at hH hv
  simp only at hH hv
  subst hH
  refine calls_of_wp hf hbd (aexec_ok (nl := S.H.length) (S0 := S) hg tbl (fun i h hi => ?_) body ok (Goes.refl (Nat.le_refl _)) hI (entry_env _ hv) rfl ?_ hb)
  · cases hai : an i with
    | none => simp [filt, hai] at hi
    | some h' =>
      simp only [filt, hai, Option.filter_some] at hi
      split at hi
      · rename_i hc
        cases hi
        simpa using hc
      · cases hi
  · rintro e a w ⟨S', env', rfl, ok', go', hI', hE', hd', hk⟩
    have := finish_ok ok' go' hE' hk
    obtain ⟨v, S2, u, h1, h2, h3, h4, h5, h6, h7⟩ := this
    have key : a.defers = [] ∧ ∃ v, (results fn a.tmps).run P S'.w = .ok v S'.w ∧ ∃ v' S'' u, Ending.returned v = .returned v' ∧ S''.w = S'.w ∧ Ok S'' ∧ Keeps S S'' ∧ I S'.w ∧ AllR S'' rv v' u ∧ u.Nodup ∧ LentR S S'' outs u :=
      ⟨hd', v, h1, v, S2, u, rfl, h2, h3, h4, hI', h5, h6, h7⟩
    cases e with
    | normal => exact key
    | ret => exact key
    | exit id => simp [finish] at hk

end Go.Pv
