/- Regions whose order is drawn come to what the text's order comes to. -/
import Derived.Test.YtpclikkakhcomaaGreatDoorPv22
set_option linter.unusedVariables false
namespace Go.Pv
open Go

variable {P : Program} {I : World → Prop} {tb : Handler}

/-! ### What stands ahead -/
def Shut (ops : Array Oper) (L : Nat → Prop) : Prop := ∀ k o, ops[k]? = some o → L k → ∀ e ∈ o.after, Region.binds .any e = true → L e.on
def Ahead (ops : Array Oper) (k j : Nat) : Prop := ∀ L : Nat → Prop, Shut ops L → (∀ o, ops[k]? = some o → ∀ e ∈ o.after, Region.binds .any e = true → L e.on) → L j

theorem ancOf_bit {acc : List Nat} {j : Nat} : ∀ {es : List Edge}, (ancOf acc es).testBit j = true → ∃ e ∈ es, Region.binds .any e = true ∧ (e.on = j ∨ (acc.getD e.on 0).testBit j = true)
  | [], h => by simp [ancOf] at h
  | e :: es, h => by
    unfold ancOf at h
    split at h
    · rename_i hb
      rw [Nat.testBit_or, Nat.testBit_or, Nat.testBit_two_pow] at h
      simp only [Bool.or_eq_true, decide_eq_true_eq] at h
      rcases h with (h | h) | h
      · exact ⟨e, by simp, hb, .inl h⟩
      · exact ⟨e, by simp, hb, .inr h⟩
      · obtain ⟨e', h1, h2⟩ := ancOf_bit h
        exact ⟨e', by simp [h1], h2⟩
    · obtain ⟨e', h1, h2⟩ := ancOf_bit h
      exact ⟨e', by simp [h1], h2⟩

theorem ancGo_ok {ops : Array Oper} : ∀ {os : List Oper} {ahead : List Oper} {acc : List Nat}, ops.toList = ahead ++ os → acc.length = ahead.length →
    (∀ k j, (acc.getD k 0).testBit j = true → Ahead ops k j) → ∀ k j, ((ancGo os acc).getD k 0).testBit j = true → Ahead ops k j
  | [], ahead, acc, h1, h2, h3, k, j, h => h3 k j h
  | o :: os, ahead, acc, h1, h2, h3, k, j, h => by
    unfold ancGo at h
    refine ancGo_ok (ahead := ahead ++ [o]) (by simpa using h1) (by simp [h2]) (fun k j h => ?_) k j h
    rw [List.getD_eq_getElem?_getD] at h
    by_cases hk : k < acc.length
    · rw [List.getElem?_append_left hk, ← List.getD_eq_getElem?_getD] at h
      exact h3 k j h
    · rw [List.getElem?_append_right (by omega)] at h
      by_cases hk0 : k - acc.length = 0
      · rw [hk0] at h
        simp only [List.getElem?_cons_zero, Option.getD_some] at h
        obtain ⟨e, he, hb, hc⟩ := ancOf_bit h
        have hko : ops[k]? = some o := by
          rw [← Array.getElem?_toList, h1, List.getElem?_append_right (by omega), show k - ahead.length = 0 by omega]
          rfl
        intro L hL h0
        have hLe := h0 o hko e (by simpa using he) hb
        rcases hc with rfl | hc
        · exact hLe
        · exact h3 _ _ hc L hL fun o' ho' e' he' hb' => hL _ _ ho' hLe e' he' hb'
      · rw [List.getElem?_eq_none (by simp; omega)] at h
        simp at h

theorem backOk_ok {os : List Oper} : ∀ {n i : Nat} {o : Oper}, backOk n os = true → os[i]? = some o → ∀ e ∈ o.after, Region.binds .any e = true → e.on < n + i := by
  induction os with
  | nil => intro n i o _ h; simp at h
  | cons p os ih =>
    intro n i o hb ho e he hbi
    simp only [backOk, Bool.and_eq_true] at hb
    cases i with
    | zero =>
      simp at ho; subst ho
      have := (Array.all_eq_true'.1 hb.1) e he
      simp [hbi] at this
      omega
    | succ i =>
      have := ih hb.2 (by simpa using ho) e he hbi
      omega

/-! ### One step -/
theorem act_ok {ops : Array Oper} {Q : Exit → Act → World → Prop} {res : CV × List CV} {K : KV} {S : St} {i : Nat} {o : Oper} {env : Env} {a : Act} (ho : ops[i]? = some o)
    (ok : Ok S) (hg : OnGlobals I S.ng) (hI : I S.w) (tbl : HOk P I S.ng tb) (hE : EnvR S env a) (hd : a.defers = [])
    (h : act P tb ops o env S.H K = some res) :
    wpOp P ops Q i (fun a' w' => ∃ S' p, S'.w = w' ∧ Good S S' ∧ I S'.w ∧ EnvR S' (putE env o.dst p) a' ∧ a'.defers = [] ∧ K p S'.H = some res) a S.w := by
  unfold wpOp
  rw [ho]
  have h' : guarded ops o env (fun env => aop P tb o (evl env) S.H fun p H => K p H) (fun env => K (.tup []) S.H) = some res := by
    rw [guarded_eq]; exact h
  have hput : ∀ env' : Env, env' = env → True := fun _ _ => trivial
  -- guarded_ok hands back an env that is env itself
  unfold act at h
  have key : (Region.wanted o (yielded ops a.tmps) = true ∧ gd ops o env = some true) ∨ (Region.wanted o (yielded ops a.tmps) = false ∧ gd ops o env = some false) := by
    cases hgd : gd ops o env with
    | none => rw [hgd] at h; cases h
    | some b =>
      have hg1 : guarded ops o env (fun _ => if b then some res else none) (fun _ => if b then none else some res) = some res := by
        rw [guarded_eq, hgd]; cases b <;> rfl
      rcases guarded_ok hE hg1 with ⟨hw, _, _, h1⟩ | ⟨hw, _, _, h1⟩
      · cases b
        · simp at h1
        · exact .inl ⟨hw, rfl⟩
      · cases b
        · exact .inr ⟨hw, rfl⟩
        · simp at h1
  rcases key with ⟨hw, hgd⟩ | ⟨hw, hgd⟩
  · rw [hgd] at h
    dsimp only at h ⊢
    rw [if_pos hw]
    refine .inl (Oper.wp_mono ?_ (aop_ok (Q := Q) ok hg hI tbl (evl_ok hE) h))
    rintro a' w' ⟨S', p, v, rfl, rfl, G, hI', hv, hk⟩
    exact ⟨S', p, rfl, G, hI', put_ok (hE.mono G.ext) hv, by rw [put_defers]; exact hd, hk⟩
  · rw [hgd] at h
    dsimp only at h ⊢
    rw [if_neg (by rw [hw]; simp)]
    exact ⟨S, .tup [], rfl, Good.refl ok, hI, put_ok hE (.tup _ _ .nil), by rw [put_defers]; exact hd, h⟩

/-! ### What is not yet taken -/
def unlisted (ops : Array Oper) (listed : Array Bool) : List Nat := (List.range ops.size).filter fun i => !listed.getD i true

theorem unlisted_mem {ops : Array Oper} {listed : Array Bool} {i : Nat} : i ∈ unlisted ops listed ↔ i < ops.size ∧ listed.getD i true = false := by
  simp [unlisted]

theorem filter_split {p : Nat → Bool} {n i : Nat} (hi : i < n) (hp : p i = true) :
    (List.range n).filter p = (List.range i).filter p ++ i :: ((List.range' (i + 1) (n - i - 1)).filter p) := by
  have : List.range n = List.range i ++ i :: List.range' (i + 1) (n - i - 1) := by
    rw [List.range_eq_range', List.range_eq_range', ← List.range'_succ, show n - i - 1 + 1 = n - i by omega]
    have := @List.range'_append 0 i (n - i) 1
    simp at this
    rw [show i + (n - i) = n by omega] at this
    exact this.symm
  rw [this, List.filter_append, List.filter_cons_of_pos hp]
theorem unlisted_split {ops : Array Oper} {listed : Array Bool} {i : Nat} (hi : i ∈ unlisted ops listed) (hs : listed.size = ops.size) :
    ∃ L1 L2, unlisted ops listed = L1 ++ i :: L2 ∧ unlisted ops (listed.setIfInBounds i true) = L1 ++ L2 ∧ (∀ j ∈ L1, j < i ∧ listed.getD j true = false) := by
  obtain ⟨h1, h2⟩ := unlisted_mem.1 hi
  have hset : ∀ j, (listed.setIfInBounds i true).getD j true = if j = i then true else listed.getD j true := by
    intro j
    simp only [Array.getD_eq_getD_getElem?]
    by_cases e : j = i
    · subst e; rw [if_pos rfl, Array.getElem?_setIfInBounds_self]; split <;> rfl
    · rw [if_neg e, Array.getElem?_setIfInBounds_ne (Ne.symm e)]
  refine ⟨(List.range i).filter fun j => !listed.getD j true, (List.range' (i + 1) (ops.size - i - 1)).filter fun j => !listed.getD j true, filter_split h1 (by rw [h2]; rfl), ?_, fun j hj => by simpa using hj⟩
  unfold unlisted
  have : List.range ops.size = List.range i ++ i :: List.range' (i + 1) (ops.size - i - 1) := by
    rw [List.range_eq_range', List.range_eq_range', ← List.range'_succ, show ops.size - i - 1 + 1 = ops.size - i by omega]
    have := @List.range'_append 0 i (ops.size - i) 1
    simp at this
    rw [show i + (ops.size - i) = ops.size by omega] at this
    exact this.symm
  rw [this, List.filter_append, List.filter_cons_of_neg (by rw [hset, if_pos rfl]; simp)]
  congr 1
  · exact List.filter_congr fun j hj => by rw [hset, if_neg (by have := List.mem_range.1 hj; omega)]
  · exact List.filter_congr fun j hj => by rw [hset, if_neg (by have := List.mem_range'_1.1 hj; omega)]

theorem ready_mem {ops : Array Oper} {listed : Array Bool} {i : Nat} : i ∈ Region.ready .any ops listed ↔ i < ops.size ∧ listed.getD i true = false ∧ ∃ o, ops[i]? = some o ∧ ∀ e ∈ o.after, Region.binds .any e = true → listed.getD e.on false = true := by
  unfold Region.ready
  simp only [List.mem_filter, List.mem_range, Bool.and_eq_true, Bool.not_eq_true']
  constructor
  · rintro ⟨h1, h2, h3⟩
    refine ⟨h1, h2, ops[i], by simp [h1], fun e he hb => ?_⟩
    rw [Array.getElem?_eq_getElem h1] at h3
    simp only [Option.map_some, Option.getD_some] at h3
    have := Array.all_eq_true'.1 h3 e he
    simpa [hb] using this
  · rintro ⟨h1, h2, o, ho, h3⟩
    refine ⟨h1, h2, ?_⟩
    rw [ho]
    simp only [Option.map_some, Option.getD_some]
    refine Array.all_eq_true'.2 fun e he => ?_
    cases hb : Region.binds .any e with
    | false => rfl
    | true => simp [h3 e he hb]

theorem any_ok {ops : Array Oper} {Q : Exit → Act → World → Prop} {res : CV × List CV} {K : KS} {nl : Nat} {S0 : St} (hQ : ∀ a w, Post nl S0 I K res a w → Q .normal a w)
    {env0 : Env} (hdr : drawOk P ops env0 = true) : ∀ (n : Nat) {listed : Array Bool} {S : St} {env : Env} {a : Act}, listed.size = ops.size →
    Shut ops (fun k => listed.getD k false = true) → (unlisted ops listed).length ≤ n →
    Ok S → Goes nl S0 S → OnGlobals I S.ng → I S.w → (HOk P I S.ng tb) → EnvR S env a → a.defers = [] → RInv ops env0 env →
    aops P tb ops (unlisted ops listed) env S.H K = some res → wpAny P .any ops Q n listed a S.w := by
  have hdr' := hdr
  unfold drawOk at hdr'
  simp only [Bool.and_eq_true] at hdr'
  obtain ⟨⟨_, hback⟩, hpairs⟩ := hdr'
  have hanc := ancGo_ok (ops := ops) (os := ops.toList) (ahead := []) (acc := []) rfl rfl (by simp)
  have nil_ok : ∀ {listed : Array Bool} {S : St} {env : Env} {a : Act}, unlisted ops listed = [] → Ok S → Goes nl S0 S → I S.w → EnvR S env a → a.defers = [] →
      aops P tb ops (unlisted ops listed) env S.H K = some res → Q .normal a S.w := by
    intro listed S env a hn ok K0 hI hE hd h
    rw [hn] at h
    exact hQ _ _ ⟨S, env, rfl, ok, K0, hI, hE, hd, h⟩
  intro n
  induction n with
  | zero =>
    intro listed S env a hs hsh hn ok K0 hg hI tbl hE hd hR h
    have hu : unlisted ops listed = [] := List.length_eq_zero_iff.1 (by omega)
    refine ⟨List.eq_nil_iff_forall_not_mem.2 fun i hi => ?_, nil_ok hu ok K0 hI hE hd h⟩
    obtain ⟨h1, h2, _⟩ := ready_mem.1 hi
    have : i ∈ unlisted ops listed := unlisted_mem.2 ⟨h1, h2⟩
    rw [hu] at this; cases this
  | succ n ih =>
    intro listed S env a hs hsh hn ok K0 hg hI tbl hE hd hR h
    have low : ∀ {j : Nat}, j < ops.size → j ∉ unlisted ops listed → listed.getD j false = true := by
      intro j hj hm
      have : listed.getD j true ≠ false := fun e => hm (unlisted_mem.2 ⟨hj, e⟩)
      rw [Array.getD_eq_getD_getElem?, Array.getElem?_eq_getElem (by omega)] at this ⊢
      simpa using this
    refine ⟨fun hr => nil_ok (listed := listed) ?_ ok K0 hI hE hd h, fun i hi => ?_⟩
    · cases hu : unlisted ops listed with
      | nil => rfl
      | cons i L =>
        exfalso
        have him : i ∈ unlisted ops listed := by rw [hu]; simp
        obtain ⟨L1, L2, h1, _, h3⟩ := unlisted_split him hs
        have hL1 : L1 = [] := by
          cases L1 with
          | nil => rfl
          | cons j L1 =>
            rw [hu] at h1
            simp at h1
            have := h3 j (by simp)
            omega
        subst hL1
        obtain ⟨hi1, hi2⟩ := unlisted_mem.1 him
        have : i ∈ Region.ready .any ops listed := by
          refine ready_mem.2 ⟨hi1, hi2, ops[i], by simp [hi1], fun e he hb => ?_⟩
          have hlt := backOk_ok hback (i := i) (o := ops[i]) (by simp [hi1]) e he hb
          refine low (by omega) fun hm => ?_
          obtain ⟨M1, M2, g1, _, g3⟩ := unlisted_split hm hs
          rw [h1] at g1
          cases M1 with
          | nil => simp at g1; omega
          | cons m M1 =>
            simp at g1
            have := g3 m (by simp)
            omega
        rw [hr] at this; cases this
    · obtain ⟨hi1, hi2, o, ho, hes⟩ := ready_mem.1 hi
      have him : i ∈ unlisted ops listed := unlisted_mem.2 ⟨hi1, hi2⟩
      obtain ⟨L1, L2, h1, h2, h3⟩ := unlisted_split him hs
      have hturn : ∀ j ∈ L1, ∃ oj, ops[j]? = some oj ∧ mayTurn P ops env0 oj o = true := by
        intro j hj
        obtain ⟨hj1, hj2⟩ := h3 j hj
        have hjs : j < ops.size := by omega
        refine ⟨ops[j], by simp [hjs], ?_⟩
        unfold pairsOk at hpairs
        have := List.all_eq_true.1 (List.all_eq_true.1 hpairs i (List.mem_range.2 hi1)) j (List.mem_range.2 hj1)
        rw [Array.getElem?_eq_getElem hjs, ho] at this
        simp only [Bool.or_eq_true] at this
        refine this.resolve_left fun hb => ?_
        have := hanc i j hb _ hsh fun o' ho' e he hbe => by rw [ho] at ho'; cases ho'; exact hes e he hbe
        rw [Array.getD_eq_getD_getElem?, Array.getElem?_eq_getElem (by omega)] at this hj2
        simp at this hj2
        rw [this] at hj2; cases hj2
      rw [h1, bubble tbl.hs ho hturn env S.H hR, aops_cons ho, ← h2] at h
      classical
      rw [act_out (k' := fun p H' => if OutOk o env p then aops P tb ops (unlisted ops (listed.setIfInBounds i true)) (putE env o.dst p) H' K else none) fun p H' hp => by rw [if_pos hp]] at h
      refine wpOp_mono ?_ (act_ok ho ok hg hI tbl hE hd h)
      rintro a' w' ⟨S', p, rfl, G, hI', hE', hd', hk⟩
      have hout : OutOk o env p := by
        refine Classical.byContradiction fun hn => ?_
        rw [if_neg hn] at hk; cases hk
      rw [if_pos hout] at hk
      refine ih (by simpa using hs) (fun k o' ho' hk e he hb => ?_) ?_ G.ok (K0.good G) (by rw [G.keeps.ng]; exact hg) hI' (by rw [G.keeps.ng]; exact tbl) hE' hd' (hR.put ho hout) hk
      · have up : ∀ {m : Nat}, listed.getD m false = true → (listed.setIfInBounds i true).getD m false = true := by
          intro m hm
          rw [Array.getD_eq_getD_getElem?] at hm ⊢
          by_cases e : m = i
          · subst e; rw [Array.getElem?_setIfInBounds_self, if_pos (by omega)]; rfl
          · rw [Array.getElem?_setIfInBounds_ne (Ne.symm e)]; exact hm
        by_cases e' : k = i
        · subst e'
          rw [ho] at ho'; cases ho'
          exact up (hes e he hb)
        · dsimp only at hk
          rw [Array.getD_eq_getD_getElem?, Array.getElem?_setIfInBounds_ne (Ne.symm e'), ← Array.getD_eq_getD_getElem?] at hk
          exact up (hsh k o' ho' hk e he hb)
      · rw [h1] at hn
        rw [h2]
        simp at hn ⊢
        omega

theorem region_ok {id : Nat} {ops : Array Oper} {draw : Bool} {Q : Exit → Act → World → Prop} {res : CV × List CV} {K : KS} {S : St} {env : Env} {a : Act} {nl : Nat} {S0 : St} (hQ : ∀ a w, Post nl S0 I K res a w → Q .normal a w) (K0 : Goes nl S0 S)
    (ok : Ok S) (hg : OnGlobals I S.ng) (hI : I S.w) (tbl : HOk P I S.ng tb) (hE : EnvR S env a) (hd : a.defers = [])
    (h : (if draw && !drawOk P ops env then none else aops P tb ops (List.range ops.size) env S.H K) = some res) : (Code.region id ops draw).wp P Q a S.w := by
  cases draw with
  | false => exact wp_region (aops_ok hQ _ ok K0 hg hI tbl hE hd (by simpa using h))
  | true =>
    cases hdr : drawOk P ops env with
    | false => simp [hdr] at h
    | true =>
      simp only [hdr, Bool.not_true, Bool.and_false, Bool.false_eq_true, if_false] at h
      have hm : P.follows .mixedOrders = true := by
        have := hdr
        unfold drawOk at this
        simp only [Bool.and_eq_true] at this
        exact this.1.1
      have hu : unlisted ops (Array.replicate ops.size false) = List.range ops.size := by
        unfold unlisted
        refine List.filter_eq_self.2 fun i hi => ?_
        rw [Array.getD_eq_getD_getElem?, Array.getElem?_replicate, if_pos (List.mem_range.1 hi)]; rfl
      have G := drawn_good ok (S.w.drawn + 1)
      refine wp_region_any hm (any_ok (S := S.drawn (S.w.drawn + 1)) hQ hdr ops.size (by simp) ?_ ?_ G.ok (K0.good G) (by rw [G.keeps.ng]; exact hg) (hg S.w _ (fun _ _ => rfl) hI) (by rw [G.keeps.ng]; exact tbl) (hE.mono G.ext) hd (RInv.refl ops env) (by rw [hu]; exact h))
      · intro k o ho hk
        exfalso
        rw [Array.getD_eq_getD_getElem?, Array.getElem?_replicate] at hk
        split at hk <;> simp at hk
      · rw [hu]; simp

end Go.Pv
