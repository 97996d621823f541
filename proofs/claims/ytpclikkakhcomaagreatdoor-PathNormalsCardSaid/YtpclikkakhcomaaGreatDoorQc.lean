/- Regions whose order is drawn come to what the text's order comes to. -/
import Derived.Test.YtpclikkakhcomaaGreatDoorQb
import Derived.Test.YtpclikkakhcomaaGreatDoorProg
import Derived.Lib.SpaceU
import Derived.Laws.RangeAny
import Derived.Lib.TrimUEq
import Derived.Lib.TrimU
set_option linter.unusedSimpArgs false
set_option linter.unusedVariables false
namespace Go.Pv
open Go
variable {P : Program} {I : World → Prop} {tb : Handler}
def Shut (ops : Array Oper) (L : Nat → Prop) : Prop := ∀ k o, ops[k]? = some o → L k → ∀ e ∈ o.after, Region.binds .any e = true → L e.on
def Ahead (ops : Array Oper) (k j : Nat) : Prop := ∀ L : Nat → Prop, Shut ops L → (∀ o, ops[k]? = some o → ∀ e ∈ o.after, Region.binds .any e = true → L e.on) → L j
theorem ancOf_bit {acc : List Nat} {j : Nat} : ∀ {es : List Edge}, (ancOf acc es).testBit j = true → ∃ e ∈ es, Region.binds .any e = true ∧ (e.on = j ∨ (acc.getD e.on 0).testBit j = true)
 | [], h => by simp [ancOf] at h
 | e :: es, h => by
   unfold ancOf at h
   split at h
   · rename_i hb
     rw [Nat.testBit_or, Nat.testBit_or, Nat.testBit_two_pow] at h
     simp only [Bool.or_eq_true, decide_eq_true_eq] at h
     rcases h with (h | h) | h
     · exact ⟨e, by simp, hb, .inl h⟩
     · exact ⟨e, by simp, hb, .inr h⟩
     · obtain ⟨e', h1, h2⟩ := ancOf_bit h
       exact ⟨e', by simp [h1], h2⟩
   · obtain ⟨e', h1, h2⟩ := ancOf_bit h
     exact ⟨e', by simp [h1], h2⟩
theorem ancGo_ok {ops : Array Oper} : ∀ {os : List Oper} {ahead : List Oper} {acc : List Nat}, ops.toList = ahead ++ os → acc.length = ahead.length →
   (∀ k j, (acc.getD k 0).testBit j = true → Ahead ops k j) → ∀ k j, ((ancGo os acc).getD k 0).testBit j = true → Ahead ops k j
 | [], ahead, acc, h1, h2, h3, k, j, h => h3 k j h
 | o :: os, ahead, acc, h1, h2, h3, k, j, h => by
   unfold ancGo at h
   refine ancGo_ok (ahead := ahead ++ [o]) (by simpa using h1) (by simp [h2]) (fun k j h => ?_) k j h
   rw [List.getD_eq_getElem?_getD] at h
   by_cases hk : k < acc.length
   · rw [List.getElem?_append_left hk, ← List.getD_eq_getElem?_getD] at h
     exact h3 k j h
   · rw [List.getElem?_append_right (by omega)] at h
     by_cases hk0 : k - acc.length = 0
     · rw [hk0] at h
       simp only [List.getElem?_cons_zero, Option.getD_some] at h
       obtain ⟨e, he, hb, hc⟩ := ancOf_bit h
       have hko : ops[k]? = some o := by
         rw [← Array.getElem?_toList, h1, List.getElem?_append_right (by omega), show k - ahead.length = 0 by omega]
         rfl
       intro L hL h0
       have hLe := h0 o hko e (by simpa using he) hb
       rcases hc with rfl | hc
       · exact hLe
       · exact h3 _ _ hc L hL fun o' ho' e' he' hb' => hL _ _ ho' hLe e' he' hb'
     · rw [List.getElem?_eq_none (by simp; omega)] at h
       simp at h
theorem backOk_ok {os : List Oper} : ∀ {n i : Nat} {o : Oper}, backOk n os = true → os[i]? = some o → ∀ e ∈ o.after, Region.binds .any e = true → e.on < n + i := by
 induction os with
 | nil => intro n i o _ h; simp at h
 | cons p os ih =>
   intro n i o hb ho e he hbi
   simp only [backOk, Bool.and_eq_true] at hb
   cases i with
   | zero =>
     simp at ho; subst ho
     have := (Array.all_eq_true'.1 hb.1) e he
     simp [hbi] at this
     omega
   | succ i =>
     have := ih hb.2 (by simpa using ho) e he hbi
     omega
theorem act_ok {ops : Array Oper} {Q : Exit → Act → World → Prop} {res : CV × List CV} {K : KV} {S : St} {i : Nat} {o : Oper} {env : Env} {a : Act} (ho : ops[i]? = some o)
   (ok : Ok S) (hg : OnGlobals I S.ng) (hI : I S.w) (tbl : HOk P I S.ng tb) (hE : EnvR S env a) (hd : a.defers = [])
   (h : act P tb ops o env S.H K = some res) :
   wpOp P ops Q i (fun a' w' => ∃ S' p, S'.w = w' ∧ Good S S' ∧ I S'.w ∧ EnvR S' (putE env o.dst p) a' ∧ a'.defers = [] ∧ K p S'.H = some res) a S.w := by
 unfold wpOp
 rw [ho]
 have h' : guarded ops o env (fun env => aop P tb o (evl env) S.H fun p H => K p H) (fun env => K (.tup []) S.H) = some res := by
   rw [guarded_eq]; exact h
 have hput : ∀ env' : Env, env' = env → True := fun _ _ => trivial
 unfold act at h
 have key : (Region.wanted o (yielded ops a.tmps) = true ∧ gd ops o env = some true) ∨ (Region.wanted o (yielded ops a.tmps) = false ∧ gd ops o env = some false) := by
   cases hgd : gd ops o env with
   | none => rw [hgd] at h; cases h
   | some b =>
     have hg1 : guarded ops o env (fun _ => if b then some res else none) (fun _ => if b then none else some res) = some res := by
       rw [guarded_eq, hgd]; cases b <;> rfl
     rcases guarded_ok hE hg1 with ⟨hw, _, _, h1⟩ | ⟨hw, _, _, h1⟩
     · cases b
       · simp at h1
       · exact .inl ⟨hw, rfl⟩
     · cases b
       · exact .inr ⟨hw, rfl⟩
       · simp at h1
 rcases key with ⟨hw, hgd⟩ | ⟨hw, hgd⟩
 · rw [hgd] at h
   dsimp only at h ⊢
   rw [if_pos hw]
   refine .inl (Oper.wp_mono ?_ (aop_ok (Q := Q) ok hg hI tbl (evl_ok hE) h))
   rintro a' w' ⟨S', p, v, rfl, rfl, G, hI', hv, hk⟩
   exact ⟨S', p, rfl, G, hI', put_ok (hE.mono G.ext) hv, by rw [put_defers]; exact hd, hk⟩
 · rw [hgd] at h
   dsimp only at h ⊢
   rw [if_neg (by rw [hw]; simp)]
   exact ⟨S, .tup [], rfl, Good.refl ok, hI, put_ok hE (.tup _ _ .nil), by rw [put_defers]; exact hd, h⟩
def unlisted (ops : Array Oper) (listed : Array Bool) : List Nat := (List.range ops.size).filter fun i => !listed.getD i true
theorem unlisted_mem {ops : Array Oper} {listed : Array Bool} {i : Nat} : i ∈ unlisted ops listed ↔ i < ops.size ∧ listed.getD i true = false := by
 simp [unlisted]
theorem filter_split {p : Nat → Bool} {n i : Nat} (hi : i < n) (hp : p i = true) :
   (List.range n).filter p = (List.range i).filter p ++ i :: ((List.range' (i + 1) (n - i - 1)).filter p) := by
 have : List.range n = List.range i ++ i :: List.range' (i + 1) (n - i - 1) := by
   rw [List.range_eq_range', List.range_eq_range', ← List.range'_succ, show n - i - 1 + 1 = n - i by omega]
   have := @List.range'_append 0 i (n - i) 1
   simp at this
   rw [show i + (n - i) = n by omega] at this
   exact this.symm
 rw [this, List.filter_append, List.filter_cons_of_pos hp]
theorem unlisted_split {ops : Array Oper} {listed : Array Bool} {i : Nat} (hi : i ∈ unlisted ops listed) (hs : listed.size = ops.size) :
   ∃ L1 L2, unlisted ops listed = L1 ++ i :: L2 ∧ unlisted ops (listed.setIfInBounds i true) = L1 ++ L2 ∧ (∀ j ∈ L1, j < i ∧ listed.getD j true = false) := by
 obtain ⟨h1, h2⟩ := unlisted_mem.1 hi
 have hset : ∀ j, (listed.setIfInBounds i true).getD j true = if j = i then true else listed.getD j true := by
   intro j
   simp only [Array.getD_eq_getD_getElem?]
   by_cases e : j = i
   · subst e; rw [if_pos rfl, Array.getElem?_setIfInBounds_self]; split <;> rfl
   · rw [if_neg e, Array.getElem?_setIfInBounds_ne (Ne.symm e)]
 refine ⟨(List.range i).filter fun j => !listed.getD j true, (List.range' (i + 1) (ops.size - i - 1)).filter fun j => !listed.getD j true, filter_split h1 (by rw [h2]; rfl), ?_, fun j hj => by simpa using hj⟩
 unfold unlisted
 have : List.range ops.size = List.range i ++ i :: List.range' (i + 1) (ops.size - i - 1) := by
   rw [List.range_eq_range', List.range_eq_range', ← List.range'_succ, show ops.size - i - 1 + 1 = ops.size - i by omega]
   have := @List.range'_append 0 i (ops.size - i) 1
   simp at this
   rw [show i + (ops.size - i) = ops.size by omega] at this
   exact this.symm
 rw [this, List.filter_append, List.filter_cons_of_neg (by rw [hset, if_pos rfl]; simp)]
 congr 1
 · exact List.filter_congr fun j hj => by rw [hset, if_neg (by have := List.mem_range.1 hj; omega)]
 · exact List.filter_congr fun j hj => by rw [hset, if_neg (by have := List.mem_range'_1.1 hj; omega)]
theorem ready_mem {ops : Array Oper} {listed : Array Bool} {i : Nat} : i ∈ Region.ready .any ops listed ↔ i < ops.size ∧ listed.getD i true = false ∧ ∃ o, ops[i]? = some o ∧ ∀ e ∈ o.after, Region.binds .any e = true → listed.getD e.on false = true := by
 unfold Region.ready
 simp only [List.mem_filter, List.mem_range, Bool.and_eq_true, Bool.not_eq_true']
 constructor
 · rintro ⟨h1, h2, h3⟩
   refine ⟨h1, h2, ops[i], by simp [h1], fun e he hb => ?_⟩
   rw [Array.getElem?_eq_getElem h1] at h3
   simp only [Option.map_some, Option.getD_some] at h3
   have := Array.all_eq_true'.1 h3 e he
   simpa [hb] using this
 · rintro ⟨h1, h2, o, ho, h3⟩
   refine ⟨h1, h2, ?_⟩
   rw [ho]
   simp only [Option.map_some, Option.getD_some]
   refine Array.all_eq_true'.2 fun e he => ?_
   cases hb : Region.binds .any e with
   | false => rfl
   | true => simp [h3 e he hb]
theorem any_ok {ops : Array Oper} {Q : Exit → Act → World → Prop} {res : CV × List CV} {K : KS} {nl : Nat} {S0 : St} (hQ : ∀ a w, Post nl S0 I K res a w → Q .normal a w)
   {env0 : Env} (hdr : drawOk P ops env0 = true) : ∀ (n : Nat) {listed : Array Bool} {S : St} {env : Env} {a : Act}, listed.size = ops.size →
   Shut ops (fun k => listed.getD k false = true) → (unlisted ops listed).length ≤ n →
   Ok S → Goes nl S0 S → OnGlobals I S.ng → I S.w → (HOk P I S.ng tb) → EnvR S env a → a.defers = [] → RInv ops env0 env →
   aops P tb ops (unlisted ops listed) env S.H K = some res → wpAny P .any ops Q n listed a S.w := by
 have hdr' := hdr
 unfold drawOk at hdr'
 simp only [Bool.and_eq_true] at hdr'
 obtain ⟨⟨_, hback⟩, hpairs⟩ := hdr'
 have hanc := ancGo_ok (ops := ops) (os := ops.toList) (ahead := []) (acc := []) rfl rfl (by simp)
 have nil_ok : ∀ {listed : Array Bool} {S : St} {env : Env} {a : Act}, unlisted ops listed = [] → Ok S → Goes nl S0 S → I S.w → EnvR S env a → a.defers = [] →
     aops P tb ops (unlisted ops listed) env S.H K = some res → Q .normal a S.w := by
   intro listed S env a hn ok K0 hI hE hd h
   rw [hn] at h
   exact hQ _ _ ⟨S, env, rfl, ok, K0, hI, hE, hd, h⟩
 intro n
 induction n with
 | zero =>
   intro listed S env a hs hsh hn ok K0 hg hI tbl hE hd hR h
   have hu : unlisted ops listed = [] := List.length_eq_zero_iff.1 (by omega)
   refine ⟨List.eq_nil_iff_forall_not_mem.2 fun i hi => ?_, nil_ok hu ok K0 hI hE hd h⟩
   obtain ⟨h1, h2, _⟩ := ready_mem.1 hi
   have : i ∈ unlisted ops listed := unlisted_mem.2 ⟨h1, h2⟩
   rw [hu] at this; cases this
 | succ n ih =>
   intro listed S env a hs hsh hn ok K0 hg hI tbl hE hd hR h
   have low : ∀ {j : Nat}, j < ops.size → j ∉ unlisted ops listed → listed.getD j false = true := by
     intro j hj hm
     have : listed.getD j true ≠ false := fun e => hm (unlisted_mem.2 ⟨hj, e⟩)
     rw [Array.getD_eq_getD_getElem?, Array.getElem?_eq_getElem (by omega)] at this ⊢
     simpa using this
   refine ⟨fun hr => nil_ok (listed := listed) ?_ ok K0 hI hE hd h, fun i hi => ?_⟩
   · cases hu : unlisted ops listed with
     | nil => rfl
     | cons i L =>
       exfalso
       have him : i ∈ unlisted ops listed := by rw [hu]; simp
       obtain ⟨L1, L2, h1, _, h3⟩ := unlisted_split him hs
       have hL1 : L1 = [] := by
         cases L1 with
         | nil => rfl
         | cons j L1 =>
           rw [hu] at h1
           simp at h1
           have := h3 j (by simp)
           omega
       subst hL1
       obtain ⟨hi1, hi2⟩ := unlisted_mem.1 him
       have : i ∈ Region.ready .any ops listed := by
         refine ready_mem.2 ⟨hi1, hi2, ops[i], by simp [hi1], fun e he hb => ?_⟩
         have hlt := backOk_ok hback (i := i) (o := ops[i]) (by simp [hi1]) e he hb
         refine low (by omega) fun hm => ?_
         obtain ⟨M1, M2, g1, _, g3⟩ := unlisted_split hm hs
         rw [h1] at g1
         cases M1 with
         | nil => simp at g1; omega
         | cons m M1 =>
           simp at g1
           have := g3 m (by simp)
           omega
       rw [hr] at this; cases this
   · obtain ⟨hi1, hi2, o, ho, hes⟩ := ready_mem.1 hi
     have him : i ∈ unlisted ops listed := unlisted_mem.2 ⟨hi1, hi2⟩
     obtain ⟨L1, L2, h1, h2, h3⟩ := unlisted_split him hs
     have hturn : ∀ j ∈ L1, ∃ oj, ops[j]? = some oj ∧ mayTurn P ops env0 oj o = true := by
       intro j hj
       obtain ⟨hj1, hj2⟩ := h3 j hj
       have hjs : j < ops.size := by omega
       refine ⟨ops[j], by simp [hjs], ?_⟩
       unfold pairsOk at hpairs
       have := List.all_eq_true.1 (List.all_eq_true.1 hpairs i (List.mem_range.2 hi1)) j (List.mem_range.2 hj1)
       rw [Array.getElem?_eq_getElem hjs, ho] at this
       simp only [Bool.or_eq_true] at this
       refine this.resolve_left fun hb => ?_
       have := hanc i j hb _ hsh fun o' ho' e he hbe => by rw [ho] at ho'; cases ho'; exact hes e he hbe
       rw [Array.getD_eq_getD_getElem?, Array.getElem?_eq_getElem (by omega)] at this hj2
       simp at this hj2
       rw [this] at hj2; cases hj2
     rw [h1, bubble tbl.hs ho hturn env S.H hR, aops_cons ho, ← h2] at h
     classical
     rw [act_out (k' := fun p H' => if OutOk o env p then aops P tb ops (unlisted ops (listed.setIfInBounds i true)) (putE env o.dst p) H' K else none) fun p H' hp => by rw [if_pos hp]] at h
     refine wpOp_mono ?_ (act_ok ho ok hg hI tbl hE hd h)
     rintro a' w' ⟨S', p, rfl, G, hI', hE', hd', hk⟩
     have hout : OutOk o env p := by
       refine Classical.byContradiction fun hn => ?_
       rw [if_neg hn] at hk; cases hk
     rw [if_pos hout] at hk
     refine ih (by simpa using hs) (fun k o' ho' hk e he hb => ?_) ?_ G.ok (K0.good G) (by rw [G.keeps.ng]; exact hg) hI' (by rw [G.keeps.ng]; exact tbl) hE' hd' (hR.put ho hout) hk
     · have up : ∀ {m : Nat}, listed.getD m false = true → (listed.setIfInBounds i true).getD m false = true := by
         intro m hm
         rw [Array.getD_eq_getD_getElem?] at hm ⊢
         by_cases e : m = i
         · subst e; rw [Array.getElem?_setIfInBounds_self, if_pos (by omega)]; rfl
         · rw [Array.getElem?_setIfInBounds_ne (Ne.symm e)]; exact hm
       by_cases e' : k = i
       · subst e'
         rw [ho] at ho'; cases ho'
         exact up (hes e he hb)
       · dsimp only at hk
         rw [Array.getD_eq_getD_getElem?, Array.getElem?_setIfInBounds_ne (Ne.symm e'), ← Array.getD_eq_getD_getElem?] at hk
         exact up (hsh k o' ho' hk e he hb)
     · rw [h1] at hn
       rw [h2]
       simp at hn ⊢
       omega
theorem region_ok {id : Nat} {ops : Array Oper} {draw : Bool} {Q : Exit → Act → World → Prop} {res : CV × List CV} {K : KS} {S : St} {env : Env} {a : Act} {nl : Nat} {S0 : St} (hQ : ∀ a w, Post nl S0 I K res a w → Q .normal a w) (K0 : Goes nl S0 S)
   (ok : Ok S) (hg : OnGlobals I S.ng) (hI : I S.w) (tbl : HOk P I S.ng tb) (hE : EnvR S env a) (hd : a.defers = [])
   (h : (if draw && !drawOk P ops env then none else aops P tb ops (List.range ops.size) env S.H K) = some res) : (Code.region id ops draw).wp P Q a S.w := by
 cases draw with
 | false => exact wp_region (aops_ok hQ _ ok K0 hg hI tbl hE hd (by simpa using h))
 | true =>
   cases hdr : drawOk P ops env with
   | false => simp [hdr] at h
   | true =>
     simp only [hdr, Bool.not_true, Bool.and_false, Bool.false_eq_true, if_false] at h
     have hm : P.follows .mixedOrders = true := by
       have := hdr
       unfold drawOk at this
       simp only [Bool.and_eq_true] at this
       exact this.1.1
     have hu : unlisted ops (Array.replicate ops.size false) = List.range ops.size := by
       unfold unlisted
       refine List.filter_eq_self.2 fun i hi => ?_
       rw [Array.getD_eq_getD_getElem?, Array.getElem?_replicate, if_pos (List.mem_range.1 hi)]; rfl
     have G := drawn_good ok (S.w.drawn + 1)
     refine wp_region_any hm (any_ok (S := S.drawn (S.w.drawn + 1)) hQ hdr ops.size (by simp) ?_ ?_ G.ok (K0.good G) (by rw [G.keeps.ng]; exact hg) (hg S.w _ (fun _ _ => rfl) hI) (by rw [G.keeps.ng]; exact tbl) (hE.mono G.ext) hd (RInv.refl ops env) (by rw [hu]; exact h))
     · intro k o ho hk
       exfalso
       rw [Array.getD_eq_getD_getElem?, Array.getElem?_replicate] at hk
       split at hk <;> simp at hk
     · rw [hu]; simp
end Go.Pv
namespace Go.Pv
open Go
variable {P : Program} {I : World → Prop} {tb : Handler}
theorem resVals_ok {S : St} (ok : Ok S) {env : Env} {a : Act} {res : CV × List CV} (hE : EnvR S env a) {g : ResultVar → Sem Value} (g1 : ∀ t, g (.tmp t) = pure (a.tmps.getD t undef)) (g2 : ∀ b t, g (.cell b t) = do loadVar t (← asAddr (a.tmps.getD b undef))) : ∀ {rs : List ResultVar} {K : List PV → Res}, resVals P rs env S.H K = some res →
   ∃ ps vs, (rs.mapM g).run P S.w = .ok vs S.w ∧ All2 (Vr S) ps vs ∧ K ps = some res
 | [], K, h => ⟨[], [], rfl, .nil, h⟩
 | .tmp t :: rs, K, h => by
   simp only [resVals] at h
   obtain ⟨ps, vs, h1, h2, h3⟩ := resVals_ok ok hE g1 g2 h
   refine ⟨_, a.tmps.getD t undef :: vs, ?_, .cons (evl_ok hE (.tmp t)) h2, h3⟩
   simp only [List.mapM_cons, g1, Sem.run_bind, Sem.run_pure, Result.andThen_ok]
   rw [h1]; rfl
 | .cell b t :: rs, K, h => by
   simp only [resVals] at h
   obtain ⟨u, p, h1, h2, h3⟩ := load_pure ok (evl_ok hE (.tmp b)) h
   obtain ⟨ps, vs, q1, q2, q3⟩ := resVals_ok ok hE g1 g2 h3
   refine ⟨_, u :: vs, ?_, .cons h2 q2, q3⟩
   have hl : (do loadVar t (← asAddr (a.tmps.getD b undef)) : Sem Value).run P S.w = .ok u S.w := by
     revert h1
     show (Instr.loadAt t (a.tmps.getD b undef)).run P S.w = .ok u S.w → _
     cases hv : a.tmps.getD b undef with
     | pointer o =>
       cases o with
       | none => intro h1; simp [Instr.loadAt, Instr.sureAddr, stuck] at h1
       | some ad => exact id
     | _ => intro h1; simp [Instr.loadAt, Instr.sureAddr, stuck] at h1
   rw [List.mapM_cons, g2, Sem.run_bind, hl]
   simp only [Result.andThen_ok, Sem.run_bind, q1, Sem.run_pure]
def resG (tmps : Array Value) : ResultVar → Sem Value
 | .tmp t => pure (tmps.getD t undef)
 | .cell b t => do loadVar t (← asAddr (tmps.getD b undef))
theorem results_eq (fn : Func) (tmps : Array Value) : results fn tmps = (do
   let vs ← fn.results.mapM (resG tmps)
   pure (if h : vs.size = 1 then vs[0] else .tuple vs)) := by
 unfold results
 congr 1
theorem results_ok {S : St} (ok : Ok S) {env : Env} {a : Act} {res : CV × List CV} {fn : Func} (hE : EnvR S env a) {K : List PV → Res} (h : resVals P fn.results.toList env S.H K = some res) :
   ∃ ps v, (results fn a.tmps).run P S.w = .ok v S.w ∧ Vr S (match ps with | [p] => p | ps => .tup ps) v ∧ K ps = some res := by
 obtain ⟨ps, vs, h1, h2, h3⟩ := resVals_ok ok hE (g := resG a.tmps) (fun _ => rfl) (fun _ _ => rfl) h
 refine ⟨ps, if h : vs.toArray.size = 1 then vs.toArray[0] else .tuple vs.toArray, ?_, ?_, h3⟩
 · rw [results_eq, Sem.run_bind, Array.mapM_eq_mapM_toList, Sem.run_map, h1]
   rfl
 · cases h2 with
   | nil => exact .tup _ _ .nil
   | cons q1 q2 =>
     cases q2 with
     | nil => exact q1
     | cons q2 q3 => exact .tup _ _ (.cons q1 (.cons q2 q3))
theorem own_of_closeCells : ∀ {S : St} (ok : Ok S) {used : List Nat} {Hd Hd' : Hp} {ps : List PV} {vs : List Value} {xs : List CV} (k : Killed S.H used Hd) (hv : All2 (Vr S) ps vs) (h : closeCells ps Hd = some (xs, Hd')),
   ∃ S', Own S S' used Hd' [] ∧ All2 (Vc S') xs vs
 | S, ok, used, Hd, Hd', [], vs, xs, k, hv, h => by
   cases hv; cases h
   exact ⟨S, ⟨.refl ok, by simpa using k, fun _ _ => rfl, by simp, by simp, rfl⟩, .nil⟩
 | S, ok, used, Hd, Hd', p :: ps, vs, xs, k, hv, h => by
   cases hv with
   | cons h1 h2 =>
     simp only [closeCells] at h
     split at h <;> first | (cases h; done) | skip
     rename_i x H1 hx
     split at h <;> first | (cases h; done) | skip
     rename_i xs' H2 hxs
     cases h
     obtain ⟨S1, o1, c1⟩ := own_of_close ok k h1 hx
     obtain ⟨S2, o2, c2⟩ := own_of_closeCells o1.m.good.ok o1.k (h2.imp fun _ _ _ h => h.mono o1.m.good.ext) hxs
     exact ⟨S2, by simpa using o1.trans o2, .cons (c1.mono o2.m.good.ext) c2⟩
theorem own_of_closeVal {S : St} (ok : Ok S) {used : List Nat} {Hd Hd' : Hp} {p : PV} {v : Value} {x : CV} (k : Killed S.H used Hd) (hv : Vr S p v) (h : closeVal p Hd = some (x, Hd')) :
   ∃ S', Own S S' used Hd' [] ∧ Vc S' x v := by
 unfold closeVal at h
 split at h <;> first | (cases h; done) | skip
 · cases h
   exact ⟨S, ⟨.refl ok, by simpa using k, fun _ _ => rfl, by simp, by simp, rfl⟩, c_of hv⟩
 · split at h <;> first | (cases h; done) | skip
   rename_i vs' H1 hc
   cases h
   cases hv with
   | agg ps vs h1 h2 =>
     obtain ⟨S', o, c⟩ := own_of_closeCells ok k h1 hc
     exact ⟨S', o, .agg _ _ c h2⟩
 · exact own_of_close ok k hv h
theorem lentBack_ok : ∀ {ks : List Nat} {r : Nat} {S : St} (ok : Ok S) {used : List Nat} {Hd Hd' : Hp} {outs : List CV} (k : Killed S.H used Hd) (hu : ∀ i, i ∈ used → i < r) (h : lentBack r ks Hd = some (outs, Hd')),
   ∃ S', Own S S' used Hd' (List.range' r ks.length) ∧ outs.length = ks.length ∧ ∀ (i n : Nat) (x : CV), ks[i]? = some n → outs[i]? = some x →
     (∃ e, S'.H[r + i]? = some (.box e n)) ∧ ∃ ve b T fr, S'.ι (r + i) = some b ∧ Vc S' x ve ∧ S'.w.heap[b]? = some (.cells ve.cells T fr) ∧ bOk T fr ve.cells.size n ∧ (∀ v ∈ ve.cells.toList, v.oneCell' = true) ∧ ve.cells.size = ksz n
 | [], r, S, ok, used, Hd, Hd', outs, k, hu, h => by
   cases h
   exact ⟨S, ⟨.refl ok, by simpa using k, fun _ _ => rfl, by simp, by simp, rfl⟩, rfl, by simp⟩
 | n :: ks, r, S, ok, used, Hd, Hd', outs, k, hu, h => by
   simp only [lentBack] at h
   split at h <;> first | (cases h; done) | skip
   rename_i e n' hr
   split at h <;> first | (cases h; done) | skip
   rename_i hn
   subst hn
   split at h <;> first | (cases h; done) | skip
   rename_i x H1 hx
   split at h <;> first | (cases h; done) | skip
   rename_i xs H2 hxs
   cases h
   obtain ⟨hr1, hr2⟩ := k.live hr (by simp)
   obtain ⟨b, cs, T, fr, ve, q1, q2, q3, q4, q5, q6, q7⟩ := ok.ob r _ hr1
   obtain ⟨S1, o1, c1⟩ := own_of_closeVal ok k q5 hx
   have k1 := o1.k
   rw [List.append_nil] at k1
   have hb1 : S1.H[r]? = some (.box e n') := (k1.live (closeVal_box hx hr) (by simp)).1
   have ob1 : Own S S1 used (H1.set r .dead) [r] := ⟨o1.m, k1.kill (List.getElem?_eq_some_iff.1 hb1).1, o1.keep, by simpa using hr2, by simp, o1.len⟩
   obtain ⟨S2, o2, l2, g2⟩ := lentBack_ok (r := r + 1) ob1.m.good.ok ob1.k (fun i hi => by
     rcases List.mem_append.1 hi with hi | hi
     · have := hu i hi; omega
     · simp at hi; omega) hxs
   refine ⟨S2, ?_, by simp [l2], fun i m y hi hy => ?_⟩
   · have := ob1.trans o2
     rw [List.length_cons, List.range'_succ]
     exact this
   · cases i with
     | zero =>
       simp at hi hy
       subst hi; subst hy
       refine ⟨⟨e, by rw [Nat.add_zero, o2.keep r (by simp)]; exact hb1⟩, ve, b, T, fr, ?_, c1.mono o2.m.good.ext, ?_, ?_, ?_, ?_⟩
       · rw [Nat.add_zero, o2.m.ι, o1.m.ι]; exact q1
       · rw [o2.m.w, o1.m.w, q6]; exact q2
       · rw [q6]; exact q3
       · rw [q6]; exact q7
       · exact q5.size q4
     | succ i =>
       have := g2 i m y (by simpa using hi) (by simpa using hy)
       rw [show r + 1 + i = r + (i + 1) by omega] at this
       exact this
theorem lentOf_get : ∀ {H : Hp} {i : Nat} {e : PV} {k : Nat}, H[i]? = some (.box e k) → (lentOf H)[i]? = some k
 | [], i, e, k, h => by simp at h
 | o :: H, 0, e, k, h => by simp at h; subst h; simp [lentOf]
 | o :: H, i + 1, e, k, h => by
   have := lentOf_get (H := H) (i := i) (by simpa using h)
   cases o <;> simpa [lentOf] using this
theorem lentOf_len : ∀ {H : Hp}, (lentOf H).length = H.length
 | [] => rfl
 | o :: H => by cases o <;> simp [lentOf, lentOf_len (H := H)]
theorem finish_ok {S0 S : St} (ok : Ok S) (go : Goes S0.H.length S0 S) {env : Env} {a : Act} {fn : Func} {e : Ex} {rv : CV} {outs : List CV} (hE : EnvR S env a)
   (h : finish P fn (lentOf S0.H) e env S.H = some (rv, outs)) :
   ∃ v S' u, (results fn a.tmps).run P S.w = .ok v S.w ∧ S'.w = S.w ∧ Ok S' ∧ Keeps S0 S' ∧ AllR S' rv v u ∧ u.Nodup ∧ LentR S0 S' outs u := by
 unfold finish at h
 split at h <;> first | (cases h; done) | skip
 obtain ⟨ps, v, h1, h2, h3⟩ := results_ok ok hE h
 clear h
 split at h3 <;> first | (cases h3; done) | skip
 rename_i outs' H1 hl
 split at h3 <;> first | (cases h3; done) | skip
 rename_i rv' H2 ho
 cases h3
 obtain ⟨S1, o1, l1, g1⟩ := lentBack_ok ok (Killed.refl _) (by simp) hl
 obtain ⟨S2, u, o2, c2⟩ := ownAll_ok o1.m.good.ok o1.k (h2.mono o1.m.good.ext) ho
 refine ⟨v, S2, u, h1, by rw [o2.m.w, o1.m.w], o2.m.good.ok, (go.keeps.trans o1.m.good.keeps).trans o2.m.good.keeps, c2, o2.nodup, by rw [l1, lentOf_len], fun i e0 k x hi hx => ?_⟩
 have hk := lentOf_get hi
 have hil : i < S0.H.length := (List.getElem?_eq_some_iff.1 hi).1
 obtain ⟨⟨e1, b1⟩, ve, b, T, fr, r1, r2, r3, r4, r5, r6⟩ := g1 i k x hk hx
 rw [Nat.zero_add] at b1 r1
 have him : i ∈ [] ++ List.range' 0 (lentOf S0.H).length := by simp [List.mem_range'_1, lentOf_len, hil]
 obtain ⟨e', k', hSb, _⟩ := o1.m.good.ext.box i e1 k (by rw [← o1.len]; exact (List.getElem?_eq_some_iff.1 b1).1) b1
 obtain ⟨_, hι⟩ := go.box i e' k' hil hSb
 refine ⟨fun hm => o2.fresh i hm him, ⟨e1, by rw [o2.keep i him]; exact b1⟩, by rw [o2.m.ι, o1.m.ι, hι], ve, b, T, fr, ?_, r2.mono o2.m.good.ext, by rw [o2.m.w]; exact r3, r4, r5, r6⟩
 rw [← hι, ← o1.m.ι]; exact r1
end Go.Pv
namespace Go.Pv
open Go
variable {P : Program} {I : World → Prop} {tb : Handler}
def ofEx : Ex → Exit
 | .normal => .normal
 | .exit id => .exit id
 | .ret => .ret
def Behind (nl : Nat) (S0 : St) (I : World → Prop) (K : KX) (res : CV × List CV) (Q : Exit → Act → World → Prop) : Prop := ∀ e a w, Post nl S0 I (K e) res a w → Q (ofEx e) a w
theorem least (p : Nat → Prop) : (∃ k, p k) → ∃ k, p k ∧ ∀ j, p j → k ≤ j := by
 rintro ⟨k, hk⟩
 induction k using Nat.strongRecOn with
 | _ k ih =>
   by_cases h : ∃ j, j < k ∧ p j
   · obtain ⟨j, h1, h2⟩ := h
     exact ih j h1 h2
   · exact ⟨k, hk, fun j hj => Nat.le_of_not_lt fun hlt => h ⟨j, hlt, hj⟩⟩
open Classical in
theorem wp_rounds {c : Code} {Q : Exit → Act → World → Prop} {a : Act} {w : World} (J : Nat → Act → World → Prop) {k : Nat} (h : J k a w)
   (round : ∀ k a w, J k a w → ∃ j, j + 1 = k ∧ c.wp P (Exit.then (J j) Q) a w) : (Code.loop c).wp P Q a w := by
 let μ : Act → World → Nat := fun a w => if h : ∃ k, J k a w then Classical.choose (least (fun k => J k a w) h) else 0
 have μ1 : ∀ a w k, J k a w → J (μ a w) a w ∧ μ a w ≤ k := by
   intro a w k hk
   have he : ∃ k, J k a w := ⟨k, hk⟩
   have := Classical.choose_spec (least (fun k => J k a w) he)
   simp only [μ, dif_pos he]
   exact ⟨this.1, this.2 k hk⟩
 refine wp_loop (fun a w => ∃ k, J k a w) μ ⟨k, h⟩ ?_
 rintro a w ⟨k, hk⟩
 obtain ⟨h1, _⟩ := μ1 a w k hk
 obtain ⟨j, hj, hw⟩ := round _ a w h1
 refine wp_mono hw fun e a' w' hq => ?_
 cases e with
 | normal => exact ⟨⟨j, hq⟩, by have := (μ1 a' w' j hq).2; omega⟩
 | _ => exact hq
theorem Goes.less {n m : Nat} {S S' : St} (h : Goes m S S') (hn : n ≤ m) : Goes n S S' := ⟨h.keeps, Nat.le_trans hn h.len, h.st, fun r e' k' hr hb => h.box r e' k' (by omega) hb, fun r s' p' hr hb => h.iter r s' p' (by omega) hb, fun r xs' k' g' s' hr hb => h.row r xs' k' g' s' (by omega) hb⟩
theorem aexec_ok {nl : Nat} {S0 : St} {an : Ann} {fuel : Nat} {res : CV × List CV} (hg : OnGlobals I S0.ng) (tbl : HOk P I S0.ng tb) (han : ∀ i h, an i = some h → nl ≤ h.base) :
   ∀ (c : Code) {K : KX} {Q : Exit → Act → World → Prop} {S : St} {env : Env} {a : Act}, Ok S → Goes nl S0 S → I S.w → EnvR S env a → a.defers = [] → Behind nl S0 I K res Q →
     aexec P tb an fuel c env S.H K = some res → c.wp P Q a S.w := by
 intro c
 induction c with
 | skip => intro K Q S env a ok go hI hE hd hQ h; exact wp_skip (hQ .normal _ _ ⟨S, env, rfl, ok, go, hI, hE, hd, h⟩)
 | label l => intro K Q S env a ok go hI hE hd hQ h; exact wp_label (hQ .normal _ _ ⟨S, env, rfl, ok, go, hI, hE, hd, h⟩)
 | exit id => intro K Q S env a ok go hI hE hd hQ h; exact wp_exit (hQ (.exit id) _ _ ⟨S, env, rfl, ok, go, hI, hE, hd, h⟩)
 | ret => intro K Q S env a ok go hI hE hd hQ h; exact wp_ret (hQ .ret _ _ ⟨S, env, rfl, ok, go, hI, hE, hd, h⟩)
 | region id ops draw =>
   intro K Q S env a ok go hI hE hd hQ h
   unfold aexec at h
   unfold atHead at h
   split at h
   · exact region_ok (hQ .normal) go ok (by rw [go.keeps.ng]; exact hg) hI (by rw [go.keeps.ng]; exact tbl) hE hd h
   rename_i hdr hh
   have hbase := han _ hdr hh
   split at h <;> first | (cases h; done) | skip
   rename_i env1 H1 he
   obtain ⟨S1, rfl, e2, ok1, go1, hE1⟩ := enterHead_ok ok hE he
   rw [← e2]
   have go2 := go.trans (go1.less hbase)
   exact region_ok (hQ .normal) go2 ok1 (by rw [go2.keeps.ng]; exact hg) (by rw [e2]; exact hI) (by rw [go2.keeps.ng]; exact tbl) hE1 hd h
 | seq x y ihx ihy =>
   intro K Q S env a ok go hI hE hd hQ h
   unfold aexec at h
   refine wp_seq (ihx ok go hI hE hd ?_ h)
   rintro e a' w' ⟨S', env', rfl, ok', go', hI', hE', hd', hk⟩
   cases e with
   | normal => exact ihy ok' go' hI' hE' hd' hQ hk
   | exit id => exact hQ (.exit id) _ _ ⟨S', env', rfl, ok', go', hI', hE', hd', hk⟩
   | ret => exact hQ .ret _ _ ⟨S', env', rfl, ok', go', hI', hE', hd', hk⟩
 | cond c x y ihx ihy =>
   intro K Q S env a ok go hI hE hd hQ h
   unfold aexec at h
   split at h <;> first | (cases h; done) | skip
   rename_i t ht
   have hv : a.eval c = .bool t := bool_of (ht ▸ evl_ok hE c)
   refine wp_cond hv ?_
   split at h
   · rename_i s
     have hs : env[s]? = some (.c (.bool t)) := by
       simp only [evl, List.getD_eq_getElem?_getD] at ht
       cases he : env[s]? with
       | none => rw [he] at ht; cases ht
       | some p => rw [he] at ht; exact congrArg some ht
     have hb := bool_at hE hs
     have hset : EnvR S (env.set s (.c (.bool t))) a := set_ok hE hb (Vb ..)
     rcases bif_some h with ⟨rfl, h'⟩ | ⟨rfl, h'⟩
     · exact ihx ok go hI hset hd hQ h'
     · exact ihy ok go hI hset hd hQ h'
   · rcases bif_some h with ⟨rfl, h'⟩ | ⟨rfl, h'⟩
     · exact ihx ok go hI hE hd hQ h'
     · exact ihy ok go hI hE hd hQ h'
 | block id b ih =>
   intro K Q S env a ok go hI hE hd hQ h
   unfold aexec at h
   refine wp_block (ih ok go hI hE hd ?_ h)
   rintro e a' w' ⟨S', env', rfl, ok', go', hI', hE', hd', hk⟩
   cases e with
   | normal => exact hQ .normal _ _ ⟨S', env', rfl, ok', go', hI', hE', hd', hk⟩
   | ret => exact hQ .ret _ _ ⟨S', env', rfl, ok', go', hI', hE', hd', hk⟩
   | exit id' =>
     show (if id' = id then Q .normal a' S'.w else Q (.exit id') a' S'.w)
     dsimp only at hk
     split
     · rename_i e; rw [if_pos e] at hk; exact hQ .normal _ _ ⟨S', env', rfl, ok', go', hI', hE', hd', hk⟩
     · rename_i e; rw [if_neg e] at hk; exact hQ (.exit id') _ _ ⟨S', env', rfl, ok', go', hI', hE', hd', hk⟩
 | loop b ih =>
   intro K Q S env a ok go hI hE hd hQ h
   unfold aexec at h
   split at h
   · refine wp_rounds (fun k a w => ∃ S' env', S'.w = w ∧ Ok S' ∧ Goes nl S0 S' ∧ I S'.w ∧ EnvR S' env' a ∧ a.defers = [] ∧ aloop (fun env H => some (env, H)) (fun env H K => aexec P tb an fuel b env H K) k env' S'.H K = some res) ⟨S, env, rfl, ok, go, hI, hE, hd, h⟩ ?_
     rintro k a' w' ⟨S', env', rfl, ok', go', hI', hE', hd', hk⟩
     cases k with
     | zero => simp [aloop] at hk
     | succ k =>
       refine ⟨k, rfl, ?_⟩
       simp only [aloop] at hk
       refine ih ok' go' hI' hE' hd' ?_ hk
       rintro e a2 w2 ⟨S2, env2, rfl, ok2, go2, hI2, hE2, hd2, hk2⟩
       cases e with
       | normal => exact ⟨S2, env2, rfl, ok2, go2, hI2, hE2, hd2, hk2⟩
       | exit id => exact hQ (.exit id) _ _ ⟨S2, env2, rfl, ok2, go2, hI2, hE2, hd2, hk2⟩
       | ret => exact hQ .ret _ _ ⟨S2, env2, rfl, ok2, go2, hI2, hE2, hd2, hk2⟩
   rename_i hdr hh
   have hbase : nl ≤ hdr.base := by
     cases hf : firstRegion b with
     | none => rw [hf] at hh; cases hh
     | some i => rw [hf] at hh; exact han i hdr hh
   refine wp_rounds (fun k a w => ∃ S' env', S'.w = w ∧ Ok S' ∧ Goes nl S0 S' ∧ I S'.w ∧ EnvR S' env' a ∧ a.defers = [] ∧ aloop (enterHead hdr) (fun env H K => aexec P tb an fuel b env H K) k env' S'.H K = some res) ⟨S, env, rfl, ok, go, hI, hE, hd, h⟩ ?_
   rintro k a' w' ⟨S', env', rfl, ok', go', hI', hE', hd', hk⟩
   cases k with
   | zero => simp [aloop] at hk
   | succ k =>
     refine ⟨k, rfl, ?_⟩
     simp only [aloop] at hk
     split at hk <;> first | (cases hk; done) | skip
     rename_i env1 H1 he
     obtain ⟨S1, rfl, e2, ok1, go1, hE1⟩ := enterHead_ok ok' hE' he
     rw [← e2]
     refine ih ok1 (go'.trans (go1.less hbase)) (by rw [e2]; exact hI') hE1 hd' ?_ hk
     rintro e a2 w2 ⟨S2, env2, rfl, ok2, go2, hI2, hE2, hd2, hk2⟩
     cases e with
     | normal => exact ⟨S2, env2, rfl, ok2, go2, hI2, hE2, hd2, hk2⟩
     | exit id => exact hQ (.exit id) _ _ ⟨S2, env2, rfl, ok2, go2, hI2, hE2, hd2, hk2⟩
     | ret => exact hQ .ret _ _ ⟨S2, env2, rfl, ok2, go2, hI2, hE2, hd2, hk2⟩
 | _ => intro K Q S env a ok go hI hE hd hQ h; unfold aexec at h; cases h
theorem entry_env {S : St} {ps : List PV} {vals : Array Value} (n : Nat) (h : All2 (Vr S) ps vals.toList) : EnvR S (ps ++ List.replicate (n - ps.length) .undef) { tmps := vals ++ Array.replicate (n - vals.size) undef, defers := [] } := by
 show All2 (Vr S) _ (vals ++ Array.replicate (n - vals.size) undef).toList
 rw [Array.toList_append, Array.toList_replicate]
 have hl : ps.length = vals.size := by simpa using h.length
 rw [hl]
 have : ∀ m, All2 (Vr S) (List.replicate m PV.undef) (List.replicate m undef) := by
   intro m
   induction m with
   | zero => exact .nil
   | succ m ih => exact .cons (.undef _) ih
 exact All2.append h (this _)
theorem contract_of {f : FuncId} {F : Fn1} {ng : Nat} (an : Ann) (hg : OnGlobals I ng) (tbl : HOk P I ng tb)
   (h : ∀ cargs rv outs, picked (F cargs) = some (rv, outs) → ∃ fuel, abody P tb an fuel f cargs = some (rv, outs)) : Contract P I ng f F := by
 intro cargs rv outs hF S vals hH ok hng hI hv
 subst hng
 obtain ⟨fuel, hb⟩ := h cargs rv outs hF
 clear h hF
 unfold abody at hb
 split at hb <;> first | (cases hb; done) | skip
 rename_i fn hf
 split at hb <;> first | (cases hb; done) | skip
 rename_i body hbd
 split at hb
 rename_i ps H ho
 rw [ho] at hH hv
 simp only at hH hv
 subst hH
 refine calls_of_wp hf hbd (aexec_ok (nl := S.H.length) (S0 := S) hg tbl (fun i h hi => ?_) body ok (Goes.refl (Nat.le_refl _)) hI (entry_env _ hv) rfl ?_ hb)
 · cases hai : an i with
   | none => simp [filt, hai] at hi
   | some h' =>
     simp only [filt, hai, Option.filter_some] at hi
     split at hi
     · rename_i hc
       cases hi
       simpa using hc
     · cases hi
 · rintro e a w ⟨S', env', rfl, ok', go', hI', hE', hd', hk⟩
   have := finish_ok ok' go' hE' hk
   obtain ⟨v, S2, u, h1, h2, h3, h4, h5, h6, h7⟩ := this
   have key : a.defers = [] ∧ ∃ v, (results fn a.tmps).run P S'.w = .ok v S'.w ∧ ∃ v' S'' u, Ending.returned v = .returned v' ∧ S''.w = S'.w ∧ Ok S'' ∧ Keeps S S'' ∧ I S'.w ∧ AllR S'' rv v' u ∧ u.Nodup ∧ LentR S S'' outs u :=
     ⟨hd', v, h1, v, S2, u, rfl, h2, h3, h4, hI', h5, h6, h7⟩
   cases e with
   | normal => exact key
   | ret => exact key
   | exit id => simp [finish] at hk
end Go.Pv
namespace Go.Pv
open Go
variable {P : Program} {I : World → Prop}
def Known (P : Program) (I : World → Prop) (ng : Nat) (tb : Table) : Prop := ∀ f, Contract P I ng f (tb f)
def noTable : Table := fun _ _ => none
theorem known_no {ng : Nat} : Known P I ng noTable := fun f cargs rv outs h => by cases h
def addF (tb : Table) (f : FuncId) (F : Fn1) : Table := fun g => if Nat.beq g f then F else tb g
theorem known_add {ng : Nat} {tb : Table} {f : FuncId} {F : Fn1} (h : Known P I ng tb) (hF : Contract P I ng f F) : Known P I ng (addF tb f F) := by
 intro g
 unfold addF
 split
 · rename_i e
   obtain rfl := Nat.eq_of_beq_eq_true e
   exact hF
 · exact h g
def bodyF (P : Program) (tb : Table) (an : Ann) (fuel : Nat) (f : FuncId) : Fn1 := fun cargs =>
 match abody P (call' tb) an fuel f cargs with
 | some (rv, outs) => some [(true, rv, outs)]
 | none => none
def annOf (l : List (Nat × Head)) : Ann := fun i => match l with
 | [] => none
 | (j, h) :: l => if Nat.beq i j then some h else annOf l i
def bodies (P : Program) (fuel : Nat) : List (FuncId × List (Nat × Head)) → Table → Table
 | [], tb => tb
 | (f, an) :: l, tb => addF (bodies P fuel l tb) f (bodyF P (bodies P fuel l tb) (annOf an) fuel f)
end Go.Pv
namespace Go.Pv
open Go
theorem aloop_rounds {P : Program} {tb : Handler} {an : Ann} {fuel : Nat} {hd : Head} {b : Code} {K : KX} : ∀ (k : Nat) (env : Env) (H : Hp), aloop (enterHead hd) (fun env H K => aexec P tb an fuel b env H K) k env H K = headK hd (fun env H => rounds P tb an fuel hd b k env H K) env H
 | 0, env, H => by
   unfold aloop headK
   split <;> rfl
 | k + 1, env, H => by
   unfold aloop headK
   split
   · rfl
   · rename_i e H1 he
     show aexec P tb an fuel b e H1 _ = aexec P tb an fuel b e H1 _
     congr 1
     funext x env H
     cases x
     · exact aloop_rounds k env H
     · rfl
     · rfl
theorem roundsOf_succ {P : Program} {tb : Handler} {an : Ann} {fuel : Nat} {hd : Head} {c : Code} {k : Nat} {env : Env} {H : Hp} {K : KX} : roundsOf P tb an fuel hd c (k + 1) env H K = round P tb an fuel hd c env H (fun env H => roundsOf P tb an fuel hd c k env H K) K := rfl
theorem loopAt_eq {P : Program} {tb : Handler} {an : Ann} {fuel : Nat} {hd : Head} {c : Code} {env : Env} {H : Hp} {K : KX} : loopAt P tb an fuel hd c env H K = headK hd (fun env H => roundsOf P tb an fuel hd c fuel env H K) env H := aloop_rounds ..
end Go.Pv
namespace Go.Pv
open Go
variable {P : Program} {I : World → Prop} {tb : Handler}
theorem aops_strict (hs : HS tb) {ops : Array Oper} : ∀ (l : List Nat) (env : Env) (H : Hp), aops P tb ops l env H (fun _ _ => none) = none
 | [], env, H => rfl
 | i :: l, env, H => by
   cases ho : ops[i]? with
   | none =>
     rw [aops]
     simp only [ho]
     exact aops_strict hs l env H
   | some o =>
     rw [aops_cons ho]
     have : (fun p H' => aops P tb ops l (putE env o.dst p) H' (fun _ _ => none)) = fun _ _ => none := by
       funext p H'
       exact aops_strict hs l _ _
     rw [this]
     exact act_strict hs
theorem toNone (F : KX → Res) (h : F (fun _ _ _ => none) = none) {K : KX} (hK : ∀ e env H, K e env H = none) : F K = none := by
 have : K = fun _ _ _ => none := by
   funext e env H
   exact hK e env H
 rw [this]; exact h
theorem toNoneV (F : KV → Res) (h : F (fun _ _ => none) = none) {K : KV} (hK : ∀ p H, K p H = none) : F K = none := by
 have : K = fun _ _ => none := by
   funext p H
   exact hK p H
 rw [this]; exact h
theorem aloop_strict {hd : Env → Hp → Option (Env × Hp)} {body : Env → Hp → KX → Res} (hb : ∀ env H, body env H (fun _ _ _ => none) = none) : ∀ (k : Nat) (env : Env) (H : Hp), aloop hd body k env H (fun _ _ _ => none) = none
 | 0, env, H => rfl
 | k + 1, env, H => by
   simp only [aloop]
   split
   · rfl
   · rename_i e1 H1 he
     refine toNone (body e1 H1) (hb e1 H1) fun e env H => ?_
     cases e
     · exact aloop_strict hb k env H
     · rfl
     · rfl
theorem aexec_strict (hs : HS tb) {an : Ann} {fuel : Nat} : ∀ (c : Code) (env : Env) (H : Hp), aexec P tb an fuel c env H (fun _ _ _ => none) = none := by
 intro c
 induction c with
 | skip => intro env H; rfl
 | label l => intro env H; rfl
 | exit id => intro env H; rfl
 | ret => intro env H; rfl
 | region id ops draw =>
   intro env H
   unfold aexec atHead
   have h1 : ∀ env H, (if draw && !drawOk P ops env then none else aops P tb ops (List.range ops.size) env H fun _ _ => none) = none := fun env H => by
     split
     · rfl
     · exact aops_strict hs _ _ _
   split
   · exact h1 _ _
   · split
     · rfl
     · exact h1 _ _
 | seq a b iha ihb =>
   intro env H
   unfold aexec
   refine toNone (aexec P tb an fuel a env H) (iha env H) fun e env H => ?_
   cases e
   · exact ihb env H
   · rfl
   · rfl
 | cond c a b iha ihb =>
   intro env H
   unfold aexec
   split
   · split
     · rw [iha, ihb]; exact bif_none _
     · rw [iha, ihb]; exact bif_none _
   · rfl
 | block id b ih =>
   intro env H
   unfold aexec
   refine toNone (aexec P tb an fuel b env H) (ih env H) fun e env H => ?_
   cases e
   · rfl
   · dsimp only; split <;> rfl
   · rfl
 | loop b ih =>
   intro env H
   unfold aexec
   split
   · exact aloop_strict (fun env H => ih env H) _ _ _
   · exact aloop_strict (fun env H => ih env H) _ _ _
 | _ => intro env H; rfl
theorem load_strict {t : TypeId} {a : PV} {H : Hp} : load' P t a H (fun _ _ => none) = none := by
 rcases load_nf (P := P) (t := t) (a := a) (H := H) with ⟨p, hp⟩ | hn
 · rw [hp]
 · rw [hn]
theorem resVals_strict : ∀ (rs : List ResultVar) (env : Env) (H : Hp), resVals P rs env H (fun _ => none) = none
 | [], env, H => rfl
 | .tmp t :: rs, env, H => by
   simp only [resVals]
   exact resVals_strict rs env H
 | .cell a t :: rs, env, H => by
   simp only [resVals]
   exact toNoneV (load' P t (env.getD a .undef) H) load_strict fun p H' => resVals_strict rs env H
theorem inl_strict (hs : HS tb) {an : Ann} {fuel : Nat} (f : FuncId) (args : List PV) (H : Hp) : inl P tb an fuel f args H (fun _ _ => none) = none := by
 unfold inl
 split
 · rfl
 split
 · rename_i fn hf
   split
   · rename_i body hb
     refine toNone (aexec P tb (filt an H.length) fuel body _ H) (aexec_strict hs _ _ _) fun e env H => ?_
     cases e
     · exact resVals_strict _ _ _
     · rfl
     · exact resVals_strict _ _ _
   · rfl
 · rfl
theorem filt_base {an : Ann} {n : Nat} : ∀ i h, filt an n i = some h → n ≤ h.base := by
 intro i h hi
 cases hai : an i with
 | none => simp [filt, hai] at hi
 | some h' =>
   simp only [filt, hai, Option.filter_some] at hi
   split at hi
   · rename_i hc
     cases hi
     simpa using hc
   · cases hi
theorem inl_ok {ng : Nat} {an : Ann} {fuel : Nat} (hg : OnGlobals I ng) (tbl : HOk P I ng tb) {f : FuncId} {S : St} {args : List PV} {vals : Array Value} {K : KV} {res : CV × List CV} (ok : Ok S) (hng : S.ng = ng) (hI : I S.w) (hv : All2 (Vr S) args vals.toList) (h : inl P tb an fuel f args S.H K = some res) :
   Calls P f vals S.w fun e w' => ∃ v S' p, e = .returned v ∧ S'.w = w' ∧ Good S S' ∧ I S'.w ∧ Vr S' p v ∧ K p S'.H = some res := by
 subst hng
 unfold inl at h
 split at h <;> first | (cases h; done) | skip
 split at h <;> first | (cases h; done) | skip
 rename_i fn hf
 split at h <;> first | (cases h; done) | skip
 rename_i body hbd
 refine calls_of_wp hf hbd (aexec_ok (nl := S.H.length) (S0 := S) hg tbl filt_base body ok (Goes.refl (Nat.le_refl _)) hI (entry_env _ hv) rfl ?_ h)
 rintro e a w ⟨S', env', rfl, ok', go', hI', hE', hd', hk⟩
 have G : Good S S' := ⟨ok', go'.ext, go'.keeps⟩
 have key : resVals P fn.results.toList env' S'.H (fun ps => K (match ps with | [p] => p | ps => .tup ps) S'.H) = some res →
     a.defers = [] ∧ ∃ v, (results fn a.tmps).run P S'.w = .ok v S'.w ∧ ∃ v' S'' p, Ending.returned v = .returned v' ∧ S''.w = S'.w ∧ Good S S'' ∧ I S''.w ∧ Vr S'' p v' ∧ K p S''.H = some res := by
   intro hk
   obtain ⟨ps, v, h1, h2, h3⟩ := results_ok ok' hE' hk
   exact ⟨hd', v, h1, v, S', _, rfl, rfl, G, hI', h2, h3⟩
 cases e with
 | normal => exact key hk
 | ret => exact key hk
 | exit id => cases hk
theorem allCV_map : ∀ cs : List CV, allCV (cs.map .c) = true
 | [] => rfl
 | _ :: l => allCV_map l
theorem inls_ok {ng : Nat} {an : Ann} {fuel : Nat} (hg : OnGlobals I ng) (tbl : HOk P I ng tb) : ∀ (l : List FuncId), HOk P I ng (inls P an fuel l tb)
 | [] => tbl
 | f :: l => {
   call := fun {g S args vals K res} ok hng hI hv h => by
     have ih := inls_ok (an := an) (fuel := fuel) hg tbl l
     simp only [inls] at h
     split at h
     · rename_i e
       obtain rfl := Nat.eq_of_beq_eq_true e
       exact inl_ok hg ih ok hng hI hv h
     · exact ih.call ok hng hI hv h
   strict := fun g args H => by
     have ih := inls_ok (an := an) (fuel := fuel) hg tbl l
     simp only [inls]
     split
     · exact inl_strict ih.hs _ _ _
     · exact ih.strict _ _ _
   pure := fun g cs hn => by
     have ih := inls_ok (an := an) (fuel := fuel) hg tbl l
     simp only [inls]
     split
     · refine .inr fun H K => ?_
       unfold inl
       exact if_pos (allCV_map cs)
     · exact ih.pure _ _ hn }
end Go.Pv
namespace Go.Pv
open Go
variable {P : Program} {I : World → Prop}
def bodyI (P : Program) (tb : Handler) (fuel : Nat) (f : FuncId) : Fn1 := fun cargs =>
 match abody P tb (fun _ => none) fuel f cargs with
 | some (rv, outs) => some [(true, rv, outs)]
 | none => none
theorem contract_bodyI {ng : Nat} {tb : Handler} {fuel : Nat} {f : FuncId} (hg : OnGlobals I ng) (h : HOk P I ng tb) : Contract P I ng f (bodyI P tb fuel f) :=
 contract_of _ hg h fun cargs rv outs hF => by
   unfold bodyI at hF
   cases hb : abody P tb (fun _ => none) fuel f cargs with
   | none => rw [hb] at hF; cases hF
   | some r =>
     obtain ⟨rv', outs'⟩ := r
     rw [hb] at hF
     cases hF
     exact ⟨fuel, hb⟩
def bodiesI (P : Program) (fuel : Nat) (il : List FuncId) : List FuncId → Table → Table
 | [], tb => tb
 | f :: l, tb => addF (bodiesI P fuel il l tb) f (bodyI P (inls P (fun _ => none) fuel il (call' (bodiesI P fuel il l tb))) fuel f)
theorem known_bodiesI {ng : Nat} {fuel : Nat} {il : List FuncId} {tb : Table} (hg : OnGlobals I ng) (h : Known P I ng tb) : ∀ l, Known P I ng (bodiesI P fuel il l tb)
 | [] => h
 | f :: l => known_add (known_bodiesI hg h l) (contract_bodyI hg (inls_ok hg (hok_of (known_bodiesI hg h l)) il))
theorem openArgs_data : ∀ {cargs : List CV}, noBox cargs = true → ∀ H, openArgs cargs H = (cargs.map .c, H)
 | [], _, H => rfl
 | v :: l, h, H => by
   have h1 : openArg v H = (.c v, H) := by cases v <;> first | rfl | (simp [noBox] at h; done)
   have h2 : noBox l = true := by cases v <;> first | exact h | (simp [noBox] at h; done)
   simp only [openArgs, h1, openArgs_data h2, List.map_cons]
def isData (rv : CV) (v : Value) : Prop := (∀ S : St, Vc S rv v) ∨ ∃ xs vs, rv = .tup xs ∧ v = .tuple vs ∧ ∀ S : St, All2 (Vc S) xs vs.toList
theorem tup_data {S : St} : ∀ {xs : List CV} {vs : List Value}, All2 (Vc S) xs vs → TupR S xs vs []
 | _, _, .nil => .nil
 | _, _, .cons h1 h2 => TupR.cons (u := []) (us := []) (.val (.cell (.data h1))) (tup_data h2)
theorem contract_pure {f : FuncId} {F : Fn1} {ng : Nat} (hg : OnGlobals I ng)
   (h : ∀ cargs rv outs, picked (F cargs) = some (rv, outs) → outs = [] ∧ noBox cargs = true ∧ ∀ (S : St) (vals : Array Value), Ok S → All2 (Vc S) cargs vals.toList →
     Calls P f vals S.w fun e w' => ∃ v, e = .returned v ∧ isData rv v ∧ RowKit.Below S.w.heap.size S.w w') : Contract P I ng f F := by
 intro cargs rv outs hF S vals hH ok hng hI hv
 obtain ⟨rfl, hb, h⟩ := h cargs rv outs hF
 rw [openArgs_data hb] at hH hv
 refine (h S vals ok (c_list hv)).mono ?_
 rintro e w' ⟨v, rfl, hd, B⟩
 have hι : ∀ r, S.ι r = none := fun r => ok.out r (by rw [hH]; exact Nat.zero_le _)
 let S' : St := { S with w := w' }
 have K : Keeps S S' := ⟨B.os, B.tape, B.output, B.size, fun b hb _ => B.block b hb, fun r b hr => .inl ⟨r, hr⟩, rfl, rfl, rfl⟩
 have ok' : Ok S' := by
   refine ⟨fun r o hr => ?_, fun r _ => hι r, fun r r' b h1 _ => ?_, fun r b h1 => ?_, fun r b off h1 => ?_, ok.forb, Nat.le_trans ok.n0 B.size, fun r b h1 => ?_, ok.ng⟩
   · have hr' : S.H[r]? = some o := hr
     rw [hH] at hr'; simp at hr'
   all_goals
     have h1' : S.ι r = some b := h1
     rw [hι] at h1'; cases h1'
 refine ⟨v, S', [], rfl, rfl, ok', K, ?_, ?_, List.nodup_nil, ⟨by rw [hH]; rfl, fun i e k x hi => ?_⟩⟩
 · have := K.inv (I := I) ok (by rw [hng]; exact hg) hI
   exact this
 · rcases hd with hd | ⟨xs, vs, rfl, rfl, hd⟩
   · exact .res (.val (.cell (.data (hd S'))))
   · exact .tup (tup_data (hd S'))
 · rw [hH] at hi; simp at hi
end Go.Pv
namespace Go.Pv
open Go
def nLoops : Code → Nat
 | .seq a b => nLoops a + nLoops b
 | .cond _ a b => nLoops a + nLoops b
 | .block _ b => nLoops b
 | .loop _ => 1
 | _ => 0
def cutN : Nat → Code → Code
 | n, .seq a b => .seq (cutN n a) (cutN (n + nLoops a) b)
 | n, .cond x a b => .cond x (cutN n a) (cutN (n + nLoops a) b)
 | n, .block id b => .block id (cutN n b)
 | n, .loop _ => .exit (1000000 + n)
 | _, c => c
def bodyN : Nat → Code → Code
 | n, .seq a b => if n < nLoops a then bodyN n a else bodyN (n - nLoops a) b
 | n, .cond _ a b => if n < nLoops a then bodyN n a else bodyN (n - nLoops a) b
 | n, .block _ b => bodyN n b
 | _, .loop b => b
 | _, _ => .skip
def restN (P : Program) (tb : Handler) (an : Ann) (fuel : Nat) : Nat → Code → KX → KX
 | n, .seq a b, K => if n < nLoops a then restN P tb an fuel n a (thenK (fun env H => aexec P tb an fuel b env H K) K) else restN P tb an fuel (n - nLoops a) b K
 | n, .cond _ a b, K => if n < nLoops a then restN P tb an fuel n a K else restN P tb an fuel (n - nLoops a) b K
 | n, .block id b, K => restN P tb an fuel n b (blockK id K)
 | _, _, K => K
def cutNK (L : Nat → Env → Hp → Res) (K : KX) : KX := fun e env H => match e with
 | .exit id => if Nat.ble 1000000 id then L (id - 1000000) env H else K (.exit id) env H
 | e => K e env H
def idsOk : Code → Bool
 | .seq a b => idsOk a && idsOk b
 | .cond _ a b => idsOk a && idsOk b
 | .block id b => Nat.blt id 1000000 && idsOk b
 | .loop b => idsOk b
 | .exit id => Nat.blt id 1000000
 | _ => true
def parts (P : Program) (tb : Handler) (an : Ann) (fuel : Nat) (c : Code) (env : Env) (H : Hp) (L : Nat → Env → Hp → Res) (K : KX) : Res := aexec P tb an fuel (cutN 0 c) env H (cutNK L K)
theorem ble_iff {a b : Nat} : Nat.ble a b = true ↔ a ≤ b := ⟨Nat.le_of_ble_eq_true, Nat.ble_eq_true_of_le⟩
theorem cut_eq {P : Program} {tb : Handler} {an : Ann} {fuel : Nat} {L : Nat → Env → Hp → Res} : ∀ (c : Code) (n : Nat) (K : KX) (env : Env) (H : Hp), idsOk c = true →
   (∀ i env H, i < nLoops c → L (n + i) env H = aexec P tb an fuel (.loop (bodyN i c)) env H (restN P tb an fuel i c K)) →
   aexec P tb an fuel c env H K = aexec P tb an fuel (cutN n c) env H (cutNK L K) := by
 intro c
 induction c with
 | seq a b iha ihb =>
   intro n K env H ho hL
   simp only [idsOk, Bool.and_eq_true] at ho
   have hb : ∀ env H, aexec P tb an fuel b env H K = aexec P tb an fuel (cutN (n + nLoops a) b) env H (cutNK L K) := fun env H => ihb _ K env H ho.2 fun i env H hi => by
     rw [Nat.add_assoc, hL (nLoops a + i) env H (by simp only [nLoops]; omega)]
     simp only [bodyN, restN, if_neg (show ¬ nLoops a + i < nLoops a by omega), Nat.add_sub_cancel_left]
   have ha := iha n (thenK (fun env H => aexec P tb an fuel b env H K) K) env H ho.1 fun i env H hi => by
     rw [hL i env H (by simp only [nLoops]; omega)]
     simp only [bodyN, restN, if_pos hi]
   have e1 : aexec P tb an fuel (.seq a b) env H K = aexec P tb an fuel a env H (thenK (fun env H => aexec P tb an fuel b env H K) K) := by
     show aexec P tb an fuel a env H _ = aexec P tb an fuel a env H _
     congr 1
   rw [e1, ha]
   show aexec P tb an fuel (cutN n a) env H _ = aexec P tb an fuel (cutN n a) env H _
   congr 1
   funext e env H
   cases e with
   | normal => exact hb env H
   | exit id =>
     simp only [cutNK]
     split <;> rfl
   | ret => rfl
 | cond x a b iha ihb =>
   intro n K env H ho hL
   simp only [idsOk, Bool.and_eq_true] at ho
   have hb : ∀ env H, aexec P tb an fuel b env H K = aexec P tb an fuel (cutN (n + nLoops a) b) env H (cutNK L K) := fun env H => ihb _ K env H ho.2 fun i env H hi => by
     rw [Nat.add_assoc, hL (nLoops a + i) env H (by simp only [nLoops]; omega)]
     simp only [bodyN, restN, if_neg (show ¬ nLoops a + i < nLoops a by omega), Nat.add_sub_cancel_left]
   have ha : ∀ env H, aexec P tb an fuel a env H K = aexec P tb an fuel (cutN n a) env H (cutNK L K) := fun env H => iha n K env H ho.1 fun i env H hi => by
     rw [hL i env H (by simp only [nLoops]; omega)]
     simp only [bodyN, restN, if_pos hi]
   simp only [cutN, aexec, ha, hb]
 | block id b ih =>
   intro n K env H ho hL
   simp only [idsOk, Bool.and_eq_true] at ho
   have hid : id < 1000000 := by
     have := ho.1
     unfold Nat.blt at this
     have := Nat.le_of_ble_eq_true this
     omega
   have e1 : ∀ K' : KX, ∀ c, aexec P tb an fuel (.block id c) env H K' = aexec P tb an fuel c env H (blockK id K') := by
     intro K' c
     show aexec P tb an fuel c env H _ = aexec P tb an fuel c env H _
     congr 1
   rw [e1, ih n (blockK id K) env H ho.2 fun i env H hi => by
     rw [hL i env H hi]
     rfl]
   show _ = aexec P tb an fuel (.block id (cutN n b)) env H _
   rw [e1]
   congr 1
   funext e env H
   cases e with
   | normal => rfl
   | ret => rfl
   | exit id' =>
     simp only [cutNK, blockK]
     by_cases hbig : 1000000 ≤ id'
     · have h1 : Nat.ble 1000000 id' = true := ble_iff.2 hbig
       simp only [h1, if_true, if_neg (show ¬ id' = id by omega)]
     · have h1 : ¬ Nat.ble 1000000 id' = true := fun h => hbig (ble_iff.1 h)
       simp only [if_neg h1]
 | loop b ih =>
   intro n K env H ho hL
   have h0 : L n env H = aexec P tb an fuel (.loop b) env H K := hL 0 env H Nat.zero_lt_one
   have h1 : Nat.ble 1000000 (1000000 + n) = true := ble_iff.2 (Nat.le_add_right _ _)
   have h2 : aexec P tb an fuel (cutN n (.loop b)) env H (cutNK L K) = if Nat.ble 1000000 (1000000 + n) then L (1000000 + n - 1000000) env H else K (.exit (1000000 + n)) env H := rfl
   rw [h2, if_pos h1, Nat.add_sub_cancel_left, h0]
 | exit id =>
   intro n K env H ho hL
   simp only [cutN, aexec, cutNK]
   simp only [idsOk] at ho
   have hid : id < 1000000 := by
     unfold Nat.blt at ho
     have := Nat.le_of_ble_eq_true ho
     omega
   rw [if_neg (by rw [ble_iff]; omega)]
 | region id ops draw =>
   intro n K env H ho hL
   simp only [cutN, aexec]
   rfl
 | skip => intro n K env H ho hL; rfl
 | label l => intro n K env H ho hL; rfl
 | ret => intro n K env H ho hL; rfl
 | _ => intro n K env H ho hL; rfl
theorem loop_eq {P : Program} {tb : Handler} {an : Ann} {fuel : Nat} {b : Code} {env : Env} {H : Hp} {K : KX} {hd : Head} (h : (firstRegion b).bind an = some hd) :
   aexec P tb an fuel (.loop b) env H K = headK hd (fun env H => rounds P tb an fuel hd b fuel env H K) env H := by
 rw [← aloop_rounds]
 simp only [aexec, h]
theorem rounds_succ {P : Program} {tb : Handler} {an : Ann} {fuel : Nat} {hd : Head} {b : Code} {k : Nat} {env : Env} {H : Hp} {K : KX} :
   rounds P tb an fuel hd b (k + 1) env H K = aexec P tb an fuel b env H (thenK (headK hd fun env H => rounds P tb an fuel hd b k env H K) K) := rfl
end Go.Pv
namespace Go.Pv
open Go
theorem bif_dec {α : Type} {p : Prop} [Decidable p] (x y : Option α) : bif' (decide p) x y = if p then x else y := by
 by_cases h : p
 · rw [if_pos h, decide_eq_true h]; rfl
 · rw [if_neg h, decide_eq_false h]; rfl
theorem bif_t {α : Type} {b : Bool} (x y : Option α) (h : b = true) : bif' b x y = x := by subst h; rfl
theorem bif_f {α : Type} {b : Bool} (x y : Option α) (h : b = false) : bif' b x y = y := by subst h; rfl
theorem bif_b {α : Type} (b : Bool) (x y : Option α) : bif' b x y = if b = true then x else y := by cases b <;> rfl
theorem fits_small {n : Nat} (h : n ≤ 100000) : fitsS n = true := Nat.ble_eq_true_of_le (by omega)
theorem wrp {i k : Nat} (h : i ≤ 100000) (hk : k ≤ 100000) : IntKind.i64.wrap ((i : Int) + (k : Int)) = ((i + k : Nat) : Int) := by
 rw [wrap_id (by omega) (by omega)]; omega
theorem wrm {i : Nat} (h : i ≤ 100000) : IntKind.i64.wrap (((i + 1 : Nat) : Int) - 1) = (i : Int) := by
 rw [wrap_id (by omega) (by omega)]; omega
def mkS (l : List UInt8) : ByteArray := ⟨l.toArray⟩
theorem mkS_data (l : List UInt8) : (mkS l).data.toList = l := rfl
theorem mkS_bl (s : ByteArray) : mkS s.data.toList = s := by
 apply ByteArray.ext; simp [mkS]
theorem mkS_inj {a b : List UInt8} (h : mkS a = mkS b) : a = b := by
 have := congrArg (fun s => s.data.toList) h
 exact this
theorem mkS_size (l : List UInt8) : (mkS l).size = l.length := rfl
theorem mkS_app (a b : List UInt8) : mkS a ++ mkS b = mkS (a ++ b) := by
 apply ByteArray.ext
 rw [ByteArray.data_append]
 simp [mkS]
theorem mkS_ext (l : List UInt8) (a b : Nat) : (mkS l).extract a b = mkS ((l.drop a).take (b - a)) := by
 apply ByteArray.ext
 rw [ByteArray.data_extract]
 apply Array.ext'
 rw [Array.toList_extract, List.extract_eq_take_drop]
 rfl
theorem mkS_at (l : List UInt8) (i : Nat) : byteAt (mkS l) i = ((l.getD i 0).toNat : Int) := rfl
theorem mk_lit (p : Array UInt8) : ByteArray.mk p = mkS p.toList := by simp [mkS]
theorem toList_loop (s : ByteArray) : ∀ (n i : Nat) (r : List UInt8), s.size - i = n → ByteArray.toList.loop s i r = r.reverse ++ s.data.toList.drop i
 | 0, i, r, h => by
   unfold ByteArray.toList.loop
   have hl : s.data.toList.length = s.size := Array.length_toList
   rw [if_neg (by omega), List.drop_of_length_le (by omega), List.append_nil]
 | n + 1, i, r, h => by
   unfold ByteArray.toList.loop
   have hl : s.data.toList.length = s.size := Array.length_toList
   have hi : i < s.data.toList.length := by omega
   rw [if_pos (by omega), toList_loop s n (i + 1) _ (by omega), List.drop_eq_getElem_cons hi, List.reverse_cons, List.append_assoc]
   congr 2
   have hi' : i < s.data.size := by rw [← Array.length_toList]; exact hi
   simp [ByteArray.get!]
   rw [getElem!_pos s.data i hi']
theorem toList_data (s : ByteArray) : s.toList = s.data.toList := by
 have := toList_loop s s.size 0 [] rfl
 simpa [ByteArray.toList] using this
theorem mkS_toList (l : List UInt8) : (mkS l).toList = l := toList_data _
theorem beq_list (a b : List UInt8) : (a == b) = decide (a = b) := by
 rw [Bool.eq_iff_iff]; simp
end Go.Pv
namespace Go.Pv
open Go
theorem abody_eq {P : Program} {tb : Handler} {an : Ann} {n : Nat} {f : FuncId} {cargs : List CV} (hb : noBox cargs = true) (hf : ((P.funcs[f]?).bind (·.body)).isSome = true) :
   abody P tb an n f cargs = aexec P tb (filt an 0) n (codeOf P f) (envOf P f (cargs.map .c)) [] (endOf P f []) := by
 unfold abody codeOf envOf endOf
 cases h1 : P.funcs[f]? with
 | none => rw [h1] at hf; cases hf
 | some fn =>
   cases h2 : fn.body with
   | none => rw [h1] at hf; simp [h2] at hf
   | some c =>
     simp only [openArgs_data hb, h2]
     rfl
theorem loop1 {P : Program} {tb : Handler} {an : Ann} {n : Nat} {f : FuncId} {hd : Head} {cargs : List CV} {X : Res} (hb : noBox cargs = true) (hf : ((P.funcs[f]?).bind (·.body)).isSome = true)
   (hi : idsOk (codeOf P f) = true) (hl : nLoops (codeOf P f) = 1) (hh : (firstRegion (bodyN 0 (codeOf P f))).bind (filt an 0) = some hd)
   (hp : parts P tb (filt an 0) n (codeOf P f) (envOf P f (cargs.map .c)) [] (fun _ => headK hd fun env H => rounds P tb (filt an 0) n hd (bodyN 0 (codeOf P f)) n env H (restN P tb (filt an 0) n 0 (codeOf P f) (endOf P f []))) (endOf P f []) = X) :
   abody P tb an n f cargs = X := by
 rw [abody_eq hb hf, ← hp]
 refine cut_eq (codeOf P f) 0 _ _ _ hi fun i env H hlt => ?_
 rw [hl] at hlt
 obtain rfl : i = 0 := by omega
 exact (loop_eq hh).symm
theorem wrp1 {i : Nat} (h : i ≤ 100000) : IntKind.i64.wrap ((i : Int) + 1) = ((i + 1 : Nat) : Int) := wrp (k := 1) h (by omega)
theorem sizeM (l : List UInt8) : (mkS l).size = l.length := by cases l <;> rfl
theorem atM (l : List UInt8) (i : Nat) : byteAt (mkS l) i = ((l.getD i 0).toNat : Int) := by cases l <;> rfl
theorem dataM (l : List UInt8) : (mkS l).data.toList = l := by cases l <;> rfl
theorem natM (n : Nat) : ((n : Int)).toNat = n := by cases n <;> rfl
theorem drop_getD {l : List UInt8} {i : Nat} (h : i < l.length) : l.drop i = l.getD i 0 :: l.drop (i + 1) := by
 rw [List.drop_eq_getElem_cons h]
 simp [List.getD_eq_getElem?_getD, h]
theorem index_mem (l : List UInt8) (c : UInt8) : decide (Lib.indexByte l c ≥ 0) = l.any fun b => decide (b = c) := by
 induction l with
 | nil => rfl
 | cons b l ih =>
   rw [List.any_cons, ← ih]
   show decide ((if b == c then (0 : Int) else if Lib.indexByte l c == -1 then -1 else Lib.indexByte l c + 1) ≥ 0) = _
   by_cases hb : b = c
   · subst hb; simp
   · have h1 : (b == c) = false := by simpa using hb
     rw [h1, decide_eq_false hb]
     simp only [Bool.false_eq_true, if_false, Bool.false_or]
     have := Lib.indexByte_ge l c
     by_cases h2 : Lib.indexByte l c = -1
     · rw [h2]; rfl
     · rw [if_neg (by simpa using h2)]
       rw [Bool.eq_iff_iff, decide_eq_true_eq, decide_eq_true_eq]
       omega
theorem u8_cast (c : UInt8) : (((c.toNat : Nat) : Int).toNat).toUInt8 = c := by
 simp
theorem u8_cast' (c : UInt8) : c.toNat.toUInt8 = c := by simp
theorem u8_int {a b : UInt8} : ((a.toNat : Nat) : Int) = ((b.toNat : Nat) : Int) ↔ a = b := by
 constructor
 · intro h; exact UInt8.toNat.inj (by omega)
 · intro h; rw [h]
end Go.Pv
namespace Go.Pv
set_option maxRecDepth 100000
open Go Go.Proofs
def inS (p : ByteArray) (c : Int) : Bool := p.data.toList.any fun b => decide ((b.toNat : Int) = c)
def findL (p : List UInt8) : List UInt8 → Nat
 | [] => 0
 | b :: t => if inS (mkS p) b.toNat then 0 else findL p t + 1
def findI (s : ByteArray) (i : Nat) (p : ByteArray) : Nat := i + findL p.data.toList (s.data.toList.drop i)
def allS (s p : ByteArray) : Bool := s.data.toList.all fun b => inS p b.toNat
def asciiS (p : ByteArray) : Bool := p.data.toList.all fun b => decide (b.toNat < 128)
def preS (s p : ByteArray) : Bool := p.data.toList.isPrefixOf s.data.toList
def sufS (s p : ByteArray) : Bool := p.data.toList.isSuffixOf s.data.toList
def lastL : Nat → List UInt8 → Int → Int
 | 0, _, _ => -1
 | k + 1, l, c => if ((l.getD k 0).toNat : Int) = c then (k : Int) else lastL k l c
def lastI (s : ByteArray) (c : Int) : Int := lastL s.size s.data.toList c
def hx (c : Int) : Int := if 48 ≤ c ∧ c ≤ 57 then c - 48 else if 97 ≤ c ∧ c ≤ 102 then c - 87 else if 65 ≤ c ∧ c ≤ 70 then c - 55 else -1
def lastR (s : ByteArray) : Int := ((Lib.decodeLastL s.data.toList).1 : Int)
def lastN (s : ByteArray) : Int := ((Lib.decodeLastL s.data.toList).2 : Int)
def okU (c : UInt8) : Bool := decide (33 ≤ c.toNat) && (decide (c.toNat ≤ 126) && !([34, 60, 62, 92, 94, 96, 123, 124, 125] : List UInt8).contains c)
def hexd (c : UInt8) : Bool := decide (0 ≤ hx c.toNat)
def stL : List UInt8 → Bool
 | [] => true
 | c :: t => okU c && ((!decide (c = 37) || (match t with
   | a :: b :: _ => hexd a && hexd b
   | _ => false)) && stL t)
def stS (s : ByteArray) : Bool := stL s.data.toList
def digS (s : ByteArray) : Bool := s.data.toList.all fun b => decide (48 ≤ b.toNat) && decide (b.toNat ≤ 57)
def L61 : Fn1 := fun x => match x with
 | [.str s, .int .u8 c] => some [(true, .int .i64 (Lib.indexByte s.data.toList c.toNat.toUInt8), [])]
 | _ => none
def L54 : Fn1 := fun x => match x with
 | [.str s, .int .u8 c] => some [(decide (s.size ≤ 10000), .int .i64 (lastI s c), [])]
 | _ => none
def L53 : Fn1 := fun x => match x with
 | [.str s, .str p] => some [(true, .bool (preS s p), [])]
 | _ => none
def L69 : Fn1 := fun x => match x with
 | [.str s, .str p] => some [(decide (s.size ≤ 10000), .bool (sufS s p), [])]
 | _ => none
def L26 : Fn1 := fun x => match x with
 | [.str s, .str p] => some [(preS s p, .tup [.str (s.extract p.size s.size), .bool true], []), (true, .tup [.str s, .bool false], [])]
 | _ => none
def L46 : Fn1 := fun x => match x with
 | [.str s, .str p] => some [(decide (s.size ≤ 10000) && sufS s p, .tup [.str (s.extract 0 (s.size - p.size)), .bool true], []), (decide (s.size ≤ 10000), .tup [.str s, .bool false], [])]
 | _ => none
def L31 : Fn1 := fun x => match x with
 | [.int .u8 c] => some [(true, .bool (decide ((97 ≤ c ∧ c ≤ 122) ∨ (65 ≤ c ∧ c ≤ 90))), [])]
 | _ => none
def L32 : Fn1 := fun x => match x with
 | [.int .u8 c] => some [(true, .bool (decide (48 ≤ c ∧ c ≤ 57)), [])]
 | _ => none
def L33 : Fn1 := fun x => match x with
 | [.int .u8 c, .str p] => some [(decide (p.size ≤ 10000), .bool (inS p c), [])]
 | _ => none
def L39 : Fn1 := fun x => match x with
 | [.str s, .int .i64 i, .str p] => some [(decide (0 ≤ i) && (decide (i ≤ (s.size : Int)) && (decide (s.size ≤ 10000) && decide (p.size ≤ 10000))), .int .i64 (findI s i.toNat p), [])]
 | _ => none
def L40 : Fn1 := fun x => match x with
 | [.str s] => some [(decide (s.size ≤ 10000), .bool (digS s), [])]
 | _ => none
def L52 : Fn1 := fun x => match x with
 | [.str s] => some [(decide (s.size ≤ 10000), .tup [.int .i32 (lastR s), .int .i64 (lastN s)], [])]
 | _ => none
def L23 : Fn1 := fun x => match x with
 | [.str s, .str p] => some [(decide (s.size ≤ 10000) && decide (p.size ≤ 10000), .tup [.str (s.extract 0 (findI s 0 p)), .str (s.extract (findI s 0 p) s.size)], [])]
 | _ => none
def L24 : Fn1 := fun x => match x with
 | [.str s, .str p] => some [(decide (s.size ≤ 10000) && (decide (p.size ≤ 100) && asciiS p), .bool (allS s p), [])]
 | _ => none
def L17 : Fn1 := fun x => match x with
 | [.str s] => some [(decide (s.size ≤ 10000), .bool (stS s), [])]
 | _ => none
def L35 : Fn1 := fun x => match x with
 | [.int .u8 c] => some [(decide (0 ≤ c) && decide (c < 256), .int .i64 (hx c), [])]
 | _ => none
def A0 : Table := fun _ _ => none
def A61 : Table := fun g => if Nat.beq g 65 then L61 else A0 g
def A29 : Table := fun g => if Nat.beq g 38 then L61 else A61 g
def A54 : Table := fun g => if Nat.beq g 49 then L54 else A29 g
def A45 : Table := fun g => if Nat.beq g 25 then L54 else A54 g
def A53 : Table := fun g => if Nat.beq g 63 then L53 else A45 g
def A69 : Table := fun g => if Nat.beq g 131 then L69 else A53 g
def A44 : Table := fun g => if Nat.beq g 96 then L26 else A69 g
def A26 : Table := fun g => if Nat.beq g 71 then L26 else A44 g
def A55 : Table := fun g => if Nat.beq g 113 then L46 else A26 g
def A46 : Table := fun g => if Nat.beq g 97 then L46 else A55 g
def A31 : Table := fun g => if Nat.beq g 42 then L31 else A46 g
def A32 : Table := fun g => if Nat.beq g 43 then L32 else A31 g
def A33 : Table := fun g => if Nat.beq g 44 then L33 else A32 g
def A39 : Table := fun g => if Nat.beq g 41 then L39 else A33 g
def A40 : Table := fun g => if Nat.beq g 45 then L40 else A39 g
def A52 : Table := fun g => if Nat.beq g 112 then L52 else A40 g
def A23 : Table := fun g => if Nat.beq g 68 then L23 else A52 g
def hL54 : Head := ⟨[0, 1, 5], [], 0⟩
def aL54 : Ann := fun i => if Nat.beq i 2 then some hL54 else none
def hL33 : Head := ⟨[0, 1, 5], [], 0⟩
def aL33 : Ann := fun i => if Nat.beq i 2 then some hL33 else none
def hL39 : Head := ⟨[0, 2, 7], [], 0⟩
def aL39 : Ann := fun i => if Nat.beq i 2 then some hL39 else none
def hL40 : Head := ⟨[0, 3], [], 0⟩
def aL40 : Ann := fun i => if Nat.beq i 2 then some hL40 else none
def hL23 : Head := ⟨[0, 1, 6], [], 0⟩
def aL23 : Ann := fun i => if Nat.beq i 2 then some hL23 else none
theorem ur49 (s : ByteArray) (c : Int) : abody Tryz.prog (call' A0) (fun _ => none) 1 65 [.str s, .int .u8 c] =
 some (CV.int .i64 (Lib.indexByte s.data.toList c.toNat.toUInt8), []) := by kernel_rfl
theorem ur29 (s : ByteArray) (c : Int) : abody Tryz.prog (call' A61) (fun _ => none) 1 38 [.str s, .int .u8 c] =
 some (CV.int .i64 (Lib.indexByte s.data.toList c.toNat.toUInt8), []) := by kernel_rfl
theorem ub54 (s : ByteArray) (c : Int) (n : Nat) (R : Env → Hp → Res) : parts Tryz.prog (call' A29) (filt aL54 0) n (codeOf Tryz.prog 49) (envOf Tryz.prog 49 [.c (.str s), .c (.int .u8 c)]) [] (fun _ => headK hL54 R) (endOf Tryz.prog 49 []) =
 R (mkEnv 19 [(0, .c (CV.str s)), (1, .c (CV.int .u8 c)), (5, .c (CV.int .i64 (IntKind.i64.wrap ((↑s.size : Int) - 1))))]) [] := by kernel_rfl
theorem uc54 (s : ByteArray) (c i : Int) (n : Nat) (R : Env → Hp → Res) : aexec Tryz.prog (call' A29) (filt aL54 0) n (bodyN 0 (codeOf Tryz.prog 49)) (mkEnv 19 [(0, .c (.str s)), (1, .c (.int .u8 c)), (5, .c (.int .i64 i))]) [] (thenK (headK hL54 R) (restN Tryz.prog (call' A29) (filt aL54 0) n 0 (codeOf Tryz.prog 49) (endOf Tryz.prog 49 []))) =
 bif' (decide (i ≥ 0)) (bif' (decide (0 ≤ i)) (bif' (decide (i < (↑s.size : Int))) (bif' (byteAt s i.toNat == c) (some (CV.int .i64 i, [])) (R (mkEnv 19 [(0, .c (CV.str s)), (1, .c (CV.int .u8 c)), (5, .c (CV.int .i64 (IntKind.i64.wrap (i - 1))))]) [])) none) none) (some (CV.int .i64 (Int.negSucc 0), [])) := by kernel_rfl
theorem ur45 (s : ByteArray) (c : Int) : abody Tryz.prog (call' A54) (fun _ => none) 1 25 [.str s, .int .u8 c] =
 bif' (decide (s.size ≤ 10000)) (some (CV.int .i64 (lastI s c), [])) none := by kernel_rfl
theorem ur53 (s p : ByteArray) : abody Tryz.prog (call' A45) (fun _ => none) 1 63 [.str s, .str p] =
 bif' (decide ((↑s.size : Int) ≥ (↑p.size : Int))) (bif' (decide ((↑p.size : Int) ≤ (↑s.size : Int))) (some (CV.bool ((s.extract (Int.toNat 0) (↑p.size : Int).toNat).toList == p.toList), [])) none) (some (CV.bool false, [])) := by kernel_rfl
theorem ur69 (s p : ByteArray) : abody Tryz.prog (call' A53) (fun _ => none) 1 131 [.str s, .str p] =
 bif' (decide ((↑s.size : Int) ≥ (↑p.size : Int))) (bif' (decide (0 ≤ IntKind.i64.wrap ((↑s.size : Int) - (↑p.size : Int)))) (bif' (decide (IntKind.i64.wrap ((↑s.size : Int) - (↑p.size : Int)) ≤ (↑s.size : Int))) (bif' (decide ((↑s.size : Int) ≤ (↑s.size : Int))) (some (CV.bool ((s.extract (IntKind.i64.wrap ((↑s.size : Int) - (↑p.size : Int))).toNat (↑s.size : Int).toNat).toList == p.toList), [])) none) none) none) (some (CV.bool false, [])) := by kernel_rfl
theorem ur44 (s p : ByteArray) : abody Tryz.prog (call' A69) (fun _ => none) 1 96 [.str s, .str p] =
 bif' (!preS s p) (some (CV.tup [CV.str s, CV.bool false], [])) (bif' (decide ((↑p.size : Int) ≤ (↑s.size : Int))) (bif' (decide ((↑s.size : Int) ≤ (↑s.size : Int))) (some (CV.tup [CV.str (s.extract (↑p.size : Int).toNat (↑s.size : Int).toNat), CV.bool true], [])) none) none) := by kernel_rfl
theorem ur26 (s p : ByteArray) : abody Tryz.prog (call' A44) (fun _ => none) 1 71 [.str s, .str p] =
 bif' (preS s p) (some (CV.tup [CV.str (s.extract p.size s.size), CV.bool true], [])) (some (CV.tup [CV.str s, CV.bool false], [])) := by kernel_rfl
theorem ur55 (s p : ByteArray) : abody Tryz.prog (call' A26) (fun _ => none) 1 113 [.str s, .str p] =
 bif' (decide (s.size ≤ 10000)) (bif' (!sufS s p) (some (CV.tup [CV.str s, CV.bool false], [])) (bif' (decide (0 ≤ IntKind.i64.wrap ((↑s.size : Int) - (↑p.size : Int)))) (bif' (decide (IntKind.i64.wrap ((↑s.size : Int) - (↑p.size : Int)) ≤ (↑s.size : Int))) (some (CV.tup [CV.str (s.extract (Int.toNat 0) (IntKind.i64.wrap ((↑s.size : Int) - (↑p.size : Int))).toNat), CV.bool true], [])) none) none)) none := by kernel_rfl
theorem ur46 (s p : ByteArray) : abody Tryz.prog (call' A55) (fun _ => none) 1 97 [.str s, .str p] =
 bif' (decide (s.size ≤ 10000) && sufS s p) (some (CV.tup [CV.str (s.extract 0 (s.size - p.size)), CV.bool true], [])) (bif' (decide (s.size ≤ 10000)) (some (CV.tup [CV.str s, CV.bool false], [])) none) := by kernel_rfl
theorem ur31 (c : Int) : abody Tryz.prog (call' A46) (fun _ => none) 1 42 [.int .u8 c] =
 bif' (decide (c ≥ 97)) (bif' (decide (c ≤ 122)) (some (CV.bool true, [])) (bif' (decide (c ≥ 65)) (some (CV.bool (decide (c ≤ 90)), [])) (some (CV.bool false, [])))) (bif' (decide (c ≥ 65)) (some (CV.bool (decide (c ≤ 90)), [])) (some (CV.bool false, []))) := by kernel_rfl
theorem ur32 (c : Int) : abody Tryz.prog (call' A31) (fun _ => none) 1 43 [.int .u8 c] =
 bif' (decide (c ≥ 48)) (some (CV.bool (decide (c ≤ 57)), [])) (some (CV.bool false, [])) := by kernel_rfl
theorem ub33 (p : ByteArray) (c : Int) (n : Nat) (R : Env → Hp → Res) : parts Tryz.prog (call' A32) (filt aL33 0) n (codeOf Tryz.prog 44) (envOf Tryz.prog 44 [.c (.int .u8 c), .c (.str p)]) [] (fun _ => headK hL33 R) (endOf Tryz.prog 44 []) =
 R (mkEnv 17 [(0, .c (CV.int .u8 c)), (1, .c (CV.str p)), (5, .c (CV.int .i64 (.ofNat 0)))]) [] := by kernel_rfl
theorem uc33 (p : ByteArray) (c i : Int) (n : Nat) (R : Env → Hp → Res) : aexec Tryz.prog (call' A32) (filt aL33 0) n (bodyN 0 (codeOf Tryz.prog 44)) (mkEnv 17 [(0, .c (.int .u8 c)), (1, .c (.str p)), (5, .c (.int .i64 i))]) [] (thenK (headK hL33 R) (restN Tryz.prog (call' A32) (filt aL33 0) n 0 (codeOf Tryz.prog 44) (endOf Tryz.prog 44 []))) =
 bif' (decide (i < (↑p.size : Int))) (bif' (decide (0 ≤ i)) (bif' (decide (i < (↑p.size : Int))) (bif' (byteAt p i.toNat == c) (some (CV.bool true, [])) (R (mkEnv 17 [(0, .c (CV.int .u8 c)), (1, .c (CV.str p)), (5, .c (CV.int .i64 (IntKind.i64.wrap (i + 1))))]) [])) none) none) (some (CV.bool false, [])) := by kernel_rfl
theorem ub39 (s p : ByteArray) (j : Int) (n : Nat) (R : Env → Hp → Res) : parts Tryz.prog (call' A33) (filt aL39 0) n (codeOf Tryz.prog 41) (envOf Tryz.prog 41 [.c (.str s), .c (.int .i64 j), .c (.str p)]) [] (fun _ => headK hL39 R) (endOf Tryz.prog 41 []) =
 R (mkEnv 23 [(0, .c (CV.str s)), (2, .c (CV.str p)), (7, .c (CV.int .i64 j))]) [] := by kernel_rfl
theorem uc39 (s p : ByteArray) (i : Int) (n : Nat) (R : Env → Hp → Res) : aexec Tryz.prog (call' A33) (filt aL39 0) n (bodyN 0 (codeOf Tryz.prog 41)) (mkEnv 23 [(0, .c (.str s)), (2, .c (.str p)), (7, .c (.int .i64 i))]) [] (thenK (headK hL39 R) (restN Tryz.prog (call' A33) (filt aL39 0) n 0 (codeOf Tryz.prog 41) (endOf Tryz.prog 41 []))) =
 bif' (decide (i < (↑s.size : Int))) (bif' (decide (0 ≤ i)) (bif' (decide (i < (↑s.size : Int))) (bif' (decide (p.size ≤ 10000)) (bif' (inS p (byteAt s i.toNat)) (some (CV.int .i64 i, [])) (R (mkEnv 23 [(0, .c (CV.str s)), (2, .c (CV.str p)), (7, .c (CV.int .i64 (IntKind.i64.wrap (i + 1))))]) [])) none) none) none) (some (CV.int .i64 (↑s.size : Int), [])) := by kernel_rfl
theorem ub40 (s : ByteArray) (n : Nat) (R : Env → Hp → Res) : parts Tryz.prog (call' A39) (filt aL40 0) n (codeOf Tryz.prog 45) (envOf Tryz.prog 45 [.c (.str s)]) [] (fun _ => headK hL40 R) (endOf Tryz.prog 45 []) =
 R (mkEnv 15 [(0, .c (CV.str s)), (3, .c (CV.int .i64 (.ofNat 0)))]) [] := by kernel_rfl
theorem uc40 (s : ByteArray) (i : Int) (n : Nat) (R : Env → Hp → Res) : aexec Tryz.prog (call' A39) (filt aL40 0) n (bodyN 0 (codeOf Tryz.prog 45)) (mkEnv 15 [(0, .c (.str s)), (3, .c (.int .i64 i))]) [] (thenK (headK hL40 R) (restN Tryz.prog (call' A39) (filt aL40 0) n 0 (codeOf Tryz.prog 45) (endOf Tryz.prog 45 []))) =
 bif' (decide (i < (↑s.size : Int))) (bif' (decide (0 ≤ i)) (bif' (decide (i < (↑s.size : Int))) (bif' (!decide (48 ≤ byteAt s i.toNat ∧ byteAt s i.toNat ≤ 57)) (some (CV.bool false, [])) (R (mkEnv 15 [(0, .c (CV.str s)), (3, .c (CV.int .i64 (IntKind.i64.wrap (i + 1))))]) [])) none) none) (some (CV.bool true, [])) := by kernel_rfl
theorem ub23 (s p : ByteArray) (n : Nat) (R : Env → Hp → Res) : parts Tryz.prog (call' A52) (filt aL23 0) n (codeOf Tryz.prog 68) (envOf Tryz.prog 68 [.c (.str s), .c (.str p)]) [] (fun _ => headK hL23 R) (endOf Tryz.prog 68 []) =
 R (mkEnv 26 [(0, .c (CV.str s)), (1, .c (CV.str p)), (6, .c (CV.int .i64 (.ofNat 0)))]) [] := by kernel_rfl
theorem uc23 (s p : ByteArray) (i : Int) (n : Nat) (R : Env → Hp → Res) : aexec Tryz.prog (call' A52) (filt aL23 0) n (bodyN 0 (codeOf Tryz.prog 68)) (mkEnv 26 [(0, .c (.str s)), (1, .c (.str p)), (6, .c (.int .i64 i))]) [] (thenK (headK hL23 R) (restN Tryz.prog (call' A52) (filt aL23 0) n 0 (codeOf Tryz.prog 68) (endOf Tryz.prog 68 []))) =
 bif' (decide (i < (↑s.size : Int))) (bif' (decide (0 ≤ i)) (bif' (decide (i < (↑s.size : Int))) (bif' (decide (Lib.indexByte p.data.toList (byteAt s i.toNat).toNat.toUInt8 ≥ 0)) (bif' (decide (0 ≤ i)) (bif' (decide (i ≤ (↑s.size : Int))) (bif' (decide (0 ≤ i)) (bif' (decide (i ≤ (↑s.size : Int))) (bif' (decide ((↑s.size : Int) ≤ (↑s.size : Int))) (some (CV.tup [CV.str (s.extract (Int.toNat 0) i.toNat), CV.str (s.extract i.toNat (↑s.size : Int).toNat)], [])) none) none) none) none) none) (R (mkEnv 26 [(0, .c (CV.str s)), (1, .c (CV.str p)), (6, .c (CV.int .i64 (IntKind.i64.wrap (i + 1))))]) [])) none) none) (some (CV.tup [CV.str s, CV.str ⟨⟨[]⟩⟩], [])) := by kernel_rfl
end Go.Pv
namespace Go.Pv
set_option maxRecDepth 100000
open Go Go.Proofs
abbrev Kw (I : World → Prop) (ng : Nat) (tb : Table) : Prop := Known Tryz.prog I ng tb
abbrev Cw (I : World → Prop) (ng : Nat) (f : FuncId) (F : Fn1) : Prop := Contract Tryz.prog I ng f F
variable {I : World → Prop} {ng : Nat}
theorem data_len (s : ByteArray) : s.data.toList.length = s.size := Array.length_toList
theorem pre_pre (l q : List UInt8) : (decide (q.length ≤ l.length) && ((l.drop 0).take q.length == q)) = q.isPrefixOf l := by
 rw [Bool.eq_iff_iff, Bool.and_eq_true, decide_eq_true_eq, beq_iff_eq, List.isPrefixOf_iff_prefix, List.prefix_iff_eq_take, List.drop_zero]
 constructor
 · rintro ⟨_, h⟩; exact h.symm
 · intro h
   refine ⟨?_, h.symm⟩
   have := congrArg List.length h
   rw [List.length_take] at this
   omega
theorem prefix_le {q l : List UInt8} (h : q.isPrefixOf l = true) : q.length ≤ l.length := (List.isPrefixOf_iff_prefix.1 h).length_le
theorem suffix_le {q l : List UInt8} (h : q.isSuffixOf l = true) : q.length ≤ l.length := (List.isSuffixOf_iff_suffix.1 h).length_le
theorem g61 (hg : OnGlobals I ng) : Kw I ng A61 := known_add known_no (contract_of (fun _ => none) hg (hok_of known_no) fun cargs rv outs h => by
 unfold L61 at h
 split at h
 · cases h; exact ⟨1, ur49 _ _⟩
 · cases h)
theorem g29 (hg : OnGlobals I ng) : Kw I ng A29 := known_add (g61 hg) (contract_of (fun _ => none) hg (hok_of (g61 hg)) fun cargs rv outs h => by
 unfold L61 at h
 split at h
 · cases h; exact ⟨1, ur29 _ _⟩
 · cases h)
theorem lo54 (n : Nat) (s : List UInt8) (c : Int) (hs : s.length ≤ 10000) : ∀ (j k : Nat), k < j → k ≤ s.length →
   rounds Tryz.prog (call' A29) (filt aL54 0) n hL54 (bodyN 0 (codeOf Tryz.prog 49)) j (mkEnv 19 [(0, .c (.str (mkS s))), (1, .c (.int .u8 c)), (5, .c (.int .i64 ((k : Int) - 1)))]) [] (restN Tryz.prog (call' A29) (filt aL54 0) n 0 (codeOf Tryz.prog 49) (endOf Tryz.prog 49 [])) = some (.int .i64 (lastL k s c), [])
 | 0, k, hj, hk => by omega
 | j + 1, k, hj, hk => by
   rw [rounds_succ, uc54]
   simp only [bif_dec]
   simp only [mkS_at, mkS_size, bif_b]
   cases k with
   | zero => rw [if_neg (by omega)]; rfl
   | succ k =>
     have e : ((k + 1 : Nat) : Int) - 1 = (k : Int) := by omega
     rw [e, if_pos (by omega), if_pos (by omega), if_pos (by omega)]
     simp only [Int.toNat_natCast]
     by_cases hc : ((s.getD k 0).toNat : Int) = c
     · rw [if_pos (by simpa using hc)]
       unfold lastL
       rw [if_pos hc]
     · rw [if_neg (by simpa using hc)]
       have hw : IntKind.i64.wrap ((k : Int) - 1) = (k : Int) - 1 := by
         cases k with
         | zero => rfl
         | succ k => rw [wrm (by omega)]; omega
       rw [hw]
       have := lo54 n s c hs j k (by omega) (by omega)
       rw [this]
       conv => rhs; unfold lastL
       rw [if_neg hc]
theorem g54 (hg : OnGlobals I ng) : Kw I ng A54 := known_add (g29 hg) (contract_of aL54 hg (hok_of (g29 hg)) fun cargs rv outs h => by
 unfold L54 at h
 split at h <;> first | (cases h; done) | skip
 rename_i s c
 by_cases hs : s.size ≤ 10000
 · simp only [picked, pickAlt, decide_eq_true hs] at h
   cases h
   refine ⟨12000, loop1 rfl (by kernel_rfl) (by kernel_rfl) (by kernel_rfl) (hd := hL54) (by kernel_rfl) ?_⟩
   have hl := data_len s
   have := ub54 s c 12000 (fun env H => rounds Tryz.prog (call' A29) (filt aL54 0) 12000 hL54 (bodyN 0 (codeOf Tryz.prog 49)) 12000 env H (restN Tryz.prog (call' A29) (filt aL54 0) 12000 0 (codeOf Tryz.prog 49) (endOf Tryz.prog 49 [])))
   refine this.trans ?_
   have hw : IntKind.i64.wrap ((s.size : Int) - 1) = ((s.size : Nat) : Int) - 1 := by
     cases hz : s.size with
     | zero => rfl
     | succ k => rw [wrm (by omega)]; omega
   have hlo := lo54 12000 s.data.toList c (by omega) 12000 s.size (by omega) (by omega)
   rw [mkS_bl] at hlo
   rw [hw]
   exact hlo
 · simp only [picked, pickAlt, decide_eq_false hs] at h; cases h)
theorem g45 (hg : OnGlobals I ng) : Kw I ng A45 := known_add (g54 hg) (contract_of (fun _ => none) hg (hok_of (g54 hg)) fun cargs rv outs h => by
 unfold L54 at h
 split at h <;> first | (cases h; done) | skip
 rename_i s c
 by_cases hs : s.size ≤ 10000
 · simp only [picked, pickAlt, decide_eq_true hs] at h
   cases h
   exact ⟨1, by rw [ur45, bif_t _ _ (decide_eq_true hs)]⟩
 · simp only [picked, pickAlt, decide_eq_false hs] at h; cases h)
theorem g53 (hg : OnGlobals I ng) : Kw I ng A53 := known_add (g45 hg) (contract_of (fun _ => none) hg (hok_of (g45 hg)) fun cargs rv outs h => by
 unfold L53 at h
 split at h <;> first | (cases h; done) | skip
 rename_i s p
 cases h
 refine ⟨1, ?_⟩
 rw [ur53]
 unfold preS
 rw [← mkS_bl s, ← mkS_bl p, mkS_data, mkS_data]
 generalize s.data.toList = l
 generalize p.data.toList = q
 simp only [bif_dec]
 rw [← pre_pre]
 simp only [mkS_size, mkS_ext, mkS_toList, show Int.toNat 0 = 0 from rfl, Nat.sub_zero, Int.toNat_natCast]
 by_cases hq : q.length ≤ l.length
 · rw [if_pos (by omega), if_pos (by omega), decide_eq_true hq, Bool.true_and]
 · rw [if_neg (by omega), decide_eq_false hq, Bool.false_and])
theorem g69 (hg : OnGlobals I ng) : Kw I ng A69 := known_add (g53 hg) (contract_of (fun _ => none) hg (hok_of (g53 hg)) fun cargs rv outs h => by
 unfold L69 at h
 split at h <;> first | (cases h; done) | skip
 rename_i s p
 by_cases hs : s.size ≤ 10000
 · simp only [picked, pickAlt, decide_eq_true hs] at h
   cases h
   refine ⟨1, ?_⟩
   rw [ur69]
   unfold sufS
   rw [← mkS_bl s, ← mkS_bl p, mkS_data, mkS_data]
   have hl := data_len s
   have hl : s.data.toList.length ≤ 10000 := by omega
   generalize s.data.toList = l at *
   generalize p.data.toList = q
   simp only [bif_dec]
   simp only [mkS_size, mkS_ext, mkS_toList, Int.le_refl, if_true]
   by_cases hq : q.length ≤ l.length
   · have hw : IntKind.i64.wrap ((l.length : Int) - (q.length : Int)) = ((l.length - q.length : Nat) : Int) := by
       rw [wrap_id (by omega) (by omega)]; omega
     rw [if_pos (by omega), hw, if_pos (by omega), if_pos (by omega)]
     simp only [Int.toNat_natCast]
     congr 3
     rw [List.take_of_length_le (by simp), Bool.eq_iff_iff, beq_iff_eq, List.isSuffixOf_iff_suffix, List.suffix_iff_eq_drop]
     exact eq_comm
   · rw [if_neg (by omega)]
     congr 3
     refine (Bool.eq_false_iff.2 fun h => hq (suffix_le h)).symm
 · simp only [picked, pickAlt, decide_eq_false hs] at h; cases h)
theorem g44 (hg : OnGlobals I ng) : Kw I ng A44 := known_add (g69 hg) (contract_of (fun _ => none) hg (hok_of (g69 hg)) fun cargs rv outs h => by
 unfold L26 at h
 split at h <;> first | (cases h; done) | skip
 rename_i s p
 refine ⟨1, ?_⟩
 rw [ur44]
 cases hp : preS s p with
 | true =>
   rw [hp] at h
   cases h
   have hl : p.size ≤ s.size := by
     have := prefix_le hp
     rw [data_len, data_len] at this; exact this
   rw [show (!true) = false from rfl, bif_f _ _ rfl, bif_dec, if_pos (by omega), bif_dec, if_pos (by omega)]
   simp
 | false =>
   rw [hp] at h
   cases h
   rw [show (!false) = true from rfl, bif_t _ _ rfl])
theorem g26 (hg : OnGlobals I ng) : Kw I ng A26 := known_add (g44 hg) (contract_of (fun _ => none) hg (hok_of (g44 hg)) fun cargs rv outs h => by
 unfold L26 at h
 split at h <;> first | (cases h; done) | skip
 rename_i s p
 refine ⟨1, ?_⟩
 rw [ur26]
 cases hp : preS s p with
 | true => rw [hp] at h; cases h; rfl
 | false => rw [hp] at h; cases h; rfl)
theorem g55 (hg : OnGlobals I ng) : Kw I ng A55 := known_add (g26 hg) (contract_of (fun _ => none) hg (hok_of (g26 hg)) fun cargs rv outs h => by
 unfold L46 at h
 split at h <;> first | (cases h; done) | skip
 rename_i s p
 by_cases hs : s.size ≤ 10000
 · simp only [picked, pickAlt, decide_eq_true hs, Bool.true_and] at h
   refine ⟨1, ?_⟩
   rw [ur55, bif_t _ _ (decide_eq_true hs)]
   cases hp : sufS s p with
   | true =>
     rw [hp] at h
     cases h
     have hl : p.size ≤ s.size := by
       have := suffix_le hp
       rw [data_len, data_len] at this; exact this
     have hw : IntKind.i64.wrap ((s.size : Int) - (p.size : Int)) = ((s.size - p.size : Nat) : Int) := by
       rw [wrap_id (by omega) (by omega)]; omega
     rw [show (!true) = false from rfl, bif_f _ _ rfl, hw, bif_dec, if_pos (by omega), bif_dec, if_pos (by omega)]
     simp
   | false =>
     rw [hp] at h
     cases h
     rw [show (!false) = true from rfl, bif_t _ _ rfl]
 · simp only [picked, pickAlt, decide_eq_false hs, Bool.false_and] at h; cases h)
theorem g46 (hg : OnGlobals I ng) : Kw I ng A46 := known_add (g55 hg) (contract_of (fun _ => none) hg (hok_of (g55 hg)) fun cargs rv outs h => by
 unfold L46 at h
 split at h <;> first | (cases h; done) | skip
 rename_i s p
 by_cases hs : s.size ≤ 10000
 · simp only [picked, pickAlt, decide_eq_true hs, Bool.true_and] at h
   refine ⟨1, ?_⟩
   rw [ur46, decide_eq_true hs, Bool.true_and]
   cases hp : sufS s p with
   | true => rw [hp] at h; cases h; rfl
   | false => rw [hp] at h; cases h; rfl
 · simp only [picked, pickAlt, decide_eq_false hs, Bool.false_and] at h; cases h)
end Go.Pv
namespace Go.Pv
set_option maxRecDepth 100000
open Go Go.Proofs
variable {I : World → Prop} {ng : Nat}
theorem g31 (hg : OnGlobals I ng) : Kw I ng A31 := known_add (g46 hg) (contract_of (fun _ => none) hg (hok_of (g46 hg)) fun cargs rv outs h => by
 unfold L31 at h
 split at h <;> first | (cases h; done) | skip
 rename_i c
 cases h
 refine ⟨1, ?_⟩
 rw [ur31]
 simp only [bif_dec]
 by_cases h1 : c ≥ 97
 · rw [if_pos h1]
   by_cases h2 : c ≤ 122
   · rw [if_pos h2, decide_eq_true (by omega)]
   · rw [if_neg h2, if_pos (by omega), decide_eq_false (by omega), decide_eq_false (by omega)]
 · rw [if_neg h1]
   by_cases h2 : c ≥ 65
   · rw [if_pos h2]
     congr 3
     rw [Bool.eq_iff_iff, decide_eq_true_eq, decide_eq_true_eq]; omega
   · rw [if_neg h2, decide_eq_false (by omega)])
theorem g32 (hg : OnGlobals I ng) : Kw I ng A32 := known_add (g31 hg) (contract_of (fun _ => none) hg (hok_of (g31 hg)) fun cargs rv outs h => by
 unfold L32 at h
 split at h <;> first | (cases h; done) | skip
 rename_i c
 cases h
 refine ⟨1, ?_⟩
 rw [ur32]
 simp only [bif_dec]
 by_cases h1 : c ≥ 48
 · rw [if_pos h1]
   congr 3
   rw [Bool.eq_iff_iff, decide_eq_true_eq, decide_eq_true_eq]; omega
 · rw [if_neg h1, decide_eq_false (by omega)])
noncomputable abbrev R33 (n j : Nat) (env : Env) (H : Hp) : Res := rounds Tryz.prog (call' A32) (filt aL33 0) n hL33 (bodyN 0 (codeOf Tryz.prog 44)) j env H (restN Tryz.prog (call' A32) (filt aL33 0) n 0 (codeOf Tryz.prog 44) (endOf Tryz.prog 44 []))
theorem lo33 (n : Nat) (p : List UInt8) (c : Int) (hs : p.length ≤ 10000) : ∀ (j k : Nat), p.length < j + k → k ≤ p.length →
   R33 n j (mkEnv 17 [(0, .c (.int .u8 c)), (1, .c (.str (mkS p))), (5, .c (.int .i64 (k : Int)))]) [] = some (.bool ((p.drop k).any fun b => decide ((b.toNat : Int) = c)), [])
 | 0, k, hj, hk => by omega
 | j + 1, k, hj, hk => by
   unfold R33
   rw [rounds_succ, uc33]
   simp only [bif_dec]
   simp only [atM, sizeM, bif_b, natM]
   by_cases h1 : k < p.length
   · rw [if_pos (by omega), if_pos (by omega), if_pos (by omega), drop_getD h1, List.any_cons]
     by_cases hc : ((p.getD k 0).toNat : Int) = c
     · rw [if_pos (by simpa using hc), decide_eq_true hc]; rfl
     · rw [if_neg (by simpa using hc), decide_eq_false hc, wrp1 (i := k) (by omega), Bool.false_or]
       exact lo33 n p c hs j (k + 1) (by omega) (by omega)
   · rw [if_neg (by omega), List.drop_of_length_le (by omega)]; rfl
theorem g33 (hg : OnGlobals I ng) : Kw I ng A33 := known_add (g32 hg) (contract_of aL33 hg (hok_of (g32 hg)) fun cargs rv outs h => by
 unfold L33 at h
 split at h <;> first | (cases h; done) | skip
 rename_i c p
 by_cases hs : p.size ≤ 10000
 · simp only [picked, pickAlt, decide_eq_true hs] at h
   cases h
   refine ⟨12000, loop1 rfl (by kernel_rfl) (by kernel_rfl) (by kernel_rfl) (hd := hL33) (by kernel_rfl) ?_⟩
   have hl := data_len p
   refine (ub33 p c 12000 (R33 12000 12000)).trans ?_
   have hlo := lo33 12000 p.data.toList c (by omega) 12000 0 (by omega) (by omega)
   rw [mkS_bl] at hlo
   exact hlo
 · simp only [picked, pickAlt, decide_eq_false hs] at h; cases h)
noncomputable abbrev R39 (n j : Nat) (env : Env) (H : Hp) : Res := rounds Tryz.prog (call' A33) (filt aL39 0) n hL39 (bodyN 0 (codeOf Tryz.prog 41)) j env H (restN Tryz.prog (call' A33) (filt aL39 0) n 0 (codeOf Tryz.prog 41) (endOf Tryz.prog 41 []))
theorem lo39 (n : Nat) (s p : List UInt8) (hs : s.length ≤ 10000) (hp : p.length ≤ 10000) : ∀ (j k : Nat), s.length < j + k → k ≤ s.length →
   R39 n j (mkEnv 23 [(0, .c (.str (mkS s))), (2, .c (.str (mkS p))), (7, .c (.int .i64 (k : Int)))]) [] = some (.int .i64 ((k + findL p (s.drop k) : Nat) : Int), [])
 | 0, k, hj, hk => by omega
 | j + 1, k, hj, hk => by
   unfold R39
   rw [rounds_succ, uc39]
   simp only [bif_dec]
   simp only [atM, sizeM, bif_b, natM]
   by_cases h1 : k < s.length
   · rw [if_pos (by omega), if_pos (by omega), if_pos (by omega), if_pos hp, drop_getD h1]
     by_cases hc : inS (mkS p) ((s.getD k 0).toNat : Int) = true
     · rw [if_pos hc]
       unfold findL
       rw [if_pos hc, Nat.add_zero]
     · rw [if_neg hc, wrp1 (i := k) (by omega)]
       have := lo39 n s p hs hp j (k + 1) (by omega) (by omega)
       unfold R39 at this
       rw [this]
       conv => rhs; unfold findL
       rw [if_neg hc]
       congr 4
       omega
   · rw [if_neg (by omega), List.drop_of_length_le (by omega)]
     unfold findL
     have : k = s.length := by omega
     rw [this, Nat.add_zero]
theorem g39 (hg : OnGlobals I ng) : Kw I ng A39 := known_add (g33 hg) (contract_of aL39 hg (hok_of (g33 hg)) fun cargs rv outs h => by
 unfold L39 at h
 split at h <;> first | (cases h; done) | skip
 rename_i s i p
 by_cases hc : 0 ≤ i ∧ i ≤ (s.size : Int) ∧ s.size ≤ 10000 ∧ p.size ≤ 10000
 · obtain ⟨h1, h2, h3, h4⟩ := hc
   simp only [picked, pickAlt, decide_eq_true h1, decide_eq_true h2, decide_eq_true h3, decide_eq_true h4, Bool.and_self] at h
   cases h
   obtain ⟨k, rfl⟩ : ∃ k : Nat, i = k := ⟨i.toNat, by omega⟩
   refine ⟨12000, loop1 rfl (by kernel_rfl) (by kernel_rfl) (by kernel_rfl) (hd := hL39) (by kernel_rfl) ?_⟩
   have hl := data_len s
   have hl' := data_len p
   refine (ub39 s p k 12000 (R39 12000 12000)).trans ?_
   have hlo := lo39 12000 s.data.toList p.data.toList (by omega) (by omega) 12000 k (by omega) (by omega)
   rw [mkS_bl, mkS_bl] at hlo
   exact hlo
 · have : (decide (0 ≤ i) && (decide (i ≤ (s.size : Int)) && (decide (s.size ≤ 10000) && decide (p.size ≤ 10000)))) = false := by
     refine Bool.eq_false_iff.2 fun hh => hc ?_
     simpa using hh
   simp only [picked, pickAlt, this] at h; cases h)
noncomputable abbrev R40 (n j : Nat) (env : Env) (H : Hp) : Res := rounds Tryz.prog (call' A39) (filt aL40 0) n hL40 (bodyN 0 (codeOf Tryz.prog 45)) j env H (restN Tryz.prog (call' A39) (filt aL40 0) n 0 (codeOf Tryz.prog 45) (endOf Tryz.prog 45 []))
theorem lo40 (n : Nat) (s : List UInt8) (hs : s.length ≤ 10000) : ∀ (j k : Nat), s.length < j + k → k ≤ s.length →
   R40 n j (mkEnv 15 [(0, .c (.str (mkS s))), (3, .c (.int .i64 (k : Int)))]) [] = some (.bool ((s.drop k).all fun b => decide (48 ≤ b.toNat) && decide (b.toNat ≤ 57)), [])
 | 0, k, hj, hk => by omega
 | j + 1, k, hj, hk => by
   unfold R40
   rw [rounds_succ, uc40]
   simp only [bif_dec]
   simp only [bif_b, Bool.not_eq_true', decide_eq_false_iff_not]
   simp only [atM, sizeM, natM]
   by_cases h1 : k < s.length
   · rw [if_pos (by omega), if_pos (by omega), if_pos (by omega), drop_getD h1, List.all_cons]
     by_cases hc : 48 ≤ (s.getD k 0).toNat ∧ (s.getD k 0).toNat ≤ 57
     · rw [if_neg (by omega), decide_eq_true hc.1, decide_eq_true hc.2, wrp1 (i := k) (by omega), Bool.true_and, Bool.true_and]
       exact lo40 n s hs j (k + 1) (by omega) (by omega)
     · rw [if_pos (by omega)]
       have : (decide (48 ≤ (s.getD k 0).toNat) && decide ((s.getD k 0).toNat ≤ 57)) = false := Bool.eq_false_iff.2 fun hh => hc (by simpa using hh)
       rw [this]; rfl
   · rw [if_neg (by omega), List.drop_of_length_le (by omega)]; rfl
theorem g40 (hg : OnGlobals I ng) : Kw I ng A40 := known_add (g39 hg) (contract_of aL40 hg (hok_of (g39 hg)) fun cargs rv outs h => by
 unfold L40 at h
 split at h <;> first | (cases h; done) | skip
 rename_i s
 by_cases hs : s.size ≤ 10000
 · simp only [picked, pickAlt, decide_eq_true hs] at h
   cases h
   refine ⟨12000, loop1 rfl (by kernel_rfl) (by kernel_rfl) (by kernel_rfl) (hd := hL40) (by kernel_rfl) ?_⟩
   have hl := data_len s
   refine (ub40 s 12000 (R40 12000 12000)).trans ?_
   have hlo := lo40 12000 s.data.toList (by omega) 12000 0 (by omega) (by omega)
   rw [mkS_bl] at hlo
   exact hlo
 · simp only [picked, pickAlt, decide_eq_false hs] at h; cases h)
theorem any_in (p : List UInt8) (c : UInt8) : inS (mkS p) (c.toNat : Int) = decide (Lib.indexByte p c ≥ 0) := by
 rw [index_mem]
 unfold inS
 rw [mkS_data]
 congr 1
 funext b
 rw [Bool.eq_iff_iff, decide_eq_true_eq, decide_eq_true_eq]
 exact u8_int
noncomputable abbrev R23 (n j : Nat) (env : Env) (H : Hp) : Res := rounds Tryz.prog (call' A52) (filt aL23 0) n hL23 (bodyN 0 (codeOf Tryz.prog 68)) j env H (restN Tryz.prog (call' A52) (filt aL23 0) n 0 (codeOf Tryz.prog 68) (endOf Tryz.prog 68 []))
theorem lo23 (n : Nat) (s p : List UInt8) (hs : s.length ≤ 10000) : ∀ (j k : Nat), s.length < j + k → k ≤ s.length →
   R23 n j (mkEnv 26 [(0, .c (.str (mkS s))), (1, .c (.str (mkS p))), (6, .c (.int .i64 (k : Int)))]) [] = some (.tup [.str ((mkS s).extract 0 (k + findL p (s.drop k))), .str ((mkS s).extract (k + findL p (s.drop k)) s.length)], [])
 | 0, k, hj, hk => by omega
 | j + 1, k, hj, hk => by
   unfold R23
   rw [rounds_succ, uc23]
   simp only [bif_dec]
   simp only [atM, sizeM, bif_b, natM, u8_cast', dataM, Int.le_refl, if_true]
   by_cases h1 : k < s.length
   · rw [if_pos (by omega), if_pos (by omega), if_pos (by omega), drop_getD h1]
     by_cases hc : Lib.indexByte p (s.getD k 0) ≥ 0
     · rw [if_pos hc, if_pos (by omega), if_pos (by omega), if_pos (by omega), if_pos (by omega)]
       unfold findL
       rw [any_in, if_pos (decide_eq_true hc), Nat.add_zero]
       rfl
     · rw [if_neg hc, wrp1 (i := k) (by omega)]
       have := lo23 n s p hs j (k + 1) (by omega) (by omega)
       unfold R23 at this
       rw [this]
       have e : k + findL p (s.getD k 0 :: s.drop (k + 1)) = k + 1 + findL p (s.drop (k + 1)) := by
         conv => lhs; unfold findL
         rw [any_in, if_neg (by simpa using hc)]; omega
       rw [e]
   · rw [if_neg (by omega), List.drop_of_length_le (by omega)]
     unfold findL
     have : k = s.length := by omega
     rw [this, Nat.add_zero, mkS_ext, mkS_ext]
     simp
     rfl
theorem g23 (hg : OnGlobals I ng) (h52 : Kw I ng A52) : Kw I ng A23 := known_add h52 (contract_of aL23 hg (hok_of h52) fun cargs rv outs h => by
 unfold L23 at h
 split at h <;> first | (cases h; done) | skip
 rename_i s p
 by_cases hc : s.size ≤ 10000 ∧ p.size ≤ 10000
 · obtain ⟨hs, hp⟩ := hc
   simp only [picked, pickAlt, decide_eq_true hs, decide_eq_true hp, Bool.and_self] at h
   cases h
   refine ⟨12000, loop1 rfl (by kernel_rfl) (by kernel_rfl) (by kernel_rfl) (hd := hL23) (by kernel_rfl) ?_⟩
   have hl := data_len s
   refine (ub23 s p 12000 (R23 12000 12000)).trans ?_
   have hlo := lo23 12000 s.data.toList p.data.toList (by omega) 12000 0 (by omega) (by omega)
   rw [mkS_bl, mkS_bl, hl] at hlo
   exact hlo
 · have : (decide (s.size ≤ 10000) && decide (p.size ≤ 10000)) = false := by
     refine Bool.eq_false_iff.2 fun hh => hc ?_
     simpa using hh
   simp only [picked, pickAlt, this] at h; cases h)
end Go.Pv
namespace Go.Pv
set_option maxRecDepth 100000
open Go Go.Proofs
def clS (s p : ByteArray) : Nat := (s.data.toList.takeWhile fun b => inS p b.toNat).length
def crL (p : ByteArray) : Nat → List UInt8 → Nat
 | 0, _ => 0
 | k + 1, l => if inS p (l.getD k 0).toNat then crL p k l else k + 1
def crS (s p : ByteArray) : Nat := crL p s.size s.data.toList
def L19 : Fn1 := fun x => match x with
 | [.str s] => some [
   (decide (s.size = 2) && (decide (0 ≤ hx (byteAt s 0)) && decide (0 ≤ hx (byteAt s 1))), .tup [.sl true false 1 [.int .u8 (16 * hx (byteAt s 0) + hx (byteAt s 1))], .bool true], []),
   (decide (s.size = 2), .tup [.nilsl, .bool false], [])]
 | _ => none
def L43 : Fn1 := fun x => match x with
 | [.str s, .str p] => some [(decide (s.size ≤ 10000) && (decide (p.size ≤ 100) && asciiS p), .str (s.extract (clS s p) s.size), [])]
 | _ => none
def L42 : Fn1 := fun x => match x with
 | [.str s, .str p] => some [(decide (s.size ≤ 10000) && (decide (p.size ≤ 100) && asciiS p), .str (s.extract 0 (crS s p)), [])]
 | _ => none
def A35 : Table := fun g => if Nat.beq g 87 then L35 else A23 g
def A19 : Table := fun g => if Nat.beq g 61 then L19 else A35 g
def A17 : Table := fun g => if Nat.beq g 40 then L17 else A19 g
def A43 : Table := fun g => if Nat.beq g 95 then L43 else A17 g
def A42 : Table := fun g => if Nat.beq g 94 then L42 else A43 g
def A24 : Table := fun g => if Nat.beq g 69 then L24 else A42 g
def A25 : Table := fun g => if Nat.beq g 70 then L17 else A24 g
def hL17 : Head := ⟨[0, 3], [], 0⟩
def aL17 : Ann := fun i => if Nat.beq i 2 then some hL17 else none
def hL43 : Head := ⟨[0, 1, 11], [], 1⟩
def hI43 : Head := ⟨[0, 1, 5, 6, 7, 11, 17], [], 2⟩
def aL43 : Ann := fun i => if Nat.beq i 2 then some hL43 else if Nat.beq i 6 then some hI43 else none
def hL42 : Head := ⟨[0, 1], [], 0⟩
def hI42 : Head := ⟨[0, 1, 5, 6, 7, 19], [], 1⟩
def aL42 : Ann := fun i => if Nat.beq i 1 then some hL42 else if Nat.beq i 5 then some hI42 else none
def hL25 : Head := ⟨[0, 3], [], 0⟩
def aL25 : Ann := fun i => if Nat.beq i 2 then some hL25 else none
noncomputable def bL43 : Code := bodyN 0 (codeOf Tryz.prog 95)
noncomputable def KL43 (n : Nat) : KX := restN Tryz.prog (call' A17) (filt aL43 0) n 0 (codeOf Tryz.prog 95) (endOf Tryz.prog 95 [])
noncomputable def bL42 : Code := bodyN 0 (codeOf Tryz.prog 94)
noncomputable def KL42 (n : Nat) : KX := restN Tryz.prog (call' A43) (filt aL42 0) n 0 (codeOf Tryz.prog 94) (endOf Tryz.prog 94 [])
theorem ur35 (c : Int) : abody Tryz.prog (call' A23) (fun _ => none) 1 87 [.int .u8 c] =
 bif' (decide (c ≥ 48)) (bif' (decide (c ≤ 57)) (some (CV.int .i64 (IntKind.i64.wrap (IntKind.u8.wrap (c - 48))), [])) (bif' (decide (c ≥ 97)) (bif' (decide (c ≤ 102)) (some (CV.int .i64 (IntKind.i64.wrap (IntKind.i64.wrap (IntKind.u8.wrap (c - 97)) + 10)), [])) (bif' (decide (c ≥ 65)) (bif' (decide (c ≤ 70)) (some (CV.int .i64 (IntKind.i64.wrap (IntKind.i64.wrap (IntKind.u8.wrap (c - 65)) + 10)), [])) (some (CV.int .i64 (Int.negSucc 0), []))) (some (CV.int .i64 (Int.negSucc 0), [])))) (bif' (decide (c ≥ 65)) (bif' (decide (c ≤ 70)) (some (CV.int .i64 (IntKind.i64.wrap (IntKind.i64.wrap (IntKind.u8.wrap (c - 65)) + 10)), [])) (some (CV.int .i64 (Int.negSucc 0), []))) (some (CV.int .i64 (Int.negSucc 0), []))))) (bif' (decide (c ≥ 97)) (bif' (decide (c ≤ 102)) (some (CV.int .i64 (IntKind.i64.wrap (IntKind.i64.wrap (IntKind.u8.wrap (c - 97)) + 10)), [])) (bif' (decide (c ≥ 65)) (bif' (decide (c ≤ 70)) (some (CV.int .i64 (IntKind.i64.wrap (IntKind.i64.wrap (IntKind.u8.wrap (c - 65)) + 10)), [])) (some (CV.int .i64 (Int.negSucc 0), []))) (some (CV.int .i64 (Int.negSucc 0), [])))) (bif' (decide (c ≥ 65)) (bif' (decide (c ≤ 70)) (some (CV.int .i64 (IntKind.i64.wrap (IntKind.i64.wrap (IntKind.u8.wrap (c - 65)) + 10)), [])) (some (CV.int .i64 (Int.negSucc 0), []))) (some (CV.int .i64 (Int.negSucc 0), [])))) := by kernel_rfl
theorem ur19 (a b : UInt8) : abody Tryz.prog (call' A35) (fun _ => none) 3 61 [.str ⟨#[a, b]⟩] =
 bif' (decide (0 ≤ byteAt (ByteArray.mk #[a, b]) (Int.toNat 0)) && decide (byteAt (ByteArray.mk #[a, b]) (Int.toNat 0) < 256)) (bif' (decide (hx (byteAt (ByteArray.mk #[a, b]) (Int.toNat 0)) < 0)) (some (CV.tup [CV.nilsl, CV.bool false], [])) (bif' (decide (0 ≤ byteAt (ByteArray.mk #[a, b]) (IntKind.i64.wrap (0 + 1)).toNat) && decide (byteAt (ByteArray.mk #[a, b]) (IntKind.i64.wrap (0 + 1)).toNat < 256)) (bif' (decide (hx (byteAt (ByteArray.mk #[a, b]) (IntKind.i64.wrap (0 + 1)).toNat) < 0)) (some (CV.tup [CV.nilsl, CV.bool false], [])) (bif' (decide (0 ≤ byteAt (ByteArray.mk #[a, b]) (Int.toNat 0)) && decide (byteAt (ByteArray.mk #[a, b]) (Int.toNat 0) < 256)) (bif' (decide (0 ≤ byteAt (ByteArray.mk #[a, b]) (IntKind.i64.wrap (0 + 1)).toNat) && decide (byteAt (ByteArray.mk #[a, b]) (IntKind.i64.wrap (0 + 1)).toNat < 256)) (some (CV.tup [CV.sl true false 1 [CV.int .u8 (IntKind.u8.wrap (IntKind.i64.wrap (IntKind.i64.wrap (16 * hx (byteAt (ByteArray.mk #[a, b]) (Int.toNat 0))) + hx (byteAt (ByteArray.mk #[a, b]) (IntKind.i64.wrap (0 + 1)).toNat))))], CV.bool true], [])) none) none)) none)) none := by kernel_rfl
theorem ub17 (s : ByteArray) (n : Nat) (R : Env → Hp → Res) : parts Tryz.prog (call' A19) (filt aL17 0) n (codeOf Tryz.prog 40) (envOf Tryz.prog 40 [.c (.str s)]) [] (fun _ => headK hL17 R) (endOf Tryz.prog 40 []) =
 R (mkEnv 49 [(0, .c (CV.str s)), (3, .c (CV.int .i64 (.ofNat 0)))]) [] := by kernel_rfl
theorem uc17 (s : ByteArray) (i : Int) (n : Nat) (R : Env → Hp → Res) : aexec Tryz.prog (call' A19) (filt aL17 0) n (bodyN 0 (codeOf Tryz.prog 40)) (mkEnv 49 [(0, .c (.str s)), (3, .c (.int .i64 i))]) [] (thenK (headK hL17 R) (restN Tryz.prog (call' A19) (filt aL17 0) n 0 (codeOf Tryz.prog 40) (endOf Tryz.prog 40 []))) =
 bif' (decide (i < (↑s.size : Int))) (bif' (decide (0 ≤ i)) (bif' (decide (i < (↑s.size : Int))) (bif' (decide (byteAt s i.toNat < 33)) (some (CV.bool false, [])) (bif' (decide (byteAt s i.toNat > 126)) (some (CV.bool false, [])) (bif' (inS (ByteArray.mk #[34, 60, 62, 92, 94, 123, 124, 125]) (byteAt s i.toNat)) (some (CV.bool false, [])) (bif' (byteAt s i.toNat == 96) (some (CV.bool false, [])) (bif' (byteAt s i.toNat == 37) (bif' (decide (IntKind.i64.wrap (i + 3) > (↑s.size : Int))) (some (CV.bool false, [])) (bif' (decide (0 ≤ IntKind.i64.wrap (i + 1))) (bif' (decide (IntKind.i64.wrap (i + 1) ≤ IntKind.i64.wrap (i + 3))) (bif' (decide (IntKind.i64.wrap (i + 3) ≤ (↑s.size : Int))) (bif' (decide ((s.extract (IntKind.i64.wrap (i + 1)).toNat (IntKind.i64.wrap (i + 3)).toNat).size = 2) && (decide (0 ≤ hx (byteAt (s.extract (IntKind.i64.wrap (i + 1)).toNat (IntKind.i64.wrap (i + 3)).toNat) 0)) && decide (0 ≤ hx (byteAt (s.extract (IntKind.i64.wrap (i + 1)).toNat (IntKind.i64.wrap (i + 3)).toNat) 1)))) (R (mkEnv 49 [(0, .c (CV.str s)), (3, .c (CV.int .i64 (IntKind.i64.wrap (i + 1))))]) []) (bif' (decide ((s.extract (IntKind.i64.wrap (i + 1)).toNat (IntKind.i64.wrap (i + 3)).toNat).size = 2)) (some (CV.bool false, [])) none)) none) none) none)) (R (mkEnv 49 [(0, .c (CV.str s)), (3, .c (CV.int .i64 (IntKind.i64.wrap (i + 1))))]) [])))))) none) none) (some (CV.bool true, [])) := by kernel_rfl
theorem ub43 (s p : ByteArray) (n : Nat) (R : Env → Hp → Res) : parts Tryz.prog (call' A17) (filt aL43 0) n (codeOf Tryz.prog 95) (envOf Tryz.prog 95 [.c (.str s), .c (.str p)]) [] (fun _ => headK hL43 R) (endOf Tryz.prog 95 []) =
 R (mkEnv 32 [(0, .c (CV.str s)), (1, .c (CV.str p)), (11, .iter 0)]) [.iter s 0] := by kernel_rfl
theorem uc43 (s p : ByteArray) (i n : Nat) (L R : Env → Hp → Res) : parts Tryz.prog (call' A17) (filt aL43 0) n bL43 (mkEnv 32 [(0, .c (.str s)), (1, .c (.str p)), (11, .iter 0)]) [.iter s i] (fun _ => headK hI43 L) (thenK (headK hL43 R) (KL43 n)) =
 bif' (decide (i < s.size)) (L (mkEnv 32 [(0, .c (CV.str s)), (1, .c (CV.str p)), (5, .c (CV.int .i64 (↑i : Int))), (6, .c (CV.int .i32 (↑(Utf8.decode s i).fst : Int))), (7, .c (CV.bool false)), (11, .iter 0), (17, .iter 1)]) [.iter s (i + (Utf8.decode s i).snd), .iter p 0]) (some (CV.str ⟨⟨[]⟩⟩, [])) := by kernel_rfl
theorem ud43 (s p : ByteArray) (c d : Int) (t : Bool) (i j n : Nat) (L R : Env → Hp → Res) : aexec Tryz.prog (call' A17) (filt aL43 0) n (bodyN 0 bL43) (mkEnv 32 [(0, .c (.str s)), (1, .c (.str p)), (5, .c (.int .i64 d)), (6, .c (.int .i32 c)), (7, .c (.bool t)), (11, .iter 0), (17, .iter 1)]) [.iter s i, .iter p j] (thenK (headK hI43 L) (restN Tryz.prog (call' A17) (filt aL43 0) n 0 bL43 (thenK (headK hL43 R) (KL43 n)))) =
 bif' (decide (j < p.size)) (bif' t (L (mkEnv 32 [(0, .c (CV.str s)), (1, .c (CV.str p)), (5, .c (CV.int .i64 d)), (6, .c (CV.int .i32 c)), (7, .c (CV.bool true)), (11, .iter 0), (17, .iter 1)]) [.iter s i, .iter p (j + (Utf8.decode p j).snd)]) (L (mkEnv 32 [(0, .c (CV.str s)), (1, .c (CV.str p)), (5, .c (CV.int .i64 d)), (6, .c (CV.int .i32 c)), (7, .c (CV.bool (c == (↑(Utf8.decode p j).fst : Int)))), (11, .iter 0), (17, .iter 1)]) [.iter s i, .iter p (j + (Utf8.decode p j).snd)])) (bif' (!t) (bif' (decide (0 ≤ d)) (bif' (decide (d ≤ (↑s.size : Int))) (bif' (decide ((↑s.size : Int) ≤ (↑s.size : Int))) (some (CV.str (s.extract d.toNat (↑s.size : Int).toNat), [])) none) none) none) (R (mkEnv 32 [(0, .c (CV.str s)), (1, .c (CV.str p)), (11, .iter 0)]) [.iter s i])) := by kernel_rfl
theorem ub42 (s p : ByteArray) (n : Nat) (R : Env → Hp → Res) : parts Tryz.prog (call' A43) (filt aL42 0) n (codeOf Tryz.prog 94) (envOf Tryz.prog 94 [.c (.str s), .c (.str p)]) [] (fun _ => headK hL42 R) (endOf Tryz.prog 94 []) =
 R (mkEnv 39 [(0, .c (CV.str s)), (1, .c (CV.str p))]) [] := by kernel_rfl
theorem uc42 (s p : ByteArray) (n : Nat) (L R : Env → Hp → Res) : parts Tryz.prog (call' A43) (filt aL42 0) n bL42 (mkEnv 39 [(0, .c (.str s)), (1, .c (.str p))]) [] (fun _ => headK hI42 L) (thenK (headK hL42 R) (KL42 n)) =
 bif' (decide ((↑s.size : Int) > 0)) (bif' (decide (s.size ≤ 10000)) (L (mkEnv 39 [(0, .c (CV.str s)), (1, .c (CV.str p)), (5, .c (CV.int .i32 (lastR s))), (6, .c (CV.int .i64 (lastN s))), (7, .c (CV.bool false)), (19, .iter 0)]) [.iter p 0]) none) (some (CV.str s, [])) := by kernel_rfl
theorem ud42 (s p : ByteArray) (c d : Int) (t : Bool) (j n : Nat) (L R : Env → Hp → Res) : aexec Tryz.prog (call' A43) (filt aL42 0) n (bodyN 0 bL42) (mkEnv 39 [(0, .c (.str s)), (1, .c (.str p)), (5, .c (.int .i32 c)), (6, .c (.int .i64 d)), (7, .c (.bool t)), (19, .iter 0)]) [.iter p j] (thenK (headK hI42 L) (restN Tryz.prog (call' A43) (filt aL42 0) n 0 bL42 (thenK (headK hL42 R) (KL42 n)))) =
 bif' (decide (j < p.size)) (bif' t (L (mkEnv 39 [(0, .c (CV.str s)), (1, .c (CV.str p)), (5, .c (CV.int .i32 c)), (6, .c (CV.int .i64 d)), (7, .c (CV.bool true)), (19, .iter 0)]) [.iter p (j + (Utf8.decode p j).snd)]) (L (mkEnv 39 [(0, .c (CV.str s)), (1, .c (CV.str p)), (5, .c (CV.int .i32 c)), (6, .c (CV.int .i64 d)), (7, .c (CV.bool (c == (↑(Utf8.decode p j).fst : Int)))), (19, .iter 0)]) [.iter p (j + (Utf8.decode p j).snd)])) (bif' (!t) (some (CV.str s, [])) (bif' (decide (0 ≤ IntKind.i64.wrap ((↑s.size : Int) - d))) (bif' (decide (IntKind.i64.wrap ((↑s.size : Int) - d) ≤ (↑s.size : Int))) (R (mkEnv 39 [(0, .c (CV.str (s.extract (Int.toNat 0) (IntKind.i64.wrap ((↑s.size : Int) - d)).toNat))), (1, .c (CV.str p))]) []) none) none)) := by kernel_rfl
theorem ur24 (s p : ByteArray) : abody Tryz.prog (call' A42) (fun _ => none) 1 69 [.str s, .str p] =
 bif' (decide (s.size ≤ 10000) && (decide (p.size ≤ 100) && asciiS p)) (bif' (decide ((s.extract (clS s p) s.size).size ≤ 10000) && (decide (p.size ≤ 100) && asciiS p)) (some (CV.bool (((s.extract (clS s p) s.size).extract 0 (crS (s.extract (clS s p) s.size) p)).toList == (ByteArray.mk #[]).toList), [])) none) none := by kernel_rfl
theorem ub25 (s : ByteArray) (n : Nat) (R : Env → Hp → Res) : parts Tryz.prog (call' A24) (filt aL25 0) n (codeOf Tryz.prog 70) (envOf Tryz.prog 70 [.c (.str s)]) [] (fun _ => headK hL25 R) (endOf Tryz.prog 70 []) =
 R (mkEnv 46 [(0, .c (CV.str s)), (3, .c (CV.int .i64 (.ofNat 0)))]) [] := by kernel_rfl
theorem uc25 (s : ByteArray) (i : Int) (n : Nat) (R : Env → Hp → Res) : aexec Tryz.prog (call' A24) (filt aL25 0) n (bodyN 0 (codeOf Tryz.prog 70)) (mkEnv 46 [(0, .c (.str s)), (3, .c (.int .i64 i))]) [] (thenK (headK hL25 R) (restN Tryz.prog (call' A24) (filt aL25 0) n 0 (codeOf Tryz.prog 70) (endOf Tryz.prog 70 []))) =
 bif' (decide (i < (↑s.size : Int))) (bif' (decide (0 ≤ i)) (bif' (decide (i < (↑s.size : Int))) (bif' (decide (byteAt s i.toNat ≤ 32)) (some (CV.bool false, [])) (bif' (decide (byteAt s i.toNat > 126)) (some (CV.bool false, [])) (bif' (decide (Lib.indexByte (ByteArray.mk #[34, 60, 62, 92, 94, 96, 123, 124, 125]).data.toList (byteAt s i.toNat).toNat.toUInt8 ≥ 0)) (some (CV.bool false, [])) (bif' (byteAt s i.toNat == 37) (bif' (decide (IntKind.i64.wrap (i + 2) ≥ (↑s.size : Int))) (some (CV.bool false, [])) (bif' (decide (0 ≤ IntKind.i64.wrap (i + 1))) (bif' (decide (IntKind.i64.wrap (i + 1) ≤ IntKind.i64.wrap (i + 3))) (bif' (decide (IntKind.i64.wrap (i + 3) ≤ (↑s.size : Int))) (bif' (decide ((s.extract (IntKind.i64.wrap (i + 1)).toNat (IntKind.i64.wrap (i + 3)).toNat).size ≤ 10000) && (decide ((ByteArray.mk #[48, 49, 50, 51, 52, 53, 54, 55, 56, 57, 97, 98, 99, 100, 101, 102, 65, 66, 67, 68, 69, 70]).size ≤ 100) && asciiS (ByteArray.mk #[48, 49, 50, 51, 52, 53, 54, 55, 56, 57, 97, 98, 99, 100, 101, 102, 65, 66, 67, 68, 69, 70]))) (bif' (!allS (s.extract (IntKind.i64.wrap (i + 1)).toNat (IntKind.i64.wrap (i + 3)).toNat) (ByteArray.mk #[48, 49, 50, 51, 52, 53, 54, 55, 56, 57, 97, 98, 99, 100, 101, 102, 65, 66, 67, 68, 69, 70])) (some (CV.bool false, [])) (R (mkEnv 46 [(0, .c (CV.str s)), (3, .c (CV.int .i64 (IntKind.i64.wrap (i + 1))))]) [])) none) none) none) none)) (R (mkEnv 46 [(0, .c (CV.str s)), (3, .c (CV.int .i64 (IntKind.i64.wrap (i + 1))))]) []))))) none) none) (some (CV.bool true, [])) := by kernel_rfl
end Go.Pv
namespace Go.Pv
set_option maxRecDepth 100000
open Go Go.Proofs
variable {I : World → Prop} {ng : Nat}
def d35 (c : Int) : Int := if c ≥ 48 then if c ≤ 57 then IntKind.i64.wrap (IntKind.u8.wrap (c - 48)) else
   if c ≥ 97 then if c ≤ 102 then IntKind.i64.wrap (IntKind.i64.wrap (IntKind.u8.wrap (c - 97)) + 10) else
     if c ≥ 65 then if c ≤ 70 then IntKind.i64.wrap (IntKind.i64.wrap (IntKind.u8.wrap (c - 65)) + 10) else -1 else -1
   else if c ≥ 65 then if c ≤ 70 then IntKind.i64.wrap (IntKind.i64.wrap (IntKind.u8.wrap (c - 65)) + 10) else -1 else -1
 else if c ≥ 97 then if c ≤ 102 then IntKind.i64.wrap (IntKind.i64.wrap (IntKind.u8.wrap (c - 97)) + 10) else
     if c ≥ 65 then if c ≤ 70 then IntKind.i64.wrap (IntKind.i64.wrap (IntKind.u8.wrap (c - 65)) + 10) else -1 else -1
   else if c ≥ 65 then if c ≤ 70 then IntKind.i64.wrap (IntKind.i64.wrap (IntKind.u8.wrap (c - 65)) + 10) else -1 else -1
theorem d35_hx : ∀ n : Nat, n < 256 → d35 (n : Int) = hx (n : Int) := by decide +kernel
theorem g35 (hg : OnGlobals I ng) (h : Kw I ng A23) : Kw I ng A35 := known_add h (contract_of (fun _ => none) hg (hok_of h) fun cargs rv outs h => by
 unfold L35 at h
 split at h <;> first | (cases h; done) | skip
 rename_i c
 by_cases hc : 0 ≤ c ∧ c < 256
 · simp only [picked, pickAlt, decide_eq_true hc.1, decide_eq_true hc.2, Bool.and_self] at h
   cases h
   obtain ⟨n, rfl⟩ : ∃ n : Nat, c = n := ⟨c.toNat, by omega⟩
   refine ⟨1, ?_⟩
   rw [← d35_hx n (by omega), ur35]
   simp only [bif_dec]
   unfold d35
   repeat' split
   all_goals rfl
 · have : (decide (0 ≤ c) && decide (c < 256)) = false := Bool.eq_false_iff.2 fun hh => hc (by simpa using hh)
   simp only [picked, pickAlt, this] at h; cases h)
theorem hx_le (c : Int) : -1 ≤ hx c ∧ hx c ≤ 15 := by
 unfold hx
 split
 · omega
 · split
   · omega
   · split <;> omega
theorem two_of {s : ByteArray} (h : s.size = 2) : ∃ a b, s = ⟨#[a, b]⟩ := by
 obtain ⟨⟨l⟩⟩ := s
 match l, h with
 | [a, b], _ => exact ⟨a, b, rfl⟩
theorem nib19 : ∀ x : Nat, x < 16 → ∀ y : Nat, y < 16 → IntKind.u8.wrap (IntKind.i64.wrap (IntKind.i64.wrap (16 * (x : Int)) + (y : Int))) = 16 * (x : Int) + y := by decide +kernel
theorem byte_lt (s : ByteArray) (i : Nat) : 0 ≤ byteAt s i ∧ byteAt s i < 256 := by
 unfold byteAt
 have := (s.data.toList.getD i 0).toNat_lt
 omega
theorem wrap01 : (IntKind.i64.wrap (0 + 1)).toNat = 1 := by decide +kernel
theorem g19 (hg : OnGlobals I ng) (h : Kw I ng A23) : Kw I ng A19 := known_add (g35 hg h) (contract_of (fun _ => none) hg (hok_of (g35 hg h)) fun cargs rv outs h => by
 unfold L19 at h
 split at h <;> first | (cases h; done) | skip
 rename_i s
 have hs : s.size = 2 := by
   simp only [picked, pickAlt] at h
   split at h
   · rename_i hb; simp only [Bool.and_eq_true, decide_eq_true_eq] at hb; exact hb.1
   · split at h
     · rename_i hb; exact of_decide_eq_true hb
     · cases h
 obtain ⟨a, b, rfl⟩ := two_of hs
 refine ⟨3, ?_⟩
 rw [ur19]
 have h0 := byte_lt ⟨#[a, b]⟩ 0
 have h1 := byte_lt ⟨#[a, b]⟩ 1
 simp only [wrap01, show (Int.toNat 0) = 0 from rfl]
 rw [bif_t _ none (by simp [h0])]
 have hx0 := hx_le (byteAt ⟨#[a, b]⟩ 0)
 have hx1 := hx_le (byteAt ⟨#[a, b]⟩ 1)
 rw [show (decide (0 ≤ byteAt ⟨#[a, b]⟩ 0) && decide (byteAt ⟨#[a, b]⟩ 0 < 256)) = true by simp [h0], show (decide (0 ≤ byteAt ⟨#[a, b]⟩ 1) && decide (byteAt ⟨#[a, b]⟩ 1 < 256)) = true by simp [h1]]
 simp only [show ∀ x y : Res, bif' true x y = x from fun _ _ => rfl]
 generalize hx (byteAt ⟨#[a, b]⟩ 0) = x at *
 generalize hx (byteAt ⟨#[a, b]⟩ 1) = y at *
 simp only [bif_dec]
 simp only [picked, pickAlt, hs, decide_true, Bool.true_and] at h
 by_cases c0 : x < 0
 · rw [if_pos c0]
   rw [show (decide (0 ≤ x) && decide (0 ≤ y)) = false by simp; omega] at h
   exact h
 · rw [if_neg c0]
   by_cases c1 : y < 0
   · rw [if_pos c1]
     rw [show (decide (0 ≤ x) && decide (0 ≤ y)) = false by simp; omega] at h
     exact h
   · rw [if_neg c1]
     rw [show (decide (0 ≤ x) && decide (0 ≤ y)) = true by simp; omega] at h
     obtain ⟨m, rfl⟩ : ∃ m : Nat, x = m := ⟨x.toNat, by omega⟩
     obtain ⟨k, rfl⟩ : ∃ k : Nat, y = k := ⟨y.toNat, by omega⟩
     rw [nib19 m (by omega) k (by omega)]
     exact h)
theorem ext2 {s : List UInt8} {k : Nat} (h : k + 3 ≤ s.length) : (mkS s).extract (k + 1) (k + 3) = mkS [s.getD (k + 1) 0, s.getD (k + 2) 0] := by
 rw [mkS_ext]
 congr 1
 rw [drop_getD (show k + 1 < s.length by omega), drop_getD (show k + 1 + 1 < s.length by omega)]
 simp
theorem never8 : ∀ n : Nat, n < 256 → (inS (ByteArray.mk #[34, 60, 62, 92, 94, 123, 124, 125]) (n : Int) || decide (n = 96)) = ([34, 60, 62, 92, 94, 96, 123, 124, 125] : List UInt8).contains (UInt8.ofNat n) := by decide +kernel
theorem never9 : ∀ n : Nat, n < 256 → decide (Lib.indexByte (ByteArray.mk #[34, 60, 62, 92, 94, 96, 123, 124, 125]).data.toList (UInt8.ofNat n) ≥ 0) = ([34, 60, 62, 92, 94, 96, 123, 124, 125] : List UInt8).contains (UInt8.ofNat n) := by decide +kernel
def okAt (s : List UInt8) (k : Nat) : Bool := okU (s.getD k 0) && (!decide (s.getD k 0 = 37) || (decide (k + 3 ≤ s.length) && (hexd (s.getD (k + 1) 0) && hexd (s.getD (k + 2) 0))))
theorem stL_at {s : List UInt8} {k : Nat} (h : k < s.length) : stL (s.drop k) = (okAt s k && stL (s.drop (k + 1))) := by
 rw [drop_getD h]
 conv => lhs; unfold stL
 unfold okAt
 rw [Bool.and_assoc]
 congr 2
 congr 1
 by_cases h3 : k + 3 ≤ s.length
 · rw [drop_getD (show k + 1 < s.length by omega), drop_getD (show k + 1 + 1 < s.length by omega), decide_eq_true h3, Bool.true_and]
 · rw [decide_eq_false h3, Bool.false_and]
   by_cases h2 : k + 2 ≤ s.length
   · rw [drop_getD (show k + 1 < s.length by omega), List.drop_of_length_le (by omega)]
   · rw [List.drop_of_length_le (by omega)]
theorem u8n (c : UInt8) : UInt8.ofNat c.toNat = c := by simp
noncomputable abbrev R17 (n j : Nat) (env : Env) (H : Hp) : Res := rounds Tryz.prog (call' A19) (filt aL17 0) n hL17 (bodyN 0 (codeOf Tryz.prog 40)) j env H (restN Tryz.prog (call' A19) (filt aL17 0) n 0 (codeOf Tryz.prog 40) (endOf Tryz.prog 40 []))
theorem lo17 (n : Nat) (s : List UInt8) (hs : s.length ≤ 10000) : ∀ (j k : Nat), s.length < j + k → k ≤ s.length →
   R17 n j (mkEnv 49 [(0, .c (.str (mkS s))), (3, .c (.int .i64 (k : Int)))]) [] = some (.bool (stL (s.drop k)), [])
 | 0, k, hj, hk => by omega
 | j + 1, k, hj, hk => by
   unfold R17
   rw [rounds_succ, uc17]
   have w1 : IntKind.i64.wrap ((k : Int) + 1) = ((k + 1 : Nat) : Int) := wrp1 (by omega)
   have w3 : IntKind.i64.wrap ((k : Int) + 3) = ((k + 3 : Nat) : Int) := wrp (i := k) (k := 3) (by omega) (by omega)
   simp only [bif_dec]
   simp only [atM, sizeM, bif_b, natM, w1, w3]
   by_cases h1 : k < s.length
   · rw [if_pos (by omega), if_pos (by omega), if_pos (by omega), stL_at h1]
     have hn := never8 (s.getD k 0).toNat (UInt8.toNat_lt _)
     rw [u8n] at hn
     unfold okAt okU
     generalize hc : s.getD k 0 = c at *
     have ih := lo17 n s hs j (k + 1) (by omega) (by omega)
     unfold R17 at ih
     by_cases a1 : (c.toNat : Int) < 33
     · rw [if_pos a1, decide_eq_false (show ¬ 33 ≤ c.toNat by omega)]; rfl
     rw [if_neg a1, decide_eq_true (show 33 ≤ c.toNat by omega), Bool.true_and]
     by_cases a2 : (c.toNat : Int) > 126
     · rw [if_pos a2, decide_eq_false (show ¬ c.toNat ≤ 126 by omega)]; rfl
     rw [if_neg a2, decide_eq_true (show c.toNat ≤ 126 by omega), Bool.true_and, ← hn]
     by_cases a3 : inS (ByteArray.mk #[34, 60, 62, 92, 94, 123, 124, 125]) (c.toNat : Int) = true
     · rw [if_pos a3, a3]; rfl
     rw [if_neg a3, Bool.eq_false_iff.2 a3, Bool.false_or]
     by_cases a4 : c.toNat = 96
     · have a4' : (c.toNat : Int) = 96 := by omega
       rw [if_pos (beq_iff_eq.2 a4'), decide_eq_true a4]; rfl
     have a4' : ¬ (c.toNat : Int) = 96 := by omega
     rw [if_neg (fun h => a4' (beq_iff_eq.1 h)), decide_eq_false a4, Bool.not_false, Bool.true_and]
     by_cases a5 : c = 37
     · rw [if_pos (by rw [a5]; rfl), decide_eq_true a5, Bool.not_true, Bool.false_or]
       by_cases a6 : k + 3 ≤ s.length
       · rw [if_neg (by omega), if_pos (by omega), if_pos (by omega), if_pos (by omega), decide_eq_true a6, Bool.true_and, ext2 a6]
         simp only [sizeM, atM]
         have e0 : ([s.getD (k + 1) 0, s.getD (k + 2) 0] : List UInt8).getD 0 0 = s.getD (k + 1) 0 := rfl
         have e1 : ([s.getD (k + 1) 0, s.getD (k + 2) 0] : List UInt8).getD 1 0 = s.getD (k + 2) 0 := rfl
         have e2 : ([s.getD (k + 1) 0, s.getD (k + 2) 0] : List UInt8).length = 2 := rfl
         rw [e0, e1, e2, show decide (2 = 2) = true from rfl, Bool.true_and]
         unfold hexd
         by_cases a7 : (decide (0 ≤ hx ((s.getD (k + 1) 0).toNat : Int)) && decide (0 ≤ hx ((s.getD (k + 2) 0).toNat : Int))) = true
         · rw [if_pos a7, a7, ih, Bool.true_and]
         · rw [if_neg a7, Bool.eq_false_iff.2 a7, if_pos rfl]; rfl
       · rw [if_pos (by omega), decide_eq_false a6]; rfl
     · have : ¬ (c.toNat : Int) = 37 := by
         intro e
         exact a5 (UInt8.toNat.inj (show c.toNat = (37 : UInt8).toNat by have : (37 : UInt8).toNat = 37 := rfl; omega))
       rw [if_neg (by simpa using this), ih, decide_eq_false a5]
       rfl
   · rw [if_neg (by omega), List.drop_of_length_le (by omega)]; rfl
theorem g17 (hg : OnGlobals I ng) (h : Kw I ng A23) : Kw I ng A17 := known_add (g19 hg h) (contract_of aL17 hg (hok_of (g19 hg h)) fun cargs rv outs h => by
 unfold L17 at h
 split at h <;> first | (cases h; done) | skip
 rename_i s
 by_cases hs : s.size ≤ 10000
 · simp only [picked, pickAlt, decide_eq_true hs] at h
   cases h
   refine ⟨12000, loop1 rfl (by kernel_rfl) (by kernel_rfl) (by kernel_rfl) (hd := hL17) (by kernel_rfl) ?_⟩
   have hl := data_len s
   refine (ub17 s 12000 (R17 12000 12000)).trans ?_
   have hlo := lo17 12000 s.data.toList (by omega) 12000 0 (by omega) (by omega)
   rw [mkS_bl] at hlo
   exact hlo
 · simp only [picked, pickAlt, decide_eq_false hs] at h; cases h)
end Go.Pv
namespace Go.Pv
set_option maxRecDepth 100000
open Go Go.Proofs
variable {I : World → Prop} {ng : Nat}
theorem get_mkS (s : List UInt8) (i : Nat) (h : i < (mkS s).size) : (mkS s)[i]'h = s.getD i 0 := by
 have h' : i < s.length := h
 show s.toArray[i] = _
 simp [List.getD_eq_getElem?_getD, h']
theorem dec_low {s : List UInt8} {i : Nat} (h : i < s.length) (ha : (s.getD i 0).toNat < 128) : Utf8.decode (mkS s) i = ((s.getD i 0).toNat, 1) := by
 have h' : i < (mkS s).size := h
 have := decode_ascii (mkS s) i h' (by rw [get_mkS]; exact ha)
 rw [get_mkS] at this
 exact this
theorem dec_high {s : List UInt8} {i : Nat} (h : i < s.length) (ha : 128 ≤ (s.getD i 0).toNat) : 128 ≤ (Utf8.decode (mkS s) i).1 ∧ 1 ≤ (Utf8.decode (mkS s) i).2 := by
 have h' : i < (mkS s).size := h
 exact decode_high (mkS s) i h' (by rw [get_mkS]; exact ha)
theorem ascii_get {p : List UInt8} (h : asciiS (mkS p) = true) : ∀ b ∈ p, b.toNat < 128 := by
 intro b hb
 unfold asciiS at h
 rw [mkS_data] at h
 have := List.all_eq_true.1 h b hb
 simpa using this
theorem ascii_no {p : List UInt8} (h : asciiS (mkS p) = true) {c : Nat} (hc : 128 ≤ c) : inS (mkS p) (c : Int) = false := by
 unfold inS
 rw [mkS_data]
 refine List.any_eq_false.2 fun b hb => ?_
 have := ascii_get h b hb
 simp; omega
theorem lastR_low {s : List UInt8} (h : s ≠ []) (ha : (s.getD (s.length - 1) 0).toNat < 128) : lastR (mkS s) = ((s.getD (s.length - 1) 0).toNat : Int) ∧ lastN (mkS s) = 1 := by
 unfold lastR lastN Lib.decodeLastL
 rw [mkS_data, if_neg h, if_pos ha]
 exact ⟨rfl, rfl⟩
theorem lastR_high {s : List UInt8} (h : s ≠ []) (ha : 128 ≤ (s.getD (s.length - 1) 0).toNat) : 128 ≤ lastR (mkS s) := by
 unfold lastR Lib.decodeLastL
 rw [mkS_data, if_neg h, if_neg (by omega)]
 have hpos : 0 < s.length := by cases s with | nil => exact absurd rfl h | cons _ _ => simp
 dsimp only
 split
 · rename_i hd
   have hl : Lib.lastStart s < s.length := by
     unfold Lib.lastStart
     dsimp only
     split
     · omega
     · split
       · omega
       · split
         · omega
         · split
           · omega
           · split
             · omega
             · split
               · omega
               · split <;> omega
   have hdec : Lib.decodeL (s.drop (Lib.lastStart s)) = Utf8.decode (mkS s) (Lib.lastStart s) := Lib.decodeL_drop (mkS s) (Lib.lastStart s)
   rw [hdec] at hd ⊢
   by_cases hb : (s.getD (Lib.lastStart s) 0).toNat < 128
   · rw [dec_low hl hb] at hd
     have e : Lib.lastStart s = s.length - 1 := by simp at hd; omega
     rw [e] at hb; omega
   · have := (dec_high hl (by omega)).1
     omega
 · show (128 : Int) ≤ ((Utf8.runeError : Nat) : Int)
   decide
def E43 (s p : List UInt8) : Env := mkEnv 32 [(0, .c (.str (mkS s))), (1, .c (.str (mkS p))), (11, .iter 0)]
def EI43 (s p : List UInt8) (d c : Nat) (t : Bool) : Env := mkEnv 32 [(0, .c (.str (mkS s))), (1, .c (.str (mkS p))), (5, .c (.int .i64 (d : Int))), (6, .c (.int .i32 (c : Int))), (7, .c (.bool t)), (11, .iter 0), (17, .iter 1)]
noncomputable abbrev RI43 (n j : Nat) (R : Env → Hp → Res) (env : Env) (H : Hp) : Res := rounds Tryz.prog (call' A17) (filt aL43 0) n hI43 (bodyN 0 bL43) j env H (restN Tryz.prog (call' A17) (filt aL43 0) n 0 bL43 (thenK (headK hL43 R) (KL43 n)))
theorem li43 (n : Nat) (s p : List UInt8) (i d c : Nat) (R : Env → Hp → Res) (hp : asciiS (mkS p) = true) (hd : d ≤ s.length) : ∀ (j k : Nat) (t : Bool), p.length < j + k → k ≤ p.length →
   RI43 n j R (EI43 s p d c t) [.iter (mkS s) i, .iter (mkS p) k] = if (t || (p.drop k).any fun b => decide ((b.toNat : Int) = (c : Int))) = true then R (E43 s p) [.iter (mkS s) i] else some (.str (mkS (s.drop d)), [])
 | 0, k, t, hj, hk => by omega
 | j + 1, k, t, hj, hk => by
   unfold RI43
   rw [rounds_succ]
   unfold EI43
   rw [ud43]
   simp only [bif_dec]
   simp only [sizeM, natM]
   by_cases h1 : k < p.length
   · have hb := ascii_get hp (p.getD k 0) (by rw [List.getD_eq_getElem?_getD, List.getElem?_eq_getElem h1]; simp)
     have hdec := dec_low h1 hb
     rw [if_pos h1, hdec]
     have ih := li43 n s p i d c R hp hd j (k + 1)
     unfold RI43 EI43 at ih
     rw [drop_getD h1, List.any_cons]
     cases t with
     | true =>
       rw [bif_t _ _ rfl, ih true (by omega) (by omega)]
       simp
     | false =>
       rw [bif_f _ _ rfl, ih _ (by omega) (by omega)]
       have : ((c : Int) == ((p.getD k 0).toNat : Int)) = decide (((p.getD k 0).toNat : Int) = (c : Int)) := by
         rw [Bool.eq_iff_iff, beq_iff_eq, decide_eq_true_eq]; exact eq_comm
       rw [this]
       simp
   · rw [if_neg h1, List.drop_of_length_le (by omega), List.any_nil, Bool.or_false]
     cases t with
     | true =>
       rw [show (!true) = false from rfl, bif_f _ _ rfl, if_pos rfl]; rfl
     | false =>
       rw [show (!false) = true from rfl, bif_t _ _ rfl, if_pos (by omega), if_pos (by omega), if_pos (by omega), if_neg (by simp), mkS_ext, List.take_of_length_le (by simp)]
noncomputable abbrev R43 (n j : Nat) (env : Env) (H : Hp) : Res := rounds Tryz.prog (call' A17) (filt aL43 0) n hL43 bL43 j env H (KL43 n)
theorem ids43 : idsOk bL43 = true := by kernel_rfl
theorem n43 : nLoops bL43 = 1 := by kernel_rfl
theorem fr43 : (firstRegion (bodyN 0 bL43)).bind (filt aL43 0) = some hI43 := by kernel_rfl
theorem lo43 (n : Nat) (hn : 101 ≤ n) (s p : List UInt8) (hs : s.length ≤ 10000) (hp : asciiS (mkS p) = true) (hpl : p.length ≤ 100) : ∀ (j k : Nat), s.length < j + k → k ≤ s.length →
   R43 n j (E43 s p) [.iter (mkS s) k] = some (.str (mkS ((s.drop k).dropWhile fun b => inS (mkS p) b.toNat)), [])
 | 0, k, hj, hk => by omega
 | j + 1, k, hj, hk => by
   unfold R43
   rw [rounds_succ]
   have hcut := cut_eq (P := Tryz.prog) (tb := call' A17) (an := filt aL43 0) (fuel := n) (L := fun _ => headK hI43 (RI43 n n (fun env H => R43 n j env H))) bL43 0 (thenK (headK hL43 fun env H => R43 n j env H) (KL43 n)) (E43 s p) [.iter (mkS s) k] ids43 (fun i env H hi => by
     rw [n43] at hi
     obtain rfl : i = 0 := by omega
     exact (loop_eq fr43).symm)
   refine hcut.trans ?_
   have hr := uc43 (mkS s) (mkS p) k n (RI43 n n (fun env H => R43 n j env H)) (fun env H => R43 n j env H)
   unfold parts at hr
   unfold E43 at *
   refine hr.trans ?_
   rw [bif_dec]
   by_cases h1 : k < s.length
   · rw [if_pos (by rw [mkS_size]; exact h1)]
     have hin := fun c => li43 n s p (k + (Utf8.decode (mkS s) k).2) k c (fun env H => R43 n j env H) hp (by omega) n 0 false (by omega) (by omega)
     unfold EI43 E43 at hin
     rw [hin, Bool.false_or, List.drop_zero, drop_getD h1]
     by_cases hb : (s.getD k 0).toNat < 128
     · rw [dec_low h1 hb]
       have : (p.any fun b => decide ((b.toNat : Int) = ((s.getD k 0).toNat : Int))) = inS (mkS p) ((s.getD k 0).toNat : Int) := by
         unfold inS; rw [mkS_data]
       dsimp only
       rw [this]
       by_cases hc : inS (mkS p) ((s.getD k 0).toNat : Int) = true
       · rw [if_pos hc, List.dropWhile_cons_of_pos (p := fun b : UInt8 => inS (mkS p) (b.toNat : Int)) (a := s.getD k 0) hc]
         exact lo43 n hn s p hs hp hpl j (k + 1) (by omega) (by omega)
       · rw [if_neg hc, List.dropWhile_cons_of_neg (p := fun b : UInt8 => inS (mkS p) (b.toNat : Int)) (a := s.getD k 0) hc]
     · have hh := dec_high h1 (by omega)
       have h2 : (p.any fun b => decide ((b.toNat : Int) = (((Utf8.decode (mkS s) k).1 : Nat) : Int))) = false := by
         have := ascii_no hp hh.1
         unfold inS at this; rw [mkS_data] at this; exact this
       have h3 := ascii_no hp (show 128 ≤ (s.getD k 0).toNat by omega)
       rw [h2, if_neg (by simp), List.dropWhile_cons_of_neg (p := fun b : UInt8 => inS (mkS p) (b.toNat : Int)) (a := s.getD k 0) (by rw [h3]; simp)]
   · rw [if_neg (by rw [mkS_size]; exact h1), List.drop_of_length_le (by omega)]
     rfl
theorem drop_tw (l : List UInt8) (q : UInt8 → Bool) : l.drop (l.takeWhile q).length = l.dropWhile q := by
 have h := @List.drop_left _ (l.takeWhile q) (l.dropWhile q)
 rw [List.takeWhile_append_dropWhile] at h
 exact h
theorem g43 (hg : OnGlobals I ng) (h : Kw I ng A23) : Kw I ng A43 := known_add (g17 hg h) (contract_of aL43 hg (hok_of (g17 hg h)) fun cargs rv outs h => by
 unfold L43 at h
 split at h <;> first | (cases h; done) | skip
 rename_i s p
 by_cases hc : s.size ≤ 10000 ∧ p.size ≤ 100 ∧ asciiS p = true
 · obtain ⟨hs, hp, ha⟩ := hc
   simp only [picked, pickAlt, decide_eq_true hs, decide_eq_true hp, ha, Bool.and_self] at h
   cases h
   refine ⟨12000, loop1 rfl (by kernel_rfl) (by kernel_rfl) (by kernel_rfl) (hd := hL43) (by kernel_rfl) ?_⟩
   have hl := data_len s
   have hl' := data_len p
   refine (ub43 s p 12000 (fun env H => R43 12000 12000 env H)).trans ?_
   have hlo := lo43 12000 (by omega) s.data.toList p.data.toList (by omega) (by rw [mkS_bl]; exact ha) (by omega) 12000 0 (by omega) (by omega)
   unfold E43 at hlo
   rw [mkS_bl, mkS_bl, List.drop_zero, ← drop_tw] at hlo
   refine hlo.trans ?_
   unfold clS
   conv => rhs; rw [← mkS_bl s]
   rw [mkS_ext, mkS_data]
   congr 4
   rw [List.take_of_length_le]
   simp [mkS_size]
 · have : (decide (s.size ≤ 10000) && (decide (p.size ≤ 100) && asciiS p)) = false := Bool.eq_false_iff.2 fun hh => hc (by simpa using hh)
   simp only [picked, pickAlt, this] at h; cases h)
def E42 (s p : List UInt8) : Env := mkEnv 39 [(0, .c (.str (mkS s))), (1, .c (.str (mkS p)))]
def EI42 (s p : List UInt8) (c d : Int) (t : Bool) : Env := mkEnv 39 [(0, .c (.str (mkS s))), (1, .c (.str (mkS p))), (5, .c (.int .i32 c)), (6, .c (.int .i64 d)), (7, .c (.bool t)), (19, .iter 0)]
noncomputable abbrev RI42 (n j : Nat) (R : Env → Hp → Res) (env : Env) (H : Hp) : Res := rounds Tryz.prog (call' A43) (filt aL42 0) n hI42 (bodyN 0 bL42) j env H (restN Tryz.prog (call' A43) (filt aL42 0) n 0 bL42 (thenK (headK hL42 R) (KL42 n)))
theorem li42 (n : Nat) (s p : List UInt8) (c d : Int) (R : Env → Hp → Res) (X : Res) (hp : asciiS (mkS p) = true)
   (hX : bif' (decide (0 ≤ IntKind.i64.wrap ((s.length : Int) - d))) (bif' (decide (IntKind.i64.wrap ((s.length : Int) - d) ≤ (s.length : Int))) (R (mkEnv 39 [(0, .c (.str ((mkS s).extract (Int.toNat 0) (IntKind.i64.wrap ((s.length : Int) - d)).toNat))), (1, .c (.str (mkS p)))]) []) none) none = X) : ∀ (j k : Nat) (t : Bool), p.length < j + k → k ≤ p.length →
   RI42 n j R (EI42 s p c d t) [.iter (mkS p) k] = if (t || (p.drop k).any fun b => decide ((b.toNat : Int) = c)) = true then X else some (.str (mkS s), [])
 | 0, k, t, hj, hk => by omega
 | j + 1, k, t, hj, hk => by
   unfold RI42
   rw [rounds_succ]
   unfold EI42
   rw [ud42]
   by_cases h1 : k < p.length
   · have hb := ascii_get hp (p.getD k 0) (by rw [List.getD_eq_getElem?_getD, List.getElem?_eq_getElem h1]; simp)
     have hdec := dec_low h1 hb
     rw [bif_t _ _ (decide_eq_true (show k < (mkS p).size from h1)), hdec]
     have ih := li42 n s p c d R X hp hX j (k + 1)
     unfold RI42 EI42 at ih
     rw [drop_getD h1, List.any_cons]
     cases t with
     | true =>
       rw [bif_t _ _ rfl, ih true (by omega) (by omega)]
       simp
     | false =>
       rw [bif_f _ _ rfl, ih _ (by omega) (by omega)]
       have : (c == ((p.getD k 0).toNat : Int)) = decide (((p.getD k 0).toNat : Int) = c) := by
         rw [Bool.eq_iff_iff, beq_iff_eq, decide_eq_true_eq]; exact eq_comm
       rw [this]
       simp
   · rw [bif_f _ _ (decide_eq_false (show ¬ k < (mkS p).size from h1)), List.drop_of_length_le (by omega), List.any_nil, Bool.or_false]
     cases t with
     | true =>
       rw [show (!true) = false from rfl, bif_f _ _ rfl, if_pos rfl]
       exact hX
     | false =>
       rw [show (!false) = true from rfl, bif_t _ _ rfl, if_neg (by simp)]
noncomputable abbrev R42 (n j : Nat) (env : Env) (H : Hp) : Res := rounds Tryz.prog (call' A43) (filt aL42 0) n hL42 bL42 j env H (KL42 n)
theorem ids42 : idsOk bL42 = true := by kernel_rfl
theorem n42 : nLoops bL42 = 1 := by kernel_rfl
theorem fr42 : (firstRegion (bodyN 0 bL42)).bind (filt aL42 0) = some hI42 := by kernel_rfl
theorem lo42 (n : Nat) (hn : 101 ≤ n) (s p : List UInt8) (hs : s.length ≤ 10000) (hp : asciiS (mkS p) = true) (hpl : p.length ≤ 100) : ∀ (j k : Nat), k < j → k ≤ s.length →
   R42 n j (E42 (s.take k) p) [] = some (.str (mkS (s.take (crL (mkS p) k s))), [])
 | 0, k, hj, hk => by omega
 | j + 1, k, hj, hk => by
   unfold R42
   rw [rounds_succ]
   have hcut := cut_eq (P := Tryz.prog) (tb := call' A43) (an := filt aL42 0) (fuel := n) (L := fun _ => headK hI42 (RI42 n n (fun env H => R42 n j env H))) bL42 0 (thenK (headK hL42 fun env H => R42 n j env H) (KL42 n)) (E42 (s.take k) p) [] ids42 (fun i env H hi => by
     rw [n42] at hi
     obtain rfl : i = 0 := by omega
     exact (loop_eq fr42).symm)
   refine hcut.trans ?_
   have hr := uc42 (mkS (s.take k)) (mkS p) n (RI42 n n (fun env H => R42 n j env H)) (fun env H => R42 n j env H)
   unfold parts at hr
   unfold E42
   refine hr.trans ?_
   have hlen : (s.take k).length = k := by rw [List.length_take]; omega
   cases k with
   | zero =>
     rw [bif_f _ _ (decide_eq_false (by rw [mkS_size]; simp))]
     rfl
   | succ k =>
     have hlast : (s.take (k + 1)).getD ((s.take (k + 1)).length - 1) 0 = s.getD k 0 := by
       rw [hlen, List.getD_eq_getElem?_getD, List.getElem?_take, if_pos (by omega), ← List.getD_eq_getElem?_getD]; rfl
     have hne : s.take (k + 1) ≠ [] := by intro e; rw [e] at hlen; simp at hlen
     rw [bif_t _ _ (decide_eq_true (by rw [mkS_size, hlen]; omega)), bif_t _ _ (decide_eq_true (by rw [mkS_size, hlen]; omega))]
     by_cases hb : (s.getD k 0).toNat < 128
     · obtain ⟨r1, r2⟩ := lastR_low hne (by rw [hlast]; exact hb)
       rw [hlast] at r1
       have hin := li42 n (s.take (k + 1)) p (lastR (mkS (s.take (k + 1)))) (lastN (mkS (s.take (k + 1)))) (fun env H => R42 n j env H) (R42 n j (E42 (s.take k) p) []) hp (by
         have hw : IntKind.i64.wrap (((s.take (k + 1)).length : Int) - 1) = (k : Int) := by rw [hlen]; exact wrm (by omega)
         rw [r2, hw, bif_t _ _ (decide_eq_true (by omega)), bif_t _ _ (decide_eq_true (by omega))]
         have he : (mkS (s.take (k + 1))).extract (Int.toNat 0) (k : Int).toNat = mkS (s.take k) := by
           rw [natM, show Int.toNat 0 = 0 from rfl, mkS_ext, List.drop_zero, Nat.sub_zero, List.take_take]
           congr 2; omega
         rw [he]; rfl) n 0 false (by omega) (by omega)
       unfold EI42 at hin
       rw [hin, Bool.false_or, List.drop_zero, r1]
       have : (p.any fun b => decide ((b.toNat : Int) = ((s.getD k 0).toNat : Int))) = inS (mkS p) ((s.getD k 0).toNat : Int) := by
         unfold inS; rw [mkS_data]
       rw [this]
       unfold crL
       by_cases hc : inS (mkS p) ((s.getD k 0).toNat : Int) = true
       · rw [if_pos hc, if_pos hc]
         exact lo42 n hn s p hs hp hpl j k (by omega) (by omega)
       · rw [if_neg hc, if_neg hc]
     · have hh := lastR_high hne (by rw [hlast]; omega)
       have hin := li42 n (s.take (k + 1)) p (lastR (mkS (s.take (k + 1)))) (lastN (mkS (s.take (k + 1)))) (fun env H => R42 n j env H) _ hp rfl n 0 false (by omega) (by omega)
       unfold EI42 at hin
       rw [hin, Bool.false_or, List.drop_zero]
       have h2 : (p.any fun b => decide ((b.toNat : Int) = lastR (mkS (s.take (k + 1))))) = false := by
         refine List.any_eq_false.2 fun b hb' => ?_
         have := ascii_get hp b hb'
         simp; omega
       have h3 := ascii_no hp (show 128 ≤ (s.getD k 0).toNat by omega)
       rw [h2, if_neg (by simp)]
       unfold crL
       rw [h3, if_neg (by simp)]
theorem g42 (hg : OnGlobals I ng) (h : Kw I ng A23) : Kw I ng A42 := known_add (g43 hg h) (contract_of aL42 hg (hok_of (g43 hg h)) fun cargs rv outs h => by
 unfold L42 at h
 split at h <;> first | (cases h; done) | skip
 rename_i s p
 by_cases hc : s.size ≤ 10000 ∧ p.size ≤ 100 ∧ asciiS p = true
 · obtain ⟨hs, hp, ha⟩ := hc
   simp only [picked, pickAlt, decide_eq_true hs, decide_eq_true hp, ha, Bool.and_self] at h
   cases h
   refine ⟨12000, loop1 rfl (by kernel_rfl) (by kernel_rfl) (by kernel_rfl) (hd := hL42) (by kernel_rfl) ?_⟩
   have hl := data_len s
   have hl' := data_len p
   refine (ub42 s p 12000 (fun env H => R42 12000 12000 env H)).trans ?_
   have hlo := lo42 12000 (by omega) s.data.toList p.data.toList (by omega) (by rw [mkS_bl]; exact ha) (by omega) 12000 s.size (by omega) (by omega)
   unfold E42 at hlo
   rw [List.take_of_length_le (by omega), mkS_bl, mkS_bl] at hlo
   refine hlo.trans ?_
   unfold crS
   conv => rhs; rw [← mkS_bl s]
   rw [mkS_ext, mkS_data, mkS_size, List.drop_zero, Nat.sub_zero, hl]
 · have : (decide (s.size ≤ 10000) && (decide (p.size ≤ 100) && asciiS p)) = false := Bool.eq_false_iff.2 fun hh => hc (by simpa using hh)
   simp only [picked, pickAlt, this] at h; cases h)
theorem crL_pos {p : ByteArray} {b : UInt8} {t : List UInt8} (h : inS p b.toNat = false) : ∀ k, k ≤ (b :: t).length → 0 < k → 0 < crL p k (b :: t)
 | 0, _, h0 => by omega
 | 1, _, _ => by
   unfold crL
   rw [show (b :: t).getD 0 0 = b from rfl, h]; simp
 | k + 2, hk, _ => by
   unfold crL
   split
   · exact crL_pos h (k + 1) (by omega) (by omega)
   · omega
theorem g24 (hg : OnGlobals I ng) (h : Kw I ng A23) : Kw I ng A24 := known_add (g42 hg h) (contract_of (fun _ => none) hg (hok_of (g42 hg h)) fun cargs rv outs h => by
 unfold L24 at h
 split at h <;> first | (cases h; done) | skip
 rename_i s p
 by_cases hc : s.size ≤ 10000 ∧ p.size ≤ 100 ∧ asciiS p = true
 · obtain ⟨hs, hp, ha⟩ := hc
   simp only [picked, pickAlt, decide_eq_true hs, decide_eq_true hp, ha, Bool.and_self] at h
   cases h
   refine ⟨1, ?_⟩
   have hl := data_len s
   have hd : s.extract (clS s p) s.size = mkS (s.data.toList.dropWhile fun b => inS p b.toNat) := by
     conv => lhs; rw [← mkS_bl s]
     rw [mkS_ext, mkS_size]
     unfold clS
     rw [mkS_data, drop_tw, List.take_of_length_le]
     rw [← drop_tw, List.length_drop]
     omega
   rw [ur24, hd, mkS_size]
   have hdl : (s.data.toList.dropWhile fun b => inS p b.toNat).length ≤ 10000 := by
     rw [← drop_tw, List.length_drop]; omega
   rw [decide_eq_true hs, decide_eq_true hp, ha, decide_eq_true hdl, show (true && (true && true)) = true from rfl, bif_t _ _ rfl, bif_t _ _ rfl]
   congr 3
   unfold allS crS
   rw [mkS_ext, mkS_toList, mk_lit, mkS_toList, mkS_data, mkS_size, List.drop_zero, Nat.sub_zero]
   have key : ∀ l : List UInt8, ((l.dropWhile fun b => inS p b.toNat).take (crL p (l.dropWhile fun b => inS p b.toNat).length (l.dropWhile fun b => inS p b.toNat)) == ([] : List UInt8)) = l.all fun b => inS p b.toNat := by
     intro l
     induction l with
     | nil => rfl
     | cons b t ih =>
       by_cases hb : inS p b.toNat = true
       · rw [List.dropWhile_cons_of_pos (p := fun b : UInt8 => inS p (b.toNat : Int)) (a := b) hb, ih, List.all_cons, hb, Bool.true_and]
       · have hb' := Bool.eq_false_iff.2 hb
         rw [List.dropWhile_cons_of_neg (p := fun b : UInt8 => inS p (b.toNat : Int)) (a := b) hb, List.all_cons, hb', Bool.false_and]
         have := crL_pos (t := t) hb' (b :: t).length (Nat.le_refl _) (by simp)
         obtain ⟨m, hm⟩ : ∃ m, crL p (b :: t).length (b :: t) = m + 1 := ⟨crL p (b :: t).length (b :: t) - 1, by omega⟩
         rw [hm]; rfl
   exact key _
 · have : (decide (s.size ≤ 10000) && (decide (p.size ≤ 100) && asciiS p)) = false := Bool.eq_false_iff.2 fun hh => hc (by simpa using hh)
   simp only [picked, pickAlt, this] at h; cases h)
def hexes : ByteArray := ByteArray.mk #[48, 49, 50, 51, 52, 53, 54, 55, 56, 57, 97, 98, 99, 100, 101, 102, 65, 66, 67, 68, 69, 70]
theorem hex_in : ∀ n : Nat, n < 256 → inS hexes (n : Int) = hexd (UInt8.ofNat n) := by decide +kernel
theorem hex_ascii : asciiS hexes = true := by decide +kernel
noncomputable abbrev R25 (n j : Nat) (env : Env) (H : Hp) : Res := rounds Tryz.prog (call' A24) (filt aL25 0) n hL25 (bodyN 0 (codeOf Tryz.prog 70)) j env H (restN Tryz.prog (call' A24) (filt aL25 0) n 0 (codeOf Tryz.prog 70) (endOf Tryz.prog 70 []))
theorem lo25 (n : Nat) (s : List UInt8) (hs : s.length ≤ 10000) : ∀ (j k : Nat), s.length < j + k → k ≤ s.length →
   R25 n j (mkEnv 46 [(0, .c (.str (mkS s))), (3, .c (.int .i64 (k : Int)))]) [] = some (.bool (stL (s.drop k)), [])
 | 0, k, hj, hk => by omega
 | j + 1, k, hj, hk => by
   unfold R25
   rw [rounds_succ, uc25]
   have w1 : IntKind.i64.wrap ((k : Int) + 1) = ((k + 1 : Nat) : Int) := wrp1 (by omega)
   have w2 : IntKind.i64.wrap ((k : Int) + 2) = ((k + 2 : Nat) : Int) := wrp (i := k) (k := 2) (by omega) (by omega)
   have w3 : IntKind.i64.wrap ((k : Int) + 3) = ((k + 3 : Nat) : Int) := wrp (i := k) (k := 3) (by omega) (by omega)
   have hha : asciiS (ByteArray.mk #[48, 49, 50, 51, 52, 53, 54, 55, 56, 57, 97, 98, 99, 100, 101, 102, 65, 66, 67, 68, 69, 70]) = true := hex_ascii
   simp only [bif_dec]
   simp only [atM, sizeM, bif_b, natM, w1, w2, w3, u8_cast', hha]
   by_cases h1 : k < s.length
   · rw [if_pos (by omega), if_pos (by omega), if_pos (by omega), stL_at h1]
     have hn := never9 (s.getD k 0).toNat (UInt8.toNat_lt _)
     rw [u8n] at hn
     unfold okAt okU
     generalize hc : s.getD k 0 = c at *
     have ih := lo25 n s hs j (k + 1) (by omega) (by omega)
     unfold R25 at ih
     by_cases a1 : (c.toNat : Int) ≤ 32
     · rw [if_pos a1, decide_eq_false (show ¬ 33 ≤ c.toNat by omega)]; rfl
     rw [if_neg a1, decide_eq_true (show 33 ≤ c.toNat by omega), Bool.true_and]
     by_cases a2 : (c.toNat : Int) > 126
     · rw [if_pos a2, decide_eq_false (show ¬ c.toNat ≤ 126 by omega)]; rfl
     rw [if_neg a2, decide_eq_true (show c.toNat ≤ 126 by omega), Bool.true_and, ← hn]
     by_cases a3 : Lib.indexByte (ByteArray.mk #[34, 60, 62, 92, 94, 96, 123, 124, 125]).data.toList c ≥ 0
     · rw [if_pos a3, decide_eq_true a3]; rfl
     rw [if_neg a3, decide_eq_false a3, Bool.not_false, Bool.true_and]
     by_cases a5 : c = 37
     · rw [if_pos (by rw [a5]; rfl), decide_eq_true a5, Bool.not_true, Bool.false_or]
       by_cases a6 : k + 3 ≤ s.length
       · rw [if_neg (by omega), if_pos (by omega), if_pos (by omega), if_pos (by omega), decide_eq_true a6, Bool.true_and, ext2 a6]
         simp only [sizeM]
         have e2 : ([s.getD (k + 1) 0, s.getD (k + 2) 0] : List UInt8).length = 2 := rfl
         have ha : allS (mkS [s.getD (k + 1) 0, s.getD (k + 2) 0]) hexes = (hexd (s.getD (k + 1) 0) && hexd (s.getD (k + 2) 0)) := by
           unfold allS
           rw [mkS_data]
           simp only [List.all_cons, List.all_nil, Bool.and_true]
           rw [hex_in _ (UInt8.toNat_lt _), hex_in _ (UInt8.toNat_lt _), u8n, u8n]
         have hb : allS (mkS [s.getD (k + 1) 0, s.getD (k + 2) 0]) (ByteArray.mk #[48, 49, 50, 51, 52, 53, 54, 55, 56, 57, 97, 98, 99, 100, 101, 102, 65, 66, 67, 68, 69, 70]) = (hexd (s.getD (k + 1) 0) && hexd (s.getD (k + 2) 0)) := ha
         rw [e2, hb, if_pos (by decide)]
         cases hh : (hexd (s.getD (k + 1) 0) && hexd (s.getD (k + 2) 0)) with
         | true => rw [if_neg (by simp), ih, Bool.true_and]
         | false => rw [show (!false) = true from rfl, if_pos rfl]; rfl
       · rw [if_pos (by omega), decide_eq_false a6]; rfl
     · have : ¬ (c.toNat : Int) = 37 := by
         intro e
         exact a5 (UInt8.toNat.inj (show c.toNat = (37 : UInt8).toNat by have : (37 : UInt8).toNat = 37 := rfl; omega))
       rw [if_neg (by simpa using this), ih, decide_eq_false a5]
       rfl
   · rw [if_neg (by omega), List.drop_of_length_le (by omega)]; rfl
theorem g25 (hg : OnGlobals I ng) (h : Kw I ng A23) : Kw I ng A25 := known_add (g24 hg h) (contract_of aL25 hg (hok_of (g24 hg h)) fun cargs rv outs h => by
 unfold L17 at h
 split at h <;> first | (cases h; done) | skip
 rename_i s
 by_cases hs : s.size ≤ 10000
 · simp only [picked, pickAlt, decide_eq_true hs] at h
   cases h
   refine ⟨12000, loop1 rfl (by kernel_rfl) (by kernel_rfl) (by kernel_rfl) (hd := hL25) (by kernel_rfl) ?_⟩
   have hl := data_len s
   refine (ub25 s 12000 (R25 12000 12000)).trans ?_
   have hlo := lo25 12000 s.data.toList (by omega) 12000 0 (by omega) (by omega)
   rw [mkS_bl] at hlo
   exact hlo
 · simp only [picked, pickAlt, decide_eq_false hs] at h; cases h)
end Go.Pv
namespace Go.Pv
set_option maxRecDepth 100000
open Go Go.Proofs
def hexv (c : UInt8) : Nat := if 0 ≤ hx c.toNat then (hx c.toNat).toNat else 99
def numL (b : Nat) (l : List UInt8) : Nat := l.foldl (fun n c => n * b + hexv c) 0
def numOk (b : Nat) (l : List UInt8) : Bool := !l.isEmpty && l.all fun c => decide (hexv c < b)
def nOk (s : ByteArray) (b : Nat) : Bool := numOk b s.data.toList
def nV (s : ByteArray) (b : Nat) : Nat := numL b s.data.toList
def nR (s : ByteArray) (b : Nat) : Int := if nOk s b then ((min (nV s b) 4294967296 : Nat) : Int) else -1
def dR (c b : Int) : Int := if 0 ≤ hx c ∧ hx c < b then hx c else -1
def splitL (c : UInt8) : List UInt8 → List (List UInt8)
 | [] => [[]]
 | b :: t => if b = c then [] :: splitL c t else match splitL c t with
   | [] => [[b]]
   | p :: ps => (b :: p) :: ps
def strCV (p : List UInt8) : CV := .str (mkS p)
def spS (s : ByteArray) (c : UInt8) : List CV := (splitL c s.data.toList).map strCV
def L71 : Fn1 := fun x => match x with
 | [.str s, .int .u64 b, .int .u64 l] => some [
   (decide (s.size ≤ 10000) && (decide (2 ≤ b) && (decide (b ≤ 16) && (decide (0 < l) && (decide (l ≤ 4294967296) && (nOk s b.toNat && decide ((nV s b.toNat : Int) < l)))))), .tup [.int .u64 (nV s b.toNat), .bool true], []),
   (decide (s.size ≤ 10000) && (decide (2 ≤ b) && (decide (b ≤ 16) && (decide (0 < l) && decide (l ≤ 4294967296)))), .tup [.int .u64 0, .bool false], [])]
 | _ => none
def L81 : Fn1 := fun x => match x with
 | [.int .u8 c, .int .i64 b] => some [(decide (0 ≤ c) && (decide (c < 256) && (decide (2 ≤ b) && decide (b ≤ 16))), .int .i64 (dR c b), [])]
 | _ => none
def L77 : Fn1 := fun x => match x with
 | [.str s, .int .i64 b] => some [(decide (s.size ≤ 10000) && (decide (2 ≤ b) && decide (b ≤ 16)), .int .i64 (nR s b.toNat), [])]
 | _ => none
def L66 : Fn1 := fun x => match x with
 | [.str s, .int .u8 c] => some [(decide (s.size ≤ 10000) && (decide (0 ≤ c) && decide (c < 256)), .sl true false 1 (spS s c.toNat.toUInt8), [])]
 | _ => none
def L57 : Fn1 := fun x => match x with
 | [.int .u8 a, .int .u8 b, .int .u8 c, .int .u8 d] => some [(true, .agg [.bool false, .int .u8 0, .int .u8 0, .int .u8 0, .int .u8 0, .int .u8 0, .int .u8 0, .int .u8 0, .int .u8 0, .int .u8 0, .int .u8 0, .int .u8 0, .int .u8 0, .int .u8 a, .int .u8 b, .int .u8 c, .int .u8 d], [])]
 | _ => none
def L64 : Fn1 := fun x => match x with
 | [.int .u64 n] => some [(decide (0 ≤ n) && decide (n < 18446744073709551616), .agg [.bool false, .int .u8 0, .int .u8 0, .int .u8 0, .int .u8 0, .int .u8 0, .int .u8 0, .int .u8 0, .int .u8 0, .int .u8 0, .int .u8 0, .int .u8 0, .int .u8 0, .int .u8 (n / 16777216 % 256), .int .u8 (n / 65536 % 256), .int .u8 (n / 256 % 256), .int .u8 (n % 256)], [])]
 | _ => none
def B71 : Table := fun g => if Nat.beq g 133 then L71 else A29 g
def B81 : Table := fun g => if Nat.beq g 129 then L81 else B71 g
def B77 : Table := fun g => if Nat.beq g 111 then L77 else B81 g
def B66 : Table := fun g => if Nat.beq g 93 then L66 else B77 g
def B57 : Table := fun g => if Nat.beq g 115 then L57 else B66 g
def B64 : Table := fun g => if Nat.beq g 91 then L64 else B57 g
def hL71 : Head := ⟨[0, 1, 2, 8, 9], [], 0⟩
def aL71 : Ann := fun i => if Nat.beq i 3 then some hL71 else none
def hL77 : Head := ⟨[0, 1, 5, 6], [], 0⟩
def aL77 : Ann := fun i => if Nat.beq i 5 then some hL77 else none
def hL66 : Head := ⟨[0, 1, 5, 6, 7], [(5, 1)], 0⟩
def aL66 : Ann := fun i => if Nat.beq i 4 then some hL66 else none
theorem ib71 (s : ByteArray) (b l : Int) (n : Nat) (R : Env → Hp → Res) : parts Tryz.prog (call' A29) (filt aL71 0) n (codeOf Tryz.prog 133) (envOf Tryz.prog 133 [.c (.str s), .c (.int .u64 b), .c (.int .u64 l)]) [] (fun _ => headK hL71 R) (endOf Tryz.prog 133 []) =
 R (mkEnv 60 [(0, .c (CV.str s)), (1, .c (CV.int .u64 b)), (2, .c (CV.int .u64 l)), (8, .c (CV.int .u64 (.ofNat 0))), (9, .c (CV.int .i64 (.ofNat 0)))]) [] := by kernel_rfl
theorem ic71 (s : ByteArray) (b l v i : Int) (n : Nat) (R : Env → Hp → Res) : aexec Tryz.prog (call' A29) (filt aL71 0) n (bodyN 0 (codeOf Tryz.prog 133)) (mkEnv 60 [(0, .c (.str s)), (1, .c (.int .u64 b)), (2, .c (.int .u64 l)), (8, .c (.int .u64 v)), (9, .c (.int .i64 i))]) [] (thenK (headK hL71 R) (restN Tryz.prog (call' A29) (filt aL71 0) n 0 (codeOf Tryz.prog 133) (endOf Tryz.prog 133 []))) =
 bif' (decide (i < (↑s.size : Int))) (bif' (decide (0 ≤ i)) (bif' (decide (i < (↑s.size : Int))) (bif' (decide (0 ≤ i)) (bif' (decide (i < (↑s.size : Int))) (bif' (decide (byteAt s i.toNat < 48)) (some (CV.tup [CV.int .u64 (.ofNat 0), CV.bool false], [])) (bif' (decide (0 ≤ i)) (bif' (decide (i < (↑s.size : Int))) (bif' (decide (byteAt s i.toNat > 57)) (bif' (decide (0 ≤ i)) (bif' (decide (i < (↑s.size : Int))) (bif' (decide (byteAt s i.toNat < 65)) (some (CV.tup [CV.int .u64 (.ofNat 0), CV.bool false], [])) (bif' (decide (Lib.indexByte (ByteArray.mk #[48, 49, 50, 51, 52, 53, 54, 55, 56, 57, 97, 98, 99, 100, 101, 102]).data.toList (IntKind.u8.wrap (↑(BitVec.ofInt IntKind.u8.bits (byteAt s i.toNat) ||| BitVec.ofInt IntKind.u8.bits 32).toNat : Int)).toNat.toUInt8 < 0)) (some (CV.tup [CV.int .u64 (.ofNat 0), CV.bool false], [])) (bif' (decide (IntKind.u64.wrap (Lib.indexByte (ByteArray.mk #[48, 49, 50, 51, 52, 53, 54, 55, 56, 57, 97, 98, 99, 100, 101, 102]).data.toList (IntKind.u8.wrap (↑(BitVec.ofInt IntKind.u8.bits (byteAt s i.toNat) ||| BitVec.ofInt IntKind.u8.bits 32).toNat : Int)).toNat.toUInt8) ≥ b)) (some (CV.tup [CV.int .u64 (.ofNat 0), CV.bool false], [])) (bif' (decide (IntKind.u64.wrap (IntKind.u64.wrap (v * b) + IntKind.u64.wrap (Lib.indexByte (ByteArray.mk #[48, 49, 50, 51, 52, 53, 54, 55, 56, 57, 97, 98, 99, 100, 101, 102]).data.toList (IntKind.u8.wrap (↑(BitVec.ofInt IntKind.u8.bits (byteAt s i.toNat) ||| BitVec.ofInt IntKind.u8.bits 32).toNat : Int)).toNat.toUInt8)) ≥ l)) (some (CV.tup [CV.int .u64 (.ofNat 0), CV.bool false], [])) (R (mkEnv 60 [(0, .c (CV.str s)), (1, .c (CV.int .u64 b)), (2, .c (CV.int .u64 l)), (8, .c (CV.int .u64 (IntKind.u64.wrap (IntKind.u64.wrap (v * b) + IntKind.u64.wrap (Lib.indexByte (ByteArray.mk #[48, 49, 50, 51, 52, 53, 54, 55, 56, 57, 97, 98, 99, 100, 101, 102]).data.toList (IntKind.u8.wrap (↑(BitVec.ofInt IntKind.u8.bits (byteAt s i.toNat) ||| BitVec.ofInt IntKind.u8.bits 32).toNat : Int)).toNat.toUInt8))))), (9, .c (CV.int .i64 (IntKind.i64.wrap (i + 1))))]) []))))) none) none) (bif' (decide (Lib.indexByte (ByteArray.mk #[48, 49, 50, 51, 52, 53, 54, 55, 56, 57, 97, 98, 99, 100, 101, 102]).data.toList (IntKind.u8.wrap (↑(BitVec.ofInt IntKind.u8.bits (byteAt s i.toNat) ||| BitVec.ofInt IntKind.u8.bits 32).toNat : Int)).toNat.toUInt8 < 0)) (some (CV.tup [CV.int .u64 (.ofNat 0), CV.bool false], [])) (bif' (decide (IntKind.u64.wrap (Lib.indexByte (ByteArray.mk #[48, 49, 50, 51, 52, 53, 54, 55, 56, 57, 97, 98, 99, 100, 101, 102]).data.toList (IntKind.u8.wrap (↑(BitVec.ofInt IntKind.u8.bits (byteAt s i.toNat) ||| BitVec.ofInt IntKind.u8.bits 32).toNat : Int)).toNat.toUInt8) ≥ b)) (some (CV.tup [CV.int .u64 (.ofNat 0), CV.bool false], [])) (bif' (decide (IntKind.u64.wrap (IntKind.u64.wrap (v * b) + IntKind.u64.wrap (Lib.indexByte (ByteArray.mk #[48, 49, 50, 51, 52, 53, 54, 55, 56, 57, 97, 98, 99, 100, 101, 102]).data.toList (IntKind.u8.wrap (↑(BitVec.ofInt IntKind.u8.bits (byteAt s i.toNat) ||| BitVec.ofInt IntKind.u8.bits 32).toNat : Int)).toNat.toUInt8)) ≥ l)) (some (CV.tup [CV.int .u64 (.ofNat 0), CV.bool false], [])) (R (mkEnv 60 [(0, .c (CV.str s)), (1, .c (CV.int .u64 b)), (2, .c (CV.int .u64 l)), (8, .c (CV.int .u64 (IntKind.u64.wrap (IntKind.u64.wrap (v * b) + IntKind.u64.wrap (Lib.indexByte (ByteArray.mk #[48, 49, 50, 51, 52, 53, 54, 55, 56, 57, 97, 98, 99, 100, 101, 102]).data.toList (IntKind.u8.wrap (↑(BitVec.ofInt IntKind.u8.bits (byteAt s i.toNat) ||| BitVec.ofInt IntKind.u8.bits 32).toNat : Int)).toNat.toUInt8))))), (9, .c (CV.int .i64 (IntKind.i64.wrap (i + 1))))]) []))))) none) none)) none) none) none) none) (some (CV.tup [CV.int .u64 v, CV.bool !s.toList == (ByteArray.mk #[]).toList], [])) := by kernel_rfl
theorem ir81 (c b : Int) : abody Tryz.prog (call' B71) (fun _ => none) 1 129 [.int .u8 c, .int .i64 b] =
 bif' (decide (c ≥ 48)) (bif' (decide (c ≤ 57)) (bif' (decide (c ≥ 97)) (bif' (decide (c ≤ 102)) (bif' (decide (c ≥ 65)) (bif' (decide (c ≤ 70)) (bif' (decide (IntKind.i64.wrap (IntKind.i64.wrap (IntKind.u8.wrap (c - 65)) + 10) ≥ b)) (some (CV.int .i64 (Int.negSucc 0), [])) (some (CV.int .i64 (IntKind.i64.wrap (IntKind.i64.wrap (IntKind.u8.wrap (c - 65)) + 10)), []))) (bif' (decide (IntKind.i64.wrap (IntKind.i64.wrap (IntKind.u8.wrap (c - 97)) + 10) ≥ b)) (some (CV.int .i64 (Int.negSucc 0), [])) (some (CV.int .i64 (IntKind.i64.wrap (IntKind.i64.wrap (IntKind.u8.wrap (c - 97)) + 10)), [])))) (bif' (decide (IntKind.i64.wrap (IntKind.i64.wrap (IntKind.u8.wrap (c - 97)) + 10) ≥ b)) (some (CV.int .i64 (Int.negSucc 0), [])) (some (CV.int .i64 (IntKind.i64.wrap (IntKind.i64.wrap (IntKind.u8.wrap (c - 97)) + 10)), [])))) (bif' (decide (c ≥ 65)) (bif' (decide (c ≤ 70)) (bif' (decide (IntKind.i64.wrap (IntKind.i64.wrap (IntKind.u8.wrap (c - 65)) + 10) ≥ b)) (some (CV.int .i64 (Int.negSucc 0), [])) (some (CV.int .i64 (IntKind.i64.wrap (IntKind.i64.wrap (IntKind.u8.wrap (c - 65)) + 10)), []))) (bif' (decide (IntKind.i64.wrap (IntKind.u8.wrap (c - 48)) ≥ b)) (some (CV.int .i64 (Int.negSucc 0), [])) (some (CV.int .i64 (IntKind.i64.wrap (IntKind.u8.wrap (c - 48))), [])))) (bif' (decide (IntKind.i64.wrap (IntKind.u8.wrap (c - 48)) ≥ b)) (some (CV.int .i64 (Int.negSucc 0), [])) (some (CV.int .i64 (IntKind.i64.wrap (IntKind.u8.wrap (c - 48))), []))))) (bif' (decide (c ≥ 65)) (bif' (decide (c ≤ 70)) (bif' (decide (IntKind.i64.wrap (IntKind.i64.wrap (IntKind.u8.wrap (c - 65)) + 10) ≥ b)) (some (CV.int .i64 (Int.negSucc 0), [])) (some (CV.int .i64 (IntKind.i64.wrap (IntKind.i64.wrap (IntKind.u8.wrap (c - 65)) + 10)), []))) (bif' (decide (IntKind.i64.wrap (IntKind.u8.wrap (c - 48)) ≥ b)) (some (CV.int .i64 (Int.negSucc 0), [])) (some (CV.int .i64 (IntKind.i64.wrap (IntKind.u8.wrap (c - 48))), [])))) (bif' (decide (IntKind.i64.wrap (IntKind.u8.wrap (c - 48)) ≥ b)) (some (CV.int .i64 (Int.negSucc 0), [])) (some (CV.int .i64 (IntKind.i64.wrap (IntKind.u8.wrap (c - 48))), []))))) (bif' (decide (c ≥ 97)) (bif' (decide (c ≤ 102)) (bif' (decide (c ≥ 65)) (bif' (decide (c ≤ 70)) (bif' (decide (IntKind.i64.wrap (IntKind.i64.wrap (IntKind.u8.wrap (c - 65)) + 10) ≥ b)) (some (CV.int .i64 (Int.negSucc 0), [])) (some (CV.int .i64 (IntKind.i64.wrap (IntKind.i64.wrap (IntKind.u8.wrap (c - 65)) + 10)), []))) (bif' (decide (IntKind.i64.wrap (IntKind.i64.wrap (IntKind.u8.wrap (c - 97)) + 10) ≥ b)) (some (CV.int .i64 (Int.negSucc 0), [])) (some (CV.int .i64 (IntKind.i64.wrap (IntKind.i64.wrap (IntKind.u8.wrap (c - 97)) + 10)), [])))) (bif' (decide (IntKind.i64.wrap (IntKind.i64.wrap (IntKind.u8.wrap (c - 97)) + 10) ≥ b)) (some (CV.int .i64 (Int.negSucc 0), [])) (some (CV.int .i64 (IntKind.i64.wrap (IntKind.i64.wrap (IntKind.u8.wrap (c - 97)) + 10)), [])))) (bif' (decide (c ≥ 65)) (bif' (decide (c ≤ 70)) (bif' (decide (IntKind.i64.wrap (IntKind.i64.wrap (IntKind.u8.wrap (c - 65)) + 10) ≥ b)) (some (CV.int .i64 (Int.negSucc 0), [])) (some (CV.int .i64 (IntKind.i64.wrap (IntKind.i64.wrap (IntKind.u8.wrap (c - 65)) + 10)), []))) (bif' (decide (-1 ≥ b)) (some (CV.int .i64 (Int.negSucc 0), [])) (some (CV.int .i64 (Int.negSucc 0), [])))) (bif' (decide (-1 ≥ b)) (some (CV.int .i64 (Int.negSucc 0), [])) (some (CV.int .i64 (Int.negSucc 0), []))))) (bif' (decide (c ≥ 65)) (bif' (decide (c ≤ 70)) (bif' (decide (IntKind.i64.wrap (IntKind.i64.wrap (IntKind.u8.wrap (c - 65)) + 10) ≥ b)) (some (CV.int .i64 (Int.negSucc 0), [])) (some (CV.int .i64 (IntKind.i64.wrap (IntKind.i64.wrap (IntKind.u8.wrap (c - 65)) + 10)), []))) (bif' (decide (-1 ≥ b)) (some (CV.int .i64 (Int.negSucc 0), [])) (some (CV.int .i64 (Int.negSucc 0), [])))) (bif' (decide (-1 ≥ b)) (some (CV.int .i64 (Int.negSucc 0), [])) (some (CV.int .i64 (Int.negSucc 0), [])))))) (bif' (decide (c ≥ 97)) (bif' (decide (c ≤ 102)) (bif' (decide (c ≥ 65)) (bif' (decide (c ≤ 70)) (bif' (decide (IntKind.i64.wrap (IntKind.i64.wrap (IntKind.u8.wrap (c - 65)) + 10) ≥ b)) (some (CV.int .i64 (Int.negSucc 0), [])) (some (CV.int .i64 (IntKind.i64.wrap (IntKind.i64.wrap (IntKind.u8.wrap (c - 65)) + 10)), []))) (bif' (decide (IntKind.i64.wrap (IntKind.i64.wrap (IntKind.u8.wrap (c - 97)) + 10) ≥ b)) (some (CV.int .i64 (Int.negSucc 0), [])) (some (CV.int .i64 (IntKind.i64.wrap (IntKind.i64.wrap (IntKind.u8.wrap (c - 97)) + 10)), [])))) (bif' (decide (IntKind.i64.wrap (IntKind.i64.wrap (IntKind.u8.wrap (c - 97)) + 10) ≥ b)) (some (CV.int .i64 (Int.negSucc 0), [])) (some (CV.int .i64 (IntKind.i64.wrap (IntKind.i64.wrap (IntKind.u8.wrap (c - 97)) + 10)), [])))) (bif' (decide (c ≥ 65)) (bif' (decide (c ≤ 70)) (bif' (decide (IntKind.i64.wrap (IntKind.i64.wrap (IntKind.u8.wrap (c - 65)) + 10) ≥ b)) (some (CV.int .i64 (Int.negSucc 0), [])) (some (CV.int .i64 (IntKind.i64.wrap (IntKind.i64.wrap (IntKind.u8.wrap (c - 65)) + 10)), []))) (bif' (decide (-1 ≥ b)) (some (CV.int .i64 (Int.negSucc 0), [])) (some (CV.int .i64 (Int.negSucc 0), [])))) (bif' (decide (-1 ≥ b)) (some (CV.int .i64 (Int.negSucc 0), [])) (some (CV.int .i64 (Int.negSucc 0), []))))) (bif' (decide (c ≥ 65)) (bif' (decide (c ≤ 70)) (bif' (decide (IntKind.i64.wrap (IntKind.i64.wrap (IntKind.u8.wrap (c - 65)) + 10) ≥ b)) (some (CV.int .i64 (Int.negSucc 0), [])) (some (CV.int .i64 (IntKind.i64.wrap (IntKind.i64.wrap (IntKind.u8.wrap (c - 65)) + 10)), []))) (bif' (decide (-1 ≥ b)) (some (CV.int .i64 (Int.negSucc 0), [])) (some (CV.int .i64 (Int.negSucc 0), [])))) (bif' (decide (-1 ≥ b)) (some (CV.int .i64 (Int.negSucc 0), [])) (some (CV.int .i64 (Int.negSucc 0), []))))) := by kernel_rfl
theorem ib77 (s : ByteArray) (b : Int) (n : Nat) (R : Env → Hp → Res) : parts Tryz.prog (call' B81) (filt aL77 0) n (codeOf Tryz.prog 111) (envOf Tryz.prog 111 [.c (.str s), .c (.int .i64 b)]) [] (fun _ => headK hL77 R) (endOf Tryz.prog 111 []) =
 bif' (s.toList == (ByteArray.mk #[]).toList) (some (CV.int .i64 (Int.negSucc 0), [])) (R (mkEnv 31 [(0, .c (CV.str s)), (1, .c (CV.int .i64 b)), (5, .c (CV.int .i64 (.ofNat 0))), (6, .c (CV.int .i64 (.ofNat 0)))]) []) := by kernel_rfl
theorem ic77 (s : ByteArray) (b v i : Int) (n : Nat) (R : Env → Hp → Res) : aexec Tryz.prog (call' B81) (filt aL77 0) n (bodyN 0 (codeOf Tryz.prog 111)) (mkEnv 31 [(0, .c (.str s)), (1, .c (.int .i64 b)), (5, .c (.int .i64 v)), (6, .c (.int .i64 i))]) [] (thenK (headK hL77 R) (restN Tryz.prog (call' B81) (filt aL77 0) n 0 (codeOf Tryz.prog 111) (endOf Tryz.prog 111 []))) =
 bif' (decide (i < (↑s.size : Int))) (bif' (decide (0 ≤ i)) (bif' (decide (i < (↑s.size : Int))) (bif' (decide (0 ≤ byteAt s i.toNat) && (decide (byteAt s i.toNat < 256) && (decide (2 ≤ b) && decide (b ≤ 16)))) (bif' (decide (dR (byteAt s i.toNat) b < 0)) (some (CV.int .i64 (Int.negSucc 0), [])) (bif' (decide (IntKind.i64.wrap (IntKind.i64.wrap (v * b) + dR (byteAt s i.toNat) b) > 4294967296)) (R (mkEnv 31 [(0, .c (CV.str s)), (1, .c (CV.int .i64 b)), (5, .c (CV.int .i64 (.ofNat 4294967296))), (6, .c (CV.int .i64 (IntKind.i64.wrap (i + 1))))]) []) (R (mkEnv 31 [(0, .c (CV.str s)), (1, .c (CV.int .i64 b)), (5, .c (CV.int .i64 (IntKind.i64.wrap (IntKind.i64.wrap (v * b) + dR (byteAt s i.toNat) b)))), (6, .c (CV.int .i64 (IntKind.i64.wrap (i + 1))))]) []))) none) none) none) (some (CV.int .i64 v, [])) := by kernel_rfl
theorem ib66 (s : ByteArray) (c : Int) (n : Nat) (R : Env → Hp → Res) : parts Tryz.prog (call' B77) (filt aL66 0) n (codeOf Tryz.prog 93) (envOf Tryz.prog 93 [.c (.str s), .c (.int .u8 c)]) [] (fun _ => headK hL66 R) (endOf Tryz.prog 93 []) =
 R (mkEnv 36 [(0, .c (CV.str s)), (1, .c (CV.int .u8 c)), (5, .rw 0 0), (6, .c (CV.int .i64 (.ofNat 0))), (7, .c (CV.int .i64 (.ofNat 0)))]) [.row [] 1 0 false] := by kernel_rfl
theorem ic66 (s : ByteArray) (c f i : Int) (xs : List CV) (n : Nat) (R : Env → Hp → Res) : aexec Tryz.prog (call' B77) (filt aL66 0) n (bodyN 0 (codeOf Tryz.prog 93)) (mkEnv 36 [(0, .c (.str s)), (1, .c (.int .u8 c)), (5, .rw 0 0), (6, .c (.int .i64 f)), (7, .c (.int .i64 i))]) [.row xs 1 0 false] (thenK (headK hL66 R) (restN Tryz.prog (call' B77) (filt aL66 0) n 0 (codeOf Tryz.prog 93) (endOf Tryz.prog 93 []))) =
 bif' (decide (i ≤ (↑s.size : Int))) (bif' (i == (↑s.size : Int)) (bif' (decide (0 ≤ f)) (bif' (decide (f ≤ i)) (bif' (decide (i ≤ (↑s.size : Int))) (bif' (decide ((xs.length + ((List.replicate 1 (CV.str (ByteArray.mk #[]))).set 0 (CV.str (s.extract f.toNat i.toNat))).length) * Tryz.prog.types[9].bytes ≤ 70368744177664)) (R (mkEnv 36 [(0, .c (CV.str s)), (1, .c (CV.int .u8 c)), (5, .rw 0 0), (6, .c (CV.int .i64 (IntKind.i64.wrap (i + 1)))), (7, .c (CV.int .i64 (IntKind.i64.wrap (i + 1))))]) [.row (xs ++ (List.replicate 1 (CV.str (ByteArray.mk #[]))).set 0 (CV.str (s.extract f.toNat i.toNat))) 1 0 false]) none) none) none) none) (bif' (decide (0 ≤ i)) (bif' (decide (i < (↑s.size : Int))) (bif' (byteAt s i.toNat == c) (bif' (decide (0 ≤ f)) (bif' (decide (f ≤ i)) (bif' (decide (i ≤ (↑s.size : Int))) (bif' (decide ((xs.length + ((List.replicate 1 (CV.str (ByteArray.mk #[]))).set 0 (CV.str (s.extract f.toNat i.toNat))).length) * Tryz.prog.types[9].bytes ≤ 70368744177664)) (R (mkEnv 36 [(0, .c (CV.str s)), (1, .c (CV.int .u8 c)), (5, .rw 0 0), (6, .c (CV.int .i64 (IntKind.i64.wrap (i + 1)))), (7, .c (CV.int .i64 (IntKind.i64.wrap (i + 1))))]) [.row (xs ++ (List.replicate 1 (CV.str (ByteArray.mk #[]))).set 0 (CV.str (s.extract f.toNat i.toNat))) 1 0 false]) none) none) none) none) (R (mkEnv 36 [(0, .c (CV.str s)), (1, .c (CV.int .u8 c)), (5, .rw 0 0), (6, .c (CV.int .i64 f)), (7, .c (CV.int .i64 (IntKind.i64.wrap (i + 1))))]) [.row xs 1 0 false])) none) none)) (some (CV.sl true false 1 xs, [])) := by kernel_rfl
theorem ir57 (a b c d : Int) : abody Tryz.prog (call' B66) (fun _ => none) 1 115 [.int .u8 a, .int .u8 b, .int .u8 c, .int .u8 d] =
 some (CV.agg [CV.bool false, CV.int .u8 (.ofNat 0), CV.int .u8 (.ofNat 0), CV.int .u8 (.ofNat 0), CV.int .u8 (.ofNat 0), CV.int .u8 (.ofNat 0), CV.int .u8 (.ofNat 0), CV.int .u8 (.ofNat 0), CV.int .u8 (.ofNat 0), CV.int .u8 (.ofNat 0), CV.int .u8 (.ofNat 0), CV.int .u8 (.ofNat 0), CV.int .u8 (.ofNat 0), CV.int .u8 a, CV.int .u8 b, CV.int .u8 c, CV.int .u8 d], []) := by kernel_rfl
theorem ir64 (m : Int) : abody Tryz.prog (call' B57) (fun _ => none) 6 91 [.int .u64 m] =
 some (CV.agg [CV.bool false, CV.int .u8 (.ofNat 0), CV.int .u8 (.ofNat 0), CV.int .u8 (.ofNat 0), CV.int .u8 (.ofNat 0), CV.int .u8 (.ofNat 0), CV.int .u8 (.ofNat 0), CV.int .u8 (.ofNat 0), CV.int .u8 (.ofNat 0), CV.int .u8 (.ofNat 0), CV.int .u8 (.ofNat 0), CV.int .u8 (.ofNat 0), CV.int .u8 (.ofNat 0), CV.int .u8 (IntKind.u8.wrap ((IntKind.u64.wrap ((IntKind.u64.wrap ((IntKind.u64.wrap (m.tdiv 256)).tdiv 256)).tdiv 256)).tmod 256)), CV.int .u8 (IntKind.u8.wrap ((IntKind.u64.wrap ((IntKind.u64.wrap (m.tdiv 256)).tdiv 256)).tmod 256)), CV.int .u8 (IntKind.u8.wrap ((IntKind.u64.wrap (m.tdiv 256)).tmod 256)), CV.int .u8 (IntKind.u8.wrap (m.tmod 256))], []) := by kernel_rfl
end Go.Pv
namespace Go.Pv
set_option maxRecDepth 100000
set_option maxHeartbeats 200000
open Go Go.Proofs
variable {I : World → Prop} {ng : Nat}
theorem wrapU {n : Int} (h0 : 0 ≤ n) (h1 : n < 18446744073709551616) : IntKind.u64.wrap n = n := by
 have e1 : (2 ^ IntKind.u64.bits : Int) = 18446744073709551616 := by decide
 have e2 : IntKind.u64.signed = false := rfl
 simp only [IntKind.wrap, e1, e2]
 rw [Int.emod_eq_of_lt h0 (by omega)]; simp
theorem wrap8 (n : Int) : IntKind.u8.wrap n = n % 256 := by
 have e1 : (2 ^ IntKind.u8.bits : Int) = 256 := by decide
 have e2 : IntKind.u8.signed = false := rfl
 simp only [IntKind.wrap, e1, e2]; simp
theorem dg_facts : ∀ n : Nat, n < 256 → (n < 48 → hx n = -1) ∧ (57 < n → n < 65 → hx n = -1) ∧ (48 ≤ n → ¬ (57 < n ∧ n < 65) → Lib.indexByte (ByteArray.mk #[48, 49, 50, 51, 52, 53, 54, 55, 56, 57, 97, 98, 99, 100, 101, 102]).data.toList (IntKind.u8.wrap (↑(BitVec.ofInt IntKind.u8.bits (n : Int) ||| BitVec.ofInt IntKind.u8.bits 32).toNat : Int)).toNat.toUInt8 = hx n) ∧ -1 ≤ hx n ∧ hx n ≤ 15 := by decide +kernel
theorem hexv_no {c : UInt8} (h : hx c.toNat < 0) : hexv c = 99 := by unfold hexv; rw [if_neg (by omega)]
theorem hexv_is {c : UInt8} (h : 0 ≤ hx c.toNat) : ((hexv c : Nat) : Int) = hx c.toNat := by unfold hexv; rw [if_pos h]; omega
def num71 (b lim : Nat) : Nat → List UInt8 → Option Nat
 | v, [] => some v
 | v, c :: t => if hexv c < b ∧ v * b + hexv c < lim then num71 b lim (v * b + hexv c) t else none
def res71 (l : List UInt8) : Option Nat → Res
 | some w => some (.tup [.int .u64 (w : Int), .bool (!l.isEmpty)], [])
 | none => some (.tup [.int .u64 0, .bool false], [])
noncomputable abbrev R71 (n j : Nat) (env : Env) (H : Hp) : Res := rounds Tryz.prog (call' A29) (filt aL71 0) n hL71 (bodyN 0 (codeOf Tryz.prog 133)) j env H (restN Tryz.prog (call' A29) (filt aL71 0) n 0 (codeOf Tryz.prog 133) (endOf Tryz.prog 133 []))
theorem lo71 (n : Nat) (l : List UInt8) (b lim : Nat) (hl : l.length ≤ 10000) (hb : b ≤ 16) (hlim : lim ≤ 4294967296) : ∀ (j k v : Nat), l.length < j + k → k ≤ l.length → v < lim →
   R71 n j (mkEnv 60 [(0, .c (.str (mkS l))), (1, .c (.int .u64 (b : Int))), (2, .c (.int .u64 (lim : Int))), (8, .c (.int .u64 (v : Int))), (9, .c (.int .i64 (k : Int)))]) [] = res71 l (num71 b lim v (l.drop k))
 | 0, k, v, hj, hk, hv => by omega
 | j + 1, k, v, hj, hk, hv => by
   unfold R71
   rw [rounds_succ, ic71]
   simp only [bif_dec]
   simp only [atM, sizeM, bif_b, natM]
   by_cases h1 : k < l.length
   · rw [drop_getD h1]
     obtain ⟨f1, f2, f3, f4, f5⟩ := dg_facts _ (l.getD k 0).toNat_lt
     have hno : hx (l.getD k 0).toNat < 0 ∨ (b : Int) ≤ hx (l.getD k 0).toNat ∨ (lim : Int) ≤ (v : Int) * b + hx (l.getD k 0).toNat → num71 b lim v (l.getD k 0 :: l.drop (k + 1)) = none := by
       intro h
       unfold num71
       rw [if_neg]
       rintro ⟨q1, q2⟩
       by_cases h0 : hx (l.getD k 0).toNat < 0
       · rw [hexv_no h0] at q1; omega
       · have e := hexv_is (c := l.getD k 0) (by omega)
         rcases h with h | h | h
         · omega
         · omega
         · have q2' : ((v * b + hexv (l.getD k 0) : Nat) : Int) < (lim : Int) := by omega
           rw [Int.natCast_add, Int.natCast_mul, e] at q2'
           omega
     have cont : 48 ≤ (l.getD k 0).toNat → ¬ (57 < (l.getD k 0).toNat ∧ (l.getD k 0).toNat < 65) → ∀ d : Int, d = hx (l.getD k 0).toNat →
         (if d < 0 then some (CV.tup [CV.int IntKind.u64 (Int.ofNat 0), CV.bool false], []) else if IntKind.u64.wrap d ≥ (b : Int) then some (CV.tup [CV.int IntKind.u64 (Int.ofNat 0), CV.bool false], []) else
           if IntKind.u64.wrap (IntKind.u64.wrap ((v : Int) * b) + IntKind.u64.wrap d) ≥ (lim : Int) then some (CV.tup [CV.int IntKind.u64 (Int.ofNat 0), CV.bool false], []) else
           R71 n j (mkEnv 60 [(0, .c (.str (mkS l))), (1, .c (.int .u64 (b : Int))), (2, .c (.int .u64 (lim : Int))), (8, .c (.int .u64 (IntKind.u64.wrap (IntKind.u64.wrap ((v : Int) * b) + IntKind.u64.wrap d)))), (9, .c (.int .i64 (IntKind.i64.wrap ((k : Int) + 1))))]) []) = res71 l (num71 b lim v (l.getD k 0 :: l.drop (k + 1))) := by
       intro g1 g2 d hd
       subst hd
       by_cases h0 : hx (l.getD k 0).toNat < 0
       · rw [if_pos h0, hno (.inl h0)]; rfl
       · have hvb : (v : Int) * b ≤ 4294967296 * 16 := by
           have h2 : v * b ≤ 4294967296 * 16 := Nat.mul_le_mul (by omega) hb
           have : ((v * b : Nat) : Int) ≤ ((4294967296 * 16 : Nat) : Int) := by omega
           rw [Int.natCast_mul] at this; exact this
         have hvb0 : (0 : Int) ≤ (v : Int) * b := by
           have : (0 : Int) ≤ ((v * b : Nat) : Int) := by omega
           rw [Int.natCast_mul] at this; exact this
         have e := hexv_is (c := l.getD k 0) (by omega)
         rw [if_neg h0, wrapU (n := hx (l.getD k 0).toNat) (by omega) (by omega), wrapU (n := (v : Int) * b) hvb0 (by omega), wrapU (n := (v : Int) * b + hx (l.getD k 0).toNat) (by omega) (by omega)]
         by_cases h3 : hx (l.getD k 0).toNat ≥ (b : Int)
         · rw [if_pos h3, hno (.inr (.inl h3))]; rfl
         · rw [if_neg h3]
           by_cases h4 : (v : Int) * b + hx (l.getD k 0).toNat ≥ (lim : Int)
           · rw [if_pos h4, hno (.inr (.inr h4))]; rfl
           · rw [if_neg h4]
             have e2 : (v : Int) * b + hx (l.getD k 0).toNat = ((v * b + hexv (l.getD k 0) : Nat) : Int) := by
               rw [Int.natCast_add, Int.natCast_mul, e]
             rw [e2, wrp1 (i := k) (by omega)]
             have hlt : v * b + hexv (l.getD k 0) < lim := by omega
             rw [lo71 n l b lim hl hb hlim j (k + 1) _ (by omega) (by omega) hlt]
             congr 1
             conv => rhs; unfold num71
             rw [if_pos ⟨by omega, hlt⟩]
     rw [if_pos (by omega), if_pos (by omega), if_pos (by omega), if_pos (by omega), if_pos (by omega)]
     by_cases h48 : ((l.getD k 0).toNat : Int) < 48
     · rw [if_pos h48, hno (.inl (by rw [f1 (by omega)]; omega))]; rfl
     · rw [if_neg h48, if_pos (by omega), if_pos (by omega)]
       by_cases h57 : ((l.getD k 0).toNat : Int) > 57
       · rw [if_pos h57, if_pos (by omega), if_pos (by omega)]
         by_cases h65 : ((l.getD k 0).toNat : Int) < 65
         · rw [if_pos h65, hno (.inl (by rw [f2 (by omega) (by omega)]; omega))]; rfl
         · rw [if_neg h65]
           exact cont (by omega) (by omega) _ (f3 (by omega) (by omega))
       · rw [if_neg h57]
         exact cont (by omega) (by omega) _ (f3 (by omega) (by omega))
   · rw [if_neg (by omega), List.drop_of_length_le (by omega)]
     unfold num71 res71
     have e : ((mkS l).toList == (ByteArray.mk #[]).toList) = l.isEmpty := by
       rw [toList_data, toList_data, mkS_data]
       cases l <;> rfl
     rw [e]
theorem fold_ge (b : Nat) (hb : 1 ≤ b) : ∀ (l : List UInt8) (v : Nat), v ≤ l.foldl (fun n c => n * b + hexv c) v
 | [], v => Nat.le_refl _
 | c :: t, v => by
   rw [List.foldl_cons]
   have := fold_ge b hb t (v * b + hexv c)
   have h2 : v ≤ v * b := Nat.le_mul_of_pos_right _ hb
   omega
theorem num71_eq (b lim : Nat) (hb : 1 ≤ b) : ∀ (l : List UInt8) (v : Nat), v < lim → num71 b lim v l = if (l.all fun c => decide (hexv c < b)) = true ∧ l.foldl (fun n c => n * b + hexv c) v < lim then some (l.foldl (fun n c => n * b + hexv c) v) else none
 | [], v, h => by unfold num71; rw [if_pos ⟨rfl, h⟩]; rfl
 | c :: t, v, h => by
   unfold num71
   rw [List.all_cons, List.foldl_cons]
   by_cases h1 : hexv c < b
   · rw [decide_eq_true h1, Bool.true_and]
     by_cases h2 : v * b + hexv c < lim
     · rw [if_pos ⟨h1, h2⟩, num71_eq b lim hb t _ h2]
     · rw [if_neg (fun q => h2 q.2), if_neg]
       rintro ⟨_, q⟩
       have := fold_ge b hb t (v * b + hexv c)
       omega
   · rw [if_neg (fun q => h1 q.1), decide_eq_false h1, Bool.false_and, if_neg (fun q => Bool.false_ne_true q.1)]
theorem g71 (hg : OnGlobals I ng) : Kw I ng B71 := known_add (g29 hg) (contract_of aL71 hg (hok_of (g29 hg)) fun cargs rv outs h => by
 unfold L71 at h
 split at h <;> first | (cases h; done) | skip
 rename_i s b lim
 refine ⟨12000, loop1 rfl (by kernel_rfl) (by kernel_rfl) (by kernel_rfl) (hd := hL71) (by kernel_rfl) ?_⟩
 by_cases hs : s.size ≤ 10000 ∧ 2 ≤ b ∧ b ≤ 16 ∧ 0 < lim ∧ lim ≤ 4294967296
 · obtain ⟨hs, hb1, hb2, hl1, hl2⟩ := hs
   obtain ⟨B, rfl⟩ := Int.eq_ofNat_of_zero_le (show 0 ≤ b by omega)
   obtain ⟨L, rfl⟩ := Int.eq_ofNat_of_zero_le (show 0 ≤ lim by omega)
   obtain ⟨l, rfl⟩ : ∃ l, s = mkS l := ⟨_, (mkS_bl s).symm⟩
   simp only [picked, pickAlt, decide_eq_true hs, decide_eq_true hb1, decide_eq_true hb2, decide_eq_true hl1, decide_eq_true hl2, Bool.true_and, natM] at h
   rw [sizeM] at hs
   refine (ib71 (mkS l) B L 12000 (R71 12000 12000)).trans ?_
   refine (lo71 12000 l B L hs (by omega) (by omega) 12000 0 0 (by omega) (by omega) (by omega)).trans ?_
   rw [List.drop_zero, num71_eq B L (by omega) l 0 (by omega)]
   unfold nOk numOk nV numL at h
   simp only [dataM] at h
   cases hl : l.isEmpty with
   | true =>
     rw [hl] at h
     simp only [Bool.not_true, Bool.false_and] at h
     cases h
     cases l with
     | nil => split <;> rfl
     | cons a t => cases hl
   | false =>
     rw [hl] at h
     simp only [Bool.not_false, Bool.true_and] at h
     by_cases hq : (l.all fun c => decide (hexv c < B)) = true ∧ l.foldl (fun n c => n * B + hexv c) 0 < L
     · rw [if_pos hq]
       rw [hq.1, decide_eq_true (show ((l.foldl (fun n c => n * B + hexv c) 0 : Nat) : Int) < (L : Int) by have := hq.2; omega)] at h
       simp only [Bool.and_self] at h
       cases h
       unfold res71
       rw [hl]; rfl
     · rw [if_neg hq]
       have : ((l.all fun c => decide (hexv c < B)) && decide (((l.foldl (fun n c => n * B + hexv c) 0 : Nat) : Int) < (L : Int))) = false := by
         rw [Bool.and_eq_false_iff]
         by_cases h1 : (l.all fun c => decide (hexv c < B)) = true
         · exact .inr (decide_eq_false fun h2 => hq ⟨h1, by omega⟩)
         · exact .inl (by simpa using h1)
       rw [this] at h
       cases h
       rfl
 · exfalso
   have hc : (decide (s.size ≤ 10000) && (decide (2 ≤ b) && (decide (b ≤ 16) && (decide (0 < lim) && decide (lim ≤ 4294967296))))) = false := by
     refine Bool.eq_false_iff.2 fun hh => hs ?_
     simpa [Bool.and_eq_true] using hh
   have hc2 : ∀ x : Bool, (decide (s.size ≤ 10000) && (decide (2 ≤ b) && (decide (b ≤ 16) && (decide (0 < lim) && (decide (lim ≤ 4294967296) && x))))) = false := by
     intro x
     refine Bool.eq_false_iff.2 fun hh => hs ?_
     simp only [Bool.and_eq_true, decide_eq_true_eq] at hh
     exact ⟨hh.1, hh.2.1, hh.2.2.1, hh.2.2.2.1, hh.2.2.2.2.1⟩
   simp only [picked, pickAlt, hc, hc2] at h
   cases h)
end Go.Pv
namespace Go.Pv
set_option maxRecDepth 100000
set_option maxHeartbeats 200000
open Go Go.Proofs
variable {I : World → Prop} {ng : Nat}
theorem g81 (hg : OnGlobals I ng) : Kw I ng B81 := known_add (g71 hg) (contract_of (fun _ => none) hg (hok_of (g71 hg)) fun cargs rv outs h => by
 unfold L81 at h
 split at h <;> first | (cases h; done) | skip
 rename_i c b
 by_cases hc : 0 ≤ c ∧ c < 256 ∧ 2 ≤ b ∧ b ≤ 16
 · obtain ⟨h0, h1, h2, h3⟩ := hc
   simp only [picked, pickAlt, decide_eq_true h0, decide_eq_true h1, decide_eq_true h2, decide_eq_true h3, Bool.true_and] at h
   cases h
   refine ⟨1, ?_⟩
   rw [ir81]
   have w1 : 48 ≤ c → IntKind.i64.wrap (IntKind.u8.wrap (c - 48)) = c - 48 := fun _ => by rw [wrap8, wrap_id (by omega) (by omega)]; omega
   have w2 : 97 ≤ c → IntKind.i64.wrap (IntKind.i64.wrap (IntKind.u8.wrap (c - 97)) + 10) = c - 87 := fun _ => by rw [wrap8, wrap_id (n := (c - 97) % 256) (by omega) (by omega), wrap_id (by omega) (by omega)]; omega
   have w3 : 65 ≤ c → IntKind.i64.wrap (IntKind.i64.wrap (IntKind.u8.wrap (c - 65)) + 10) = c - 55 := fun _ => by rw [wrap8, wrap_id (n := (c - 65) % 256) (by omega) (by omega), wrap_id (by omega) (by omega)]; omega
   have key : ∀ (d : Int) (x : Int), 0 ≤ d → x = d → hx c = d → (if x ≥ b then some (CV.int IntKind.i64 (Int.negSucc 0), ([] : List CV)) else some (CV.int IntKind.i64 x, [])) = some (CV.int IntKind.i64 (dR c b), []) := by
     intro d x hd0 hx1 hd
     subst hx1
     unfold dR
     rw [hd]
     by_cases hb : x ≥ b
     · rw [if_pos hb, if_neg (by omega)]; rfl
     · rw [if_neg hb, if_pos ⟨hd0, by omega⟩]
   have key2 : hx c = -1 → (if (-1 : Int) ≥ b then some (CV.int IntKind.i64 (Int.negSucc 0), ([] : List CV)) else some (CV.int IntKind.i64 (Int.negSucc 0), [])) = some (CV.int IntKind.i64 (dR c b), []) := by
     intro hd
     unfold dR
     rw [hd, if_neg (by omega), if_neg (by omega)]; rfl
   simp only [bif_dec]
   by_cases a1 : 48 ≤ c ∧ c ≤ 57
   · have e : hx c = c - 48 := by unfold hx; rw [if_pos a1]
     rw [if_pos (by omega), if_pos (by omega), if_neg (by omega), if_neg (by omega)]
     exact key _ _ (by omega) (w1 (by omega)) e
   · by_cases a2 : 97 ≤ c ∧ c ≤ 102
     · have e : hx c = c - 87 := by unfold hx; rw [if_neg a1, if_pos a2]
       rw [if_pos (by omega), if_neg (by omega), if_pos (by omega), if_pos (by omega), if_pos (by omega), if_neg (by omega)]
       exact key _ _ (by omega) (w2 (by omega)) e
     · by_cases a3 : 65 ≤ c ∧ c ≤ 70
       · have e : hx c = c - 55 := by unfold hx; rw [if_neg a1, if_neg a2, if_pos a3]
         rw [if_pos (by omega), if_neg (by omega), if_neg (by omega), if_pos (by omega), if_pos (by omega)]
         exact key _ _ (by omega) (w3 (by omega)) e
       · have e : hx c = -1 := by unfold hx; rw [if_neg a1, if_neg a2, if_neg a3]
         have key2 := key2 e
         by_cases b1 : c ≥ 48
         · rw [if_pos b1, if_neg (by omega)]
           by_cases b2 : c ≥ 97
           · rw [if_pos b2, if_neg (by omega)]
             rw [if_pos (by omega), if_neg (by omega)]
             exact key2
           · rw [if_neg b2]
             by_cases b3 : c ≥ 65
             · rw [if_pos b3, if_neg (by omega)]; exact key2
             · rw [if_neg b3]; exact key2
         · rw [if_neg b1, if_neg (by omega), if_neg (by omega)]; exact key2
 · exfalso
   have hc : (decide (0 ≤ c) && (decide (c < 256) && (decide (2 ≤ b) && decide (b ≤ 16)))) = false := by
     refine Bool.eq_false_iff.2 fun hh => hc ?_
     simpa [Bool.and_eq_true] using hh
   simp only [picked, pickAlt, hc] at h
   cases h)
theorem fold_min (b : Nat) (hb : 1 ≤ b) (M : Nat) : ∀ (l : List UInt8) (x y : Nat), min x M = min y M → min (l.foldl (fun n c => n * b + hexv c) x) M = min (l.foldl (fun n c => n * b + hexv c) y) M
 | [], x, y, h => h
 | c :: t, x, y, h => by
   rw [List.foldl_cons, List.foldl_cons]
   refine fold_min b hb M t _ _ ?_
   by_cases hx : x < M
   · have : x = y := by omega
     rw [this]
   · have h1 : M ≤ x * b := Nat.le_trans (by omega : M ≤ x) (Nat.le_mul_of_pos_right _ hb)
     have h2 : M ≤ y * b := Nat.le_trans (by omega : M ≤ y) (Nat.le_mul_of_pos_right _ hb)
     omega
noncomputable abbrev R77 (n j : Nat) (env : Env) (H : Hp) : Res := rounds Tryz.prog (call' B81) (filt aL77 0) n hL77 (bodyN 0 (codeOf Tryz.prog 111)) j env H (restN Tryz.prog (call' B81) (filt aL77 0) n 0 (codeOf Tryz.prog 111) (endOf Tryz.prog 111 []))
theorem lo77 (n : Nat) (l : List UInt8) (b : Nat) (hl : l.length ≤ 10000) (hb1 : 2 ≤ b) (hb : b ≤ 16) : ∀ (j k v : Nat), l.length < j + k → k ≤ l.length → v ≤ 4294967296 →
   R77 n j (mkEnv 31 [(0, .c (.str (mkS l))), (1, .c (.int .i64 (b : Int))), (5, .c (.int .i64 (v : Int))), (6, .c (.int .i64 (k : Int)))]) [] = some (.int .i64 (if ((l.drop k).all fun c => decide (hexv c < b)) = true then ((min ((l.drop k).foldl (fun n c => n * b + hexv c) v) 4294967296 : Nat) : Int) else -1), [])
 | 0, k, v, hj, hk, hv => by omega
 | j + 1, k, v, hj, hk, hv => by
   unfold R77
   rw [rounds_succ, ic77]
   simp only [atM, sizeM, natM]
   by_cases h1 : k < l.length
   · rw [drop_getD h1, List.all_cons, List.foldl_cons]
     have hb2 := (l.getD k 0).toNat_lt
     obtain ⟨f1, f2, f3, f4, f5⟩ := dg_facts _ hb2
     have c0 : decide ((k : Int) < ((l.length : Nat) : Int)) = true := decide_eq_true (by omega)
     have c1 : decide ((0 : Int) ≤ (k : Int)) = true := decide_eq_true (by omega)
     have c2 : decide ((0 : Int) ≤ ((l.getD k 0).toNat : Int)) = true := decide_eq_true (by omega)
     have c3 : decide (((l.getD k 0).toNat : Int) < 256) = true := decide_eq_true (by omega)
     have c4 : decide ((2 : Int) ≤ (b : Int)) = true := decide_eq_true (by omega)
     have c5 : decide ((b : Int) ≤ 16) = true := decide_eq_true (by omega)
     rw [c0, c1, c2, c3, c4, c5]
     simp only [Bool.and_self]
     rw [bif_t _ _ rfl, bif_t _ _ rfl, bif_t _ _ rfl, bif_t _ _ rfl]
     have hvb : (v : Int) * b ≤ 4294967296 * 16 := by
       have h2 : v * b ≤ 4294967296 * 16 := Nat.mul_le_mul (by omega) hb
       have : ((v * b : Nat) : Int) ≤ ((4294967296 * 16 : Nat) : Int) := by omega
       rw [Int.natCast_mul] at this; exact this
     have hvb0 : (0 : Int) ≤ (v : Int) * b := by
       have : (0 : Int) ≤ ((v * b : Nat) : Int) := by omega
       rw [Int.natCast_mul] at this; exact this
     by_cases hd : hexv (l.getD k 0) < b
     · have hx0 : 0 ≤ hx (l.getD k 0).toNat := by
         refine Classical.byContradiction fun hn => ?_
         rw [hexv_no (by omega)] at hd; omega
       have e := hexv_is hx0
       have e1 : dR ((l.getD k 0).toNat : Int) (b : Int) = hx (l.getD k 0).toNat := by
         unfold dR; rw [if_pos ⟨hx0, by omega⟩]
       rw [e1, bif_f _ _ (decide_eq_false (by omega)), wrap_id (n := (v : Int) * b) hvb0 (by omega), wrap_id (n := (v : Int) * b + hx (l.getD k 0).toNat) (by omega) (by omega), wrp1 (i := k) (by omega), decide_eq_true hd, Bool.true_and]
       have e2 : (v : Int) * b + hx (l.getD k 0).toNat = ((v * b + hexv (l.getD k 0) : Nat) : Int) := by
         rw [Int.natCast_add, Int.natCast_mul, e]
       rw [e2]
       by_cases hm : (((v * b + hexv (l.getD k 0) : Nat) : Int) > 4294967296)
       · rw [bif_t _ _ (decide_eq_true hm)]
         have := lo77 n l b hl hb1 hb j (k + 1) 4294967296 (by omega) (by omega) (by omega)
         refine Eq.trans this ?_
         rw [fold_min b (by omega) 4294967296 (l.drop (k + 1)) 4294967296 (v * b + hexv (l.getD k 0)) (by omega)]
       · rw [bif_f _ _ (decide_eq_false hm)]
         exact lo77 n l b hl hb1 hb j (k + 1) _ (by omega) (by omega) (by omega)
     · have e1 : dR ((l.getD k 0).toNat : Int) (b : Int) = -1 := by
         unfold dR
         rw [if_neg]
         rintro ⟨q1, q2⟩
         have e := hexv_is q1
         omega
       rw [e1, bif_t _ _ (decide_eq_true (by omega)), decide_eq_false hd, Bool.false_and]
       rfl
   · rw [bif_f _ _ (decide_eq_false (by omega)), List.drop_of_length_le (by omega)]
     have : min v 4294967296 = v := by omega
     show some (CV.int IntKind.i64 (v : Int), ([] : List CV)) = some (.int .i64 ((min v 4294967296 : Nat) : Int), [])
     rw [this]
theorem g77 (hg : OnGlobals I ng) : Kw I ng B77 := known_add (g81 hg) (contract_of aL77 hg (hok_of (g81 hg)) fun cargs rv outs h => by
 unfold L77 at h
 split at h <;> first | (cases h; done) | skip
 rename_i s b
 refine ⟨12000, loop1 rfl (by kernel_rfl) (by kernel_rfl) (by kernel_rfl) (hd := hL77) (by kernel_rfl) ?_⟩
 by_cases hs : s.size ≤ 10000 ∧ 2 ≤ b ∧ b ≤ 16
 · obtain ⟨hs, hb1, hb2⟩ := hs
   obtain ⟨B, rfl⟩ := Int.eq_ofNat_of_zero_le (show 0 ≤ b by omega)
   obtain ⟨l, rfl⟩ : ∃ l, s = mkS l := ⟨_, (mkS_bl s).symm⟩
   simp only [picked, pickAlt, decide_eq_true hs, decide_eq_true hb1, decide_eq_true hb2, Bool.true_and, natM] at h
   cases h
   rw [sizeM] at hs
   refine (ib77 (mkS l) B 12000 (R77 12000 12000)).trans ?_
   have e : ((mkS l).toList == (ByteArray.mk #[]).toList) = l.isEmpty := by
     rw [toList_data, toList_data, mkS_data]
     cases l <;> rfl
   rw [e]
   unfold nR nOk nV numOk numL
   simp only [dataM]
   cases hl : l.isEmpty with
   | true => rfl
   | false =>
     rw [bif_f _ _ rfl]
     refine (lo77 12000 l B hs (by omega) (by omega) 12000 0 0 (by omega) (by omega) (by omega)).trans ?_
     rw [List.drop_zero]
     simp only [Bool.not_false, Bool.true_and]
 · exfalso
   have hc : (decide (s.size ≤ 10000) && (decide (2 ≤ b) && decide (b ≤ 16))) = false := by
     refine Bool.eq_false_iff.2 fun hh => hs ?_
     simpa [Bool.and_eq_true] using hh
   simp only [picked, pickAlt, hc] at h
   cases h)
def consH (pre : List UInt8) : List (List UInt8) → List (List UInt8)
 | [] => [pre]
 | p :: ps => (pre ++ p) :: ps
theorem splitL_ne (c : UInt8) : ∀ l : List UInt8, ∃ p ps, splitL c l = p :: ps
 | [] => ⟨[], [], rfl⟩
 | b :: t => by
   obtain ⟨p, ps, h⟩ := splitL_ne c t
   unfold splitL
   split
   · exact ⟨_, _, rfl⟩
   · rw [h]; exact ⟨_, _, rfl⟩
theorem consH_nil (c : UInt8) (l : List UInt8) : consH [] (splitL c l) = splitL c l := by
 obtain ⟨p, ps, h⟩ := splitL_ne c l
 rw [h]; rfl
theorem consH_eq (c : UInt8) (pre t : List UInt8) : consH pre (splitL c (c :: t)) = pre :: splitL c t := by
 have e : splitL c (c :: t) = [] :: splitL c t := by
   conv => lhs; unfold splitL
   rw [if_pos rfl]
 rw [e]
 show (pre ++ []) :: splitL c t = _
 rw [List.append_nil]
theorem consH_ne {c b : UInt8} (h : b ≠ c) (pre t : List UInt8) : consH pre (splitL c (b :: t)) = consH (pre ++ [b]) (splitL c t) := by
 obtain ⟨p, ps, e⟩ := splitL_ne c t
 conv => lhs; unfold splitL
 rw [if_neg h, e]
 show (pre ++ b :: p) :: ps = (pre ++ [b] ++ p) :: ps
 rw [List.append_assoc]; rfl
theorem by9 : Tryz.prog.types[9].bytes = 16 := by kernel_rfl
noncomputable abbrev R66 (n j : Nat) (env : Env) (H : Hp) : Res := rounds Tryz.prog (call' B77) (filt aL66 0) n hL66 (bodyN 0 (codeOf Tryz.prog 93)) j env H (restN Tryz.prog (call' B77) (filt aL66 0) n 0 (codeOf Tryz.prog 93) (endOf Tryz.prog 93 []))
theorem rep1 {α : Type} (a b : α) : (List.replicate 1 a).set 0 b = [b] := rfl
theorem lo66 (n : Nat) (l : List UInt8) (c : UInt8) (hl : l.length ≤ 10000) : ∀ (j k f : Nat) (xs : List CV), l.length + 1 < j + k → k ≤ l.length → f ≤ k → xs.length ≤ f →
   R66 n j (mkEnv 36 [(0, .c (.str (mkS l))), (1, .c (.int .u8 (c.toNat : Int))), (5, .rw 0 0), (6, .c (.int .i64 (f : Int))), (7, .c (.int .i64 (k : Int)))]) [.row xs 1 0 false] = some (.sl true false 1 (xs ++ (consH ((l.drop f).take (k - f)) (splitL c (l.drop k))).map strCV), [])
 | 0, k, f, xs, hj, hk, hf, hx => by omega
 | j + 1, k, f, xs, hj, hk, hf, hx => by
   unfold R66
   rw [rounds_succ, ic66]
   simp only [atM, sizeM, natM, mkS_ext, rep1, by9, List.length_cons, List.length_nil]
   have c0 : decide ((k : Int) ≤ ((l.length : Nat) : Int)) = true := decide_eq_true (by omega)
   have c1 : decide ((0 : Int) ≤ (k : Int)) = true := decide_eq_true (by omega)
   have c2 : decide ((0 : Int) ≤ (f : Int)) = true := decide_eq_true (by omega)
   have c3 : decide ((f : Int) ≤ (k : Int)) = true := decide_eq_true (by omega)
   have c4 : decide ((xs.length + (0 + 1)) * 16 ≤ 70368744177664) = true := decide_eq_true (by omega)
   rw [c0, c1, c2, c3, c4, wrp1 (i := k) (by omega)]
   simp only [bif_t _ _ (Eq.refl true)]
   by_cases h1 : k < l.length
   · have c5 : (((k : Nat) : Int) == ((l.length : Nat) : Int)) = false := by
       refine Bool.eq_false_iff.2 fun hh => ?_
       have := eq_of_beq hh; omega
     have c6 : decide ((k : Int) < ((l.length : Nat) : Int)) = true := decide_eq_true (by omega)
     rw [c5, c6, drop_getD h1]
     rw [bif_f _ _ rfl, bif_t _ _ rfl]
     by_cases hc : l.getD k 0 = c
     · have c7 : (((l.getD k 0).toNat : Int) == (c.toNat : Int)) = true := by rw [hc]; exact beq_iff_eq.2 rfl
       rw [c7, bif_t _ _ rfl, hc, consH_eq]
       have ih := lo66 n l c hl j (k + 1) (k + 1) (xs ++ [.str (mkS ((l.drop f).take (k - f)))]) (by omega) (by omega) (by omega) (by rw [List.length_append]; simp; omega)
       refine Eq.trans ih ?_
       rw [Nat.sub_self, List.take_zero, consH_nil, List.append_assoc]
       rfl
     · have c7 : (((l.getD k 0).toNat : Int) == (c.toNat : Int)) = false := by
         refine Bool.eq_false_iff.2 fun hh => hc ?_
         have := eq_of_beq hh
         exact u8_int.1 this
       rw [c7, bif_f _ _ rfl, consH_ne hc]
       have ih := lo66 n l c hl j (k + 1) f xs (by omega) (by omega) (by omega) hx
       refine Eq.trans ih ?_
       have e : (l.drop f).take (k + 1 - f) = (l.drop f).take (k - f) ++ [l.getD k 0] := by
         have e1 : k + 1 - f = (k - f) + 1 := by omega
         rw [e1, List.take_add_one]
         congr 1
         rw [List.getElem?_drop, show f + (k - f) = k by omega]
         simp [List.getD_eq_getElem?_getD, h1]
       rw [e]
   · have hk' : k = l.length := by omega
     have c5 : (((k : Nat) : Int) == ((l.length : Nat) : Int)) = true := by rw [hk']; exact beq_iff_eq.2 rfl
     rw [c5, bif_t _ _ rfl, List.drop_of_length_le (show l.length ≤ k by omega)]
     obtain ⟨j', rfl⟩ : ∃ j', j = j' + 1 := ⟨j - 1, by omega⟩
     show R66 n (j' + 1) _ _ = _
     unfold R66
     rw [rounds_succ, ic66]
     simp only [sizeM]
     rw [bif_f _ _ (decide_eq_false (by omega))]
     have e : consH ((l.drop f).take (k - f)) (splitL c []) = [(l.drop f).take (k - f)] := by
       show [(l.drop f).take (k - f) ++ []] = _
       rw [List.append_nil]
     rw [e]
     rfl
theorem g66 (hg : OnGlobals I ng) : Kw I ng B66 := known_add (g77 hg) (contract_of aL66 hg (hok_of (g77 hg)) fun cargs rv outs h => by
 unfold L66 at h
 split at h <;> first | (cases h; done) | skip
 rename_i s c
 refine ⟨12000, loop1 rfl (by kernel_rfl) (by kernel_rfl) (by kernel_rfl) (hd := hL66) (by kernel_rfl) ?_⟩
 by_cases hs : s.size ≤ 10000 ∧ 0 ≤ c ∧ c < 256
 · obtain ⟨hs, h0, h1⟩ := hs
   obtain ⟨C, rfl⟩ := Int.eq_ofNat_of_zero_le h0
   obtain ⟨l, rfl⟩ : ∃ l, s = mkS l := ⟨_, (mkS_bl s).symm⟩
   simp only [picked, pickAlt, decide_eq_true hs, decide_eq_true h0, decide_eq_true h1, Bool.true_and, natM] at h
   cases h
   rw [sizeM] at hs
   refine (ib66 (mkS l) C 12000 (R66 12000 12000)).trans ?_
   have e : (C : Int) = (C.toUInt8.toNat : Int) := by
     have : C.toUInt8.toNat = C := by simp; omega
     rw [this]
   rw [e]
   refine (lo66 12000 l C.toUInt8 hs 12000 0 0 [] (by omega) (by omega) (by omega) (by simp)).trans ?_
   rw [List.drop_zero, Nat.sub_self, List.take_zero, consH_nil, List.nil_append]
   have e2 : ((C.toUInt8.toNat : Int).toNat).toUInt8 = C.toUInt8 := u8_cast _
   unfold spS
   simp only [dataM]
   try rfl
 · exfalso
   have hc : (decide (s.size ≤ 10000) && (decide (0 ≤ c) && decide (c < 256))) = false := by
     refine Bool.eq_false_iff.2 fun hh => hs ?_
     simpa [Bool.and_eq_true] using hh
   simp only [picked, pickAlt, hc] at h
   cases h)
theorem g57 (hg : OnGlobals I ng) : Kw I ng B57 := known_add (g66 hg) (contract_of (fun _ => none) hg (hok_of (g66 hg)) fun cargs rv outs h => by
 unfold L57 at h
 split at h
 · cases h; exact ⟨1, ir57 _ _ _ _⟩
 · cases h)
theorem g64 (hg : OnGlobals I ng) : Kw I ng B64 := known_add (g57 hg) (contract_of (fun _ => none) hg (hok_of (g57 hg)) fun cargs rv outs h => by
 unfold L64 at h
 split at h <;> first | (cases h; done) | skip
 rename_i m
 by_cases hm : 0 ≤ m ∧ m < 18446744073709551616
 · simp only [picked, pickAlt, decide_eq_true hm.1, decide_eq_true hm.2, Bool.true_and] at h
   cases h
   refine ⟨6, ?_⟩
   obtain ⟨h0, h1⟩ := hm
   rw [ir64]
   have t : ∀ {x : Int}, 0 ≤ x → x.tdiv 256 = x / 256 := fun h => Int.tdiv_eq_ediv_of_nonneg h
   have t2 : ∀ {x : Int}, 0 ≤ x → x.tmod 256 = x % 256 := fun h => Int.tmod_eq_emod_of_nonneg h
   rw [t h0, wrapU (n := m / 256) (by omega) (by omega), t (x := m / 256) (by omega), wrapU (n := m / 256 / 256) (by omega) (by omega), t (x := m / 256 / 256) (by omega), wrapU (n := m / 256 / 256 / 256) (by omega) (by omega)]
   rw [t2 h0, t2 (x := m / 256) (by omega), t2 (x := m / 256 / 256) (by omega), t2 (x := m / 256 / 256 / 256) (by omega)]
   simp only [wrap8]
   have e1 : m / 256 / 256 / 256 % 256 % 256 = m / 16777216 % 256 := by omega
   have e2 : m / 256 / 256 % 256 % 256 = m / 65536 % 256 := by omega
   have e3 : m / 256 % 256 % 256 = m / 256 % 256 := by omega
   have e4 : m % 256 % 256 = m % 256 := by omega
   rw [e1, e2, e3, e4]
   rfl
 · exfalso
   have hc : (decide (0 ≤ m) && decide (m < 18446744073709551616)) = false := by
     refine Bool.eq_false_iff.2 fun hh => hm ?_
     simpa [Bool.and_eq_true] using hh
   simp only [picked, pickAlt, hc] at h
   cases h)
end Go.Pv
namespace Go.Pv
open Go
def aexecB (P : Program) (tb : Handler) (an : Ann) (fuel : Nat) : Code → Env → Hp → KX → Res
 | .region _ ops draw, env, H, K => if draw && !drawOk P ops env then none else aops P tb ops (List.range ops.size) env H (K .normal)
 | .seq a b, env, H, K => aexecB P tb an fuel a env H (thenK (fun env H => aexec P tb an fuel b env H K) K)
 | .block id b, env, H, K => aexecB P tb an fuel b env H (blockK id K)
 | c, env, H, K => aexec P tb an fuel c env H K
def headAt (an : Ann) : Code → Option Head
 | .region id _ _ => an (id + 500000)
 | .seq a _ => headAt an a
 | .block _ b => headAt an b
 | _ => none
def prefC : Nat → Code → Code
 | 0, c => .skip
 | 1, .seq a b => a
 | k + 1, .seq a b => .seq a (prefC k b)
 | _, c => c
def tailC : Nat → Code → Code
 | 0, c => c
 | k + 1, .seq a b => tailC k b
 | _, c => c
def spine : Nat → Code → Bool
 | 0, _ => true
 | k + 1, .seq a b => spine k b
 | _, _ => false
def holeC : Code → Code
 | .seq a (.cond c x y) => .seq a (.cond c (.exit 2000000) y)
 | c => c
def lastArm : Code → Code
 | .seq a (.cond c x y) => x
 | c => c
def armK (L : Env → Hp → Res) (K : KX) : KX := fun e env H => match e with
 | .exit id => if Nat.beq id 2000000 then L env H else K (.exit id) env H
 | e => K e env H
def partsB (P : Program) (tb : Handler) (an : Ann) (fuel : Nat) (c : Code) (env : Env) (H : Hp) (L : Nat → Env → Hp → Res) (K : KX) : Res := aexecB P tb an fuel (cutN 0 c) env H (cutNK L K)
--MKX
variable {P : Program} {tb : Handler} {an : Ann} {fuel : Nat}
theorem seq_eq {a b : Code} {env : Env} {H : Hp} {K : KX} : aexec P tb an fuel (.seq a b) env H K = aexec P tb an fuel a env H (thenK (fun env H => aexec P tb an fuel b env H K) K) := by
 show aexec P tb an fuel a env H _ = aexec P tb an fuel a env H _
 congr 1
theorem block_eq {id : Nat} {b : Code} {env : Env} {H : Hp} {K : KX} : aexec P tb an fuel (.block id b) env H K = aexec P tb an fuel b env H (blockK id K) := by
 show aexec P tb an fuel b env H _ = aexec P tb an fuel b env H _
 congr 1
theorem headed {hd : Head} : ∀ {c : Code} {env : Env} {H : Hp} {K : KX}, headAt an c = some hd → aexec P tb an fuel c env H K = headK hd (fun e H => aexecB P tb an fuel c e H K) env H := by
 intro c
 induction c with
 | region id ops draw =>
   intro env H K h
   have h' : an (id + 500000) = some hd := h
   unfold aexec atHead
   rw [h']
   rfl
 | seq a b iha ihb =>
   intro env H K h
   rw [seq_eq, iha h]
   rfl
 | block id b ih =>
   intro env H K h
   rw [block_eq, ih h]
   rfl
 | _ => intro env H K h; cases h
theorem thenK_thenK {T : Env → Hp → Res} {K : KX} {X : Env → Hp → Res} : thenK X (thenK T K) = thenK X K := by
 funext e env H
 cases e <;> rfl
theorem pref_eq : ∀ {k : Nat} {c : Code} {env : Env} {H : Hp} {K : KX}, 0 < k → spine k c = true →
   aexec P tb an fuel c env H K = aexec P tb an fuel (prefC k c) env H (thenK (fun e H => aexec P tb an fuel (tailC k c) e H K) K)
 | 0, _, _, _, _, h, _ => by omega
 | 1, .seq a b, env, H, K, _, h => seq_eq
 | k + 2, .seq a b, env, H, K, _, h => by
   have ih : ∀ env H, aexec P tb an fuel b env H K = _ := fun env H => pref_eq (k := k + 1) (by omega) h
   show aexec P tb an fuel (.seq a b) env H K = aexec P tb an fuel (.seq a (prefC (k + 1) b)) env H _
   rw [seq_eq, seq_eq, thenK_thenK]
   simp only [ih]
   rfl
 | _ + 1, .skip, _, _, _, _, h | _ + 1, .label _, _, _, _, _, h | _ + 1, .region _ _ _, _, _, _, _, h | _ + 1, .cond _ _ _, _, _, _, _, h
 | _ + 1, .block _ _, _, _, _, _, h | _ + 1, .loop _, _, _, _, _, h | _ + 1, .exit _, _, _, _, _, h | _ + 1, .ret, _, _, _, _, h => by cases h
theorem prefB_eq : ∀ {k : Nat} {c : Code} {env : Env} {H : Hp} {K : KX}, 0 < k → spine k c = true →
   aexecB P tb an fuel c env H K = aexecB P tb an fuel (prefC k c) env H (thenK (fun e H => aexec P tb an fuel (tailC k c) e H K) K)
 | 0, _, _, _, _, h, _ => by omega
 | 1, .seq a b, env, H, K, _, h => rfl
 | k + 2, .seq a b, env, H, K, _, h => by
   have ih : ∀ env H, aexec P tb an fuel b env H K = _ := fun env H => pref_eq (k := k + 1) (by omega) h
   show aexecB P tb an fuel (.seq a b) env H K = aexecB P tb an fuel (.seq a (prefC (k + 1) b)) env H _
   unfold aexecB
   rw [thenK_thenK]
   simp only [ih]
   rfl
 | _ + 1, .skip, _, _, _, _, h | _ + 1, .label _, _, _, _, _, h | _ + 1, .region _ _ _, _, _, _, _, h | _ + 1, .cond _ _ _, _, _, _, _, h
 | _ + 1, .block _ _, _, _, _, _, h | _ + 1, .loop _, _, _, _, _, h | _ + 1, .exit _, _, _, _, _, h | _ + 1, .ret, _, _, _, _, h => by cases h
theorem seg_a {k : Nat} {c : Code} {hd : Head} {env : Env} {H : Hp} {K : KX} (hk : 0 < k) (hs : spine k c = true) (hh : headAt an (tailC k c) = some hd) :
   aexec P tb an fuel c env H K = aexec P tb an fuel (prefC k c) env H (thenK (headK hd fun e H => aexecB P tb an fuel (tailC k c) e H K) K) := by
 rw [pref_eq hk hs]
 have : (fun e H => aexec P tb an fuel (tailC k c) e H K) = headK hd fun e H => aexecB P tb an fuel (tailC k c) e H K := by
   funext e H
   exact headed hh
 rw [this]
theorem seg_b {k : Nat} {c : Code} {hd : Head} {env : Env} {H : Hp} {K : KX} (hk : 0 < k) (hs : spine k c = true) (hh : headAt an (tailC k c) = some hd) :
   aexecB P tb an fuel c env H K = aexecB P tb an fuel (prefC k c) env H (thenK (headK hd fun e H => aexecB P tb an fuel (tailC k c) e H K) K) := by
 rw [prefB_eq hk hs]
 have : (fun e H => aexec P tb an fuel (tailC k c) e H K) = headK hd fun e H => aexecB P tb an fuel (tailC k c) e H K := by
   funext e H
   exact headed hh
 rw [this]
def isHole : Code → Bool
 | .seq (.region _ _ _) (.cond _ _ .skip) => true
 | _ => false
theorem hole_eq {c : Code} {env : Env} {H : Hp} {K : KX} {hd : Head} (h : isHole c = true) (hh : headAt an (lastArm c) = some hd) :
   aexecB P tb an fuel c env H K = aexecB P tb an fuel (holeC c) env H (armK (headK hd fun e H => aexecB P tb an fuel (lastArm c) e H K) K) := by
 match c, h with
 | .seq (.region id ops draw) (.cond x a .skip), _ =>
   have hh' : ∀ env H, aexec P tb an fuel a env H K = headK hd (fun e H => aexecB P tb an fuel a e H K) env H := fun env H => headed hh
   show aexecB P tb an fuel (.region id ops draw) env H (thenK (fun env H => aexec P tb an fuel (.cond x a .skip) env H K) K) =
     aexecB P tb an fuel (.region id ops draw) env H (thenK (fun env H => aexec P tb an fuel (.cond x (.exit 2000000) .skip) env H _) _)
   unfold aexecB
   congr 2
   funext env H
   show aexec P tb an fuel (.cond x a .skip) env H K = aexec P tb an fuel (.cond x (.exit 2000000) .skip) env H _
   unfold aexec
   split
   · split
     · rw [hh']; rfl
     · rw [hh']; rfl
   · rfl
theorem segc_eq : ∀ (c : Code) (n : Nat) (L : Nat → Env → Hp → Res) (K : KX) (env : Env) (H : Hp), idsOk c = true → (firstRegion c).isSome = true → (match c with | .loop _ => false | .cond _ _ _ => false | _ => true) = true →
   (∀ i env H, i < nLoops c → L (n + i) env H = aexec P tb an fuel (.loop (bodyN i c)) env H (restN P tb an fuel i c K)) →
   (match c with | .seq (.region _ _ _) _ => true | _ => false) = true →
   aexecB P tb an fuel c env H K = aexecB P tb an fuel (cutN n c) env H (cutNK L K) := by
 intro c n L K env H ho _ _ hL hc
 match c, hc with
 | .seq (.region id ops draw) b, _ =>
   have ho' : idsOk b = true := by simpa [idsOk] using ho
   have hb : ∀ env H, aexec P tb an fuel b env H K = aexec P tb an fuel (cutN n b) env H (cutNK L K) := fun env H => cut_eq b n K env H ho' fun i env H hi => by
     have := hL i env H (by simpa [nLoops] using hi)
     rw [this]
     simp [bodyN, restN, nLoops]
   show aexecB P tb an fuel (.region id ops draw) env H (thenK (fun env H => aexec P tb an fuel b env H K) K) = aexecB P tb an fuel (.region id ops draw) env H (thenK (fun env H => aexec P tb an fuel (cutN (n + nLoops (.region id ops draw)) b) env H (cutNK L K)) (cutNK L K))
   unfold aexecB
   congr 2
   funext env H
   exact hb env H
def isLoopPiece : Code → Bool
 | .seq (.region _ _ _) b => true
 | _ => false
theorem loopB {c : Code} {env : Env} {H : Hp} {K : KX} {hd : Head} (h : isLoopPiece c = true) (hi : idsOk c = true) (hl : nLoops c = 1) (hh : (firstRegion (bodyN 0 c)).bind an = some hd) :
   aexecB P tb an fuel c env H K = partsB P tb an fuel c env H (fun _ => headK hd fun env H => rounds P tb an fuel hd (bodyN 0 c) fuel env H (restN P tb an fuel 0 c K)) K := by
 unfold partsB
 refine segc_eq c 0 _ K env H hi ?_ ?_ (fun i env H hlt => ?_) ?_
 · cases c with
   | seq a b => cases a <;> first | rfl | (cases h; done)
   | _ => cases h
 · cases c with
   | seq a b => rfl
   | _ => cases h
 · rw [hl] at hlt
   obtain rfl : i = 0 := by omega
   exact (loop_eq hh).symm
 · cases c with
   | seq a b => cases a <;> first | rfl | (cases h; done)
   | _ => cases h
end Go.Pv
namespace Go.Pv
open Go
variable {P : Program} {tb : Handler} {an : Ann} {fuel : Nat}
def startsR : Code → Bool
 | .region _ _ _ => true
 | .seq a _ => startsR a
 | _ => false
theorem segc_eq' : ∀ (c : Code) (n : Nat) (L : Nat → Env → Hp → Res) (K : KX) (env : Env) (H : Hp), idsOk c = true → startsR c = true →
   (∀ i env H, i < nLoops c → L (n + i) env H = aexec P tb an fuel (.loop (bodyN i c)) env H (restN P tb an fuel i c K)) →
   aexecB P tb an fuel c env H K = aexecB P tb an fuel (cutN n c) env H (cutNK L K) := by
 intro c
 induction c with
 | region id ops draw =>
   intro n L K env H _ _ _
   show aexecB P tb an fuel (.region id ops draw) env H K = aexecB P tb an fuel (.region id ops draw) env H (cutNK L K)
   unfold aexecB
   rfl
 | seq a b iha ihb =>
   intro n L K env H ho hs hL
   simp only [idsOk, Bool.and_eq_true] at ho
   have hb : ∀ env H, aexec P tb an fuel b env H K = aexec P tb an fuel (cutN (n + nLoops a) b) env H (cutNK L K) := fun env H => cut_eq b (n + nLoops a) K env H ho.2 fun i env H hi => by
     rw [Nat.add_assoc, hL (nLoops a + i) env H (by simp only [nLoops]; omega)]
     simp only [bodyN, restN, if_neg (show ¬ nLoops a + i < nLoops a by omega), Nat.add_sub_cancel_left]
   have ha := iha n L (thenK (fun env H => aexec P tb an fuel b env H K) K) env H ho.1 hs fun i env H hi => by
     rw [hL i env H (by simp only [nLoops]; omega)]
     simp only [bodyN, restN, if_pos hi]
   show aexecB P tb an fuel a env H (thenK (fun env H => aexec P tb an fuel b env H K) K) = aexecB P tb an fuel (cutN n a) env H (thenK (fun env H => aexec P tb an fuel (cutN (n + nLoops a) b) env H (cutNK L K)) (cutNK L K))
   rw [ha]
   congr 1
   funext e env H
   cases e with
   | normal => exact hb env H
   | exit id =>
     simp only [cutNK, thenK]
   | ret => rfl
 | _ => intro n L K env H _ hs _; cases hs
theorem loopB' {c : Code} {env : Env} {H : Hp} {K : KX} {hd : Head} (h : startsR c = true) (hi : idsOk c = true) (hl : nLoops c = 1) (hh : (firstRegion (bodyN 0 c)).bind an = some hd) :
   aexecB P tb an fuel c env H K = partsB P tb an fuel c env H (fun _ => headK hd fun env H => rounds P tb an fuel hd (bodyN 0 c) fuel env H (restN P tb an fuel 0 c K)) K := by
 unfold partsB
 refine segc_eq' c 0 _ K env H hi h (fun i env H hlt => ?_)
 rw [hl] at hlt
 obtain rfl : i = 0 := by omega
 exact (loop_eq hh).symm
end Go.Pv
