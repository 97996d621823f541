/- The end of a function's body. -/
import Derived.Test.YtpclikkakhcomaaGreatDoorPv23
set_option linter.unusedVariables false
namespace Go.Pv
open Go

variable {P : Program} {I : World → Prop} {tb : Handler}

/-! ### Results -/
theorem resVals_ok {S : St} (ok : Ok S) {env : Env} {a : Act} {res : CV × List CV} (hE : EnvR S env a) {g : ResultVar → Sem Value} (g1 : ∀ t, g (.tmp t) = pure (a.tmps.getD t undef)) (g2 : ∀ b t, g (.cell b t) = do loadVar t (← asAddr (a.tmps.getD b undef))) : ∀ {rs : List ResultVar} {K : List PV → Res}, resVals P rs env S.H K = some res →
    ∃ ps vs, (rs.mapM g).run P S.w = .ok vs S.w ∧ All2 (Vr S) ps vs ∧ K ps = some res
  | [], K, h => ⟨[], [], rfl, .nil, h⟩
  | .tmp t :: rs, K, h => by
    simp only [resVals] at h
    obtain ⟨ps, vs, h1, h2, h3⟩ := resVals_ok ok hE g1 g2 h
    refine ⟨_, a.tmps.getD t undef :: vs, ?_, .cons (evl_ok hE (.tmp t)) h2, h3⟩
    simp only [List.mapM_cons, g1, Sem.run_bind, Sem.run_pure, Result.andThen_ok]
    rw [h1]; rfl
  | .cell b t :: rs, K, h => by
    simp only [resVals] at h
    obtain ⟨u, p, h1, h2, h3⟩ := load_pure ok (evl_ok hE (.tmp b)) h
    obtain ⟨ps, vs, q1, q2, q3⟩ := resVals_ok ok hE g1 g2 h3
    refine ⟨_, u :: vs, ?_, .cons h2 q2, q3⟩
    have hl : (do loadVar t (← asAddr (a.tmps.getD b undef)) : Sem Value).run P S.w = .ok u S.w := by
      revert h1
      show (Instr.loadAt t (a.tmps.getD b undef)).run P S.w = .ok u S.w → _
      cases hv : a.tmps.getD b undef with
      | pointer o =>
        cases o with
        | none => intro h1; simp [Instr.loadAt, Instr.sureAddr, stuck] at h1
        | some ad => exact id
      | _ => intro h1; simp [Instr.loadAt, Instr.sureAddr, stuck] at h1
    rw [List.mapM_cons, g2, Sem.run_bind, hl]
    simp only [Result.andThen_ok, Sem.run_bind, q1, Sem.run_pure]

def resG (tmps : Array Value) : ResultVar → Sem Value
  | .tmp t => pure (tmps.getD t undef)
  | .cell b t => do loadVar t (← asAddr (tmps.getD b undef))
theorem results_eq (fn : Func) (tmps : Array Value) : results fn tmps = (do
    let vs ← fn.results.mapM (resG tmps)
    pure (if h : vs.size = 1 then vs[0] else .tuple vs)) := by
  unfold results
  congr 1
theorem results_ok {S : St} (ok : Ok S) {env : Env} {a : Act} {res : CV × List CV} {fn : Func} (hE : EnvR S env a) {K : List PV → Res} (h : resVals P fn.results.toList env S.H K = some res) :
    ∃ ps v, (results fn a.tmps).run P S.w = .ok v S.w ∧ Vr S (match ps with | [p] => p | ps => .tup ps) v ∧ K ps = some res := by
  obtain ⟨ps, vs, h1, h2, h3⟩ := resVals_ok ok hE (g := resG a.tmps) (fun _ => rfl) (fun _ _ => rfl) h
  refine ⟨ps, if h : vs.toArray.size = 1 then vs.toArray[0] else .tuple vs.toArray, ?_, ?_, h3⟩
  · rw [results_eq, Sem.run_bind, Array.mapM_eq_mapM_toList, Sem.run_map, h1]
    rfl
  · cases h2 with
    | nil => exact .tup _ _ .nil
    | cons q1 q2 =>
      cases q2 with
      | nil => exact q1
      | cons q2 q3 => exact .tup _ _ (.cons q1 (.cons q2 q3))

/-! ### The lent variables -/
theorem own_of_closeCells : ∀ {S : St} (ok : Ok S) {used : List Nat} {Hd Hd' : Hp} {ps : List PV} {vs : List Value} {xs : List CV} (k : Killed S.H used Hd) (hv : All2 (Vr S) ps vs) (h : closeCells ps Hd = some (xs, Hd')),
    ∃ S', Own S S' used Hd' [] ∧ All2 (Vc S') xs vs
  | S, ok, used, Hd, Hd', [], vs, xs, k, hv, h => by
    cases hv; cases h
    exact ⟨S, ⟨.refl ok, by simpa using k, fun _ _ => rfl, by simp, by simp, rfl⟩, .nil⟩
  | S, ok, used, Hd, Hd', p :: ps, vs, xs, k, hv, h => by
    cases hv with
    | cons h1 h2 =>
      simp only [closeCells] at h
      split at h <;> first | (cases h; done) | skip
      rename_i x H1 hx
      split at h <;> first | (cases h; done) | skip
      rename_i xs' H2 hxs
      cases h
      obtain ⟨S1, o1, c1⟩ := own_of_close ok k h1 hx
      obtain ⟨S2, o2, c2⟩ := own_of_closeCells o1.m.good.ok o1.k (h2.imp fun _ _ _ h => h.mono o1.m.good.ext) hxs
      exact ⟨S2, by simpa using o1.trans o2, .cons (c1.mono o2.m.good.ext) c2⟩
theorem own_of_closeVal {S : St} (ok : Ok S) {used : List Nat} {Hd Hd' : Hp} {p : PV} {v : Value} {x : CV} (k : Killed S.H used Hd) (hv : Vr S p v) (h : closeVal p Hd = some (x, Hd')) :
    ∃ S', Own S S' used Hd' [] ∧ Vc S' x v := by
  unfold closeVal at h
  split at h <;> first | (cases h; done) | skip
  · cases h
    exact ⟨S, ⟨.refl ok, by simpa using k, fun _ _ => rfl, by simp, by simp, rfl⟩, c_of hv⟩
  · split at h <;> first | (cases h; done) | skip
    rename_i vs' H1 hc
    cases h
    cases hv with
    | agg ps vs h1 h2 =>
      obtain ⟨S', o, c⟩ := own_of_closeCells ok k h1 hc
      exact ⟨S', o, .agg _ _ c h2⟩
  · exact own_of_close ok k hv h

theorem lentBack_ok : ∀ {ks : List Nat} {r : Nat} {S : St} (ok : Ok S) {used : List Nat} {Hd Hd' : Hp} {outs : List CV} (k : Killed S.H used Hd) (hu : ∀ i, i ∈ used → i < r) (h : lentBack r ks Hd = some (outs, Hd')),
    ∃ S', Own S S' used Hd' (List.range' r ks.length) ∧ outs.length = ks.length ∧ ∀ (i n : Nat) (x : CV), ks[i]? = some n → outs[i]? = some x →
      (∃ e, S'.H[r + i]? = some (.box e n)) ∧ ∃ ve b T fr, S'.ι (r + i) = some b ∧ Vc S' x ve ∧ S'.w.heap[b]? = some (.cells ve.cells T fr) ∧ bOk T fr ve.cells.size n ∧ (∀ v ∈ ve.cells.toList, v.oneCell' = true) ∧ ve.cells.size = ksz n
  | [], r, S, ok, used, Hd, Hd', outs, k, hu, h => by
    cases h
    exact ⟨S, ⟨.refl ok, by simpa using k, fun _ _ => rfl, by simp, by simp, rfl⟩, rfl, by simp⟩
  | n :: ks, r, S, ok, used, Hd, Hd', outs, k, hu, h => by
    simp only [lentBack] at h
    split at h <;> first | (cases h; done) | skip
    rename_i e n' hr
    split at h <;> first | (cases h; done) | skip
    rename_i hn
    subst hn
    split at h <;> first | (cases h; done) | skip
    rename_i x H1 hx
    split at h <;> first | (cases h; done) | skip
    rename_i xs H2 hxs
    cases h
    obtain ⟨hr1, hr2⟩ := k.live hr (by simp)
    obtain ⟨b, cs, T, fr, ve, q1, q2, q3, q4, q5, q6, q7⟩ := ok.ob r _ hr1
    obtain ⟨S1, o1, c1⟩ := own_of_closeVal ok k q5 hx
    have k1 := o1.k
    rw [List.append_nil] at k1
    have hb1 : S1.H[r]? = some (.box e n') := (k1.live (closeVal_box hx hr) (by simp)).1
    have ob1 : Own S S1 used (H1.set r .dead) [r] := ⟨o1.m, k1.kill (List.getElem?_eq_some_iff.1 hb1).1, o1.keep, by simpa using hr2, by simp, o1.len⟩
    obtain ⟨S2, o2, l2, g2⟩ := lentBack_ok (r := r + 1) ob1.m.good.ok ob1.k (fun i hi => by
      rcases List.mem_append.1 hi with hi | hi
      · have := hu i hi; omega
      · simp at hi; omega) hxs
    refine ⟨S2, ?_, by simp [l2], fun i m y hi hy => ?_⟩
    · have := ob1.trans o2
      rw [List.length_cons, List.range'_succ]
      exact this
    · cases i with
      | zero =>
        simp at hi hy
        subst hi; subst hy
        refine ⟨⟨e, by rw [Nat.add_zero, o2.keep r (by simp)]; exact hb1⟩, ve, b, T, fr, ?_, c1.mono o2.m.good.ext, ?_, ?_, ?_, ?_⟩
        · rw [Nat.add_zero, o2.m.ι, o1.m.ι]; exact q1
        · rw [o2.m.w, o1.m.w, q6]; exact q2
        · rw [q6]; exact q3
        · rw [q6]; exact q7
        · exact q5.size q4
      | succ i =>
        have := g2 i m y (by simpa using hi) (by simpa using hy)
        rw [show r + 1 + i = r + (i + 1) by omega] at this
        exact this

theorem lentOf_get : ∀ {H : Hp} {i : Nat} {e : PV} {k : Nat}, H[i]? = some (.box e k) → (lentOf H)[i]? = some k
  | [], i, e, k, h => by simp at h
  | o :: H, 0, e, k, h => by simp at h; subst h; simp [lentOf]
  | o :: H, i + 1, e, k, h => by
    have := lentOf_get (H := H) (i := i) (by simpa using h)
    cases o <;> simpa [lentOf] using this
theorem lentOf_len : ∀ {H : Hp}, (lentOf H).length = H.length
  | [] => rfl
  | o :: H => by cases o <;> simp [lentOf, lentOf_len (H := H)]

/-- What the function has come to, at its end. -/
theorem finish_ok {S0 S : St} (ok : Ok S) (go : Goes S0.H.length S0 S) {env : Env} {a : Act} {fn : Func} {e : Ex} {rv : CV} {outs : List CV} (hE : EnvR S env a)
    (h : finish P fn (lentOf S0.H) e env S.H = some (rv, outs)) :
    ∃ v S' u, (results fn a.tmps).run P S.w = .ok v S.w ∧ S'.w = S.w ∧ Ok S' ∧ Keeps S0 S' ∧ AllR S' rv v u ∧ u.Nodup ∧ LentR S0 S' outs u := by
  unfold finish at h
  split at h <;> first | (cases h; done) | skip
  obtain ⟨ps, v, h1, h2, h3⟩ := results_ok ok hE h
  clear h
  split at h3 <;> first | (cases h3; done) | skip
  rename_i outs' H1 hl
  split at h3 <;> first | (cases h3; done) | skip
  rename_i rv' H2 ho
  cases h3
  obtain ⟨S1, o1, l1, g1⟩ := lentBack_ok ok (Killed.refl _) (by simp) hl
  obtain ⟨S2, u, o2, c2⟩ := ownAll_ok o1.m.good.ok o1.k (h2.mono o1.m.good.ext) ho
  refine ⟨v, S2, u, h1, by rw [o2.m.w, o1.m.w], o2.m.good.ok, (go.keeps.trans o1.m.good.keeps).trans o2.m.good.keeps, c2, o2.nodup, by rw [l1, lentOf_len], fun i e0 k x hi hx => ?_⟩
  have hk := lentOf_get hi
  have hil : i < S0.H.length := (List.getElem?_eq_some_iff.1 hi).1
  obtain ⟨⟨e1, b1⟩, ve, b, T, fr, r1, r2, r3, r4, r5, r6⟩ := g1 i k x hk hx
  rw [Nat.zero_add] at b1 r1
  have him : i ∈ [] ++ List.range' 0 (lentOf S0.H).length := by simp [List.mem_range'_1, lentOf_len, hil]
  obtain ⟨e', k', hSb, _⟩ := o1.m.good.ext.box i e1 k (by rw [← o1.len]; exact (List.getElem?_eq_some_iff.1 b1).1) b1
  obtain ⟨_, hι⟩ := go.box i e' k' hil hSb
  refine ⟨fun hm => o2.fresh i hm him, ⟨e1, by rw [o2.keep i him]; exact b1⟩, by rw [o2.m.ι, o1.m.ι, hι], ve, b, T, fr, ?_, r2.mono o2.m.good.ext, by rw [o2.m.w]; exact r3, r4, r5, r6⟩
  rw [← hι, ← o1.m.ι]; exact r1

end Go.Pv
