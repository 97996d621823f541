/- Operators and conversions. -/
import Derived.Test.YtpclikkakhcomaaGreatDoorPv8
import Derived.Laws.StructEq
set_option linter.unusedVariables false
namespace Go.Pv
open Go

section
variable {P : Program} {t : TypeId} {S : St} {res : CV × List CV}

theorem intOp_ok {op : BinOp} {k : IntKind} {a b : Int} {K : CV → Res} {w : World} (h : intOp op k a b K = some res) (hop : op ≠ .shl ∧ op ≠ .shr) :
    ∃ c v, (binOp op t (.int k a) (.int k b)).run P w = .ok v w ∧ (∀ S, Vc S c v) ∧ K c = some res := by
  have quo : ∀ (r : Int) (op : BinOp), b ≠ 0 → (binOp op t (.int k a) (.int k b)).run P w = .ok (.int k r) w → K (.int k r) = some res →
      ∃ c v, (binOp op t (.int k a) (.int k b)).run P w = .ok v w ∧ (∀ S, Vc S c v) ∧ K c = some res :=
    fun r op _ h1 h2 => ⟨_, _, h1, fun S => .int _ _, h2⟩
  have bl : ∀ (r : Bool) (op : BinOp), (binOp op t (.int k a) (.int k b)).run P w = .ok (.bool r) w → K (.bool r) = some res →
      ∃ c v, (binOp op t (.int k a) (.int k b)).run P w = .ok v w ∧ (∀ S, Vc S c v) ∧ K c = some res :=
    fun r op h1 h2 => ⟨_, _, h1, fun S => .bool _, h2⟩
  have it : ∀ (r : Int) (op : BinOp), (binOp op t (.int k a) (.int k b)).run P w = .ok (.int k r) w → K (.int k r) = some res →
      ∃ c v, (binOp op t (.int k a) (.int k b)).run P w = .ok v w ∧ (∀ S, Vc S c v) ∧ K c = some res :=
    fun r op h1 h2 => ⟨_, _, h1, fun S => .int _ _, h2⟩
  unfold intOp at h
  cases op <;> simp only at h
  case add => exact it _ _ (by simp [binOp, Op.intArith]) h
  case sub => exact it _ _ (by simp [binOp, Op.intArith]) h
  case mul => exact it _ _ (by simp [binOp, Op.intArith]) h
  case quo =>
    obtain ⟨hb, h⟩ := bif_false h
    have hb : ¬ b = 0 := by simpa using hb
    exact it _ _ (by simp [binOp, Op.intDiv, hb]) h
  case rem =>
    obtain ⟨hb, h⟩ := bif_false h
    have hb : ¬ b = 0 := by simpa using hb
    exact it _ _ (by simp [binOp, Op.intDiv, hb]) h
  case and => exact it _ _ (by simp [binOp, Op.intBits]) h
  case or => exact it _ _ (by simp [binOp, Op.intBits]) h
  case xor => exact it _ _ (by simp [binOp, Op.intBits]) h
  case andNot => exact it _ _ (by simp [binOp, Op.intBits]) h
  case eql => exact bl _ _ (by simp [binOp, Op.intCmp]) h
  case neq => exact bl _ _ (by simp [binOp, Op.intCmp]) h
  case lss => exact bl _ _ (by simp [binOp, Op.intCmp]) h
  case leq => exact bl _ _ (by simp [binOp, Op.intCmp]) h
  case gtr => exact bl _ _ (by simp [binOp, Op.intCmp]) h
  case geq => exact bl _ _ (by simp [binOp, Op.intCmp]) h
  all_goals cases h
theorem shiftOp_ok {op : BinOp} {k k' : IntKind} {a b : Int} {K : CV → Res} {w : World} (h : shiftOp op k a b K = some res) :
    ∃ c v, (binOp op t (.int k a) (.int k' b)).run P w = .ok v w ∧ (∀ S, Vc S c v) ∧ K c = some res := by
  unfold shiftOp at h
  split at h
  · obtain ⟨hb, h⟩ := bif_false h
    have hb : ¬ b < 0 := by simpa using hb
    exact ⟨_, _, by simp only [binOp, Op.shift, if_neg hb]; rfl, fun S => .int _ _, h⟩
  · obtain ⟨hb, h⟩ := bif_false h
    have hb : ¬ b < 0 := by simpa using hb
    exact ⟨_, _, by simp only [binOp, Op.shift, if_neg hb]; rfl, fun S => .int _ _, h⟩
  · cases h
theorem strOp_ok {op : BinOp} {x y : ByteArray} {K : CV → Res} {w : World} (h : strOp op x y K = some res) :
    ∃ c v, (binOp op t (.string x) (.string y)).run P w = .ok v w ∧ (∀ S, Vc S c v) ∧ K c = some res := by
  unfold strOp at h
  split at h
  · obtain ⟨hb, h⟩ := bif_true h
    have hb : ((x.size + y.size : Nat) : Int) ≤ 9223372036854775807 := by have := Nat.le_of_ble_eq_true hb; omega
    refine ⟨_, .string (x ++ y), ?_, fun S => .str _, h⟩
    have e : IntKind.i64.max = 9223372036854775807 := by decide
    simp only [binOp, Op.stringOp, e]
    rw [if_neg (by omega)]; rfl
  · exact ⟨_, _, rfl, fun S => .bool _, h⟩
  · exact ⟨_, _, rfl, fun S => .bool _, h⟩
  · exact ⟨_, _, rfl, fun S => .bool _, h⟩
  · exact ⟨_, _, rfl, fun S => .bool _, h⟩
  · exact ⟨_, _, rfl, fun S => .bool _, h⟩
  · exact ⟨_, _, rfl, fun S => .bool _, h⟩
  · cases h

/-! ### '==' -/
theorem run_elems_eq {P : Program} {w : World} {e : TypeId} {k : IntKind} {d : Nat} (hu : P.underlying e = some (.int k)) (hs : tySize P e = some 1) (ha : tyAgg P e = some false) :
    ∀ (xs ys : List Int) (A B : Array Value) (i : Nat), xs.length = ys.length → (∀ j x, xs[j]? = some x → A[i + j]? = some (Value.int k x)) → (∀ j y, ys[j]? = some y → B[i + j]? = some (Value.int k y)) →
      (forIn (List.range' i xs.length) ((none, ()) : Option Bool × Unit) (fun (i : Nat) (_ : Option Bool × Unit) => (do
        let a ← part e A (i * 1)
        let b ← part e B (i * 1)
        let q ← Op.equalIn (d + 1) e a b
        if (!q) = true then pure (ForInStep.done (some false, ())) else pure (ForInStep.yield (none, ())) : Sem (ForInStep (Option Bool × Unit))))).run P w = .ok (if xs == ys then (none, ()) else (some false, ())) w
  | [], [], A, B, i, _, _, _ => by simp
  | x :: xs, y :: ys, A, B, i, h2, h3, h4 => by
    have hx := h3 0 x (by simp)
    have hy := h4 0 y (by simp)
    simp at hx hy
    have ih := run_elems_eq (w := w) (d := d) hu hs ha xs ys A B (i + 1) (by simpa using h2) (fun j z hj => by have := h3 (j + 1) z (by simpa using hj); rw [← this]; congr 1; omega) (fun j z hj => by have := h4 (j + 1) z (by simpa using hj); rw [← this]; congr 1; omega)
    have px : (part e A (i * 1)).run P w = .ok (.int k x) w := run_part (.inr ⟨ha, hs, by simpa using hx⟩)
    have py : (part e B (i * 1)).run P w = .ok (.int k y) w := run_part (.inr ⟨ha, hs, by simpa using hy⟩)
    have pq : (Op.equalIn (d + 1) e (.int k x) (.int k y)).run P w = .ok (x == y) w := by
      simp only [Op.equalIn, Sem.run_bind, run_underlying hu, Result.andThen_ok, if_true, Sem.run_pure]
    simp only [List.length_cons, List.range'_succ, List.forIn_cons, Sem.run_bind, px, py, Result.andThen_ok, pq]
    by_cases e : x = y
    · subst e
      simp only [beq_self_eq_true, Bool.not_true, Bool.false_eq_true, if_false, Sem.run_pure, Result.andThen_ok, ih]
      simp
    · have e' : (x == y) = false := by simpa using e
      simp [e']

/-- A value of type t, out of its cells. -/
def VT (P : Program) (t : TypeId) (vs : List Value) (v : Value) : Prop :=
  (tyAgg P t = some true ∧ v = .agg vs.toArray) ∨ (tyAgg P t = some false ∧ vs = [v])
theorem VT.agg {P : Program} {t : TypeId} {vs : List Value} {v : Value} (h : VT P t vs v) (ha : tyAgg P t = some true) : v = .agg vs.toArray := by
  rcases h with ⟨_, h⟩ | ⟨h, _⟩
  · exact h
  · rw [ha] at h; cases h
theorem run_part2 {P : Program} {t : TypeId} {cs : List Value} {off n : Nat} {v : Value} {w : World} (hn : tySize P t = some n) (h : VT P t ((cs.drop off).take n) v) : (part t cs.toArray off).run P w = .ok v w := by
  rcases h with ⟨h1, rfl⟩ | ⟨h1, h2⟩
  · simp only [part, Sem.run_bind, run_agg h1, Result.andThen_ok, if_true, run_size hn, Sem.run_pure]
    congr 2
    apply Array.ext'
    simp
  · have h4 : cs[off]? = some v := by
      have : ((cs.drop off).take n)[0]? = some v := by rw [h2]; rfl
      rw [List.getElem?_take] at this
      split at this
      · simpa using this
      · cases this
    simp only [part, Sem.run_bind, run_agg h1, Result.andThen_ok]
    simp [h4]

theorem fieldsOf_eq {P : Program} {t : TypeId} {fs : Array Field} (h : P.underlying t = some (.struct fs)) : P.underlying t = some (.struct (P.fieldsOf t)) ∧ P.fieldsOf t = fs := by
  have : P.fieldsOf t = fs := by simp [Program.fieldsOf, h]
  exact ⟨by rw [this]; exact h, this⟩

theorem all_ints {S : St} {k : IntKind} {xs : List CV} {vs : List Value} (h : All2 (Vc S) xs vs) (hk : xs.all (isInt k) = true) : ∀ (j : Nat) (x : Int), (xs.map CV.toInt)[j]? = some x → vs[j]? = some (Value.int k x) := by
  induction h with
  | nil => intro j x h; simp at h
  | cons h1 h2 ih =>
    rename_i a b as bs
    simp only [List.all_cons, Bool.and_eq_true] at hk
    intro j x hj
    cases j with
    | zero =>
      simp at hj ⊢
      cases a <;> simp [isInt] at hk
      rename_i k' n
      obtain ⟨rfl, _⟩ := hk
      cases h1
      simp [CV.toInt] at hj; rw [hj]
    | succ j => simpa using ih hk.2 j x (by simpa using hj)

theorem cveq_ok {P : Program} {S : St} {w : World} : ∀ (d : Nat) (t : TypeId) (x y : List CV) (b : Bool) (lx ly : List Value) (vx vy : Value) (D : Nat), cveq P d t x y = some (true, b) → All2 (Vc S) x lx → All2 (Vc S) y ly → VT P t lx vx → VT P t ly vy → d ≤ D →
    (Op.equalIn D t vx vy).run P w = .ok b w := by
  intro d
  induction d with
  | zero => intro t x y b lx ly vx vy D h; simp [cveq] at h
  | succ d ih =>
    intro t x y b lx ly vx vy D h hx hy tx ty hD
    obtain ⟨D, rfl⟩ : ∃ m, D = m + 1 := ⟨D - 1, by omega⟩
    have one : ∀ {c : CV} {l : List Value} {v : Value}, tyAgg P t = some false → All2 (Vc S) [c] l → VT P t l v → Vc S c v := by
      intro c l v ha hl ht
      rcases ht with ⟨h1, _⟩ | ⟨_, rfl⟩
      · rw [ha] at h1; cases h1
      · cases hl with | cons h _ => exact h
    unfold cveq at h
    split at h
    · rename_i hu
      have ha : tyAgg P t = some false := by simp [tyAgg, hu]
      split at h <;> first | (cases h; done) | skip
      cases h
      have := one ha hx tx; cases this
      have := one ha hy ty; cases this
      simp [Op.equalIn, run_underlying hu]
    · rename_i hu
      have ha : tyAgg P t = some false := by simp [tyAgg, hu]
      split at h <;> first | (cases h; done) | skip
      split at h <;> first | (cases h; done) | skip
      rename_i hk
      cases h
      have := one ha hx tx; cases this
      have := one ha hy ty; cases this
      simp [Op.equalIn, run_underlying hu, hk]
    · rename_i hu
      have ha : tyAgg P t = some false := by simp [tyAgg, hu]
      split at h <;> first | (cases h; done) | skip
      cases h
      have := one ha hx tx; cases this
      have := one ha hy ty; cases this
      simp [Op.equalIn, run_underlying hu]
    · rename_i fs hu
      have ha : tyAgg P t = some true := by simp [tyAgg, hu]
      split at h <;> first | (cases h; done) | skip
      rename_i hst
      obtain rfl := tx.agg ha
      obtain rfl := ty.agg ha
      obtain ⟨hf1, hf2⟩ := fieldsOf_eq hu
      rw [run_equalIn_struct w D t _ _ hf1 (by simpa using hst), hf2]
      generalize fs.toList = l at h
      clear hf1 hf2 hu
      induction l generalizing b with
      | nil => simp [eqFields] at h; subst h; simp [Op.eqFields]
      | cons f l ihl =>
        simp only [eqFields] at h
        split at h <;> first | (cases h; done) | skip
        rename_i n hn
        split at h <;> first | (cases h; done) | skip
        rename_i hname
        split at h <;> first | (cases h; done) | skip
        rename_i a1 b1 a2 b2 e1 e2
        simp only [Option.some.injEq, Prod.mk.injEq, Bool.and_eq_true] at h
        obtain ⟨⟨rfl, rfl⟩, rfl⟩ := h
        have hname' : f.name ≠ "_" := by simpa using hname
        have hx' := (hx.drop f.offset).take n
        have hy' := (hy.drop f.offset).take n
        -- the field's values
        have val : ∀ {z : List CV} {l : List Value}, All2 (Vc S) z l → (cveq P d f.type z ((y.drop f.offset).take n) = some (true, b1) ∨ cveq P d f.type ((x.drop f.offset).take n) z = some (true, b1)) → ∃ v, VT P f.type l v := by
          intro z l hz hc
          cases hag : tyAgg P f.type with
          | none =>
            cases d with
            | zero => simp [cveq] at hc
            | succ d =>
              have hun : P.underlying f.type = none := by
                unfold tyAgg at hag
                split at hag <;> first | (cases hag; done) | assumption
              simp [cveq, hun] at hc
          | some ag =>
            cases ag with
            | true => exact ⟨_, .inl ⟨hag, rfl⟩⟩
            | false =>
              have : z.length = 1 := by
                cases d with
                | zero => simp [cveq] at hc
                | succ d =>
                  unfold tyAgg at hag
                  rcases hc with hc | hc <;> unfold cveq at hc <;> (split at hc <;> first | (cases hc; done) | skip) <;> first
                    | (rename_i hu; rw [hu] at hag; simp at hag; done)
                    | (split at hc <;> first | (cases hc; done) | rfl)
              rw [hz.length] at this
              obtain ⟨v, rfl⟩ : ∃ v, l = [v] := by
                match l, this with
                | [v], _ => exact ⟨v, rfl⟩
              exact ⟨v, .inr ⟨hag, rfl⟩⟩
        obtain ⟨vx', hvx⟩ := val hx' (.inl e1)
        obtain ⟨vy', hvy⟩ := val hy' (.inr e1)
        have q := ih f.type _ _ b1 _ _ vx' vy' D e1 hx' hy' hvx hvy (by omega)
        simp only [Op.eqFields, hname', ne_eq, not_false_eq_true, if_true, Sem.run_bind, run_part2 hn hvx, run_part2 hn hvy, Result.andThen_ok, q]
        cases b1
        · simp
        · simp only [Bool.not_true, Bool.false_eq_true, if_false, Bool.true_and]
          exact ihl b2 e2
    · rename_i n e hu
      have ha : tyAgg P t = some true := by simp [tyAgg, hu]
      split at h <;> first | (cases h; done) | skip
      rename_i k hk
      split at h <;> first | (cases h; done) | skip
      rename_i hs1
      obtain ⟨hs1, hd0⟩ := hs1
      simp only [Option.some.injEq, Prod.mk.injEq, Bool.and_eq_true, beq_iff_eq] at h
      obtain ⟨⟨⟨⟨q1, q2⟩, q3⟩, q4⟩, rfl⟩ := h
      obtain rfl := tx.agg ha
      obtain rfl := ty.agg ha
      have hs : tySize P e = some 1 := hs1
      have hae : tyAgg P e = some false := by simp [tyAgg, hk]
      simp only [Op.equalIn, Sem.run_bind, run_underlying hu, Result.andThen_ok, run_size hs, Std.Legacy.Range.forIn_eq_forIn_range']
      have hsz : [:n].size = (x.map CV.toInt).length := by simp [Std.Legacy.Range.size, q1]
      rw [hsz]
      cases D with
      | zero => omega
      | succ D =>
        rw [run_elems_eq (w := w) (d := D) hk hs hae (x.map CV.toInt) (y.map CV.toInt) lx.toArray ly.toArray 0 (by simp [q1, q2]) (fun j z hj => by simpa using all_ints hx q3 j z hj) (fun j z hj => by simpa using all_ints hy q4 j z hj)]
        cases hxy : (x.map CV.toInt == y.map CV.toInt) <;> simp
    · cases h

theorem run_equal {P : Program} {S : St} {w : World} {t : TypeId} {x y : List CV} {vx vy : Array Value} {b : Bool} (ha : tyAgg P t = some true) (h : cveq P 100 t x y = some (true, b)) (hx : All2 (Vc S) x vx.toList) (hy : All2 (Vc S) y vy.toList) :
    (Op.equal t (.agg vx) (.agg vy)).run P w = .ok b w :=
  cveq_ok 100 t x y b _ _ _ _ Op.maxDepth h hx hy (.inl ⟨ha, by simp⟩) (.inl ⟨ha, by simp⟩) (by decide)

theorem c_of {S : St} {x : CV} {v : Value} (h : Vr S (.c x) v) : Vc S x v := by
  cases h with | c h => exact h

def both : Value → Value → Bool
  | .nilIface, .nilIface => true
  | .agg _, .agg _ => true
  | _, _ => false
theorem run_guard {P : Program} {w : World} {op : BinOp} {t : TypeId} {x y : Operand} {v u : Value} (h : both v u = false) : (eqGuard op t x y v u).run P w = .ok () w := by
  unfold eqGuard
  cases op <;> cases v <;> cases u <;> first | rfl | (simp [both] at h; done)

theorem guard_not_eq {P : Program} {w : World} {op : BinOp} {t : TypeId} {x y : Operand} {v u : Value} (h1 : op ≠ .eql) (h2 : op ≠ .neq) : (eqGuard op t x y v u).run P w = .ok () w := by
  unfold eqGuard
  cases op <;> first | (exact absurd rfl h1) | (exact absurd rfl h2) | rfl
theorem guard_nil {P : Program} {w : World} {op : BinOp} {t : TypeId} {x y : Operand} (h : (Region.isConst x || Region.isConst y) = true) : (eqGuard op t x y .nilIface .nilIface).run P w = .ok () w := by
  unfold eqGuard
  cases op <;> simp <;> cases x <;> cases y <;> simp [Region.isConst] at h ⊢
theorem guard_agg {P : Program} {w : World} {op : BinOp} {t : TypeId} {x y : Operand} {v u : Array Value} (h : P.eqGuardType P.depth t = false) : (eqGuard op t x y (.agg v) (.agg u)).run P w = .ok () w := by
  unfold eqGuard
  cases op <;> simp [h]

theorem equal_of {P : Program} {w : World} {t : TypeId} {v u : Value} {b : Bool} (h : ∀ D, (Op.equalIn (D + 1) t v u).run P w = .ok b w) : (Op.equal t v u).run P w = .ok b w := h 9999

theorem nilEq_ok {P : Program} {S : St} {t : TypeId} {x y : Operand} {p q : PV} {v u : Value} {op : BinOp} {a b : Bool} {w : World} (ok : Ok S) (hv : Vr S p v) (hu : Vr S q u) (h : nilEq P t (Region.isConst x || Region.isConst y) p q S.H = some (a, b)) (ha : a = true) :
    (eqGuard op t x y v u).run P w = .ok () w ∧ (Op.equal t v u).run P w = .ok b w ∧ (∀ w, (binOp .eql t v u).run P w = ((Op.equal t v u).run P w).andThen fun b w => .ok (.bool b) w) ∧ (∀ w, (binOp .neq t v u).run P w = ((Op.equal t v u).run P w).andThen fun b w => .ok (.bool (!b)) w) := by
  have fin : ∀ {v u : Value} {b : Bool}, (eqGuard op t x y v u).run P w = .ok () w → (Op.equal t v u).run P w = .ok b w → (∀ w, (binOp .eql t v u).run P w = ((Op.equal t v u).run P w).andThen fun b w => .ok (.bool b) w) → (∀ w, (binOp .neq t v u).run P w = ((Op.equal t v u).run P w).andThen fun b w => .ok (.bool (!b)) w) →
      (eqGuard op t x y v u).run P w = .ok () w ∧ (Op.equal t v u).run P w = .ok b w ∧ (∀ w, (binOp .eql t v u).run P w = ((Op.equal t v u).run P w).andThen fun b w => .ok (.bool b) w) ∧ (∀ w, (binOp .neq t v u).run P w = ((Op.equal t v u).run P w).andThen fun b w => .ok (.bool (!b)) w) := fun h1 h2 h3 h4 => ⟨h1, h2, h3, h4⟩
  unfold nilEq at h
  split at h <;> first | (cases h; done) | skip
  · rename_i e hun
    cases c_of hu
    split at h <;> first | (cases h; done) | skip
    · cases h
      cases c_of hv
      exact fin (run_guard rfl) (equal_of fun D => by simp only [Op.equalIn, Sem.run_bind, run_underlying hun, Result.andThen_ok]; rfl) (fun w => by simp [binOp]) (fun w => by simp [binOp])
    · cases h
      cases c_of hv with
      | sl => exact fin (run_guard rfl) (equal_of fun D => by simp only [Op.equalIn, Sem.run_bind, run_underlying hun, Result.andThen_ok]; rfl) (fun w => by simp [binOp]) (fun w => by simp [binOp])
      | slnil => simp at ha
    · rename_i r g
      split at h <;> first | (cases h; done) | skip
      rename_i xs k s hr0
      have hr := getRow_some hr0
      cases h
      cases hv with
      | rw r g v h1 hg hv =>
        rcases hv _ _ _ hr with ⟨b, a, _, rfl, _⟩ | ⟨_, _, h3, rfl⟩
        · exact fin (run_guard rfl) (equal_of fun D => by simp only [Op.equalIn, Sem.run_bind, run_underlying hun, Result.andThen_ok]; rfl) (fun w => by simp [binOp]) (fun w => by simp [binOp])
        · have : xs = [] := by simpa using h3
          subst this; simp at ha
  · rename_i e hun
    cases c_of hu
    split at h <;> first | (cases h; done) | skip
    · cases h
      cases c_of hv
      exact fin (run_guard rfl) (equal_of fun D => by simp only [Op.equalIn, Sem.run_bind, run_underlying hun, Result.andThen_ok]; rfl) (fun w => by simp [binOp]) (fun w => by simp [binOp])
    · split at h <;> first | (cases h; done) | skip
      rename_i r t' _ e' k' hr
      cases h
      cases hv with
      | bptr r t v h1 hlt hb =>
        obtain ⟨b, _, rfl⟩ := hb _ _ hr
        exact fin (run_guard rfl) (equal_of fun D => by simp only [Op.equalIn, Sem.run_bind, run_underlying hun, Result.andThen_ok]; rfl) (fun w => by simp [binOp]) (fun w => by simp [binOp])
    · cases h
      cases hv with
      | ro cs a vs _ _ => exact fin (run_guard rfl) (equal_of fun D => by simp only [Op.equalIn, Sem.run_bind, run_underlying hun, Result.andThen_ok]; rfl) (fun w => by simp [binOp]) (fun w => by simp [binOp])
  · rename_i e r' o' hun
    split at h <;> first | (cases h; done) | skip
    rename_i r o
    split at h <;> first | (cases h; done) | skip
    rename_i e1 k1 e2 k2 sz h1 h2 hsz
    split at h <;> first | (cases h; done) | skip
    rename_i hrr
    obtain rfl := Nat.eq_of_beq_eq_true hrr
    cases h
    cases hv with
    | bptr _ _ _ _ _ hb =>
      cases hu with
      | bptr _ _ _ _ _ hb' =>
        obtain ⟨B, hB, rfl⟩ := hb _ _ h1
        obtain ⟨B', hB', rfl⟩ := hb' _ _ h2
        rw [hB] at hB'; cases hB'
        refine fin (run_guard rfl) (equal_of fun D => ?_) (fun w => by simp [binOp]) (fun w => by simp [binOp])
        simp only [Op.equalIn, Sem.run_bind, run_underlying hun, Result.andThen_ok, run_size hsz]
        have he : ((⟨B, o, none⟩ : Addr) == ⟨B, o', none⟩) = Nat.beq o o' := by
          rw [Bool.eq_iff_iff]
          simp [beq_iff_eq, Nat.beq_eq]
        simp [sameAddr, he]
  · rename_i hun
    cases c_of hu
    split at h <;> first | (cases h; done) | skip
    · cases h
      cases c_of hv
      exact fin (run_guard rfl) (equal_of fun D => by simp only [Op.equalIn, Sem.run_bind, run_underlying hun, Result.andThen_ok]; rfl) (fun w => by simp [binOp]) (fun w => by simp [binOp])
    · cases h
      cases c_of hv
      exact fin (run_guard rfl) (equal_of fun D => by simp only [Op.equalIn, Sem.run_bind, run_underlying hun, Result.andThen_ok]; rfl) (fun w => by simp [binOp]) (fun w => by simp [binOp])
    · cases h
      cases hv with
      | fn => exact fin (run_guard rfl) (equal_of fun D => by simp only [Op.equalIn, Sem.run_bind, run_underlying hun, Result.andThen_ok]; rfl) (fun w => by simp [binOp]) (fun w => by simp [binOp])
  · rename_i hun
    cases c_of hu
    split at h <;> first | (cases h; done) | skip
    · split at h <;> first | (cases h; done) | skip
      rename_i hc
      cases h
      cases c_of hv
      exact fin (guard_nil hc) (equal_of fun D => by simp only [Op.equalIn, Sem.run_bind, run_underlying hun, Result.andThen_ok]; rfl) (fun w => by simp [binOp]) (fun w => by simp [binOp])
    · cases h
      cases c_of hv
      exact fin (run_guard rfl) (equal_of fun D => by simp only [Op.equalIn, Sem.run_bind, run_underlying hun, Result.andThen_ok]; rfl) (fun w => by simp [binOp]) (fun w => by simp [binOp])

theorem binOp_ok {P : Program} {S : St} {op : BinOp} {t : TypeId} {x y : Operand} {p q : PV} {v u : Value} {K : KV} {res : CV × List CV} (ok : Ok S) (hv : Vr S p v) (hu : Vr S q u)
    (h : binOp' P op t (Region.isConst x || Region.isConst y) p q S.H K = some res) : Does P (do eqGuard op t x y v u; binOp op t v u) S K res := by
  have fin : ∀ {c : CV} {r : Value}, (eqGuard op t x y v u).run P S.w = .ok () S.w → (binOp op t v u).run P S.w = .ok r S.w → (∀ S, Vc S c r) → K (.c c) S.H = some res → Does P (do eqGuard op t x y v u; binOp op t v u) S K res := by
    intro c r h1 h2 h3 h4
    exact .same ok (by simp only [Sem.run_bind, h1, Result.andThen_ok, h2]) (.c (h3 S)) h4
  unfold binOp' at h
  split at h
  · obtain rfl := int_of hv; obtain rfl := int_of hu
    obtain ⟨c, r, h1, h2, h3⟩ := shiftOp_ok (P := P) (t := t) (w := S.w) h
    exact fin (run_guard rfl) h1 h2 h3
  · obtain rfl := int_of hv; obtain rfl := int_of hu
    obtain ⟨c, r, h1, h2, h3⟩ := shiftOp_ok (P := P) (t := t) (w := S.w) h
    exact fin (run_guard rfl) h1 h2 h3
  · rename_i n1 n2
    obtain rfl := int_of hv; obtain rfl := int_of hu
    split at h <;> first | (cases h; done) | skip
    rename_i hk; subst hk
    obtain ⟨c, r, h1, h2, h3⟩ := intOp_ok (P := P) (t := t) (w := S.w) h ⟨n1, n2⟩
    exact fin (run_guard rfl) h1 h2 h3
  · obtain rfl := str_of hv; obtain rfl := str_of hu
    obtain ⟨c, r, h1, h2, h3⟩ := strOp_ok (P := P) (t := t) (w := S.w) h
    exact fin (run_guard rfl) h1 h2 h3
  · obtain rfl := bool_of hv; obtain rfl := bool_of hu
    split at h <;> first | (cases h; done) | skip
    rename_i hun
    exact fin (run_guard rfl) (by have := @equal_of P S.w; simp only [binOp, Sem.run_bind]; rw [equal_of fun D => by simp only [Op.equalIn, Sem.run_bind, run_underlying hun, Result.andThen_ok]; rfl]; rfl) (fun S => .bool _) h
  · obtain rfl := bool_of hv; obtain rfl := bool_of hu
    split at h <;> first | (cases h; done) | skip
    rename_i hun
    exact fin (run_guard rfl) (by have := @equal_of P S.w; simp only [binOp, Sem.run_bind]; rw [equal_of fun D => by simp only [Op.equalIn, Sem.run_bind, run_underlying hun, Result.andThen_ok]; rfl]; rfl) (fun S => .bool _) h
  · split at h <;> first | (cases h; done) | skip
    rename_i hg
    simp only [Bool.or_eq_true, not_or, bne_iff_ne, ne_eq, Bool.not_eq_true, Decidable.not_not] at hg
    split at h <;> first | (cases h; done) | skip
    rename_i a b hq
    obtain ⟨rfl, h⟩ := bif_true h
    cases hv with | c hv => cases hv with | agg xs vs hx1 hx2 =>
      cases hu with | c hu => cases hu with | agg ys us hy1 hy2 =>
        have := run_equal (w := S.w) hg.2 hq hx1 hy1
        exact fin (guard_agg hg.1) (r := .bool b) (by simp [binOp, this]) (fun S => .bool _) h
  · split at h <;> first | (cases h; done) | skip
    rename_i hg
    simp only [Bool.or_eq_true, not_or, bne_iff_ne, ne_eq, Bool.not_eq_true, Decidable.not_not] at hg
    split at h <;> first | (cases h; done) | skip
    rename_i a b hq
    obtain ⟨rfl, h⟩ := bif_true h
    cases hv with | c hv => cases hv with | agg xs vs hx1 hx2 =>
      cases hu with | c hu => cases hu with | agg ys us hy1 hy2 =>
        have := run_equal (w := S.w) hg.2 hq hx1 hy1
        exact fin (guard_agg hg.1) (r := .bool (!b)) (by simp [binOp, this]) (fun S => .bool _) h
  · split at h <;> first | (cases h; done) | skip
    rename_i a b hq
    obtain ⟨ha, h⟩ := bif_true h
    obtain ⟨g1, g2, g3, g4⟩ := nilEq_ok (op := .eql) (w := S.w) ok hv hu hq ha
    exact fin g1 (by rw [g3, g2]; rfl) (fun S => .bool _) h
  · split at h <;> first | (cases h; done) | skip
    rename_i a b hq
    obtain ⟨ha, h⟩ := bif_true h
    obtain ⟨g1, g2, g3, g4⟩ := nilEq_ok (op := .neq) (w := S.w) ok hv hu hq ha
    exact fin g1 (by rw [g4, g2]; rfl) (fun S => .bool _) h
  · cases h

theorem unOp_ok {P : Program} {S : St} {op : UnOp} {p : PV} {v : Value} {K : KV} {res : CV × List CV} (ok : Ok S) (hv : Vr S p v) (h : unOp' op p S.H K = some res) : Does P (Op.unary op v) S K res := by
  unfold unOp' at h
  split at h <;> first | (cases h; done) | skip
  · obtain rfl := int_of hv
    exact .same ok rfl (Vi ..) h
  · obtain rfl := int_of hv
    exact .same ok rfl (Vi ..) h
  · obtain rfl := bool_of hv
    exact .same ok rfl (Vb ..) h

end
end Go.Pv
