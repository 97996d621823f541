/- What reads: the interpreter's reading operations hold of the model's. -/
import Derived.Test.YtpclikkakhcomaaGreatDoorPv5
set_option linter.unusedVariables false
namespace Go.Pv
open Go

theorem bif_some {α : Type} {b : Bool} {x y : Option α} {r : α} (h : bif' b x y = some r) : (b = true ∧ x = some r) ∨ (b = false ∧ y = some r) := by
  cases b
  · exact .inr ⟨rfl, h⟩
  · exact .inl ⟨rfl, h⟩
theorem bif_true {α : Type} {b : Bool} {x : Option α} {r : α} (h : bif' b x none = some r) : b = true ∧ x = some r := by
  rcases bif_some h with h | ⟨_, h⟩
  · exact h
  · cases h
theorem bif_false {α : Type} {b : Bool} {x : Option α} {r : α} (h : bif' b none x = some r) : b = false ∧ x = some r := by
  rcases bif_some h with ⟨_, h⟩ | h
  · cases h
  · exact h

/-- An operation's run comes to a value that the abstract one stands for. -/
def Does (P : Program) (s : Sem Value) (S : St) (K : KV) (res : CV × List CV) : Prop :=
  ∃ v S' p, s.run P S.w = .ok v S'.w ∧ Good S S' ∧ Vr S' p v ∧ K p S'.H = some res
theorem Does.same {P : Program} {s : Sem Value} {S : St} {K : KV} {res : CV × List CV} (ok : Ok S) {v : Value} {p : PV} (h : s.run P S.w = .ok v S.w) (hv : Vr S p v) (hk : K p S.H = some res) : Does P s S K res :=
  ⟨v, S, p, h, .refl ok, hv, hk⟩

/-! ### Values of the text -/
theorem ofCell_Vc {S : St} {v : Value} {x : CV} (h : ofCell v = some x) : Vc S x v ∧ v.oneCell' = true := by
  unfold ofCell at h
  split at h <;> first | (cases h; done) | (obtain rfl := Option.some.inj h; exact ⟨by constructor, rfl⟩)
theorem ofCells_Vc {S : St} : ∀ {vs : List Value} {xs : List CV}, ofCells vs = some xs → All2 (Vc S) xs vs ∧ ∀ v ∈ vs, v.oneCell' = true
  | [], xs, h => by simp [ofCells] at h; subst h; exact ⟨.nil, by simp⟩
  | v :: vs, xs, h => by
    simp only [ofCells] at h
    split at h
    · rename_i x ys h1 h2
      obtain rfl := Option.some.inj h
      obtain ⟨a1, a2⟩ := ofCell_Vc (S := S) h1
      obtain ⟨b1, b2⟩ := ofCells_Vc (S := S) h2
      refine ⟨.cons a1 b1, ?_⟩
      intro u hu
      rcases List.mem_cons.1 hu with rfl | hu
      · exact a2
      · exact b2 u hu
    · cases h
theorem ofVal_Vc {S : St} {v : Value} {x : CV} (h : ofVal v = some x) : Vc S x v := by
  unfold ofVal at h
  split at h
  · split at h
    · rename_i cs xs hx
      obtain rfl := Option.some.inj h
      obtain ⟨a1, a2⟩ := ofCells_Vc (S := S) hx
      exact .agg _ _ a1 a2
    · cases h
  · exact (ofCell_Vc h).1

theorem Vc.cells {S : St} {x : CV} {v : Value} (h : Vc S x v) : All2 (Vc S) x.cl v.cells.toList ∧ ∀ u ∈ v.cells.toList, u.oneCell' = true := by
  have aux : ∀ {x : CV} {v : Value}, Vc S x v → x.cl = [x] → v.cells = #[v] → v.oneCell' = true → All2 (Vc S) x.cl v.cells.toList ∧ ∀ u ∈ v.cells.toList, u.oneCell' = true := by
    intro x v h h1 h2 h3
    rw [h1, h2]
    exact ⟨.cons h .nil, by simp; exact h3⟩
  cases h with
  | agg cs vs h1 h2 => exact ⟨h1, h2⟩
  | bool b => exact aux (.bool b) rfl rfl rfl
  | int k n => exact aux (.int k n) rfl rfl rfl
  | str s => exact aux (.str s) rfl rfl rfl
  | nilsl => exact aux .nilsl rfl rfl rfl
  | nilptr => exact aux .nilptr rfl rfl rfl
  | nilfn => exact aux .nilfn rfl rfl rfl
  | nilif => exact aux .nilif rfl rfl rfl
  | err t v => exact aux (.err t v) rfl rfl rfl
  | slnil k => exact aux (.slnil k) rfl rfl rfl
  | fn f caps vs h => exact aux (.fn f caps vs h) rfl rfl rfl
  | sl full k xs a c vs h1 h2 h3 h4 h5 => exact aux (.sl full k xs a c vs h1 h2 h3 h4 h5) rfl rfl rfl

theorem Vr.one {S : St} {p : PV} {v : Value} (h : Vr S p v) (hn : p.ncells = some 1) (ha : ∀ cs, p ≠ .agg cs) (hc : ∀ cs, p ≠ .c (.agg cs)) : v.cells = #[v] ∧ v.oneCell' = true := by
  cases h with
  | undef => simp [PV.ncells] at hn
  | agg cs => exact absurd rfl (ha cs)
  | tup => simp [PV.ncells] at hn
  | iter r v h1 => simp [PV.ncells] at hn
  | ro cs a vs h => exact ⟨rfl, rfl⟩
  | fn f caps vs h => exact ⟨rfl, rfl⟩
  | c h =>
    cases h with
    | agg cs => exact absurd rfl (hc cs)
    | _ => exact ⟨rfl, rfl⟩
  | rw r g v h1 => cases v <;> first | (simp [Value.oneCell'] at h1; done) | exact ⟨rfl, rfl⟩
  | row r g off len v h1 => cases v <;> first | (simp [Value.oneCell'] at h1; done) | exact ⟨rfl, rfl⟩
  | bptr r t v h1 => cases v <;> first | (simp [Value.oneCell'] at h1; done) | exact ⟨rfl, rfl⟩
  | rptr r g i t v h1 => cases v <;> first | (simp [Value.oneCell'] at h1; done) | exact ⟨rfl, rfl⟩

theorem Vr.ofcl {S : St} {cs : List CV} {vs : List Value} (h : All2 (Vc S) cs vs) : All2 (Vr S) (cs.map .c) vs := h.map _ fun _ _ h => .c h

theorem Vr.cells {S : St} {p : PV} {v : Value} {ps : List PV} (h : Vr S p v) (hp : p.cells = some ps) : All2 (Vr S) ps v.cells.toList ∧ (∀ u ∈ v.cells.toList, u.oneCell' = true) := by
  have aux : p.ncells = some 1 → (∀ cs, p ≠ .agg cs) → (∀ cs, p ≠ .c (.agg cs)) → p.cells = some [p] → All2 (Vr S) ps v.cells.toList ∧ (∀ u ∈ v.cells.toList, u.oneCell' = true) := by
    intro h1 h2 h3 h4
    obtain ⟨h5, h6⟩ := h.one h1 h2 h3
    rw [hp] at h4
    obtain rfl := Option.some.inj h4
    rw [h5]
    exact ⟨.cons h .nil, by simp; exact h6⟩
  cases p with
  | undef => simp [PV.cells] at hp
  | tup => simp [PV.cells] at hp
  | iter => simp [PV.cells] at hp
  | agg cs =>
    simp only [PV.cells] at hp; obtain rfl := Option.some.inj hp
    cases h with
    | agg cs vs h1 h2 => exact ⟨h1, h2⟩
  | c x =>
    cases h with
    | c hx =>
      obtain ⟨h1, h2⟩ := hx.cells
      refine ⟨?_, h2⟩
      have : ps = x.cl.map .c := by
        cases x <;> simp only [PV.cells] at hp <;> exact (Option.some.inj hp).symm
      rw [this]; exact Vr.ofcl h1
  | rw r g => exact aux rfl (by simp) (by simp) rfl
  | row r g off len => exact aux rfl (by simp) (by simp) rfl
  | bptr r t => exact aux rfl (by simp) (by simp) rfl
  | rptr r g i t => exact aux rfl (by simp) (by simp) rfl
  | ro cs => exact aux rfl (by simp) (by simp) rfl
  | fn f caps => exact aux rfl (by simp) (by simp) rfl
theorem PV.cells_n {p : PV} {ps : List PV} (h : p.cells = some ps) : p.ncells = some ps.length := by
  cases p with
  | c x => cases x <;> simp only [PV.cells] at h <;> obtain rfl := Option.some.inj h <;> simp [PV.ncells, CV.cl]
  | _ => simp only [PV.cells] at h <;> first | (cases h; done) | (obtain rfl := Option.some.inj h; simp [PV.ncells])
theorem PV.cells_of_n {p : PV} {k : Nat} (h : p.ncells = some k) : ∃ ps, p.cells = some ps ∧ ps.length = k := by
  cases p with
  | c x => cases x <;> simp only [PV.ncells] at h <;> obtain rfl := Option.some.inj h <;> simp [PV.cells, CV.cl]
  | _ => simp only [PV.ncells] at h <;> first | (cases h; done) | (obtain rfl := Option.some.inj h; simp [PV.cells])
theorem Vr.size {S : St} {p : PV} {v : Value} {k : Nat} (h : Vr S p v) (hp : p.ncells = some k) : v.cells.size = k := by
  obtain ⟨ps, h1, h2⟩ := PV.cells_of_n hp
  have := (h.cells h1).1.length
  simp at this; omega

/-! ### Types -/
section
variable {P : Program} {t : TypeId} {w : World}
theorem run_size {n : Nat} (h : tySize P t = some n) : (Go.sizeOf t).run P w = .ok n w := by
  unfold tySize at h
  cases hi : P.info? t with
  | none => simp [hi] at h
  | some i =>
    simp [hi] at h
    simp [Go.sizeOf, typeInfo, hi, h]
theorem run_agg {b : Bool} (h : tyAgg P t = some b) : (isAgg t).run P w = .ok b w := by
  unfold tyAgg at h
  cases hi : P.underlying t with
  | none => simp [hi] at h
  | some d =>
    rw [hi] at h
    simp only [isAgg, Sem.run_bind, run_underlying hi, Result.andThen_ok]
    cases d <;> simp at h <;> subst h <;> rfl
theorem run_zero {z : CV} (h : tyZero P t = some z) : ∃ v, (∀ w, (zeroValue t).run P w = .ok v w) ∧ ∀ S, Vc S z v := by
  unfold tyZero at h
  cases hi : P.info? t with
  | none => simp [hi] at h
  | some i =>
    simp only [hi] at h
    cases hz : i.zero with
    | none => simp [hz] at h
    | some v =>
      simp only [hz] at h
      exact ⟨v, fun w => by simp [zeroValue, typeInfo, hi, hz], fun S => ofVal_Vc h⟩
theorem run_bytes {n : Nat} (h : tyBytes P t = some n) : ∃ i, P.info? t = some i ∧ i.bytes = n ∧ ∀ w, (typeInfo t).run P w = .ok i w := by
  unfold tyBytes at h
  cases hi : P.info? t with
  | none => simp [hi] at h
  | some i =>
    simp [hi] at h
    exact ⟨i, rfl, h, fun w => by simp [typeInfo, hi]⟩
end

/-! ### A part of a list of cells -/
/-- The value of type t that lies in the cells vs from off on. -/
def Part (P : Program) (t : TypeId) (vs : List Value) (off : Nat) (v : Value) : Prop :=
  (∃ n, tyAgg P t = some true ∧ tySize P t = some n ∧ off + n ≤ vs.length ∧ v = .agg ((vs.drop off).take n).toArray) ∨ (tyAgg P t = some false ∧ tySize P t = some 1 ∧ vs[off]? = some v)

theorem Part.at {P : Program} {t : TypeId} {vs : List Value} {off : Nat} {v : Value} (h : Part P t vs off v) : Part P t (vs.drop off) 0 v := by
  rcases h with ⟨n, h1, h2, h3, h4⟩ | ⟨h1, h2, h3⟩
  · exact .inl ⟨n, h1, h2, by simp; omega, by simpa using h4⟩
  · exact .inr ⟨h1, h2, by simpa using h3⟩
theorem Part.back {P : Program} {t : TypeId} {vs : List Value} {off : Nat} {v : Value} (h : Part P t (vs.drop off) 0 v) (hn : ∀ n, tySize P t = some n → off + n ≤ vs.length) : Part P t vs off v := by
  rcases h with ⟨n, h1, h2, h3, h4⟩ | ⟨h1, h2, h3⟩
  · exact .inl ⟨n, h1, h2, hn n h2, by simpa using h4⟩
  · exact .inr ⟨h1, h2, by simpa using h3⟩

theorem add_at {b o j : Nat} : (⟨b, o, none⟩ : Addr).add j = ⟨b, o + j, none⟩ := by
  unfold Addr.add; split
  · rename_i h; subst h; rfl
  · rfl
theorem add_spot {a : Addr} (h : a.spot = none) {j : Nat} : a.add j = ⟨a.block, a.off + j, none⟩ := by
  obtain ⟨b, o, s⟩ := a
  simp at h; subst h; exact add_at

theorem run_loadVar {P : Program} {t : TypeId} {vs : List Value} {v : Value} {w : World} {a : Addr} (h : Part P t vs 0 v) (hr : ∀ j u, vs[j]? = some u → w.cell? (a.add j) = some u) : (loadVar t a).run P w = .ok v w := by
  rcases h with ⟨n, h1, h2, h3, rfl⟩ | ⟨h1, h2, h3⟩
  · have hl : ((vs.drop 0).take n).length = n := by simp; omega
    have := run_loadCells_list (P := P) w a ((vs.drop 0).take n) (fun j u hu => hr j u (by
      rw [List.getElem?_take] at hu
      split at hu
      · simpa using hu
      · cases hu))
    rw [hl] at this
    simp only [loadVar, Sem.run_bind, run_agg h1, Result.andThen_ok, if_true, run_size h2, this, Sem.run_pure]
  · have := hr 0 v h3
    have e : a.add 0 = a := by simp [Addr.add]
    rw [e] at this
    simp only [loadVar, Sem.run_bind, run_agg h1, Result.andThen_ok]
    simp [this]

theorem run_part {P : Program} {t : TypeId} {cs : Array Value} {off : Nat} {v : Value} {w : World} (h : Part P t cs.toList off v) : (part t cs off).run P w = .ok v w := by
  rcases h with ⟨n, h1, h2, h3, rfl⟩ | ⟨h1, h2, h3⟩
  · simp only [part, Sem.run_bind, run_agg h1, Result.andThen_ok, if_true, run_size h2, Sem.run_pure]
    congr 2
    apply Array.ext'
    simp [Array.toList_extract]
  · have h4 : cs[off]? = some v := by simpa using h3
    simp only [part, Sem.run_bind, run_agg h1, Result.andThen_ok]
    simp [h4]

theorem rdc_of_okc {z c : CV} (h : okc z c = true) : rdc z c = c := by
  cases z <;> first
    | rfl
    | (cases c <;> simp [okc] at h <;> first | rfl | (subst h; rfl))

theorem getD_get {α : Type} {l : List α} {i : Nat} {d : α} (h : i < l.length) : l[i]? = some (l.getD i d) := by
  simp [List.getD_eq_getElem?_getD, List.getElem?_eq_getElem h]

theorem readCV_ok {P : Program} {t : TypeId} {cs : List CV} {vs : List Value} {off : Nat} {H : Hp} {K : KV} {res : CV × List CV} {S : St} (h : All2 (Vc S) cs vs) (h1 : ∀ u ∈ vs, u.oneCell' = true)
    (hr : readCV P t cs off H K = some res) : ∃ p v, K p H = some res ∧ Vr S p v ∧ Part P t vs off v := by
  unfold readCV at hr
  split at hr
  · rename_i n ha hs
    obtain ⟨hb, hk⟩ := bif_true hr
    have hb : off + n ≤ cs.length := by simpa using hb
    refine ⟨_, _, hk, .c (.agg _ ((vs.drop off).take n).toArray ?_ ?_), .inl ⟨n, ha, hs, by rw [← h.length]; exact hb, rfl⟩⟩
    · simpa using (h.drop off).take n
    · intro u hu
      exact h1 u (List.mem_of_mem_drop (List.mem_of_mem_take (by simpa using hu)))
  · rename_i ha hs
    split at hr <;> first | (cases hr; done) | skip
    obtain ⟨hb, hr⟩ := bif_true hr
    obtain ⟨hok, hk⟩ := bif_true hr
    have hb : off < cs.length := by simpa using hb
    obtain ⟨v, hv, hc⟩ := h.get (getD_get (d := .nilptr) hb)
    exact ⟨_, v, hk, by rw [rdc_of_okc hok]; exact .c hc, .inr ⟨ha, hs, hv⟩⟩
  · cases hr

theorem all_one {vs : Array Value} (h : ∀ u ∈ vs.toList, u.oneCell' = true) : ∀ u ∈ vs.toList, u.oneCell' = true := h

theorem readPV_ok {P : Program} {t : TypeId} {e : PV} {vs : List Value} {k off : Nat} {H : Hp} {K : KV} {res : CV × List CV} {S : St} {ps : List PV} (hp : e.cells = some ps) (hk0 : ps.length = k) (h : All2 (Vr S) ps vs) (h1 : ∀ u ∈ vs, u.oneCell' = true)
    (hc : ∀ x, e = .c x → All2 (Vc S) x.cl vs)
    (hr : readPV P t e k off H K = some res) : ∃ p v, K p H = some res ∧ Vr S p v ∧ Part P t vs off v := by
  have hlen := h.length
  unfold readPV at hr
  split at hr
  · rename_i x
    have hx := hc x rfl
    split at hr
    · rename_i h0
      subst h0
      split at hr
      · rename_i cs n ha hs
        split at hr
        · rename_i hn
          refine ⟨_, .agg vs.toArray, hr, .c (.agg _ _ (by simpa [CV.cl] using hx) (by simpa using h1)), .inl ⟨n, ha, hs, by omega, ?_⟩⟩
          congr 1
          simp [List.take_of_length_le (show vs.length ≤ n by omega)]
        · exact readCV_ok hx h1 hr
      · exact readCV_ok hx h1 hr
    · exact readCV_ok hx h1 hr
  · rename_i ps'
    simp only [PV.cells] at hp; obtain rfl := Option.some.inj hp
    split at hr
    · rename_i n ha hs
      split at hr
      · rename_i hn
        refine ⟨_, .agg ((vs.drop off).take n).toArray, hr, .agg _ _ (by simpa using (h.drop off).take n) ?_, .inl ⟨n, ha, hs, by omega, rfl⟩⟩
        intro u hu
        exact h1 u (List.mem_of_mem_drop (List.mem_of_mem_take (by simpa using hu)))
      · cases hr
    · rename_i ha hs
      split at hr
      · rename_i p hp
        obtain ⟨v, hv, hc⟩ := h.get hp
        exact ⟨p, v, hr, hc, .inr ⟨ha, hs, hv⟩⟩
      · cases hr
    · cases hr
  · rename_i hne1 hne2
    split at hr
    · rename_i ha hs hn
      have hps : ps = [e] := by
        cases e with
        | c x => exact (hne1 x rfl).elim
        | agg cs => exact (hne2 cs rfl).elim
        | undef => simp [PV.cells] at hp
        | tup => simp [PV.cells] at hp
        | iter => simp [PV.cells] at hp
        | _ => exact (Option.some.inj hp).symm
      subst hps
      obtain ⟨v, hv, hc'⟩ := h.get (i := 0) (a := e) (by simp)
      exact ⟨e, v, hr, hc', .inr ⟨ha, hs, hv⟩⟩
    · cases hr

end Go.Pv
