/- Appends; literals of slices; conversions that make memory; iterators. -/
import Derived.Test.YtpclikkakhcomaaGreatDoorPv12
set_option linter.unusedVariables false
namespace Go.Pv
open Go

/-- What an append takes. -/
def SrcAt (P : Program) (w : World) (n : Nat) (ys : List CV) (v : Value) (vs : List Value) : Prop :=
  (∀ w', (∀ a, w.cell? a = w'.cell? a) → (Builtin.firstCells n ys.length v).run P w' = .ok vs.toArray w') ∧ (Builtin.lenOf v).run P w = .ok ys.length w

theorem bytes_flat (s : ByteArray) : elemCells (strBytes s) = strBytes s := by
  unfold strBytes elemCells
  induction s.data.toList with
  | nil => rfl
  | cons b l ih => simp only [List.map_cons, List.flatMap_cons, ih]; rfl
theorem bytes_len (s : ByteArray) : (strBytes s).length = s.size := by simp [strBytes]
theorem bytes_rel (S : St) (s : ByteArray) : All2 (Vc S) (strBytes s) (s.data.toList.map fun b => Value.int .u8 b.toNat) := by
  unfold strBytes
  induction s.data.toList with
  | nil => exact .nil
  | cons b l ih => exact .cons (.int _ _) ih

theorem src_ok {P : Program} {S : St} (ok : Ok S) {p : PV} {v : Value} {k n : Nat} {ys : List CV} (hv : Vr S p v) (h : srcOf p S.H = some (k, ys)) (hkn : k = n ∨ ys = []) :
    ∃ vs, SrcAt P S.w n ys v vs ∧ (∀ e ∈ ys, e.cl.length = n) ∧ All2 (Vc S) (elemCells ys) vs ∧ (∀ u ∈ vs, u.oneCell' = true) := by
  unfold srcOf at h
  split at h
  · rename_i s
    simp only [Option.some.injEq, Prod.mk.injEq] at h
    obtain ⟨rfl, rfl⟩ := h
    obtain rfl := str_of hv
    have hlen := bytes_len s
    refine ⟨s.data.toList.map fun b => Value.int .u8 b.toNat, ⟨fun w' _ => ?_, by simp [Builtin.lenOf, hlen]⟩, ?_, by rw [bytes_flat]; exact bytes_rel S s, ?_⟩
    · simp only [Builtin.firstCells, hlen, Sem.run_pure]
      congr 1
      apply Array.ext'
      simp
    · rcases hkn with rfl | h0
      · intro e he
        simp only [strBytes, List.mem_map] at he
        obtain ⟨b, _, rfl⟩ := he; rfl
      · rw [h0]; simp
    · intro u hu
      simp only [List.mem_map] at hu
      obtain ⟨b, _, rfl⟩ := hu; rfl
  · obtain ⟨base, cap, vs, rfl, h1, h2, h3, h4, h5⟩ := elemsOf_ok ok hv h
    have h1' : ∀ e ∈ ys, e.cl.length = n := by
      rcases hkn with rfl | h0
      · exact h1
      · rw [h0]; simp
    refine ⟨vs, ⟨fun w' hw => ?_, by simp [Builtin.lenOf]⟩, h1', h2, h3⟩
    have hl : vs.length = ys.length * n := by rw [← h2.length, flat_len h1']
    cases base with
    | none =>
      have := h5 rfl
      subst this
      have : vs = [] := by cases vs with | nil => rfl | cons _ _ => simp at hl
      subst this
      simp [Builtin.firstCells]
    | some a => exact run_firstCells_some w' n ys.length a _ cap vs hl fun j u hu => by rw [← hw]; exact h4 a rfl j u hu

section
variable {P : Program} {t ty e u : TypeId} {n b : Nat} {zv : Value}

theorem run_fit {w : World} {base : Option Addr} {sLen sCap : Nat} {ys : List CV} {v : Value} {vs : List Value} (ht : P.underlying t = some (.slice e)) (hn : tySize P e = some n) (hu : ∃ d, P.underlying u = some d ∧ ∀ k, d ≠ .int k)
    (hs : SrcAt P w n ys v vs) (hf : sLen + ys.length ≤ sCap) {w' : World} (hst : ∀ a, base = some a → (storeCells (a.add (sLen * n)) vs).run P w = .ok () w') (hno : base = none → w' = w) :
    (Builtin.append_ #[t, u] ty #[.slice base sLen sCap, v]).run P w = .ok (.slice base (sLen + ys.length) sCap) w' := by
  obtain ⟨d, h1, h2⟩ := hu
  have h3 := hs.1 w fun _ => rfl
  cases base with
  | none =>
    obtain rfl := hno rfl
    simp [Builtin.append_, run_underlying ht, run_size hn, run_underlying h1, hs.2, hf, h3]
  | some a =>
    have := hst a rfl
    simp [Builtin.append_, run_underlying ht, run_size hn, run_underlying h1, hs.2, hf, h3, this]

theorem run_grow {w : World} {base : Option Addr} {sLen sCap : Nat} {ys : List CV} {v : Value} {vs olds : List Value} (ht : P.underlying t = some (.slice e)) (hn : tySize P e = some n) (hb : tyBytes P e = some b) (hu : ∃ d, P.underlying u = some d ∧ ∀ k, d ≠ .int k)
    (hz : ∀ w, (zeroValue e).run P w = .ok zv w) (hs : SrcAt P w n ys v vs) (hg : sCap < sLen + ys.length) (hb0 : 0 < b) (hfit : (sLen + ys.length) * b ≤ 70368744177664)
    (hold : ∀ w', (∀ a, w.cell? a = w'.cell? a) → (Builtin.firstCells n sLen (.slice base sLen sCap)).run P w' = .ok olds.toArray w') :
    (Builtin.append_ #[t, u] ty #[.slice base sLen sCap, v]).run P w = .ok (.slice (some ⟨w.heap.size, 0, none⟩) (sLen + ys.length) (grownCap w (sLen + ys.length) sCap e))
      (w.drew.alloc (.cells (olds.toArray ++ vs.toArray ++ Builtin.zeroCells zv.cells (grownCap w (sLen + ys.length) sCap e - (sLen + ys.length))) e)) := by
  obtain ⟨d, h1, h2⟩ := hu
  obtain ⟨i, hi, hbi, hti⟩ := run_bytes hb
  have hle : sLen + ys.length ≤ (sLen + ys.length) * b := Nat.le_mul_of_pos_right _ hb0
  have hn' : ¬ (sLen + ys.length ≤ sCap) := by omega
  have h63 : ¬ (9223372036854775807 < ((sLen : Int) + (ys.length : Int))) := by omega
  have h48 : ¬ (281474976710656 < Builtin.nextslicecap (sLen + ys.length) sCap * b) := by
    have := growslice_fits (bytes := b) hg (by omega)
    omega
  have h3 := hs.1 w.drew fun _ => rfl
  have h4 := hold w.drew fun _ => rfl
  simp [Builtin.append_, run_underlying ht, run_size hn, run_underlying h1, hs.2, hn', hti, hbi, h63, h48, Question.forced, h3, h4, hz, newRow, grownCap]
  congr 2
  apply Array.ext'
  simp [List.append_assoc]

theorem zero_cells {z : Array Value} {k m : Nat} (hz : z.size = k) : (Builtin.zeroCells z m).size = m * k := by
  simp [Builtin.zeroCells, hz]

/-- Behind an append that makes a new array: the elements are those that were, and the new ones. -/
theorem grown_cells {S : St} {xs ys : List CV} {vx vy : List Value} {Z : Array Value} {j : Nat} {v : Value} (h : (vx ++ vy)[j]? = some v) : (vx.toArray ++ vy.toArray ++ Z)[j]? = some v := by
  have hlt : j < (vx ++ vy).length := (List.getElem?_eq_some_iff.1 h).1
  rw [Array.getElem?_append_left (by simpa using hlt)]
  simpa using h

theorem append_new {K : KV} {res : CV × List CV} {S : St} (ok : Ok S) (g0 : Nat) (hT : gty g0 = 0 ∨ e + 1 = gty g0) {xs ys : List CV} {vx vy : List Value} {base : Option Addr} {sLen sCap : Nat} {v : Value} (ht : P.underlying t = some (.slice e)) (hn : tySize P e = some n) (hb : tyBytes P e = some b) (hu : ∃ d, P.underlying u = some d ∧ ∀ k, d ≠ .int k)
    {z : CV} (hz : tyZero P e = some z) (hzn : z.cl.length = n) (hn0 : 0 < n) (hb0 : 0 < b) (hs : SrcAt P S.w n ys v vy) (hg : sCap < sLen + ys.length) (hfit : (sLen + ys.length) * b ≤ 70368744177664) (hlen : xs.length = sLen)
    (hx : ∀ e ∈ xs, e.cl.length = n) (hy : ∀ e ∈ ys, e.cl.length = n) (rx : All2 (Vc S) (elemCells xs) vx) (ry : All2 (Vc S) (elemCells ys) vy) (ox : ∀ u ∈ vx, u.oneCell' = true) (oy : ∀ u ∈ vy, u.oneCell' = true)
    (hold : ∀ w', (∀ a, S.w.cell? a = w'.cell? a) → (Builtin.firstCells n sLen (.slice base sLen sCap)).run P w' = .ok vx.toArray w')
    (h : K (.rw S.H.length g0) (S.H ++ [.row (xs ++ ys) n g0 false]) = some res) :
    Does P (Builtin.append_ #[t, u] ty #[.slice base sLen sCap, v]) S K res := by
  obtain ⟨zv, hz1, hz2⟩ := run_zero hz
  have hzs : zv.cells.size = n := by have := (hz2 S).cells.1.length; simp at this; omega
  have hrun := run_grow (ty := ty) ht hn hb hu hz1 hs hg hb0 hfit hold
  have hge := grownCap_ge S.w (sLen + ys.length) sCap e
  have hrel : All2 (Vc S) (elemCells (xs ++ ys)) (vx ++ vy) := by rw [flat_append]; exact rx.append ry
  have hxy : ∀ e ∈ xs ++ ys, e.cl.length = n := by
    intro e he
    rcases List.mem_append.1 he with he | he
    · exact hx e he
    · exact hy e he
  have hvl : (vx ++ vy).length = (sLen + ys.length) * n := by
    rw [← hrel.length, flat_len hxy, List.length_append, hlen]
  have D := drawn_good ok (S.w.drawn + 1)
  obtain ⟨G, hp⟩ := new_rowG (T := e) (fr := (0, 0)) (cap := grownCap S.w (sLen + ys.length) sCap e) D.ok g0 hn0 hxy (hrel.imp fun _ _ _ h => h.mono D.ext)
    (cs := vx.toArray ++ vy.toArray ++ Builtin.zeroCells zv.cells (grownCap S.w (sLen + ys.length) sCap e - (sLen + ys.length)))
    (by intro u hu; rcases List.mem_append.1 hu with hu | hu; exact ox u hu; exact oy u hu)
    (fun j u hj => grown_cells (S := S) (xs := xs) (ys := ys) hj)
    (by
      have e1 : (vx.toArray ++ vy.toArray).size = (sLen + ys.length) * n := by rw [← hvl]; simp
      rw [Array.size_append, zero_cells hzs, e1, ← Nat.add_mul]
      congr 1; omega)
    (by rw [List.length_append, hlen]; exact hge) (unfrozen_none _) hT
  refine ⟨_, _, _, ?_, D.trans G, hp, h⟩
  rw [hrun, List.length_append, hlen]
  rfl

end

end Go.Pv
