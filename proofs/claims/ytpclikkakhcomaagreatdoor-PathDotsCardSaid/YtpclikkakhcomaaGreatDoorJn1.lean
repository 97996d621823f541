/- strings.Join, as the shelf says it. -/
import Derived.Test.YtpclikkakhcomaaGreatDoorPv29
import Derived.Test.YtpclikkakhcomaaGreatDoorSh
set_option linter.unusedVariables false
namespace Go.Pv
open Go Go.Proofs

def isStrC : CV → Bool
  | .str _ => true
  | _ => false
def partsOf (xs : List CV) : List (List UInt8) := xs.map fun x => x.toStr.data.toList
def joinCV (xs : List CV) (sep : ByteArray) : ByteArray := ⟨(Lib.join (partsOf xs) sep.data.toList).toArray⟩
def FJoin : Fn1 := fun cargs => match cargs with
  | [.sl _ _ 1 xs, .str sep] => some [(xs.all isStrC && (decide (xs.length ≤ 140737488355328) && decide ((Lib.join (partsOf xs) sep.data.toList).length ≤ 140737488355328)), .str (joinCV xs sep), [])]
  | [.nilsl, .str sep] => some [(true, .str ⟨#[]⟩, [])]
  | _ => none

theorem strs_flat : ∀ {xs : List CV}, xs.all isStrC = true → elemCells xs = xs
  | [], _ => rfl
  | x :: xs, h => by
    simp only [List.all_cons, Bool.and_eq_true] at h
    have ih := strs_flat h.2
    cases x <;> simp [isStrC] at h
    show _ :: elemCells xs = _
    rw [ih]
theorem strs_cells {S : St} : ∀ {xs : List CV} {vs : List Value}, All2 (Vc S) xs vs → xs.all isStrC = true → vs = xs.map fun x => .string x.toStr
  | [], _, .nil, _ => rfl
  | x :: xs, _, .cons h1 h2, h => by
    simp only [List.all_cons, Bool.and_eq_true] at h
    have ih := strs_cells h2 h.2
    cases x <;> simp [isStrC] at h
    cases h1
    simp [ih, CV.toStr]

theorem c39 {I : World → Prop} {ng : Nat} (hg : OnGlobals I ng) : Contract Tryz.prog I ng 39 FJoin := contract_pure hg fun cargs rv outs h => by
  unfold FJoin at h
  split at h <;> first | (cases h; done) | skip
  · rename_i own full xs sep
    cases hc : (xs.all isStrC && (decide (xs.length ≤ 140737488355328) && decide ((Lib.join (partsOf xs) sep.data.toList).length ≤ 140737488355328))) with
    | false => rw [hc] at h; cases h
    | true =>
      rw [hc] at h
      cases h
      simp only [Bool.and_eq_true, decide_eq_true_eq] at hc
      obtain ⟨hs, hN, hlen⟩ := hc
      refine ⟨rfl, rfl, fun S vals ok hv => ?_⟩
      obtain ⟨l⟩ := vals
      cases hv with
      | cons h1 h2 =>
        cases h2 with
        | cons h2 h3 =>
          cases h3
          cases h2
          rename_i v1
          have fin : ∀ S' : St, Vc S' (.str (joinCV xs sep)) (.string (joinCV xs sep)) := fun S' => .str _
          cases h1 with
          | sl full k xs a c vs q1 q2 q3 q4 q5 =>
            rw [strs_flat hs] at q2
            have hvs := strs_cells q2 hs
            by_cases hx : xs = []
            · subst hx
              refine (Tryz.strings_Join_none (some a) c sep S.w).mono ?_
              rintro e w' ⟨rfl, rfl⟩
              exact ⟨_, rfl, .inl fin, RowKit.Below.refl _ _⟩
            · have hpos : 0 < xs.length := by cases xs with | nil => exact absurd rfl hx | cons _ _ => simp
              obtain ⟨x0, hx0⟩ : ∃ x, xs[0]? = some x := ⟨xs[0], by simp [hpos]⟩
              have hr0 := q3 0 (.string x0.toStr) (by rw [hvs, List.getElem?_map, hx0]; rfl)
              obtain ⟨bk, o, spot⟩ := a
              have hsp : spot = none := hr0.1
              subst hsp
              have := Tryz.strings_Join bk o c (xs.map CV.toStr) sep S.w (fun j x hj => by
                  rw [List.getElem?_map] at hj
                  cases hxj : xs[j]? with
                  | none => rw [hxj] at hj; cases hj
                  | some y =>
                    rw [hxj] at hj
                    cases hj
                    exact (q3 j (.string y.toStr) (by rw [hvs, List.getElem?_map, hxj]; rfl)).2.2.1) (World.block_lt_of_cell? S.w _ hr0.2.2.1) (by simpa using hN) (by simpa using q4) (by rw [List.map_map]; exact hlen)
              rw [List.length_map, List.map_map] at this
              refine this.mono ?_
              rintro e w' ⟨rfl, hb⟩
              exact ⟨_, rfl, .inl fin, hb⟩
          | slnil k =>
            refine (Tryz.strings_Join_none none 0 sep S.w).mono ?_
            rintro e w' ⟨rfl, rfl⟩
            exact ⟨_, rfl, .inl fin, RowKit.Below.refl _ _⟩
  · rename_i sep
    cases h
    refine ⟨rfl, rfl, fun S vals ok hv => ?_⟩
    obtain ⟨l⟩ := vals
    cases hv with
    | cons h1 h2 =>
      cases h2 with
      | cons h2 h3 =>
        cases h3
        cases h2
        cases h1
        refine (Tryz.strings_Join_none none 0 sep S.w).mono ?_
        rintro e w' ⟨rfl, rfl⟩
        exact ⟨_, rfl, .inl fun S' => .str _, RowKit.Below.refl _ _⟩

end Go.Pv
