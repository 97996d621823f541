/- Tables of functions run in place among others; contracts that others have proved. -/
import Derived.Test.YtpclikkakhcomaaGreatDoorPv28
set_option linter.unusedVariables false
namespace Go.Pv
open Go

variable {P : Program} {I : World → Prop}

/-- What the interpreter says, some callees being run in place. -/
def bodyI (P : Program) (tb : Handler) (fuel : Nat) (f : FuncId) : Fn1 := fun cargs =>
  match abody P tb (fun _ => none) fuel f cargs with
  | some (rv, outs) => some [(true, rv, outs)]
  | none => none
theorem contract_bodyI {ng : Nat} {tb : Handler} {fuel : Nat} {f : FuncId} (hg : OnGlobals I ng) (h : HOk P I ng tb) : Contract P I ng f (bodyI P tb fuel f) :=
  contract_of _ hg h fun cargs rv outs hF => by
    unfold bodyI at hF
    cases hb : abody P tb (fun _ => none) fuel f cargs with
    | none => rw [hb] at hF; cases hF
    | some r =>
      obtain ⟨rv', outs'⟩ := r
      rw [hb] at hF
      cases hF
      exact ⟨fuel, hb⟩
/-- All functions of a list, each by those behind it; those of il are run in place. -/
def bodiesI (P : Program) (fuel : Nat) (il : List FuncId) : List FuncId → Table → Table
  | [], tb => tb
  | f :: l, tb => addF (bodiesI P fuel il l tb) f (bodyI P (inls P (fun _ => none) fuel il (call' (bodiesI P fuel il l tb))) fuel f)
theorem known_bodiesI {ng : Nat} {fuel : Nat} {il : List FuncId} {tb : Table} (hg : OnGlobals I ng) (h : Known P I ng tb) : ∀ l, Known P I ng (bodiesI P fuel il l tb)
  | [] => h
  | f :: l => known_add (known_bodiesI hg h l) (contract_bodyI hg (inls_ok hg (hok_of (known_bodiesI hg h l)) il))

theorem openArgs_data : ∀ {cargs : List CV}, noBox cargs = true → ∀ H, openArgs cargs H = (cargs.map .c, H)
  | [], _, H => rfl
  | v :: l, h, H => by
    have h1 : openArg v H = (.c v, H) := by cases v <;> first | rfl | (simp [noBox] at h; done)
    have h2 : noBox l = true := by cases v <;> first | exact h | (simp [noBox] at h; done)
    simp only [openArgs, h1, openArgs_data h2, List.map_cons]
def isData (rv : CV) (v : Value) : Prop := (∀ S : St, Vc S rv v) ∨ ∃ xs vs, rv = .tup xs ∧ v = .tuple vs ∧ ∀ S : St, All2 (Vc S) xs vs.toList
theorem tup_data {S : St} : ∀ {xs : List CV} {vs : List Value}, All2 (Vc S) xs vs → TupR S xs vs []
  | _, _, .nil => .nil
  | _, _, .cons h1 h2 => TupR.cons (u := []) (us := []) (.val (.cell (.data h1))) (tup_data h2)

/-- A contract of a function of data that leaves what was there as it was. -/
theorem contract_pure {f : FuncId} {F : Fn1} {ng : Nat} (hg : OnGlobals I ng)
    (h : ∀ cargs rv outs, picked (F cargs) = some (rv, outs) → outs = [] ∧ noBox cargs = true ∧ ∀ (S : St) (vals : Array Value), Ok S → All2 (Vc S) cargs vals.toList →
      Calls P f vals S.w fun e w' => ∃ v, e = .returned v ∧ isData rv v ∧ RowKit.Below S.w.heap.size S.w w') : Contract P I ng f F := by
  intro cargs rv outs hF S vals hH ok hng hI hv
  obtain ⟨rfl, hb, h⟩ := h cargs rv outs hF
  rw [openArgs_data hb] at hH hv
  refine (h S vals ok (c_list hv)).mono ?_
  rintro e w' ⟨v, rfl, hd, B⟩
  have hι : ∀ r, S.ι r = none := fun r => ok.out r (by rw [hH]; exact Nat.zero_le _)
  let S' : St := { S with w := w' }
  have K : Keeps S S' := ⟨B.os, B.tape, B.output, B.size, fun b hb _ => B.block b hb, fun r b hr => .inl ⟨r, hr⟩, rfl, rfl, rfl⟩
  have ok' : Ok S' := by
    refine ⟨fun r o hr => ?_, fun r _ => hι r, fun r r' b h1 _ => ?_, fun r b h1 => ?_, fun r b off h1 => ?_, ok.forb, Nat.le_trans ok.n0 B.size, fun r b h1 => ?_, ok.ng⟩
    · have hr' : S.H[r]? = some o := hr
      rw [hH] at hr'; simp at hr'
    all_goals
      have h1' : S.ι r = some b := h1
      rw [hι] at h1'; cases h1'
  refine ⟨v, S', [], rfl, rfl, ok', K, ?_, ?_, List.nodup_nil, ⟨by rw [hH]; rfl, fun i e k x hi => ?_⟩⟩
  · have := K.inv (I := I) ok (by rw [hng]; exact hg) hI
    exact this
  · rcases hd with hd | ⟨xs, vs, rfl, rfl, hd⟩
    · exact .res (.val (.cell (.data (hd S'))))
    · exact .tup (tup_data (hd S'))
  · rw [hH] at hi; simp at hi

end Go.Pv
