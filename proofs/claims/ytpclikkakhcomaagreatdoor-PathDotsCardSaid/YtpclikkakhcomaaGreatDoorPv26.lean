/- Tables of functions that come to what the interpreter says. -/
import Derived.Test.YtpclikkakhcomaaGreatDoorPv25
set_option linter.unusedVariables false
namespace Go.Pv
open Go

variable {P : Program} {I : World → Prop}

def Known (P : Program) (I : World → Prop) (ng : Nat) (tb : Table) : Prop := ∀ f, Contract P I ng f (tb f)

def noTable : Table := fun _ _ => none
theorem known_no {ng : Nat} : Known P I ng noTable := fun f cargs rv outs h => by cases h

/-- One function more, by its own contract. -/
def addF (tb : Table) (f : FuncId) (F : Fn1) : Table := fun g => if Nat.beq g f then F else tb g
theorem known_add {ng : Nat} {tb : Table} {f : FuncId} {F : Fn1} (h : Known P I ng tb) (hF : Contract P I ng f F) : Known P I ng (addF tb f F) := by
  intro g
  unfold addF
  split
  · rename_i e
    obtain rfl := Nat.eq_of_beq_eq_true e
    exact hF
  · exact h g

/-- What the interpreter says, taken as it is. -/
def bodyF (P : Program) (tb : Table) (an : Ann) (fuel : Nat) (f : FuncId) : Fn1 := fun cargs =>
  match abody P (call' tb) an fuel f cargs with
  | some (rv, outs) => some [(true, rv, outs)]
  | none => none
theorem known_body {ng : Nat} {tb : Table} {an : Ann} {fuel : Nat} {f : FuncId} (hg : OnGlobals I ng) (h : Known P I ng tb) : Contract P I ng f (bodyF P tb an fuel f) :=
  contract_of an hg (hok_of h) fun cargs rv outs hF => by
    unfold bodyF at hF
    cases hb : abody P (call' tb) an fuel f cargs with
    | none => rw [hb] at hF; cases hF
    | some r =>
      obtain ⟨rv', outs'⟩ := r
      rw [hb] at hF
      cases hF
      exact ⟨fuel, hb⟩

/-- Annotations as a list. -/
def annOf (l : List (Nat × Head)) : Ann := fun i => match l with
  | [] => none
  | (j, h) :: l => if Nat.beq i j then some h else annOf l i

/-- All functions of a list, each by those behind it. -/
def bodies (P : Program) (fuel : Nat) : List (FuncId × List (Nat × Head)) → Table → Table
  | [], tb => tb
  | (f, an) :: l, tb => addF (bodies P fuel l tb) f (bodyF P (bodies P fuel l tb) (annOf an) fuel f)
theorem known_bodies {ng : Nat} {fuel : Nat} {tb : Table} (hg : OnGlobals I ng) (h : Known P I ng tb) : ∀ l, Known P I ng (bodies P fuel l tb)
  | [] => h
  | (f, an) :: l => known_add (known_bodies hg h l) (known_body hg (known_bodies hg h l))

end Go.Pv
