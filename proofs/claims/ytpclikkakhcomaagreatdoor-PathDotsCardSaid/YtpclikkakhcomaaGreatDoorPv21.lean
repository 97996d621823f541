/- What an operation comes to, taken apart: for regions whose order is drawn. -/
import Derived.Test.YtpclikkakhcomaaGreatDoorPv20
set_option linter.unusedVariables false
namespace Go.Pv
open Go

/-- f comes to one value, the memory as it was, or to nothing. -/
def NF (H : Hp) (f : KV → Res) : Prop := (∃ p, ∀ K, f K = K p H) ∨ (∀ K, f K = none)
theorem NF.ret (H : Hp) (p : PV) : NF H (fun K => K p H) := .inl ⟨p, fun _ => rfl⟩
theorem NF.no (H : Hp) : NF H (fun _ => none) := .inr fun _ => rfl
theorem NF.bif {H : Hp} {b : Bool} {f g : KV → Res} (hf : NF H f) (hg : NF H g) : NF H (fun K => bif' b (f K) (g K)) := by
  cases b
  · exact hg
  · exact hf
theorem NF.bift {H : Hp} {b : Bool} {f : KV → Res} (hf : NF H f) : NF H (fun K => bif' b (f K) none) := hf.bif (NF.no H)
theorem NF.ite {H : Hp} {c : Prop} [Decidable c] {f g : KV → Res} (hf : NF H f) (hg : NF H g) : NF H (fun K => if c then f K else g K) := by
  by_cases h : c
  · simp only [h, if_true]; exact hf
  · simp only [h, if_false]; exact hg
theorem NF.itet {H : Hp} {c : Prop} [Decidable c] {f : KV → Res} (hf : NF H f) : NF H (fun K => if c then f K else none) := hf.ite (NF.no H)

variable {P : Program}

theorem readCV_nf {t : TypeId} {cs : List CV} {off : Nat} {H : Hp} : NF H (readCV P t cs off H) := by
  unfold readCV
  cases h1 : tyAgg P t with
  | none => exact NF.no H
  | some b =>
    cases h2 : tySize P t with
    | none => cases b <;> exact NF.no H
    | some n =>
      cases b with
      | true => exact (NF.ret H _).bift
      | false =>
        by_cases hn : n = 1
        · subst hn
          cases h3 : tyZero P t with
          | none => exact NF.no H
          | some z => exact ((NF.ret H _).bift).bift
        · match n, hn with
          | 0, _ => exact NF.no H
          | n + 2, _ => exact NF.no H
theorem readPV_nf {t : TypeId} {e : PV} {k off : Nat} {H : Hp} : NF H (readPV P t e k off H) := by
  unfold readPV
  split
  · split
    · split
      · exact (NF.ret H _).ite readCV_nf
      · exact readCV_nf
    · exact readCV_nf
  · split
    · exact (NF.ret H _).itet
    · split
      · exact NF.ret H _
      · exact NF.no H
    · exact NF.no H
  · split
    · exact NF.ret H _
    · exact NF.no H
theorem load_nf {t : TypeId} {a : PV} {H : Hp} : NF H (load' P t a H) := by
  unfold load'
  split
  · split
    · exact readPV_nf
    · exact NF.no H
  · split
    · exact readPV_nf.bift
    · exact NF.no H
  · exact readCV_nf
  · exact NF.no H
theorem fieldAddr_nf {t : TypeId} {a : PV} {f : Nat} {H : Hp} : NF H (fieldAddr' P t a f H) := by
  unfold fieldAddr'
  split
  · split
    · exact NF.no H
    · split
      · split
        · exact NF.ret H _
        · exact NF.no H
      · split
        · exact NF.ret H _
        · exact NF.no H
      · exact NF.ret H _
      · exact NF.no H
    · exact NF.no H
  · exact NF.no H
theorem indexAddr_nf {t : TypeId} {x ix : PV} {H : Hp} : NF H (indexAddr' P t x ix H) := by
  unfold indexAddr'
  split
  · split
    · split
      · split
        · exact ((NF.ret H _).bift.bift).itet
        · exact NF.no H
      · split
        · exact ((NF.ret H _).bift.bift).itet
        · exact NF.no H
      · exact ((NF.ret H _).bift.bift).itet
      · exact NF.no H
    · split
      · split
        · exact (NF.ret H _).bift.bift
        · exact NF.no H
      · split
        · exact (NF.ret H _).bift.bift
        · exact NF.no H
      · exact (NF.ret H _).bift.bift
      · exact NF.no H
    · exact NF.no H
  · exact NF.no H

theorem slice_nf {t : TypeId} {x : PV} {lo hi mx : Option PV} {H : Hp} : NF H (slice' P t x lo hi mx H) := by
  unfold slice'
  split
  · split
    · exact (NF.ret H _).bift.bift.bift
    · exact NF.no H
  · split
    · refine NF.itet ?_
      split
      · exact (NF.ret H _).bift.bift.bift
      · exact NF.no H
    · exact NF.no H
  · split
    · refine NF.itet ?_
      split
      · exact (NF.ret H _).bift.bift.bift
      · exact NF.no H
    · exact NF.no H
  · split
    · refine NF.itet ?_
      split
      · exact (NF.ret H _).bift.bift.bift
      · exact NF.no H
    · exact NF.no H
  · exact NF.no H
theorem len_nf {t : TypeId} {x : PV} {H : Hp} : NF H (len' P t x H) := by
  unfold len'
  split
  · exact NF.ret H _
  · exact NF.ret H _
  · split
    · exact NF.ret H _
    · exact NF.no H
  · exact NF.no H
theorem sliceData_nf {x : PV} {H : Hp} : NF H (sliceData' x H) := by
  unfold sliceData'
  split
  · exact NF.ret H _
  · split
    · exact (NF.ret H _).bift
    · exact NF.no H
  · exact NF.no H
theorem intOp_nf {op : BinOp} {k : IntKind} {a b : Int} {H : Hp} : NF H (fun K => intOp op k a b fun v => K (.c v) H) := by
  cases op <;> first
    | exact NF.ret H _
    | exact (NF.no H).bif (NF.ret H _)
    | exact NF.no H
theorem shiftOp_nf {op : BinOp} {k : IntKind} {a b : Int} {H : Hp} : NF H (fun K => shiftOp op k a b fun v => K (.c v) H) := by
  cases op <;> first
    | exact (NF.no H).bif (NF.ret H _)
    | exact NF.no H
theorem strOp_nf {op : BinOp} {x y : ByteArray} {H : Hp} : NF H (fun K => strOp op x y fun v => K (.c v) H) := by
  cases op <;> first
    | exact NF.ret H _
    | exact (NF.ret H _).bift
    | exact NF.no H
theorem binOp_nf {op : BinOp} {t : TypeId} {c : Bool} {p q : PV} {H : Hp} : NF H (binOp' P op t c p q H) := by
  unfold binOp'
  split
  · exact shiftOp_nf
  · exact shiftOp_nf
  · exact intOp_nf.itet
  · exact strOp_nf
  · split
    · exact NF.ret H _
    · exact NF.no H
  · split
    · exact NF.ret H _
    · exact NF.no H
  · refine (NF.no H).ite ?_
    split
    · exact (NF.ret H _).bift
    · exact NF.no H
  · refine (NF.no H).ite ?_
    split
    · exact (NF.ret H _).bift
    · exact NF.no H
  · split
    · exact (NF.ret H _).bift
    · exact NF.no H
  · split
    · exact (NF.ret H _).bift
    · exact NF.no H
  · exact NF.no H

/-! ### The same, whatever the memory -/
theorem readCV_nf0 {t : TypeId} {cs : List CV} {off : Nat} : NF0 (fun H => readCV P t cs off H) := by
  unfold readCV
  split
  · exact (NF0.ret _).bift
  · split
    · exact NF0.no
    · exact ((NF0.ret _).bift).bift
  · exact NF0.no
theorem readPVagg_nf0 {t : TypeId} {ps : List PV} {k off : Nat} : NF0 (fun H => readPV P t (.agg ps) k off H) := by
  unfold readPV
  split
  · rename_i h; cases h
  · rename_i h; cases h
    split
    · exact (NF0.ret _).itet
    · split
      · exact NF0.ret _
      · exact NF0.no
    · exact NF0.no
  · rename_i h; exact (h _ rfl).elim
theorem readPV_nf0 {t : TypeId} {e : PV} {k off : Nat} : NF0 (fun H => readPV P t e k off H) := by
  unfold readPV
  split
  · split
    · split
      · exact (NF0.ret _).ite readCV_nf0
      · exact readCV_nf0
    · exact readCV_nf0
  · split
    · exact (NF0.ret _).itet
    · split
      · exact NF0.ret _
      · exact NF0.no
    · exact NF0.no
  · split
    · exact NF0.ret _
    · exact NF0.no
theorem field_nf0 {t : TypeId} {x : PV} {f : Nat} : NF0 (fun H => field' P t x f H) := by
  unfold field'
  split
  · split
    · exact readCV_nf0
    · exact readPVagg_nf0
    · exact NF0.no
  · exact NF0.no
theorem index_nf0 {t : TypeId} {x ix : PV} : NF0 (fun H => index' P t x ix H) := by
  unfold index'
  split
  · split
    · exact (NF0.ret _).bift.bift
    · split
      · exact readCV_nf0.bift.bift
      · exact NF0.no
    · exact NF0.no
  · exact NF0.no
theorem build_nf0 {t : TypeId} {ps : List (Nat × PV)} : NF0 (fun H => build' P t ps H) := by
  unfold build'
  split
  · split
    · split
      · exact (NF0.ret _).bift
      · exact NF0.no
    · split
      · exact (NF0.ret _).bift
      · exact NF0.no
  · exact NF0.no
theorem unOp_nf0 {op : UnOp} {x : PV} : NF0 (fun H => unOp' op x H) := by
  unfold unOp'
  split
  · exact NF0.ret _
  · exact NF0.ret _
  · exact NF0.ret _
  · exact NF0.no
theorem intOp_nf0 {op : BinOp} {k : IntKind} {a b : Int} : NF0 (fun H K => intOp op k a b fun v => K (.c v) H) := by
  cases op <;> first
    | exact NF0.ret _
    | exact NF0.no.bif (NF0.ret _)
    | exact NF0.no
theorem shiftOp_nf0 {op : BinOp} {k : IntKind} {a b : Int} : NF0 (fun H K => shiftOp op k a b fun v => K (.c v) H) := by
  cases op <;> first
    | exact NF0.no.bif (NF0.ret _)
    | exact NF0.no
theorem strOp_nf0 {op : BinOp} {x y : ByteArray} : NF0 (fun H K => strOp op x y fun v => K (.c v) H) := by
  cases op <;> first
    | exact NF0.ret _
    | exact (NF0.ret _).bift
    | exact NF0.no
theorem binOp_nf0 {op : BinOp} {t : TypeId} {c : Bool} {p q : PV} (h1 : op ≠ .eql) (h2 : op ≠ .neq) : NF0 (fun H => binOp' P op t c p q H) := by
  unfold binOp'
  split
  · exact shiftOp_nf0
  · exact shiftOp_nf0
  · exact intOp_nf0.itet
  · exact strOp_nf0
  · exact absurd rfl h1
  · exact absurd rfl h2
  · exact absurd rfl h1
  · exact absurd rfl h2
  · exact absurd rfl h1
  · exact absurd rfl h2
  · exact NF0.no
theorem convert_nf0 {s d : TypeId} {x : PV} {k : IntKind} (h : P.underlying d = some (.int k)) : NF0 (fun H => convert' P s d x H) := by
  unfold convert'
  split
  · exact NF0.ret _
  · rename_i h2; rw [h] at h2; cases h2
  · rename_i h2; rw [h] at h2; cases h2
  · rename_i h2; rw [h] at h2; cases h2
  · rename_i h2; rw [h] at h2; cases h2
  · rename_i h2; rw [h] at h2; cases h2
  · exact NF0.no
theorem slice_nf0 {t : TypeId} {x : PV} {lo hi mx : Option PV} (h : P.underlying t = some .string) : NF0 (fun H => slice' P t x lo hi mx H) := by
  unfold slice'
  split
  · split
    · exact (NF0.ret _).bift.bift.bift
    · exact NF0.no
  · rename_i h2; rw [h] at h2; cases h2
  · rename_i h2; rw [h] at h2; cases h2
  · rename_i h2; rw [h] at h2; cases h2
  · exact NF0.no

theorem ext_nf0 {f : FuncId} {args : List PV} : NF0 (fun H => ext' P f args H) := by
  unfold ext'
  split
  · split
    · exact NF0.ret _
    · exact NF0.no
  · split
    · exact NF0.ret _
    · exact NF0.no
  · exact NF0.no
theorem pure_nf0 {tb : Handler} (hp : ∀ f cs, noBox cs = true → NF0 (fun H K => tb f (cs.map .c) H (dataK K))) {f : PV} {args : List PV} : NF0 (fun H => pure' P tb f args H) := by
  unfold pure'
  split
  · split
    · cases hd : dataArgs args with
      | none => exact NF0.no
      | some cs => exact hp _ _ (dataArgs_nb hd)
    · exact ext_nf0
  · exact NF0.no
theorem aop_nf0 {tb : Handler} (hp : ∀ f cs, noBox cs = true → NF0 (fun H K => tb f (cs.map .c) H (dataK K))) {o : Oper} {ev : Operand → PV} (h : opClass P o = 0) : NF0 (fun H => aop P tb o ev H) := by
  obtain ⟨dst, op, type, pos, after, guard⟩ := o
  unfold opClass at h
  unfold aop
  cases op <;> (try simp only at h) <;> (try (exact absurd h (by decide))) <;> simp only
  case move x => exact NF0.ret _
  case assign x => exact NF0.ret _
  case pick c a b =>
    split
    · exact (NF0.ret _).bif (NF0.ret _)
    · exact NF0.no
  case build t ps => exact build_nf0
  case binOp op t x y u =>
    refine binOp_nf0 ?_ ?_ <;> (intro e; subst e; simp at h)
  case unOp op t x => exact unOp_nf0
  case convert s d x =>
    split at h
    · rename_i k hd; exact convert_nf0 hd
    · simp at h
  case makeInterface t x =>
    split
    · exact NF0.no
    · exact NF0.ret _
    · exact NF0.no
  case slice t x lo hi mx =>
    split at h
    · rename_i hd; exact slice_nf0 hd
    · simp at h
  case field t x f => exact field_nf0
  case index t x i => exact index_nf0
  case extract t i =>
    split
    · split
      · exact NF0.ret _
      · exact NF0.no
    · exact NF0.no
  case call c =>
    cases hc : c.callee with
    | builtin b =>
      simp only [hc] at h
      split at h
      · simp at h
      · simp at h
      · split at h
        · rename_i hp
          simp [pureCall, hc] at hp
        · simp at h
    | value f =>
      simp only [hc] at h
      split at h
      · rename_i hpc
        simp only [if_pos hpc]
        exact pure_nf0 hp
      · simp at h
    | invoke r m =>
      simp only
      exact NF0.no

theorem aop_nf {tb : Handler} (hp : ∀ f cs, noBox cs = true → NF0 (fun H K => tb f (cs.map .c) H (dataK K))) {o : Oper} {ev : Operand → PV} {H : Hp} (h : opClass P o = 0 ∨ opClass P o = 1) : NF H (aop P tb o ev H) := by
  rcases h with h | h
  · rcases aop_nf0 (tb := tb) (ev := ev) hp h with ⟨p, hp⟩ | hn
    · exact .inl ⟨p, hp H⟩
    · exact .inr (hn H)
  obtain ⟨dst, op, type, pos, after, guard⟩ := o
  unfold opClass at h
  unfold aop
  cases op <;> (try simp only at h) <;> (try (exact absurd h (by decide))) <;> simp only
  case load t x => exact load_nf
  case nilCheck x =>
    split
    · split
      · exact NF.ret H _
      · exact NF.no H
    · split
      · exact NF.ret H _
      · exact NF.no H
    · exact NF.ret H _
    · exact NF.ret H _
    · exact NF.no H
  case binOp op t x y u => exact binOp_nf
  case convert s d x => split at h <;> simp at h
  case slice t x lo hi mx => exact slice_nf
  case fieldAddr t x f => exact fieldAddr_nf
  case indexAddr t x i => exact indexAddr_nf
  case call c =>
    split at h <;> (try simp at h)
    · rename_i hcal
      simp only [hcal]
      unfold builtin'
      split
      · exact len_nf
      all_goals first
        | exact NF.no H
        | (rename_i hb _ _; cases hb; done)
        | (rename_i hb _; cases hb; done)
    · rename_i hcal
      simp only [hcal]
      unfold builtin'
      split
      · rename_i hb _ _; cases hb
      · rename_i hb _ _; cases hb
      · exact sliceData_nf
      all_goals first
        | exact NF.no H
        | (rename_i hb _ _; cases hb; done)
        | (rename_i hb _; cases hb; done)
    · split at h <;> simp at h

end Go.Pv
