/- Code whose loops are left undone, each by itself. -/
import Derived.Test.YtpclikkakhcomaaGreatDoorPv29
set_option linter.unusedVariables false
namespace Go.Pv
open Go

/-- How many loops stand in the code (loops in loops aside). -/
def nLoops : Code → Nat
  | .seq a b => nLoops a + nLoops b
  | .cond _ a b => nLoops a + nLoops b
  | .block _ b => nLoops b
  | .loop _ => 1
  | _ => 0
/-- The code, its loops left undone: the n-th one leaves by the number 1000000 + n. -/
def cutN : Nat → Code → Code
  | n, .seq a b => .seq (cutN n a) (cutN (n + nLoops a) b)
  | n, .cond x a b => .cond x (cutN n a) (cutN (n + nLoops a) b)
  | n, .block id b => .block id (cutN n b)
  | n, .loop _ => .exit (1000000 + n)
  | _, c => c
/-- The n-th loop's body. -/
def bodyN : Nat → Code → Code
  | n, .seq a b => if n < nLoops a then bodyN n a else bodyN (n - nLoops a) b
  | n, .cond _ a b => if n < nLoops a then bodyN n a else bodyN (n - nLoops a) b
  | n, .block _ b => bodyN n b
  | _, .loop b => b
  | _, _ => .skip
/-- What runs behind the n-th loop. -/
def restN (P : Program) (tb : Handler) (an : Ann) (fuel : Nat) : Nat → Code → KX → KX
  | n, .seq a b, K => if n < nLoops a then restN P tb an fuel n a (thenK (fun env H => aexec P tb an fuel b env H K) K) else restN P tb an fuel (n - nLoops a) b K
  | n, .cond _ a b, K => if n < nLoops a then restN P tb an fuel n a K else restN P tb an fuel (n - nLoops a) b K
  | n, .block id b, K => restN P tb an fuel n b (blockK id K)
  | _, _, K => K
def cutNK (L : Nat → Env → Hp → Res) (K : KX) : KX := fun e env H => match e with
  | .exit id => if Nat.ble 1000000 id then L (id - 1000000) env H else K (.exit id) env H
  | e => K e env H
/-- Are the numbers of exits small? -/
def idsOk : Code → Bool
  | .seq a b => idsOk a && idsOk b
  | .cond _ a b => idsOk a && idsOk b
  | .block id b => Nat.blt id 1000000 && idsOk b
  | .loop b => idsOk b
  | .exit id => Nat.blt id 1000000
  | _ => true
/-- The code with its loops left to L. -/
def parts (P : Program) (tb : Handler) (an : Ann) (fuel : Nat) (c : Code) (env : Env) (H : Hp) (L : Nat → Env → Hp → Res) (K : KX) : Res := aexec P tb an fuel (cutN 0 c) env H (cutNK L K)

theorem ble_iff {a b : Nat} : Nat.ble a b = true ↔ a ≤ b := ⟨Nat.le_of_ble_eq_true, Nat.ble_eq_true_of_le⟩

theorem cut_eq {P : Program} {tb : Handler} {an : Ann} {fuel : Nat} {L : Nat → Env → Hp → Res} : ∀ (c : Code) (n : Nat) (K : KX) (env : Env) (H : Hp), idsOk c = true →
    (∀ i env H, i < nLoops c → L (n + i) env H = aexec P tb an fuel (.loop (bodyN i c)) env H (restN P tb an fuel i c K)) →
    aexec P tb an fuel c env H K = aexec P tb an fuel (cutN n c) env H (cutNK L K) := by
  intro c
  induction c with
  | seq a b iha ihb =>
    intro n K env H ho hL
    simp only [idsOk, Bool.and_eq_true] at ho
    have hb : ∀ env H, aexec P tb an fuel b env H K = aexec P tb an fuel (cutN (n + nLoops a) b) env H (cutNK L K) := fun env H => ihb _ K env H ho.2 fun i env H hi => by
      rw [Nat.add_assoc, hL (nLoops a + i) env H (by simp only [nLoops]; omega)]
      simp only [bodyN, restN, if_neg (show ¬ nLoops a + i < nLoops a by omega), Nat.add_sub_cancel_left]
    have ha := iha n (thenK (fun env H => aexec P tb an fuel b env H K) K) env H ho.1 fun i env H hi => by
      rw [hL i env H (by simp only [nLoops]; omega)]
      simp only [bodyN, restN, if_pos hi]
    have e1 : aexec P tb an fuel (.seq a b) env H K = aexec P tb an fuel a env H (thenK (fun env H => aexec P tb an fuel b env H K) K) := by
      show aexec P tb an fuel a env H _ = aexec P tb an fuel a env H _
      congr 1
    rw [e1, ha]
    show aexec P tb an fuel (cutN n a) env H _ = aexec P tb an fuel (cutN n a) env H _
    congr 1
    funext e env H
    cases e with
    | normal => exact hb env H
    | exit id =>
      simp only [cutNK]
      split <;> rfl
    | ret => rfl
  | cond x a b iha ihb =>
    intro n K env H ho hL
    simp only [idsOk, Bool.and_eq_true] at ho
    have hb : ∀ env H, aexec P tb an fuel b env H K = aexec P tb an fuel (cutN (n + nLoops a) b) env H (cutNK L K) := fun env H => ihb _ K env H ho.2 fun i env H hi => by
      rw [Nat.add_assoc, hL (nLoops a + i) env H (by simp only [nLoops]; omega)]
      simp only [bodyN, restN, if_neg (show ¬ nLoops a + i < nLoops a by omega), Nat.add_sub_cancel_left]
    have ha : ∀ env H, aexec P tb an fuel a env H K = aexec P tb an fuel (cutN n a) env H (cutNK L K) := fun env H => iha n K env H ho.1 fun i env H hi => by
      rw [hL i env H (by simp only [nLoops]; omega)]
      simp only [bodyN, restN, if_pos hi]
    simp only [cutN, aexec, ha, hb]
  | block id b ih =>
    intro n K env H ho hL
    simp only [idsOk, Bool.and_eq_true] at ho
    have hid : id < 1000000 := by
      have := ho.1
      unfold Nat.blt at this
      have := Nat.le_of_ble_eq_true this
      omega
    have e1 : ∀ K' : KX, ∀ c, aexec P tb an fuel (.block id c) env H K' = aexec P tb an fuel c env H (blockK id K') := by
      intro K' c
      show aexec P tb an fuel c env H _ = aexec P tb an fuel c env H _
      congr 1
    rw [e1, ih n (blockK id K) env H ho.2 fun i env H hi => by
      rw [hL i env H hi]
      rfl]
    show _ = aexec P tb an fuel (.block id (cutN n b)) env H _
    rw [e1]
    congr 1
    funext e env H
    cases e with
    | normal => rfl
    | ret => rfl
    | exit id' =>
      simp only [cutNK, blockK]
      by_cases hbig : 1000000 ≤ id'
      · have h1 : Nat.ble 1000000 id' = true := ble_iff.2 hbig
        simp only [h1, if_true, if_neg (show ¬ id' = id by omega)]
      · have h1 : ¬ Nat.ble 1000000 id' = true := fun h => hbig (ble_iff.1 h)
        simp only [if_neg h1]
  | loop b ih =>
    intro n K env H ho hL
    have h0 : L n env H = aexec P tb an fuel (.loop b) env H K := hL 0 env H Nat.zero_lt_one
    have h1 : Nat.ble 1000000 (1000000 + n) = true := ble_iff.2 (Nat.le_add_right _ _)
    have h2 : aexec P tb an fuel (cutN n (.loop b)) env H (cutNK L K) = if Nat.ble 1000000 (1000000 + n) then L (1000000 + n - 1000000) env H else K (.exit (1000000 + n)) env H := rfl
    rw [h2, if_pos h1, Nat.add_sub_cancel_left, h0]
  | exit id =>
    intro n K env H ho hL
    simp only [cutN, aexec, cutNK]
    simp only [idsOk] at ho
    have hid : id < 1000000 := by
      unfold Nat.blt at ho
      have := Nat.le_of_ble_eq_true ho
      omega
    rw [if_neg (by rw [ble_iff]; omega)]
  | region id ops draw =>
    intro n K env H ho hL
    simp only [cutN, aexec]
    rfl
  | skip => intro n K env H ho hL; rfl
  | label l => intro n K env H ho hL; rfl
  | ret => intro n K env H ho hL; rfl
  | _ => intro n K env H ho hL; rfl

theorem parts_eq {P : Program} {tb : Handler} {an : Ann} {fuel : Nat} {c : Code} {env : Env} {H : Hp} {K : KX} (h : idsOk c = true) :
    aexec P tb an fuel c env H K = parts P tb an fuel c env H (fun i env H => aexec P tb an fuel (.loop (bodyN i c)) env H (restN P tb an fuel i c K)) K :=
  cut_eq c 0 K env H h fun i env H _ => by rw [Nat.zero_add]

/-- A loop, by its rounds. -/
theorem loop_eq {P : Program} {tb : Handler} {an : Ann} {fuel : Nat} {b : Code} {env : Env} {H : Hp} {K : KX} {hd : Head} (h : (firstRegion b).bind an = some hd) :
    aexec P tb an fuel (.loop b) env H K = headK hd (fun env H => rounds P tb an fuel hd b fuel env H K) env H := by
  rw [← aloop_rounds]
  simp only [aexec, h]
theorem rounds_succ {P : Program} {tb : Handler} {an : Ann} {fuel : Nat} {hd : Head} {b : Code} {k : Nat} {env : Env} {H : Hp} {K : KX} :
    rounds P tb an fuel hd b (k + 1) env H K = aexec P tb an fuel b env H (thenK (headK hd fun env H => rounds P tb an fuel hd b k env H K) K) := rfl

/-- A function, from its slots on. -/
def bodyOf (P : Program) (tb : Handler) (an : Ann) (fuel : Nat) (f : FuncId) (ps : List PV) (H : Hp) : Res := aexec P tb (filt an H.length) fuel (codeOf P f) (envOf P f ps) H (endOf P f (lentOf H))

end Go.Pv
