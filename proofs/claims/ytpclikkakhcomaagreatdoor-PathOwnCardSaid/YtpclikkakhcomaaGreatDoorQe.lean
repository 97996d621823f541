/- Addresses: six; Parse. -/
import Derived.Test.YtpclikkakhcomaaGreatDoorQd

namespace Go.Pv
set_option linter.unusedVariables false
set_option maxRecDepth 100000
set_option maxHeartbeats 200000
open Go Go.Proofs
variable {I : World → Prop} {ng : Nat}

theorem g28d (hg : OnGlobals I ng) (h70 : Cw I ng 132 L70) (h28 : Cw I ng 73 L28d) : Kw I ng B28 := known_add (g72 hg h70) h28
theorem g60d (hg : OnGlobals I ng) (h70 : Cw I ng 132 L70) (h28 : Cw I ng 73 L28d) : Kw I ng B60 := known_add (g28d hg h70 h28) (contract_of (fun _ => none) hg (hok_of (g28d hg h70 h28)) fun cargs rv outs h => by
  unfold L60d at h
  split at h <;> first | (cases h; done) | skip
  rename_i s c
  by_cases hs : s.size ≤ 10000
  · simp only [picked, pickAlt, decide_eq_true hs] at h
    cases h
    refine ⟨1, ?_⟩
    rw [iq60]
    have e : (byteAt (ByteArray.mk (Array.mk [c])) 0).toNat.toUInt8 = c := u8_cast c
    rw [e]
    cases hq : (ByteArray.mk (Array.mk [c])).toList == s.toList with
    | false => rfl
    | true =>
      have := eq_of_beq hq
      rw [toList_data, toList_data] at this
      have e2 : s.data.toList = [c] := this.symm
      rw [e2]
      unfold Lib.indexByte
      simp
      rfl
  · simp only [picked, pickAlt, decide_eq_false hs] at h; cases h)
theorem g73 (hg : OnGlobals I ng) (h70 : Cw I ng 132 L70) (h28 : Cw I ng 73 L28d) : Kw I ng B73 := known_add (g60d hg h70 h28) (contract_of (fun _ => none) hg (hok_of (g60d hg h70 h28)) fun cargs rv outs h => by
  unfold L60d at h
  split at h <;> first | (cases h; done) | skip
  rename_i s c
  by_cases hs : s.size ≤ 10000
  · simp only [picked, pickAlt, decide_eq_true hs] at h
    cases h
    refine ⟨1, ?_⟩
    rw [iq73, decide_eq_true hs, bif_t _ _ rfl]
  · simp only [picked, pickAlt, decide_eq_false hs] at h; cases h)
theorem g59 (hg : OnGlobals I ng) (h70 : Cw I ng 132 L70) (h28 : Cw I ng 73 L28d) : Kw I ng B59 := known_add (g73 hg h70 h28) (contract_of (fun _ => none) hg (hok_of (g73 hg h70 h28)) fun cargs rv outs h => by
  unfold L59d at h
  split at h <;> first | (cases h; done) | skip
  rename_i s c
  by_cases hs : s.size ≤ 10000
  · simp only [picked, pickAlt, decide_eq_true hs] at h
    cases h
    refine ⟨1, ?_⟩
    rw [iq59, decide_eq_true hs, bif_t _ _ rfl, index_mem]
    rfl
  · simp only [picked, pickAlt, decide_eq_false hs] at h; cases h)

/-! ### six -/
theorem grL_len (t : Bool) : ∀ (ps : List (List UInt8)) (r : List Nat), grL t ps = some r → r.length ≤ 4 * ps.length
  | [], r, h => by unfold grL at h; cases h; simp
  | p :: ps, r, h => by
    unfold grL at h
    split at h
    · rename_i hc
      cases h
      simp only [Bool.and_eq_true] at hc
      have := four4 hc.2.2
      simp only [List.length_cons]; omega
    · split at h
      · split at h
        · rename_i r' hr
          cases h
          have := grL_len t ps r' hr
          simp only [List.length_cons]; omega
        · cases h
      · cases h
def grD (t : Bool) (l : List UInt8) : List Nat := (grpL t l).getD []
theorem grD_len (t : Bool) (l : List UInt8) (hl : l.length ≤ 10000) : (grD t l).length ≤ 40004 := by
  unfold grD grpL
  split
  · simp
  · have := split_len 58 l
    cases h : grL t (splitL 58 l) with
    | none => simp
    | some r =>
      have := grL_len t _ r h
      simp only [Option.getD_some]; omega
theorem q58 (h t : List UInt8) (g : Bool) (n : Nat) (L : Env → Hp → Res) (hs : h.length ≤ 10000) :
    aexecB Tryz.prog (call' B59) (filt an58 0) n (prefC 1 (tailC 3 c58)) (mkEnv 68 [(2, .bptr 0 0), (4, .bptr 1 0), (5, .c (.str (mkS h))), (6, .c (.str (mkS t))), (7, .c (.bool g))]) [zA16, zA16] (thenK (headK h58b L) (endOf Tryz.prog 116 [])) =
      L (mkEnv 68 [(2, .bptr 0 0), (4, .bptr 1 0), (6, .c (.str (mkS t))), (7, .c (.bool g)), (8, .rw 2 0), (9, .c (.bool (grpL (!g) h).isSome))]) [zA16, zA16, .row ((grD (!g) h).map byCV) 1 0 false] := by
  rw [iq58]
  have e1 : gOk (mkS h) (!g) = (grL (!g) (splitL 58 h)).isSome := rfl
  have e2 : gB (mkS h) (!g) = ((grL (!g) (splitL 58 h)).getD []).map byCV := rfl
  simp only [sizeM]
  rw [decide_eq_true hs, Bool.true_and, Bool.true_and, e1, e2]
  unfold grD grpL
  cases h with
  | nil => rfl
  | cons a r =>
    have e3 : decide ((a :: r).length = 0) = false := rfl
    have e4 : (a :: r).isEmpty = false := rfl
    rw [e3, e4, bif_f _ _ rfl, if_neg Bool.false_ne_true]
    cases grL (!g) (splitL 58 (a :: r)) with
    | none => rfl
    | some x => rfl
theorem r58 (t : List UInt8) (g a : Bool) (xs : List CV) (n : Nat) (L : Env → Hp → Res) (hs : t.length ≤ 10000) :
    aexecB Tryz.prog (call' B59) (filt an58 0) n (prefC 1 (tailC 4 c58)) (mkEnv 68 [(2, .bptr 0 0), (4, .bptr 1 0), (6, .c (.str (mkS t))), (7, .c (.bool g)), (8, .rw 2 0), (9, .c (.bool a))]) [zA16, zA16, .row xs 1 0 false] (thenK (headK h58c L) (endOf Tryz.prog 116 [])) =
      L (mkEnv 68 [(2, .bptr 0 0), (4, .bptr 1 0), (7, .c (.bool g)), (8, .rw 2 0), (9, .c (.bool a)), (10, .rw 3 0), (11, .c (.bool (grpL true t).isSome))]) [zA16, zA16, .row xs 1 0 false, .row ((grD true t).map byCV) 1 0 false] := by
  rw [ir58]
  have e1 : gOk (mkS t) true = (grL true (splitL 58 t)).isSome := rfl
  have e2 : gB (mkS t) true = ((grL true (splitL 58 t)).getD []).map byCV := rfl
  simp only [sizeM]
  rw [decide_eq_true hs, Bool.true_and, Bool.true_and, e1, e2]
  unfold grD grpL
  cases t with
  | nil => rfl
  | cons a r =>
    have e3 : decide ((a :: r).length = 0) = false := rfl
    have e4 : (a :: r).isEmpty = false := rfl
    rw [e3, e4, bif_f _ _ rfl, if_neg Bool.false_ne_true]
    cases grL true (splitL 58 (a :: r)) with
    | none => rfl
    | some x => rfl
def bad58 : Res := some (.tup [.agg (List.replicate 16 (CV.int .u8 (Int.ofNat 0))), .bool false], [])
theorem s58 (g a b : Bool) (xs ys : List CV) (n : Nat) (L : Env → Hp → Res) (hx : xs.length ≤ 50000) (hy : ys.length ≤ 50000) :
    aexecB Tryz.prog (call' B59) (filt an58 0) n (prefC 1 (tailC 5 c58)) (mkEnv 68 [(2, .bptr 0 0), (4, .bptr 1 0), (7, .c (.bool g)), (8, .rw 2 0), (9, .c (.bool a)), (10, .rw 3 0), (11, .c (.bool b))]) [zA16, zA16, .row xs 1 0 false, .row ys 1 0 false] (thenK (headK h58d L) (endOf Tryz.prog 116 [])) =
      if a = true ∧ b = true ∧ (g = false → xs.length = 16) ∧ (g = true → xs.length + ys.length ≤ 16) then L (mkEnv 68 [(2, .bptr 0 0), (4, .bptr 1 0), (8, .rw 2 0), (10, .rw 3 0)]) [zA16, zA16, .row xs 1 0 false, .row ys 1 0 false] else bad58 := by
  rw [is58]
  have hw : IntKind.i64.wrap (((xs.length : Nat) : Int) + ((ys.length : Nat) : Int)) = ((xs.length + ys.length : Nat) : Int) := by
    rw [wrap_id (by omega) (by omega)]; omega
  rw [hw]
  cases a with
  | false => rw [if_neg (by simp)]; rfl
  | true =>
    cases b with
    | false => rw [if_neg (by simp)]; rfl
    | true =>
      cases g with
      | false =>
        by_cases h : xs.length = 16
        · have c : (((xs.length : Nat) : Int) != 16) = false := by rw [h]; rfl
          rw [c, if_pos ⟨rfl, rfl, fun _ => h, (fun q => by cases q)⟩]; rfl
        · have c : (((xs.length : Nat) : Int) != 16) = true := by rw [bne_iff_ne]; omega
          rw [c, if_neg (fun q => h (q.2.2.1 rfl))]; rfl
      | true =>
        by_cases h : xs.length + ys.length ≤ 16
        · have c : decide (((xs.length + ys.length : Nat) : Int) > 16) = false := decide_eq_false (by omega)
          rw [c, if_pos ⟨rfl, rfl, (fun q => by cases q), fun _ => h⟩]; rfl
        · have c : decide (((xs.length + ys.length : Nat) : Int) > 16) = true := decide_eq_true (by omega)
          rw [c, if_neg (fun q => h (q.2.2.2 rfl))]; rfl
theorem copy16 (z : CV) (xs ys : List CV) (h : xs.length + ys.length ≤ 16) : setRange (setRange (List.replicate 16 z) 0 xs) (16 - ys.length) ys = xs ++ List.replicate (16 - xs.length - ys.length) z ++ ys := by
  have e1 : setRange (List.replicate 16 z) 0 xs = xs ++ List.replicate (16 - xs.length) z := by
    unfold setRange
    rw [List.take_zero, List.nil_append, List.drop_replicate, Nat.zero_add]
  rw [e1]
  unfold setRange
  have e2 : (xs ++ List.replicate (16 - xs.length) z).take (16 - ys.length) = xs ++ List.replicate (16 - xs.length - ys.length) z := by
    rw [List.take_append, List.take_of_length_le (by omega), List.take_replicate]
    congr 2; omega
  have e3 : (xs ++ List.replicate (16 - xs.length) z).drop (16 - ys.length + ys.length) = [] := List.drop_of_length_le (by rw [List.length_append, List.length_replicate]; omega)
  rw [e2, e3, List.append_nil]
theorem flat_by : ∀ r : List Nat, elemCells' (r.map byCV) = r.map byCV
  | [] => rfl
  | a :: r => by
    have ih := flat_by r
    unfold elemCells' at *
    rw [List.map_cons, List.flatMap_cons, ih]; rfl
theorem t58 (a b : List Nat) (n : Nat) (h : a.length + b.length ≤ 16) :
    aexecB Tryz.prog (call' B59) (filt an58 0) n (tailC 6 c58) (mkEnv 68 [(2, .bptr 0 0), (4, .bptr 1 0), (8, .rw 2 0), (10, .rw 3 0)]) [zA16, zA16, .row (a.map byCV) 1 0 false, .row (b.map byCV) 1 0 false] (endOf Tryz.prog 116 []) =
      some (.tup [.agg ((a ++ List.replicate (16 - a.length - b.length) 0 ++ b).map byCV), .bool true], []) := by
  rw [it58]
  have hw : IntKind.i64.wrap (16 - (((b.map byCV).length : Nat) : Int)) = ((16 - b.length : Nat) : Int) := by
    rw [List.length_map, wrap_id (by omega) (by omega)]; omega
  have hcl : ∀ l : List CV, (CV.agg l).cl = l := fun _ => rfl
  have e1 : (a.map byCV).take 16 = a.map byCV := List.take_of_length_le (by simp; omega)
  have e2 : (b.map byCV).take (16 - (16 - b.length)) = b.map byCV := List.take_of_length_le (by simp; omega)
  have e3 : ([CV.int IntKind.u8 0, CV.int IntKind.u8 0, CV.int IntKind.u8 0, CV.int IntKind.u8 0, CV.int IntKind.u8 0, CV.int IntKind.u8 0, CV.int IntKind.u8 0, CV.int IntKind.u8 0, CV.int IntKind.u8 0, CV.int IntKind.u8 0, CV.int IntKind.u8 0, CV.int IntKind.u8 0, CV.int IntKind.u8 0, CV.int IntKind.u8 0, CV.int IntKind.u8 0, CV.int IntKind.u8 0] : List CV) = List.replicate 16 (CV.int IntKind.u8 0) := rfl
  rw [hw]
  simp only [hcl, natM, Nat.zero_add]
  rw [e1, e2, flat_by, flat_by, e3]
  have hbl : 16 - b.length = 16 - (b.map byCV).length := by rw [List.length_map]
  rw [hbl, copy16 _ _ _ (by simp; omega)]
  have e4 : (setRange (List.replicate 16 (CV.int IntKind.u8 0)) 0 (a.map byCV)).length = 16 := by
    unfold setRange
    rw [List.take_zero, List.nil_append, List.drop_replicate, List.length_append, List.length_replicate, List.length_map]; omega
  have e5 : (a.map byCV ++ List.replicate (16 - (a.map byCV).length - (b.map byCV).length) (CV.int IntKind.u8 0) ++ b.map byCV) = (a ++ List.replicate (16 - a.length - b.length) 0 ++ b).map byCV := by
    simp only [List.map_append, List.map_replicate, List.length_map]
    rfl
  rw [e5, e4]
  have e6 : ((a ++ List.replicate (16 - a.length - b.length) 0 ++ b).map byCV).length = 16 := by
    simp only [List.length_map, List.length_append, List.length_replicate]; omega
  rw [e6, List.length_map]
  rw [bif_t _ _ (decide_eq_true (by omega)), bif_t _ _ (decide_eq_true (by omega)), bif_t _ _ (decide_eq_true (by omega))]
  rfl

theorem cutDD_sz : ∀ (l h t : List UInt8), cutDD l = some (h, t) → h.length ≤ l.length ∧ t.length ≤ l.length
  | [], h, t, e => by cases e
  | a :: l, h, t, e => by
    unfold cutDD at e
    split at e
    · cases e; simp; omega
    · split at e
      · rename_i h' r hr
        cases e
        have := cutDD_sz l h' t hr
        simp only [List.length_cons]; omega
      · cases e
def v16 (f : Nat → Int) : List CV := [.int .u8 (f 0), .int .u8 (f 1), .int .u8 (f 2), .int .u8 (f 3), .int .u8 (f 4), .int .u8 (f 5), .int .u8 (f 6), .int .u8 (f 7), .int .u8 (f 8), .int .u8 (f 9), .int .u8 (f 10), .int .u8 (f 11), .int .u8 (f 12), .int .u8 (f 13), .int .u8 (f 14), .int .u8 (f 15)]
theorem list16 (r : List Nat) (h : r.length = 16) : v16 (fun i => ((r.getD i 0 : Nat) : Int)) = r.map byCV := by
  match r, h with
  | [_, _, _, _, _, _, _, _, _, _, _, _, _, _, _, _], _ => rfl
theorem six_len {l : List UInt8} {r : List Nat} (h : sixL l = some r) : r.length = 16 := by
  unfold sixL at h
  split at h
  · split at h
    · split at h
      · cases h; assumption
      · cases h
    · cases h
  · split at h
    · split at h
      · cases h
        simp only [List.length_append, List.length_replicate]; omega
      · cases h
    · cases h
theorem sp58a : spine 3 c58 = true := by kernel_rfl
theorem ha58a : headAt (filt an58 0) (tailC 3 c58) = some h58a := by kernel_rfl
theorem sp58b : spine 1 (tailC 3 c58) = true := by kernel_rfl
theorem ha58b : headAt (filt an58 0) (tailC 1 (tailC 3 c58)) = some h58b := by kernel_rfl
theorem fo58b : tailC 1 (tailC 3 c58) = tailC 4 c58 := eq_of_heq (heq_of_eq (by kernel_rfl))
theorem sp58c : spine 1 (tailC 4 c58) = true := by kernel_rfl
theorem ha58c : headAt (filt an58 0) (tailC 1 (tailC 4 c58)) = some h58c := by kernel_rfl
theorem fo58c : tailC 1 (tailC 4 c58) = tailC 5 c58 := eq_of_heq (heq_of_eq (by kernel_rfl))
theorem sp58d : spine 1 (tailC 5 c58) = true := by kernel_rfl
theorem ha58d : headAt (filt an58 0) (tailC 1 (tailC 5 c58)) = some h58d := by kernel_rfl
theorem fo58d : tailC 1 (tailC 5 c58) = tailC 6 c58 := eq_of_heq (heq_of_eq (by kernel_rfl))
theorem u58 (h t : List UInt8) (g : Bool) (n : Nat) (hs : h.length ≤ 10000) (ht : t.length ≤ 10000) (hg : g = false → t = []) :
    aexecB Tryz.prog (call' B59) (filt an58 0) n (tailC 3 c58) (mkEnv 68 [(2, .bptr 0 0), (4, .bptr 1 0), (5, .c (.str (mkS h))), (6, .c (.str (mkS t))), (7, .c (.bool g))]) [zA16, zA16] (endOf Tryz.prog 116 []) =
      if (grpL (!g) h).isSome = true ∧ (grpL true t).isSome = true ∧ (g = false → (grD (!g) h).length = 16) ∧ (g = true → (grD (!g) h).length + (grD true t).length ≤ 16) then
        some (.tup [.agg ((grD (!g) h ++ List.replicate (16 - (grD (!g) h).length - (grD true t).length) 0 ++ grD true t).map byCV), .bool true], []) else bad58 := by
  rw [seg_b (k := 1) (by decide) sp58b ha58b, q58 h t g n _ hs, fo58b]
  rw [seg_b (k := 1) (by decide) sp58c ha58c, r58 t g _ _ n _ ht, fo58c]
  rw [seg_b (k := 1) (by decide) sp58d ha58d, s58 g _ _ _ _ n _ (by rw [List.length_map]; have := grD_len (!g) h hs; omega) (by rw [List.length_map]; have := grD_len true t ht; omega), fo58d]
  simp only [List.length_map]
  split
  · rename_i hc
    refine t58 _ _ n ?_
    cases g with
    | true => exact hc.2.2.2 rfl
    | false =>
      have h1 := hc.2.2.1 rfl
      have h2 := hg rfl
      subst h2
      have : grD true [] = [] := rfl
      rw [this]
      have h1' : (grD (!false) h).length = 16 := h1
      simp only [List.length_nil]; omega
  · rfl
def out58 : Option (List Nat) → Res
  | some r => some (.tup [.agg (r.map byCV), .bool true], [])
  | none => bad58
def mid58 : Bool → Option (List Nat) → Option (List Nat) → Option (List Nat)
  | false, some a, some b => if a.length = 16 then some (a ++ List.replicate (16 - a.length - b.length) 0 ++ b) else none
  | true, some a, some b => if a.length + b.length ≤ 16 then some (a ++ List.replicate (16 - a.length - b.length) 0 ++ b) else none
  | _, _, _ => none
theorem fin58 (g : Bool) (o q : Option (List Nat)) : (if o.isSome = true ∧ q.isSome = true ∧ (g = false → (o.getD []).length = 16) ∧ (g = true → (o.getD []).length + (q.getD []).length ≤ 16) then
        some (CV.tup [.agg ((o.getD [] ++ List.replicate (16 - (o.getD []).length - (q.getD []).length) 0 ++ q.getD []).map byCV), .bool true], ([] : List CV)) else bad58) = out58 (mid58 g o q) := by
  cases o with
  | none => rw [if_neg (by simp)]; cases g <;> rfl
  | some a =>
    cases q with
    | none => rw [if_neg (by simp)]; cases g <;> rfl
    | some b =>
      simp only [Option.getD_some]
      cases g with
      | false =>
        have e : mid58 false (some a) (some b) = if a.length = 16 then some (a ++ List.replicate (16 - a.length - b.length) 0 ++ b) else none := rfl
        rw [e]
        by_cases ha : a.length = 16
        · rw [if_pos ⟨rfl, rfl, fun _ => ha, (fun q => by cases q)⟩, if_pos ha]; rfl
        · rw [if_neg (fun q => ha (q.2.2.1 rfl)), if_neg ha]; rfl
      | true =>
        have e : mid58 true (some a) (some b) = if a.length + b.length ≤ 16 then some (a ++ List.replicate (16 - a.length - b.length) 0 ++ b) else none := rfl
        rw [e]
        by_cases ha : a.length + b.length ≤ 16
        · rw [if_pos ⟨rfl, rfl, (fun q => by cases q), fun _ => ha⟩, if_pos ha]; rfl
        · rw [if_neg (fun q => ha (q.2.2.2 rfl)), if_neg ha]; rfl
theorem g58 (hg : OnGlobals I ng) (h70 : Cw I ng 132 L70) (h28 : Cw I ng 73 L28d) : Kw I ng B58 := known_add (g59 hg h70 h28) (contract_of an58 hg (hok_of (g59 hg h70 h28)) fun cargs rv outs h => by
  unfold L58 at h
  split at h <;> first | (cases h; done) | skip
  rename_i s
  by_cases hs : s.size ≤ 10000
  · simp only [picked, pickAlt, decide_eq_true hs] at h
    cases h
    refine ⟨1, ?_⟩
    rw [abody_eq rfl (by kernel_rfl)]
    show aexec Tryz.prog (call' B59) (filt an58 0) 1 c58 (envOf Tryz.prog 116 [.c (.str s)]) [] (endOf Tryz.prog 116 []) = _
    rw [seg_a (k := 3) (by decide) sp58a ha58a, ip58, decide_eq_true hs, bif_t _ _ rfl]
    obtain ⟨l, rfl⟩ : ∃ l, s = mkS l := ⟨_, (mkS_bl s).symm⟩
    rw [sizeM] at hs
    have goal : ∀ (o : Option (List Nat)), o = sixL l → out58 o = some (.tup [.agg (v16 (s6b (mkS l))), .bool (s6 (mkS l))], []) := by
      intro o ho
      have e1 : s6 (mkS l) = (sixL l).isSome := rfl
      have e2 : s6b (mkS l) = fun i => ((((sixL l).getD []).getD i 0 : Nat) : Int) := rfl
      rw [e1, e2, ← ho]
      cases o with
      | none => rfl
      | some r =>
        have := list16 r (six_len ho.symm)
        simp only [Option.getD_some, this]
        rfl
    refine Eq.trans ?_ (goal (sixL l) rfl)
    cases hc : cutDD l with
    | none =>
      have e1 : ddH (mkS l) = mkS l := by unfold ddH; rw [mkS_data, hc]
      have e2 : ddT (mkS l) = mkS [] := by unfold ddT; rw [mkS_data, hc]
      have e3 : ddG (mkS l) = false := by unfold ddG; rw [mkS_data, hc]; rfl
      rw [e1, e2, e3]
      refine (u58 l [] false 1 hs (by simp) (fun _ => rfl)).trans ?_
      unfold grD
      rw [fin58]
      congr 1
      have e5 : grpL true [] = some [] := rfl
      rw [e5]
      unfold sixL
      rw [hc]
      show mid58 false (grpL true l) (some []) = match grpL true l with
        | some a => if a.length = 16 then some a else none
        | none => none
      cases grpL true l with
      | none => rfl
      | some a =>
        show (if a.length = 16 then some (a ++ List.replicate (16 - a.length - 0) 0 ++ []) else none) = if a.length = 16 then some a else none
        by_cases ha : a.length = 16
        · rw [if_pos ha, if_pos ha, ha]; simp
        · rw [if_neg ha, if_neg ha]
    | some ht =>
      obtain ⟨hd, tl⟩ := ht
      have e1 : ddH (mkS l) = mkS hd := by unfold ddH; rw [mkS_data, hc]
      have e2 : ddT (mkS l) = mkS tl := by unfold ddT; rw [mkS_data, hc]
      have e3 : ddG (mkS l) = true := by unfold ddG; rw [mkS_data, hc]; rfl
      have hsz := cutDD_sz l hd tl hc
      rw [e1, e2, e3]
      refine (u58 hd tl true 1 (by omega) (by omega) (fun h => by cases h)).trans ?_
      unfold grD
      rw [fin58]
      congr 1
      unfold sixL
      rw [hc]
      show mid58 true (grpL false hd) (grpL true tl) = match grpL false hd, grpL true tl with
        | some a, some b => if a.length + b.length ≤ 16 then some (a ++ List.replicate (16 - a.length - b.length) 0 ++ b) else none
        | _, _ => none
      cases grpL false hd with
      | none => rfl
      | some a =>
        cases grpL true tl with
        | none => rfl
        | some b => rfl
  · simp only [picked, pickAlt, decide_eq_false hs] at h; cases h)

/-! ### Parse -/
theorem h47 (hg : OnGlobals I ng) (h70 : Cw I ng 132 L70) (h28 : Cw I ng 73 L28d) : Cw I ng 98 L47 := contract_of (fun _ => none) hg (hok_of (g58 hg h70 h28)) fun cargs rv outs h => by
  unfold L47 at h
  split at h <;> first | (cases h; done) | skip
  rename_i s
  by_cases hs : s.size ≤ 3000
  · refine ⟨1, ?_⟩
    rw [ir47]
    simp only [picked, pickAlt, decide_eq_true hs, Bool.true_and] at h
    rw [decide_eq_true (show s.size ≤ 10000 by omega)]
    unfold ip6 ip4 at h
    by_cases h64 : s.size ≤ 64
    · rw [bif_f _ _ (decide_eq_false (by omega))]
      rw [decide_eq_true h64] at h
      simp only [Bool.true_and, bif_t _ _ (Eq.refl true)] at h ⊢
      cases hf : f4 s with
      | true =>
        rw [hf] at h
        cases h
        unfold ipAgg ipB
        simp only [hf, if_true]
        rfl
      | false =>
        rw [hf] at h
        simp only [Bool.not_false, Bool.true_and] at h
        rw [bif_f _ _ rfl]
        cases h6 : s6 s with
        | false => rw [h6] at h; cases h; rfl
        | true =>
          cases h58 : hasB s 58 with
          | false => rw [h6, h58] at h; cases h; rfl
          | true =>
            rw [h6, h58] at h
            cases h
            unfold ipAgg ipB
            simp only [hf, Bool.false_eq_true, if_false]
            rfl
    · rw [bif_t _ _ (decide_eq_true (by omega))]
      rw [decide_eq_false h64] at h
      cases h
      rfl
  · simp only [picked, pickAlt, decide_eq_false hs, Bool.false_and] at h; cases h

end Go.Pv

/- Addresses: the document's groups. -/
namespace Go.Pv
set_option linter.unusedVariables false
set_option maxRecDepth 100000
set_option maxHeartbeats 400000
open Go Go.Proofs
variable {I : World → Prop} {ng : Nat}

theorem bT {α : Type} (x y : Option α) : bif' true x y = x := bif_t x y (Eq.refl true)
theorem bF {α : Type} (x y : Option α) : bif' false x y = y := bif_f x y (Eq.refl false)
theorem f4b_lt (s : ByteArray) (i : Nat) : 0 ≤ f4b s i ∧ f4b s i < 256 := by
  have key : ∀ (ps : List (List UInt8)) (i : Nat), (goF ps).1.getD i 0 < 256 := by
    intro ps
    induction ps with
    | nil => intro i; simp [goF]
    | cons p ps ih =>
      intro i
      unfold goF
      split
      · rename_i ho
        cases i with
        | zero => exact oct_lt ho
        | succ i => exact ih i
      · simp
  unfold f4b fourP
  split
  · have := key (splitL 46 s.data.toList) i; omega
  · simp
theorem f4r_b (s : ByteArray) : (f4 s = true → 0 ≤ f4r s ∧ f4r s < 4294967296) ∧ (f4 s = false → f4r s = -1) := by
  have h0 := f4b_lt s 0
  have h1 := f4b_lt s 1
  have h2 := f4b_lt s 2
  have h3 := f4b_lt s 3
  unfold f4r
  constructor
  · intro h
    rw [h, if_pos rfl]
    omega
  · intro h
    rw [h, if_neg Bool.false_ne_true]
theorem fold16 : ∀ (l : List UInt8) (v : Nat), (l.all fun c => decide (hexv c < 16)) = true → l.foldl (fun n c => n * 16 + hexv c) v < (v + 1) * 16 ^ l.length
  | [], v, _ => by simp
  | c :: t, v, h => by
    rw [List.all_cons, Bool.and_eq_true, decide_eq_true_eq] at h
    rw [List.foldl_cons]
    have ih := fold16 t (v * 16 + hexv c) h.2
    have e : 16 ^ (c :: t).length = 16 * 16 ^ t.length := by rw [List.length_cons, Nat.pow_succ, Nat.mul_comm]
    rw [e, ← Nat.mul_assoc]
    refine Nat.lt_of_lt_of_le ih (Nat.mul_le_mul_right _ ?_)
    omega
theorem num16 {p : List UInt8} (h : numOk 16 p = true) (hl : p.length ≤ 4) : numL 16 p < 65536 := by
  unfold numOk at h
  rw [Bool.and_eq_true] at h
  have := fold16 p 0 h.2
  have h2 : 16 ^ p.length ≤ 16 ^ 4 := Nat.pow_le_pow_right (by omega) hl
  unfold numL
  omega
theorem isE (p : List UInt8) : ((mkS p).toList == (ByteArray.mk #[]).toList) = p.isEmpty := by
  rw [toList_data, toList_data, mkS_data]
  cases p <;> rfl
def res65 (ys : List CV) : Option (List Int) → Res
  | some r => some (.tup [.sl true false 1 (ys ++ r.map intCV), .bool true], [])
  | none => some (.tup [.nilsl, .bool false], [])
def E65 (gap : Bool) (k : Nat) : Env := mkEnv 107 [(4, .rw 1 0), (5, .rw 0 0), (6, .c (.bool gap)), (7, .c (.int .i64 (k : Int)))]
noncomputable abbrev R65 (n j : Nat) (env : Env) (H : Hp) : Res := rounds Tryz.prog (call' B58) (filt aL65 0) n hL65 (bodyN 0 (codeOf Tryz.prog 92)) j env H (restN Tryz.prog (call' B58) (filt aL65 0) n 0 (codeOf Tryz.prog 92) (endOf Tryz.prog 92 []))
theorem refG_e (all : List (List UInt8)) (i : Nat) (gap : Bool) (ps : List (List UInt8)) : refG all i gap ([] :: ps) = if i = 0 ∨ ps = [] then
        if all.length < 3 ∨ (i = 0 ∧ all.getD 1 [] ≠ []) ∨ (0 < i ∧ all.getD (all.length - 2) [] ≠ []) then none else refG all (i + 1) gap ps
      else if gap then none else match refG all (i + 1) true ps with
        | some r => some (-1 :: r)
        | none => none := by
  conv => lhs; unfold refG
  rw [if_pos rfl]
  all_goals rfl
theorem refG_n (all : List (List UInt8)) (i : Nat) (gap : Bool) (p : List UInt8) (hp : p ≠ []) (ps : List (List UInt8)) : refG all i gap (p :: ps) = if (fourP (splitL 46 p)).2 = true ∧ ps = [] then some [f4r (mkS p) / 65536, f4r (mkS p) % 65536]
    else if numOk 16 p = true ∧ p.length ≤ 4 then match refG all (i + 1) gap ps with
      | some r => some (((numL 16 p : Nat) : Int) :: r)
      | none => none
    else none := by
  conv => lhs; unfold refG
  rw [if_neg hp]
  all_goals rfl
theorem res_cons (ys : List CV) (x : Int) (o : Option (List Int)) : res65 (ys ++ [CV.int .i64 x]) o = res65 ys (match o with
    | some r => some (x :: r)
    | none => none) := by
  cases o with
  | none => rfl
  | some r =>
    unfold res65
    simp only [List.append_assoc]
    rfl
theorem lo65 (n : Nat) (ps : List (List UInt8)) (hl : ps.length ≤ 20000) (hsz : ∀ p ∈ ps, p.length ≤ 10000) : ∀ (j k : Nat) (gap : Bool) (ys : List CV), ps.length < j + k → k ≤ ps.length → ys.length ≤ 2 * k →
    R65 n j (E65 gap k) [.row ys 1 0 false, .row (ps.map strCV) 1 0 false] = res65 ys (refG ps k gap (ps.drop k))
  | 0, k, gap, ys, hj, hk, hd => by omega
  | j + 1, k, gap, ys, hj, hk, hd => by
    unfold R65
    rw [E65, rounds_succ, ic65]
    simp only [natM, List.length_map, rep1, rep2, List.length_cons, List.length_nil]
    by_cases h1 : k < ps.length
    · have hp := xs_get ps k h1
      have hdr := ps_drop h1
      have hsz1 := hsz _ (ps_mem h1)
      have b1 : decide ((k : Int) < ((ps.length : Nat) : Int)) = true := decide_eq_true (by omega)
      have b2 : decide ((0 : Int) ≤ (k : Int)) = true := decide_eq_true (by omega)
      have b3 : decide (0 < 1) = true := rfl
      have b5 : decide (k < ps.length) = true := decide_eq_true h1
      have hw1 : IntKind.i64.wrap (((ps.length : Nat) : Int) - 1) = ((ps.length - 1 : Nat) : Int) := by rw [wrap_id (by omega) (by omega)]; omega
      have hlast : (((k : Nat) : Int) == ((ps.length - 1 : Nat) : Int)) = (ps.drop (k + 1)).isEmpty := by
        rw [Bool.eq_iff_iff, beq_iff_eq, List.isEmpty_iff, List.drop_eq_nil_iff]; omega
      have ih : ∀ gap ys', ys'.length ≤ 2 * (k + 1) → R65 n j (E65 gap (k + 1)) [.row ys' 1 0 false, .row (ps.map strCV) 1 0 false] = res65 ys' (refG ps (k + 1) gap (ps.drop (k + 1))) := fun gap ys' h => lo65 n ps hl hsz j (k + 1) gap ys' (by omega) (by omega) h
      simp only [hp, el_get, el_len, el_okc, el_str, sizeM, isE]
      rw [b1, b2, b3, b5, hw1, hlast, wrp1 (i := k) (by omega), hdr]
      generalize ps.getD k [] = p at *
      have b4 : decide (p.length ≤ 10000) = true := decide_eq_true hsz1
      rw [b4]
      simp only [Bool.and_self, bT]
      by_cases hpe : p = []
      · subst hpe
        rw [refG_e]
        have e0 : ([] : List UInt8).isEmpty = true := rfl
        rw [e0, bT]
        by_cases hk0 : k = 0
        · have c0 : (((k : Nat) : Int) == 0) = true := by rw [hk0]; rfl
          have c1 : decide ((k : Int) > 0) = false := decide_eq_false (by omega)
          rw [c0, c1, if_pos (.inl hk0)]
          simp only [bT, bF]
          by_cases h3 : ps.length < 3
          · rw [decide_eq_true (show ((ps.length : Nat) : Int) < 3 by omega), bT, if_pos (.inl h3)]; rfl
          · have hq := xs_get ps 1 (by omega)
            simp only [hq, el_get, el_len, el_okc, el_str, sizeM, isE]
            rw [decide_eq_false (show ¬ ((ps.length : Nat) : Int) < 3 by omega), decide_eq_true (show (1 : Int) < ((ps.length : Nat) : Int) by omega), decide_eq_true (show 1 < ps.length by omega), decide_eq_true (show 0 < 1 by omega)]
            simp only [bT, bF]
            cases hq1 : (ps.getD 1 []).isEmpty with
            | true =>
              have hn : ps.getD 1 [] = [] := List.isEmpty_iff.1 hq1
              rw [if_neg (by rintro (h | h | h); · omega
                             · exact h.2 hn
                             · omega)]
              exact ih gap ys (by omega)
            | false =>
              have hn : ps.getD 1 [] ≠ [] := fun h => by rw [h] at hq1; cases hq1
              rw [if_pos (.inr (.inl ⟨hk0, hn⟩))]
              rfl
        · have c0 : (((k : Nat) : Int) == 0) = false := by
            refine Bool.eq_false_iff.2 fun h => hk0 ?_
            have := eq_of_beq h; omega
          have c1 : decide ((k : Int) > 0) = true := decide_eq_true (by omega)
          rw [c0, c1]
          simp only [bT, bF]
          cases hla : (ps.drop (k + 1)).isEmpty with
          | false =>
            have hne : ps.drop (k + 1) ≠ [] := fun h => by rw [h] at hla; cases hla
            rw [if_neg (by rintro (h | h); · exact hk0 h
                           · exact hne h)]
            have e1 : (!false) = true := rfl
            rw [e1, bT]
            cases gap with
            | true => rw [bT]; rfl
            | false =>
              rw [bF, decide_eq_true (show (ys.length + 1) * 8 ≤ 70368744177664 by omega), bT]
              refine Eq.trans (ih true _ (by rw [List.length_append]; simp; omega)) ?_
              rw [res_cons]
              rfl
          | true =>
            have hne : ps.drop (k + 1) = [] := List.isEmpty_iff.1 hla
            rw [if_pos (.inr hne)]
            have e1 : (!true) = false := rfl
            rw [e1, bF]
            by_cases h3 : ps.length < 3
            · rw [decide_eq_true (show ((ps.length : Nat) : Int) < 3 by omega), bT, if_pos (.inl h3)]; rfl
            · have hw2 : IntKind.i64.wrap (((ps.length : Nat) : Int) - 2) = ((ps.length - 2 : Nat) : Int) := by rw [wrap_id (by omega) (by omega)]; omega
              rw [hw2]
              simp only [natM]
              have hq := xs_get ps (ps.length - 2) (by omega)
              simp only [hq, el_get, el_len, el_okc, el_str, sizeM, isE]
              rw [decide_eq_false (show ¬ ((ps.length : Nat) : Int) < 3 by omega), decide_eq_true (show (0 : Int) ≤ ((ps.length - 2 : Nat) : Int) by omega), decide_eq_true (show ((ps.length - 2 : Nat) : Int) < ((ps.length : Nat) : Int) by omega), decide_eq_true (show ps.length - 2 < ps.length by omega), decide_eq_true (show 0 < 1 by omega)]
              simp only [bT, bF]
              cases hq1 : (ps.getD (ps.length - 2) []).isEmpty with
              | true =>
                have hn : ps.getD (ps.length - 2) [] = [] := List.isEmpty_iff.1 hq1
                rw [if_neg (by rintro (h | h | h); · omega
                               · omega
                               · exact h.2 hn)]
                exact ih gap ys (by omega)
              | false =>
                have hn : ps.getD (ps.length - 2) [] ≠ [] := fun h => by rw [h] at hq1; cases hq1
                rw [if_pos (.inr (.inr ⟨by omega, hn⟩))]
                rfl
      · rw [refG_n _ _ _ _ hpe]
        have e0 : p.isEmpty = false := by cases p with | nil => exact (hpe rfl).elim | cons a t => rfl
        rw [e0, bF]
        have e1 : nR (mkS p) 16 = if numOk 16 p then ((min (numL 16 p) 4294967296 : Nat) : Int) else -1 := rfl
        have e2 : f4 (mkS p) = (fourP (splitL 46 p)).2 := rfl
        have hf := f4r_b (mkS p)
        rw [e2] at hf
        rw [e1]
        have grp : (bif' (decide ((if numOk 16 p = true then ((min (numL 16 p) 4294967296 : Nat) : Int) else -1) < 0)) (some (CV.tup [CV.nilsl, CV.bool false], ([] : List CV))) (bif' (decide (((p.length : Nat) : Int) > 4)) (some (CV.tup [CV.nilsl, CV.bool false], [])) (bif' (decide ((ys.length + (0 + 1)) * 8 ≤ 70368744177664)) (R65 n j (E65 gap (k + 1)) [.row (ys ++ [CV.int .i64 (if numOk 16 p = true then ((min (numL 16 p) 4294967296 : Nat) : Int) else -1)]) 1 0 false, .row (ps.map strCV) 1 0 false]) none))) =
            res65 ys (if numOk 16 p = true ∧ p.length ≤ 4 then match refG ps (k + 1) gap (ps.drop (k + 1)) with
              | some r => some (((numL 16 p : Nat) : Int) :: r)
              | none => none
            else none) := by
          cases hn : numOk 16 p with
          | false =>
            rw [if_neg Bool.false_ne_true, decide_eq_true (by decide), bT, if_neg (fun q => Bool.false_ne_true q.1)]; rfl
          | true =>
            rw [if_pos rfl, decide_eq_false (by omega), bF]
            by_cases h4 : p.length ≤ 4
            · have hlt := num16 hn h4
              rw [decide_eq_false (by omega), bF, decide_eq_true (by omega), bT, if_pos ⟨rfl, h4⟩]
              have e3 : min (numL 16 p) 4294967296 = numL 16 p := by omega
              rw [e3]
              refine Eq.trans (ih gap _ (by rw [List.length_append]; simp; omega)) ?_
              rw [res_cons]
            · rw [decide_eq_true (by omega), bT, if_neg (fun q => h4 q.2)]; rfl
        cases h4 : (fourP (splitL 46 p)).2 with
        | false =>
          rw [h4] at hf
          have hv := hf.2 rfl
          rw [hv, decide_eq_false (by omega), bF, if_neg (show ¬ (false = true ∧ ps.drop (k + 1) = []) from fun q => Bool.false_ne_true q.1)]
          exact grp
        | true =>
          rw [h4] at hf
          obtain ⟨v0, v1⟩ := hf.1 rfl
          rw [decide_eq_true (show f4r (mkS p) ≥ 0 from v0), bT]
          cases hla : (ps.drop (k + 1)).isEmpty with
          | false =>
            have hne : ps.drop (k + 1) ≠ [] := fun h => by rw [h] at hla; cases hla
            rw [bF, if_neg (show ¬ (true = true ∧ ps.drop (k + 1) = []) from fun q => hne q.2)]
            exact grp
          | true =>
            have hne : ps.drop (k + 1) = [] := List.isEmpty_iff.1 hla
            rw [bT, if_pos ⟨rfl, hne⟩, decide_eq_true (by omega), bT]
            have d1 : (f4r (mkS p)).tdiv 65536 = f4r (mkS p) / 65536 := Int.tdiv_eq_ediv_of_nonneg v0
            have d2 : (f4r (mkS p)).tmod 65536 = f4r (mkS p) % 65536 := Int.tmod_eq_emod_of_nonneg v0
            rw [d1, d2, wrap_id (n := f4r (mkS p) / 65536) (by omega) (by omega)]
            refine Eq.trans (ih gap _ (by rw [List.length_append]; simp; omega)) ?_
            rw [hne]
            have e3 : refG ps (k + 1) gap [] = some [] := by unfold refG; rfl
            rw [e3]
            show some (CV.tup [CV.sl true false 1 (ys ++ [_, _] ++ ([] : List Int).map intCV), .bool true], ([] : List CV)) = _
            rw [List.map_nil, List.append_nil]
            rfl
    · rw [decide_eq_false (show ¬ (k : Int) < ((ps.length : Nat) : Int) by omega), bF, List.drop_of_length_le (by omega)]
      have e3 : refG ps k gap [] = some [] := by unfold refG; rfl
      rw [e3]
      show _ = some (CV.tup [CV.sl true false 1 (ys ++ ([] : List Int).map intCV), .bool true], ([] : List CV))
      rw [List.map_nil, List.append_nil]
theorem g65 (hg : OnGlobals I ng) (h70 : Cw I ng 132 L70) (h28 : Cw I ng 73 L28d) : Kw I ng B65 := known_add (g58 hg h70 h28) (contract_of aL65 hg (hok_of (g58 hg h70 h28)) fun cargs rv outs h => by
  unfold L65 at h
  split at h <;> first | (cases h; done) | skip
  rename_i s
  refine ⟨22000, loop1 rfl (by kernel_rfl) (by kernel_rfl) (by kernel_rfl) (hd := hL65) (by kernel_rfl) ?_⟩
  by_cases hs : s.size ≤ 10000
  · refine (ib65 s 22000 (R65 22000 22000)).trans ?_
    obtain ⟨l, rfl⟩ : ∃ l, s = mkS l := ⟨_, (mkS_bl s).symm⟩
    rw [sizeM] at hs
    have e2 : (spS (mkS l) (Nat.toUInt8 58)) = (splitL 58 l).map strCV := rfl
    rw [sizeM, decide_eq_true hs, e2]
    simp only [Bool.and_self, bT]
    simp only [picked, pickAlt, sizeM, decide_eq_true hs, Bool.true_and] at h
    have hsz : ∀ p ∈ splitL 58 l, p.length ≤ 10000 := fun p hp => by
      have := split_sz 58 _ p hp; omega
    have hl := split_len 58 l
    refine Eq.trans (lo65 22000 (splitL 58 l) (by omega) hsz 22000 0 false [] (by omega) (by omega) (by simp)) ?_
    rw [List.drop_zero]
    unfold gROk rB at h
    simp only [dataM] at h
    cases hq : refG (splitL 58 l) 0 false (splitL 58 l) with
    | none => rw [hq] at h; cases h; rfl
    | some r => rw [hq] at h; cases h; rfl
  · simp only [picked, pickAlt, decide_eq_false hs, Bool.false_and] at h; cases h)

end Go.Pv

/- Addresses: the document's Parse: trees. -/
namespace Go.Pv
set_option linter.unusedVariables false
set_option maxRecDepth 100000
open Go Go.Proofs

def L51 : Fn1 := fun x => match x with
  | [.str s] => some [(decide (s.size ≤ 3000) && ip6 s, .tup [ipAgg true s, .bool true], []), (decide (s.size ≤ 3000) && ip4 s, .tup [ipAgg false s, .bool true], []), (decide (s.size ≤ 3000), .tup [ipZero, .bool false], [])]
  | _ => none
def kIp : Nat := 17 + 4294967296 * (80 + 1)
abbrev zIp : AO := .box (.c ipZero) kIp
noncomputable def c51 : Code := codeOf Tryz.prog 67
noncomputable def q51 : Code := prefC 2 (tailC 4 c51)
def h51a : Head := ⟨[2, 5], [(5, 1)], 1⟩
def hL51a : Head := ⟨[2, 5, 7, 8, 9], [(5, 1)], 1⟩
def h51b : Head := ⟨[2, 5, 7, 8], [(5, 1)], 1⟩
def h51c : Head := ⟨[2, 5, 7, 10, 11], [(5, 1)], 3⟩
def hL51b : Head := ⟨[2, 5, 7, 10, 11, 12], [(5, 1)], 3⟩
def an51 : Ann := fun i => if Nat.beq i 500007 then some h51a else if Nat.beq i 9 then some hL51a else if Nat.beq i 500014 then some h51b else if Nat.beq i 500018 then some h51c else if Nat.beq i 19 then some hL51b else none
theorem ip51 (s : ByteArray) (n : Nat) (L : Env → Hp → Res) : aexec Tryz.prog (call' B65) (filt an51 0) n (prefC 4 c51) (envOf Tryz.prog 67 [.c (.str s)]) [] (thenK (headK h51a L) (endOf Tryz.prog 67 [])) =
 bif' (decide (s.size ≤ 10000)) (bif' (decide (f4r s ≥ 0)) (bif' (decide (0 ≤ IntKind.u64.wrap (f4r s)) && decide (IntKind.u64.wrap (f4r s) < 18446744073709551616)) (some (CV.tup [CV.agg [CV.bool false, CV.int IntKind.u8 (Int.ofNat 0), CV.int IntKind.u8 (Int.ofNat 0), CV.int IntKind.u8 (Int.ofNat 0), CV.int IntKind.u8 (Int.ofNat 0), CV.int IntKind.u8 (Int.ofNat 0), CV.int IntKind.u8 (Int.ofNat 0), CV.int IntKind.u8 (Int.ofNat 0), CV.int IntKind.u8 (Int.ofNat 0), CV.int IntKind.u8 (Int.ofNat 0), CV.int IntKind.u8 (Int.ofNat 0), CV.int IntKind.u8 (Int.ofNat 0), CV.int IntKind.u8 (Int.ofNat 0), CV.int IntKind.u8 (IntKind.u64.wrap (f4r s) / 16777216 % 256), CV.int IntKind.u8 (IntKind.u64.wrap (f4r s) / 65536 % 256), CV.int IntKind.u8 (IntKind.u64.wrap (f4r s) / 256 % 256), CV.int IntKind.u8 (IntKind.u64.wrap (f4r s) % 256)], CV.bool true], [])) none) (bif' (decide (s.size ≤ 10000) && gROk s) (bif' (decide (s.size ≤ 10000) && true) (bif' (decide ((↑(spS s (Nat.toUInt8 58)).length : Int) < 3)) (some (CV.tup [CV.agg [CV.bool false, CV.int IntKind.u8 (Int.ofNat 0), CV.int IntKind.u8 (Int.ofNat 0), CV.int IntKind.u8 (Int.ofNat 0), CV.int IntKind.u8 (Int.ofNat 0), CV.int IntKind.u8 (Int.ofNat 0), CV.int IntKind.u8 (Int.ofNat 0), CV.int IntKind.u8 (Int.ofNat 0), CV.int IntKind.u8 (Int.ofNat 0), CV.int IntKind.u8 (Int.ofNat 0), CV.int IntKind.u8 (Int.ofNat 0), CV.int IntKind.u8 (Int.ofNat 0), CV.int IntKind.u8 (Int.ofNat 0), CV.int IntKind.u8 (Int.ofNat 0), CV.int IntKind.u8 (Int.ofNat 0), CV.int IntKind.u8 (Int.ofNat 0), CV.int IntKind.u8 (Int.ofNat 0)], CV.bool false], [])) (L (mkEnv 97 [(2, PV.bptr 0 0), (5, PV.rw 1 0)]) [AO.box (PV.c (CV.agg [CV.bool false, CV.int IntKind.u8 (Int.ofNat 0), CV.int IntKind.u8 (Int.ofNat 0), CV.int IntKind.u8 (Int.ofNat 0), CV.int IntKind.u8 (Int.ofNat 0), CV.int IntKind.u8 (Int.ofNat 0), CV.int IntKind.u8 (Int.ofNat 0), CV.int IntKind.u8 (Int.ofNat 0), CV.int IntKind.u8 (Int.ofNat 0), CV.int IntKind.u8 (Int.ofNat 0), CV.int IntKind.u8 (Int.ofNat 0), CV.int IntKind.u8 (Int.ofNat 0), CV.int IntKind.u8 (Int.ofNat 0), CV.int IntKind.u8 (Int.ofNat 0), CV.int IntKind.u8 (Int.ofNat 0), CV.int IntKind.u8 (Int.ofNat 0), CV.int IntKind.u8 (Int.ofNat 0)])) kIp, AO.row (rB s) 1 0 false])) none) (bif' (decide (s.size ≤ 10000)) (some (CV.tup [CV.agg [CV.bool false, CV.int IntKind.u8 (Int.ofNat 0), CV.int IntKind.u8 (Int.ofNat 0), CV.int IntKind.u8 (Int.ofNat 0), CV.int IntKind.u8 (Int.ofNat 0), CV.int IntKind.u8 (Int.ofNat 0), CV.int IntKind.u8 (Int.ofNat 0), CV.int IntKind.u8 (Int.ofNat 0), CV.int IntKind.u8 (Int.ofNat 0), CV.int IntKind.u8 (Int.ofNat 0), CV.int IntKind.u8 (Int.ofNat 0), CV.int IntKind.u8 (Int.ofNat 0), CV.int IntKind.u8 (Int.ofNat 0), CV.int IntKind.u8 (Int.ofNat 0), CV.int IntKind.u8 (Int.ofNat 0), CV.int IntKind.u8 (Int.ofNat 0), CV.int IntKind.u8 (Int.ofNat 0)], CV.bool false], [])) none))) none := by kernel_rfl
theorem iq51 (xs : List CV) (n : Nat) (L R : Env → Hp → Res) : partsB Tryz.prog (call' B65) (filt an51 0) n q51 (mkEnv 97 [(2, .bptr 0 0), (5, .rw 1 0)]) [zIp, .row xs 1 0 false] (fun _ => headK hL51a R) (thenK (headK h51b L) (endOf Tryz.prog 67 [])) =
 R (mkEnv 97 [(2, PV.bptr 0 0), (5, PV.rw 1 0), (7, PV.c (CV.int IntKind.i64 (Int.ofNat 0))), (8, PV.c (CV.bool false)), (9, PV.c (CV.int IntKind.i64 (Int.ofNat 0)))]) [AO.box (PV.c (CV.agg [CV.bool false, CV.int IntKind.u8 (Int.ofNat 0), CV.int IntKind.u8 (Int.ofNat 0), CV.int IntKind.u8 (Int.ofNat 0), CV.int IntKind.u8 (Int.ofNat 0), CV.int IntKind.u8 (Int.ofNat 0), CV.int IntKind.u8 (Int.ofNat 0), CV.int IntKind.u8 (Int.ofNat 0), CV.int IntKind.u8 (Int.ofNat 0), CV.int IntKind.u8 (Int.ofNat 0), CV.int IntKind.u8 (Int.ofNat 0), CV.int IntKind.u8 (Int.ofNat 0), CV.int IntKind.u8 (Int.ofNat 0), CV.int IntKind.u8 (Int.ofNat 0), CV.int IntKind.u8 (Int.ofNat 0), CV.int IntKind.u8 (Int.ofNat 0), CV.int IntKind.u8 (Int.ofNat 0)])) kIp, AO.row xs 1 0 false] := by kernel_rfl
theorem ic51 (xs : List CV) (m i : Int) (gap : Bool) (n : Nat) (L R : Env → Hp → Res) : aexec Tryz.prog (call' B65) (filt an51 0) n (bodyN 0 q51) (mkEnv 97 [(2, .bptr 0 0), (5, .rw 1 0), (7, .c (.int .i64 m)), (8, .c (.bool gap)), (9, .c (.int .i64 i))]) [zIp, .row xs 1 0 false] (thenK (headK hL51a R) (restN Tryz.prog (call' B65) (filt an51 0) n 0 q51 (thenK (headK h51b L) (endOf Tryz.prog 67 [])))) =
 bif' (decide (i < (↑xs.length : Int))) (bif' (decide (0 ≤ i)) (bif' (decide (i < (↑xs.length : Int))) (bif' (decide (i.toNat < xs.length)) (bif' (decide (0 < (xs.getD i.toNat CV.nilptr).cl.length)) (bif' (okc (CV.int IntKind.i64 0) ((xs.getD i.toNat CV.nilptr).cl.getD 0 CV.nilptr)) (bif' (decide (((xs.getD i.toNat CV.nilptr).cl.getD 0 CV.nilptr).toInt < 0)) (R (mkEnv 97 [(2, PV.bptr 0 0), (5, PV.rw 1 0), (7, PV.c (CV.int IntKind.i64 m)), (8, PV.c (CV.bool true)), (9, PV.c (CV.int IntKind.i64 (IntKind.i64.wrap (i + 1))))]) [AO.box (PV.c (CV.agg [CV.bool false, CV.int IntKind.u8 (Int.ofNat 0), CV.int IntKind.u8 (Int.ofNat 0), CV.int IntKind.u8 (Int.ofNat 0), CV.int IntKind.u8 (Int.ofNat 0), CV.int IntKind.u8 (Int.ofNat 0), CV.int IntKind.u8 (Int.ofNat 0), CV.int IntKind.u8 (Int.ofNat 0), CV.int IntKind.u8 (Int.ofNat 0), CV.int IntKind.u8 (Int.ofNat 0), CV.int IntKind.u8 (Int.ofNat 0), CV.int IntKind.u8 (Int.ofNat 0), CV.int IntKind.u8 (Int.ofNat 0), CV.int IntKind.u8 (Int.ofNat 0), CV.int IntKind.u8 (Int.ofNat 0), CV.int IntKind.u8 (Int.ofNat 0), CV.int IntKind.u8 (Int.ofNat 0)])) kIp, AO.row xs 1 0 false]) (R (mkEnv 97 [(2, PV.bptr 0 0), (5, PV.rw 1 0), (7, PV.c (CV.int IntKind.i64 (IntKind.i64.wrap (m + 1)))), (8, PV.c (CV.bool gap)), (9, PV.c (CV.int IntKind.i64 (IntKind.i64.wrap (i + 1))))]) [AO.box (PV.c (CV.agg [CV.bool false, CV.int IntKind.u8 (Int.ofNat 0), CV.int IntKind.u8 (Int.ofNat 0), CV.int IntKind.u8 (Int.ofNat 0), CV.int IntKind.u8 (Int.ofNat 0), CV.int IntKind.u8 (Int.ofNat 0), CV.int IntKind.u8 (Int.ofNat 0), CV.int IntKind.u8 (Int.ofNat 0), CV.int IntKind.u8 (Int.ofNat 0), CV.int IntKind.u8 (Int.ofNat 0), CV.int IntKind.u8 (Int.ofNat 0), CV.int IntKind.u8 (Int.ofNat 0), CV.int IntKind.u8 (Int.ofNat 0), CV.int IntKind.u8 (Int.ofNat 0), CV.int IntKind.u8 (Int.ofNat 0), CV.int IntKind.u8 (Int.ofNat 0), CV.int IntKind.u8 (Int.ofNat 0)])) kIp, AO.row xs 1 0 false])) none) none) none) none) none) (L (mkEnv 97 [(2, PV.bptr 0 0), (5, PV.rw 1 0), (7, PV.c (CV.int IntKind.i64 m)), (8, PV.c (CV.bool gap))]) [AO.box (PV.c (CV.agg [CV.bool false, CV.int IntKind.u8 (Int.ofNat 0), CV.int IntKind.u8 (Int.ofNat 0), CV.int IntKind.u8 (Int.ofNat 0), CV.int IntKind.u8 (Int.ofNat 0), CV.int IntKind.u8 (Int.ofNat 0), CV.int IntKind.u8 (Int.ofNat 0), CV.int IntKind.u8 (Int.ofNat 0), CV.int IntKind.u8 (Int.ofNat 0), CV.int IntKind.u8 (Int.ofNat 0), CV.int IntKind.u8 (Int.ofNat 0), CV.int IntKind.u8 (Int.ofNat 0), CV.int IntKind.u8 (Int.ofNat 0), CV.int IntKind.u8 (Int.ofNat 0), CV.int IntKind.u8 (Int.ofNat 0), CV.int IntKind.u8 (Int.ofNat 0), CV.int IntKind.u8 (Int.ofNat 0)])) kIp, AO.row xs 1 0 false]) := by kernel_rfl
theorem ir51 (xs : List CV) (m : Int) (gap : Bool) (n : Nat) (L : Env → Hp → Res) : aexecB Tryz.prog (call' B65) (filt an51 0) n (prefC 3 (tailC 6 c51)) (mkEnv 97 [(2, .bptr 0 0), (5, .rw 1 0), (7, .c (.int .i64 m)), (8, .c (.bool gap))]) [zIp, .row xs 1 0 false] (thenK (headK h51c L) (endOf Tryz.prog 67 [])) =
 bif' (decide (m > 8)) (some (CV.tup [CV.agg [CV.bool false, CV.int IntKind.u8 (Int.ofNat 0), CV.int IntKind.u8 (Int.ofNat 0), CV.int IntKind.u8 (Int.ofNat 0), CV.int IntKind.u8 (Int.ofNat 0), CV.int IntKind.u8 (Int.ofNat 0), CV.int IntKind.u8 (Int.ofNat 0), CV.int IntKind.u8 (Int.ofNat 0), CV.int IntKind.u8 (Int.ofNat 0), CV.int IntKind.u8 (Int.ofNat 0), CV.int IntKind.u8 (Int.ofNat 0), CV.int IntKind.u8 (Int.ofNat 0), CV.int IntKind.u8 (Int.ofNat 0), CV.int IntKind.u8 (Int.ofNat 0), CV.int IntKind.u8 (Int.ofNat 0), CV.int IntKind.u8 (Int.ofNat 0), CV.int IntKind.u8 (Int.ofNat 0)], CV.bool false], [])) (bif' (!gap) (bif' (m != 8) (some (CV.tup [CV.agg [CV.bool false, CV.int IntKind.u8 (Int.ofNat 0), CV.int IntKind.u8 (Int.ofNat 0), CV.int IntKind.u8 (Int.ofNat 0), CV.int IntKind.u8 (Int.ofNat 0), CV.int IntKind.u8 (Int.ofNat 0), CV.int IntKind.u8 (Int.ofNat 0), CV.int IntKind.u8 (Int.ofNat 0), CV.int IntKind.u8 (Int.ofNat 0), CV.int IntKind.u8 (Int.ofNat 0), CV.int IntKind.u8 (Int.ofNat 0), CV.int IntKind.u8 (Int.ofNat 0), CV.int IntKind.u8 (Int.ofNat 0), CV.int IntKind.u8 (Int.ofNat 0), CV.int IntKind.u8 (Int.ofNat 0), CV.int IntKind.u8 (Int.ofNat 0), CV.int IntKind.u8 (Int.ofNat 0)], CV.bool false], [])) (L (mkEnv 97 [(2, PV.bptr 0 0), (5, PV.rw 3 0), (7, PV.c (CV.int IntKind.i64 m)), (10, PV.bptr 2 0), (11, PV.c (CV.int IntKind.i64 (Int.ofNat 0)))]) [AO.box (PV.c (CV.agg [CV.bool false, CV.int IntKind.u8 (Int.ofNat 0), CV.int IntKind.u8 (Int.ofNat 0), CV.int IntKind.u8 (Int.ofNat 0), CV.int IntKind.u8 (Int.ofNat 0), CV.int IntKind.u8 (Int.ofNat 0), CV.int IntKind.u8 (Int.ofNat 0), CV.int IntKind.u8 (Int.ofNat 0), CV.int IntKind.u8 (Int.ofNat 0), CV.int IntKind.u8 (Int.ofNat 0), CV.int IntKind.u8 (Int.ofNat 0), CV.int IntKind.u8 (Int.ofNat 0), CV.int IntKind.u8 (Int.ofNat 0), CV.int IntKind.u8 (Int.ofNat 0), CV.int IntKind.u8 (Int.ofNat 0), CV.int IntKind.u8 (Int.ofNat 0), CV.int IntKind.u8 (Int.ofNat 0)])) kIp, AO.dead, AO.box (PV.c (CV.agg [CV.bool true, CV.int IntKind.u8 (Int.ofNat 0), CV.int IntKind.u8 (Int.ofNat 0), CV.int IntKind.u8 (Int.ofNat 0), CV.int IntKind.u8 (Int.ofNat 0), CV.int IntKind.u8 (Int.ofNat 0), CV.int IntKind.u8 (Int.ofNat 0), CV.int IntKind.u8 (Int.ofNat 0), CV.int IntKind.u8 (Int.ofNat 0), CV.int IntKind.u8 (Int.ofNat 0), CV.int IntKind.u8 (Int.ofNat 0), CV.int IntKind.u8 (Int.ofNat 0), CV.int IntKind.u8 (Int.ofNat 0), CV.int IntKind.u8 (Int.ofNat 0), CV.int IntKind.u8 (Int.ofNat 0), CV.int IntKind.u8 (Int.ofNat 0), CV.int IntKind.u8 (Int.ofNat 0)])) kIp, AO.row xs 1 0 false])) (L (mkEnv 97 [(2, PV.bptr 0 0), (5, PV.rw 3 0), (7, PV.c (CV.int IntKind.i64 m)), (10, PV.bptr 2 0), (11, PV.c (CV.int IntKind.i64 (Int.ofNat 0)))]) [AO.box (PV.c (CV.agg [CV.bool false, CV.int IntKind.u8 (Int.ofNat 0), CV.int IntKind.u8 (Int.ofNat 0), CV.int IntKind.u8 (Int.ofNat 0), CV.int IntKind.u8 (Int.ofNat 0), CV.int IntKind.u8 (Int.ofNat 0), CV.int IntKind.u8 (Int.ofNat 0), CV.int IntKind.u8 (Int.ofNat 0), CV.int IntKind.u8 (Int.ofNat 0), CV.int IntKind.u8 (Int.ofNat 0), CV.int IntKind.u8 (Int.ofNat 0), CV.int IntKind.u8 (Int.ofNat 0), CV.int IntKind.u8 (Int.ofNat 0), CV.int IntKind.u8 (Int.ofNat 0), CV.int IntKind.u8 (Int.ofNat 0), CV.int IntKind.u8 (Int.ofNat 0), CV.int IntKind.u8 (Int.ofNat 0)])) kIp, AO.dead, AO.box (PV.c (CV.agg [CV.bool true, CV.int IntKind.u8 (Int.ofNat 0), CV.int IntKind.u8 (Int.ofNat 0), CV.int IntKind.u8 (Int.ofNat 0), CV.int IntKind.u8 (Int.ofNat 0), CV.int IntKind.u8 (Int.ofNat 0), CV.int IntKind.u8 (Int.ofNat 0), CV.int IntKind.u8 (Int.ofNat 0), CV.int IntKind.u8 (Int.ofNat 0), CV.int IntKind.u8 (Int.ofNat 0), CV.int IntKind.u8 (Int.ofNat 0), CV.int IntKind.u8 (Int.ofNat 0), CV.int IntKind.u8 (Int.ofNat 0), CV.int IntKind.u8 (Int.ofNat 0), CV.int IntKind.u8 (Int.ofNat 0), CV.int IntKind.u8 (Int.ofNat 0), CV.int IntKind.u8 (Int.ofNat 0)])) kIp, AO.row xs 1 0 false])) := by kernel_rfl
theorem is51 (xs cs : List CV) (m a : Int) (n : Nat) (R : Env → Hp → Res) : partsB Tryz.prog (call' B65) (filt an51 0) n (tailC 9 c51) (mkEnv 97 [(2, .bptr 0 0), (5, .rw 3 0), (7, .c (.int .i64 m)), (10, .bptr 2 0), (11, .c (.int .i64 a))]) [zIp, .dead, .box (.c (.agg cs)) kIp, .row xs 1 0 false] (fun _ => headK hL51b R) (endOf Tryz.prog 67 []) =
 R (mkEnv 97 [(2, PV.bptr 0 0), (5, PV.rw 3 0), (7, PV.c (CV.int IntKind.i64 m)), (10, PV.bptr 2 0), (11, PV.c (CV.int IntKind.i64 a)), (12, PV.c (CV.int IntKind.i64 (Int.ofNat 0)))]) [AO.box (PV.c (CV.agg [CV.bool false, CV.int IntKind.u8 (Int.ofNat 0), CV.int IntKind.u8 (Int.ofNat 0), CV.int IntKind.u8 (Int.ofNat 0), CV.int IntKind.u8 (Int.ofNat 0), CV.int IntKind.u8 (Int.ofNat 0), CV.int IntKind.u8 (Int.ofNat 0), CV.int IntKind.u8 (Int.ofNat 0), CV.int IntKind.u8 (Int.ofNat 0), CV.int IntKind.u8 (Int.ofNat 0), CV.int IntKind.u8 (Int.ofNat 0), CV.int IntKind.u8 (Int.ofNat 0), CV.int IntKind.u8 (Int.ofNat 0), CV.int IntKind.u8 (Int.ofNat 0), CV.int IntKind.u8 (Int.ofNat 0), CV.int IntKind.u8 (Int.ofNat 0), CV.int IntKind.u8 (Int.ofNat 0)])) kIp, AO.dead, AO.box (PV.c (CV.agg cs)) kIp, AO.row xs 1 0 false] := by kernel_rfl
theorem id51 (xs cs : List CV) (m a i : Int) (n : Nat) (R : Env → Hp → Res) : aexec Tryz.prog (call' B65) (filt an51 0) n (bodyN 0 (tailC 9 c51)) (mkEnv 97 [(2, .bptr 0 0), (5, .rw 3 0), (7, .c (.int .i64 m)), (10, .bptr 2 0), (11, .c (.int .i64 a)), (12, .c (.int .i64 i))]) [zIp, .dead, .box (.c (.agg cs)) kIp, .row xs 1 0 false] (thenK (headK hL51b R) (restN Tryz.prog (call' B65) (filt an51 0) n 0 (tailC 9 c51) (endOf Tryz.prog 67 []))) =
 bif' (decide (i < (↑xs.length : Int))) (bif' (decide (0 ≤ i)) (bif' (decide (i < (↑xs.length : Int))) (bif' (decide (i.toNat < xs.length)) (bif' (decide (0 < (xs.getD i.toNat CV.nilptr).cl.length)) (bif' (okc (CV.int IntKind.i64 0) ((xs.getD i.toNat CV.nilptr).cl.getD 0 CV.nilptr)) (bif' (decide (((xs.getD i.toNat CV.nilptr).cl.getD 0 CV.nilptr).toInt < 0)) (R (mkEnv 97 [(2, PV.bptr 0 0), (5, PV.rw 3 0), (7, PV.c (CV.int IntKind.i64 m)), (10, PV.bptr 2 0), (11, PV.c (CV.int IntKind.i64 (IntKind.i64.wrap (a + IntKind.i64.wrap (2 * IntKind.i64.wrap (8 - m)))))), (12, PV.c (CV.int IntKind.i64 (IntKind.i64.wrap (i + 1))))]) [AO.box (PV.c (CV.agg [CV.bool false, CV.int IntKind.u8 (Int.ofNat 0), CV.int IntKind.u8 (Int.ofNat 0), CV.int IntKind.u8 (Int.ofNat 0), CV.int IntKind.u8 (Int.ofNat 0), CV.int IntKind.u8 (Int.ofNat 0), CV.int IntKind.u8 (Int.ofNat 0), CV.int IntKind.u8 (Int.ofNat 0), CV.int IntKind.u8 (Int.ofNat 0), CV.int IntKind.u8 (Int.ofNat 0), CV.int IntKind.u8 (Int.ofNat 0), CV.int IntKind.u8 (Int.ofNat 0), CV.int IntKind.u8 (Int.ofNat 0), CV.int IntKind.u8 (Int.ofNat 0), CV.int IntKind.u8 (Int.ofNat 0), CV.int IntKind.u8 (Int.ofNat 0), CV.int IntKind.u8 (Int.ofNat 0)])) kIp, AO.dead, AO.box (PV.c (CV.agg cs)) kIp, AO.row xs 1 0 false]) (bif' (decide (0 ≤ i)) (bif' (decide (i < (↑xs.length : Int))) (bif' (decide (i.toNat < xs.length)) (bif' (decide (0 < (xs.getD i.toNat CV.nilptr).cl.length)) (bif' (okc (CV.int IntKind.i64 0) ((xs.getD i.toNat CV.nilptr).cl.getD 0 CV.nilptr)) (bif' (decide (0 ≤ a)) (bif' (decide (a < (↑16 : Int))) (bif' (decide (1 + a.toNat * 1 + 1 ≤ 17)) (bif' (decide (0 ≤ i)) (bif' (decide (i < (↑xs.length : Int))) (bif' (decide (i.toNat < xs.length)) (bif' (decide (0 < (xs.getD i.toNat CV.nilptr).cl.length)) (bif' (okc (CV.int IntKind.i64 0) ((xs.getD i.toNat CV.nilptr).cl.getD 0 CV.nilptr)) (bif' (decide (0 ≤ IntKind.i64.wrap (a + 1))) (bif' (decide (IntKind.i64.wrap (a + 1) < (↑16 : Int))) (bif' (decide (1 + (IntKind.i64.wrap (a + 1)).toNat * 1 + 1 ≤ 17)) (R (mkEnv 97 [(2, PV.bptr 0 0), (5, PV.rw 3 0), (7, PV.c (CV.int IntKind.i64 m)), (10, PV.bptr 2 0), (11, PV.c (CV.int IntKind.i64 (IntKind.i64.wrap (a + 2)))), (12, PV.c (CV.int IntKind.i64 (IntKind.i64.wrap (i + 1))))]) [AO.box (PV.c (CV.agg [CV.bool false, CV.int IntKind.u8 (Int.ofNat 0), CV.int IntKind.u8 (Int.ofNat 0), CV.int IntKind.u8 (Int.ofNat 0), CV.int IntKind.u8 (Int.ofNat 0), CV.int IntKind.u8 (Int.ofNat 0), CV.int IntKind.u8 (Int.ofNat 0), CV.int IntKind.u8 (Int.ofNat 0), CV.int IntKind.u8 (Int.ofNat 0), CV.int IntKind.u8 (Int.ofNat 0), CV.int IntKind.u8 (Int.ofNat 0), CV.int IntKind.u8 (Int.ofNat 0), CV.int IntKind.u8 (Int.ofNat 0), CV.int IntKind.u8 (Int.ofNat 0), CV.int IntKind.u8 (Int.ofNat 0), CV.int IntKind.u8 (Int.ofNat 0), CV.int IntKind.u8 (Int.ofNat 0)])) kIp, AO.dead, AO.box (PV.c (CV.agg (setRange (CV.agg (setRange (CV.agg cs).cl (1 + a.toNat * 1) (CV.int IntKind.u8 (IntKind.u8.wrap (IntKind.i64.wrap (((xs.getD i.toNat CV.nilptr).cl.getD 0 CV.nilptr).toInt.tdiv 256)))).cl)).cl (1 + (IntKind.i64.wrap (a + 1)).toNat * 1) (CV.int IntKind.u8 (IntKind.u8.wrap (((xs.getD i.toNat CV.nilptr).cl.getD 0 CV.nilptr).toInt.tmod 256))).cl))) kIp, AO.row xs 1 0 false]) none) none) none) none) none) none) none) none) none) none) none) none) none) none) none) none)) none) none) none) none) none) (bif' (17 == (CV.agg cs).cl.length) (some (CV.tup [CV.agg cs, CV.bool true], [])) none) := by kernel_rfl

end Go.Pv

/- Addresses: the document's Parse, walked. -/
namespace Go.Pv
set_option linter.unusedVariables false
set_option maxRecDepth 100000
set_option maxHeartbeats 400000
open Go Go.Proofs
variable {I : World → Prop} {ng : Nat}

theorem ei_get (x : Int) : (CV.int .i64 x).cl.getD 0 CV.nilptr = CV.int .i64 x := by cases x <;> rfl
theorem ei_len (x : Int) : (CV.int .i64 x).cl.length = 1 := by cases x <;> rfl
theorem ei_okc (z x : Int) : okc (CV.int .i64 z) (CV.int .i64 x) = true := by cases x <;> rfl
theorem ei_int (x : Int) : (CV.int .i64 x).toInt = x := by cases x <;> rfl
theorem gs_get (g : List Int) (k : Nat) (h : k < g.length) : (g.map intCV).getD k CV.nilptr = CV.int .i64 (g.getD k 0) := by
  simp [List.getD_eq_getElem?_getD, h, intCV]
theorem gs_drop {g : List Int} {k : Nat} (h : k < g.length) : g.drop k = g.getD k 0 :: g.drop (k + 1) := by
  rw [List.drop_eq_getElem_cons h]
  simp [List.getD_eq_getElem?_getD, h]
theorem gs_mem {g : List Int} {k : Nat} (h : k < g.length) : g.getD k 0 ∈ g := by
  simp [List.getD_eq_getElem?_getD, h]
def cntP (g : List Int) : Nat := g.foldr (fun x n => if x < 0 then n else n + 1) 0
def negP (g : List Int) : Bool := g.any fun x => decide (x < 0)
theorem cntP_le : ∀ g : List Int, cntP g ≤ g.length
  | [] => Nat.le_refl _
  | x :: g => by
    have := cntP_le g
    show (if x < 0 then cntP g else cntP g + 1) ≤ _
    simp only [List.length_cons]
    split <;> omega
noncomputable abbrev R51 (n j : Nat) (L : Env → Hp → Res) (env : Env) (H : Hp) : Res := rounds Tryz.prog (call' B65) (filt an51 0) n hL51a (bodyN 0 q51) j env H (restN Tryz.prog (call' B65) (filt an51 0) n 0 q51 (thenK (headK h51b L) (endOf Tryz.prog 67 [])))
theorem lo51 (n : Nat) (g : List Int) (hl : g.length ≤ 40000) (L : Env → Hp → Res) : ∀ (j k m : Nat) (gap : Bool), g.length < j + k → k ≤ g.length → m ≤ k →
    R51 n j L (mkEnv 97 [(2, .bptr 0 0), (5, .rw 1 0), (7, .c (.int .i64 (m : Int))), (8, .c (.bool gap)), (9, .c (.int .i64 (k : Int)))]) [zIp, .row (g.map intCV) 1 0 false] =
      L (mkEnv 97 [(2, .bptr 0 0), (5, .rw 1 0), (7, .c (.int .i64 ((m + cntP (g.drop k) : Nat) : Int))), (8, .c (.bool (gap || negP (g.drop k))))]) [zIp, .row (g.map intCV) 1 0 false]
  | 0, k, m, gap, hj, hk, hm => by omega
  | j + 1, k, m, gap, hj, hk, hm => by
    unfold R51
    rw [rounds_succ, ic51]
    simp only [natM, List.length_map]
    by_cases h1 : k < g.length
    · have hp := gs_get g k h1
      simp only [hp, ei_get, ei_len, ei_okc, ei_int]
      rw [decide_eq_true (show (k : Int) < ((g.length : Nat) : Int) by omega), decide_eq_true (show (0 : Int) ≤ (k : Int) by omega), decide_eq_true h1, decide_eq_true (show 0 < 1 by omega), wrp1 (i := k) (by omega), wrp1 (i := m) (by omega), gs_drop h1]
      simp only [bT]
      generalize g.getD k 0 = x
      have e1 : cntP (x :: g.drop (k + 1)) = if x < 0 then cntP (g.drop (k + 1)) else cntP (g.drop (k + 1)) + 1 := rfl
      have e2 : negP (x :: g.drop (k + 1)) = (decide (x < 0) || negP (g.drop (k + 1))) := rfl
      rw [e1, e2]
      by_cases hx : x < 0
      · rw [decide_eq_true hx, bT, if_pos hx]
        refine Eq.trans (lo51 n g hl L j (k + 1) m true (by omega) (by omega) (by omega)) ?_
        rw [Bool.true_or, Bool.or_true]
      · rw [decide_eq_false hx, bF, if_neg hx]
        refine Eq.trans (lo51 n g hl L j (k + 1) (m + 1) gap (by omega) (by omega) (by omega)) ?_
        rw [Bool.false_or, show m + 1 + cntP (g.drop (k + 1)) = m + (cntP (g.drop (k + 1)) + 1) by omega]
    · rw [decide_eq_false (show ¬ (k : Int) < ((g.length : Nat) : Int) by omega), bF, List.drop_of_length_le (by omega)]
      have e1 : cntP [] = 0 := rfl
      have e2 : negP [] = false := rfl
      rw [e1, e2, Bool.or_false, Nat.add_zero]
      rfl

/-! ### Its bytes -/
def gBy (m : Nat) (x : Int) : List Nat := if x < 0 then List.replicate (2 * (8 - m)) 0 else [x.toNat / 256, x.toNat % 256]
def refB (m : Nat) (g : List Int) : List Nat := g.flatMap (gBy m)
theorem refB_c (m : Nat) (x : Int) (g : List Int) : refB m (x :: g) = gBy m x ++ refB m g := by unfold refB; rw [List.flatMap_cons]
noncomputable abbrev S51 (n j : Nat) (env : Env) (H : Hp) : Res := rounds Tryz.prog (call' B65) (filt an51 0) n hL51b (bodyN 0 (tailC 9 c51)) j env H (restN Tryz.prog (call' B65) (filt an51 0) n 0 (tailC 9 c51) (endOf Tryz.prog 67 []))
theorem set_two (A : List CV) (m : Nat) (b z x y : CV) : setRange (setRange (b :: (A ++ List.replicate (m + 2) z)) (1 + A.length) [x]) (1 + (A.length + 1)) [y] = b :: (A ++ [x, y] ++ List.replicate m z) := by
  have e1 : b :: (A ++ List.replicate (m + 2) z) = (b :: A) ++ List.replicate (m + 1 + 1) z := rfl
  have e2 : 1 + A.length = (b :: A).length := by simp; omega
  rw [e1, e2, set_pad]
  have e3 : 1 + (A.length + 1) = (b :: A ++ [x]).length := by simp; omega
  rw [e3, set_pad]
  simp
def cs51 (dn : List Nat) : List CV := .bool true :: (dn.map byCV ++ List.replicate (16 - dn.length) (CV.int .u8 (Int.ofNat 0)))
theorem lo51b (n : Nat) (g : List Int) (m : Nat) (hm : m ≤ 8) (hl : g.length ≤ 40000) (hb : ∀ x ∈ g, x < 65536) : ∀ (j k : Nat) (dn : List Nat), g.length < j + k → k ≤ g.length → dn.length + (refB m (g.drop k)).length ≤ 16 →
    S51 n j (mkEnv 97 [(2, .bptr 0 0), (5, .rw 3 0), (7, .c (.int .i64 (m : Int))), (10, .bptr 2 0), (11, .c (.int .i64 ((dn.length : Nat) : Int))), (12, .c (.int .i64 (k : Int)))]) [zIp, .dead, .box (.c (.agg (cs51 dn))) kIp, .row (g.map intCV) 1 0 false] =
      some (.tup [.agg (cs51 (dn ++ refB m (g.drop k))), .bool true], [])
  | 0, k, dn, hj, hk, hd => by omega
  | j + 1, k, dn, hj, hk, hd => by
    have hcl : ∀ l : List CV, (CV.agg l).cl = l := fun _ => rfl
    have hcs : (cs51 dn).length = 17 := by unfold cs51; simp; omega
    unfold S51
    rw [rounds_succ, id51]
    simp only [natM, List.length_map, hcl, hcs]
    by_cases h1 : k < g.length
    · have hp := gs_get g k h1
      simp only [hp, ei_get, ei_len, ei_okc, ei_int]
      have hxb := hb _ (gs_mem h1)
      rw [decide_eq_true (show (k : Int) < ((g.length : Nat) : Int) by omega), decide_eq_true (show (0 : Int) ≤ (k : Int) by omega), decide_eq_true h1, decide_eq_true (show 0 < 1 by omega), wrp1 (i := k) (by omega), wrp1 (i := dn.length) (by omega)]
      rw [gs_drop h1, refB_c] at hd ⊢
      generalize g.getD k 0 = x at *
      by_cases hx : x < 0
      · have e1 : gBy m x = List.replicate (2 * (8 - m)) 0 := by unfold gBy; rw [if_pos hx]
        rw [e1, List.length_append, List.length_replicate] at hd
        simp only [bT]
        rw [decide_eq_true hx, bT, e1]
        have w1 : IntKind.i64.wrap (8 - (m : Int)) = ((8 - m : Nat) : Int) := by rw [wrap_id (by omega) (by omega)]; omega
        have w2 : IntKind.i64.wrap (2 * ((8 - m : Nat) : Int)) = ((2 * (8 - m) : Nat) : Int) := by rw [wrap_id (by omega) (by omega)]; omega
        have w3 : IntKind.i64.wrap (((dn.length : Nat) : Int) + ((2 * (8 - m) : Nat) : Int)) = ((dn.length + 2 * (8 - m) : Nat) : Int) := by rw [wrap_id (by omega) (by omega)]; omega
        rw [w1, w2, w3]
        have ih := lo51b n g m hm hl hb j (k + 1) (dn ++ List.replicate (2 * (8 - m)) 0) (by omega) (by omega) (by rw [List.length_append, List.length_replicate]; omega)
        have e2 : cs51 (dn ++ List.replicate (2 * (8 - m)) 0) = cs51 dn := by
          unfold cs51
          have e0 : byCV 0 = CV.int .u8 (Int.ofNat 0) := rfl
          rw [List.map_append, List.map_replicate, e0, List.append_assoc, List.replicate_append_replicate, List.length_append, List.length_replicate]
          congr 3; omega
        rw [e2, List.length_append, List.length_replicate, List.append_assoc] at ih
        exact ih
      · have e1 : gBy m x = [x.toNat / 256, x.toNat % 256] := by unfold gBy; rw [if_neg hx]
        rw [e1, List.length_append] at hd
        simp only [List.length_cons, List.length_nil] at hd
        rw [e1]
        simp only [natM]
        rw [decide_eq_true (show (0 : Int) ≤ ((dn.length : Nat) : Int) by omega), decide_eq_true (show ((dn.length : Nat) : Int) < (16 : Int) by omega), decide_eq_true (show 1 + dn.length * 1 + 1 ≤ 17 by omega), decide_eq_true (show (0 : Int) ≤ ((dn.length + 1 : Nat) : Int) by omega), decide_eq_true (show ((dn.length + 1 : Nat) : Int) < (16 : Int) by omega), decide_eq_true (show 1 + (dn.length + 1) * 1 + 1 ≤ 17 by omega)]
        simp only [bT]
        rw [decide_eq_false hx, bF]
        have w3 : IntKind.i64.wrap (((dn.length : Nat) : Int) + 2) = ((dn.length + 2 : Nat) : Int) := wrp (k := 2) (by omega) (by omega)
        have d1 : x.tdiv 256 = ((x.toNat / 256 : Nat) : Int) := by rw [Int.tdiv_eq_ediv_of_nonneg (by omega)]; omega
        have d2 : x.tmod 256 = ((x.toNat % 256 : Nat) : Int) := by rw [Int.tmod_eq_emod_of_nonneg (by omega)]; omega
        have w4 : IntKind.u8.wrap (IntKind.i64.wrap ((x.toNat / 256 : Nat) : Int)) = ((x.toNat / 256 : Nat) : Int) := by rw [wrap_id (by omega) (by omega), wrap8]; omega
        have w5 : IntKind.u8.wrap ((x.toNat % 256 : Nat) : Int) = ((x.toNat % 256 : Nat) : Int) := by rw [wrap8]; omega
        rw [w3, d1, d2, w4, w5]
        have e3 : ∀ y : Nat, (CV.int IntKind.u8 (y : Int)).cl = [byCV y] := fun _ => rfl
        have ih := lo51b n g m hm hl hb j (k + 1) (dn ++ [x.toNat / 256, x.toNat % 256]) (by omega) (by omega) (by rw [List.length_append]; simp only [List.length_cons, List.length_nil]; omega)
        have e2 : setRange (setRange (cs51 dn) (1 + dn.length * 1) (CV.int IntKind.u8 ((x.toNat / 256 : Nat) : Int)).cl) (1 + (dn.length + 1) * 1) (CV.int IntKind.u8 ((x.toNat % 256 : Nat) : Int)).cl = cs51 (dn ++ [x.toNat / 256, x.toNat % 256]) := by
          rw [e3, e3, Nat.mul_one, Nat.mul_one]
          unfold cs51
          have e4 : 16 - dn.length = (16 - (dn.length + 2)) + 2 := by omega
          have e5 : dn.length = (dn.map byCV).length := by simp
          rw [e4]
          conv => lhs; rw [e5]
          rw [set_two]
          simp
        rw [e2]
        have e6 : (dn ++ [x.toNat / 256, x.toNat % 256]).length = dn.length + 2 := by simp
        rw [e6, List.append_assoc] at ih
        exact ih
    · rw [decide_eq_false (show ¬ (k : Int) < ((g.length : Nat) : Int) by omega), bF, List.drop_of_length_le (by omega)]
      have e1 : refB m [] = [] := rfl
      rw [e1, List.append_nil]
      rfl

/-! ### All of it -/
theorem sp51a : spine 4 c51 = true := by kernel_rfl
theorem ha51a : headAt (filt an51 0) (tailC 4 c51) = some h51a := by kernel_rfl
theorem sp51b : spine 2 (tailC 4 c51) = true := by kernel_rfl
theorem ha51b : headAt (filt an51 0) (tailC 2 (tailC 4 c51)) = some h51b := by kernel_rfl
theorem fo51b : tailC 2 (tailC 4 c51) = tailC 6 c51 := eq_of_heq (heq_of_eq (by kernel_rfl))
theorem sp51c : spine 3 (tailC 6 c51) = true := by kernel_rfl
theorem ha51c : headAt (filt an51 0) (tailC 3 (tailC 6 c51)) = some h51c := by kernel_rfl
theorem fo51c : tailC 3 (tailC 6 c51) = tailC 9 c51 := eq_of_heq (heq_of_eq (by kernel_rfl))
theorem lp51a : startsR q51 = true := by kernel_rfl
theorem id51a : idsOk q51 = true := by kernel_rfl
theorem nl51a : nLoops q51 = 1 := by kernel_rfl
theorem hh51a : (firstRegion (bodyN 0 q51)).bind (filt an51 0) = some hL51a := by kernel_rfl
theorem lp51b : startsR (tailC 9 c51) = true := by kernel_rfl
theorem id51b : idsOk (tailC 9 c51) = true := by kernel_rfl
theorem nl51b : nLoops (tailC 9 c51) = 1 := by kernel_rfl
theorem hh51b : (firstRegion (bodyN 0 (tailC 9 c51))).bind (filt an51 0) = some hL51b := by kernel_rfl
def bad51 : Res := some (.tup [ipZero, .bool false], [])
def fin51 (g : List Int) : Res := if cntP g > 8 ∨ (negP g = false ∧ cntP g ≠ 8) then bad51 else some (.tup [.agg (cs51 (refB (cntP g) g)), .bool true], [])
theorem w51 (g : List Int) (n : Nat) (hn : 50000 ≤ n) (hl : g.length ≤ 40000) (hb : ∀ x ∈ g, x < 65536) (hsz : cntP g ≤ 8 → (refB (cntP g) g).length ≤ 16) :
    aexecB Tryz.prog (call' B65) (filt an51 0) n (tailC 4 c51) (mkEnv 97 [(2, .bptr 0 0), (5, .rw 1 0)]) [zIp, .row (g.map intCV) 1 0 false] (endOf Tryz.prog 67 []) = fin51 g := by
  rw [seg_b (k := 2) (by decide) sp51b ha51b]
  show aexecB Tryz.prog (call' B65) (filt an51 0) n q51 _ _ _ = _
  rw [loopB' lp51a id51a nl51a hh51a]
  refine (iq51 (g.map intCV) n _ (R51 n n _)).trans ?_
  refine (lo51 n g hl _ n 0 0 false (by omega) (by omega) (by omega)).trans ?_
  rw [List.drop_zero, Nat.zero_add, Bool.false_or, fo51b]
  rw [seg_b (k := 3) (by decide) sp51c ha51c]
  refine (ir51 (g.map intCV) ((cntP g : Nat) : Int) (negP g) n _).trans ?_
  rw [fo51c]
  have key : cntP g ≤ 8 → aexecB Tryz.prog (call' B65) (filt an51 0) n (tailC 9 c51) (mkEnv 97 [(2, .bptr 0 0), (5, .rw 3 0), (7, .c (.int .i64 ((cntP g : Nat) : Int))), (10, .bptr 2 0), (11, .c (.int .i64 (((0 : Nat)) : Int)))]) [zIp, .dead, .box (.c (.agg (cs51 []))) kIp, .row (g.map intCV) 1 0 false] (endOf Tryz.prog 67 []) = some (.tup [.agg (cs51 (refB (cntP g) g)), .bool true], []) := by
    intro h8
    rw [loopB' lp51b id51b nl51b hh51b]
    refine (is51 (g.map intCV) (cs51 []) ((cntP g : Nat) : Int) ((0 : Nat) : Int) n (S51 n n)).trans ?_
    refine (lo51b n g (cntP g) h8 hl hb n 0 [] (by omega) (by omega) (by have := hsz h8; simpa using this)).trans ?_
    rw [List.drop_zero, List.nil_append]
  unfold fin51
  by_cases h8 : cntP g > 8
  · rw [decide_eq_true (show ((cntP g : Nat) : Int) > 8 by omega), bT, if_pos (.inl h8)]; rfl
  · rw [decide_eq_false (show ¬ ((cntP g : Nat) : Int) > 8 by omega), bF]
    cases hg : negP g with
    | true =>
      have e1 : (!true) = false := rfl
      rw [e1, bF, if_neg (by rintro (h | h)
                             · exact h8 h
                             · cases h.1)]
      exact key (by omega)
    | false =>
      have e1 : (!false) = true := rfl
      rw [e1, bT]
      by_cases h9 : cntP g = 8
      · have c : (((cntP g : Nat) : Int) != 8) = false := by rw [h9]; rfl
        rw [c, bF, if_neg (by rintro (h | h)
                              · exact h8 h
                              · exact h.2 h9)]
        exact key (by omega)
      · have c : (((cntP g : Nat) : Int) != 8) = true := by rw [bne_iff_ne]; omega
        rw [c, bT, if_pos (.inr ⟨rfl, h9⟩)]; rfl

end Go.Pv

/- Addresses: both ways of reading one are one: plain laws. -/
namespace Go.Pv
set_option linter.unusedVariables false
set_option maxRecDepth 100000
set_option maxHeartbeats 400000
open Go Go.Proofs

abbrev okG (g : List Int) : Prop := ∀ x ∈ g, 0 ≤ x ∧ x < 65536
theorem gBy_pos (m : Nat) {x : Int} (h : 0 ≤ x) : gBy m x = [x.toNat / 256, x.toNat % 256] := by unfold gBy; rw [if_neg (by omega)]
theorem refB_app (m : Nat) (g h : List Int) : refB m (g ++ h) = refB m g ++ refB m h := by unfold refB; rw [List.flatMap_append]
theorem refB_len (m : Nat) : ∀ g : List Int, okG g → (refB m g).length = 2 * g.length
  | [], _ => rfl
  | x :: g, h => by
    rw [refB_c, gBy_pos m (h x (by simp)).1, List.length_append, refB_len m g fun y hy => h y (by simp [hy])]
    simp only [List.length_cons, List.length_nil]; omega
theorem refB_m (m k : Nat) : ∀ g : List Int, okG g → refB m g = refB k g
  | [], _ => rfl
  | x :: g, h => by
    rw [refB_c, refB_c, gBy_pos m (h x (by simp)).1, gBy_pos k (h x (by simp)).1, refB_m m k g fun y hy => h y (by simp [hy])]
theorem cnt_ok : ∀ g : List Int, okG g → cntP g = g.length ∧ negP g = false
  | [], _ => ⟨rfl, rfl⟩
  | x :: g, h => by
    obtain ⟨h1, h2⟩ := cnt_ok g fun y hy => h y (by simp [hy])
    have hx := (h x (by simp)).1
    constructor
    · show (if x < 0 then cntP g else cntP g + 1) = _
      rw [if_neg (by omega), h1]; rfl
    · show (decide (x < 0) || negP g) = false
      rw [h2, decide_eq_false (by omega)]; rfl
theorem cnt_app : ∀ g h : List Int, cntP (g ++ h) = cntP g + cntP h
  | [], h => by show cntP h = 0 + cntP h; omega
  | x :: g, h => by
    have := cnt_app g h
    show (if x < 0 then cntP (g ++ h) else cntP (g ++ h) + 1) = (if x < 0 then cntP g else cntP g + 1) + cntP h
    split <;> omega
theorem neg_app (g h : List Int) : negP (g ++ h) = (negP g || negP h) := by unfold negP; rw [List.any_append]

theorem four_val {p : List UInt8} (h : (fourP (splitL 46 p)).2 = true) (m : Nat) : refB m [f4r (mkS p) / 65536, f4r (mkS p) % 65536] = (fourP (splitL 46 p)).1 ∧ okG [f4r (mkS p) / 65536, f4r (mkS p) % 65536] := by
  have hb := f4r_b (mkS p)
  have e2 : f4 (mkS p) = (fourP (splitL 46 p)).2 := rfl
  rw [e2] at hb
  obtain ⟨v0, v1⟩ := hb.1 h
  have h0 := f4b_lt (mkS p) 0
  have h1 := f4b_lt (mkS p) 1
  have h2 := f4b_lt (mkS p) 2
  have h3 := f4b_lt (mkS p) 3
  have hv : f4r (mkS p) = ((f4b (mkS p) 0 * 256 + f4b (mkS p) 1) * 256 + f4b (mkS p) 2) * 256 + f4b (mkS p) 3 := by unfold f4r; rw [e2, h, if_pos rfl]
  have e4 : ∀ i, f4b (mkS p) i = (((fourP (splitL 46 p)).1.getD i 0 : Nat) : Int) := fun _ => rfl
  have hl := four4 h
  rw [e4] at h0 h1 h2 h3
  rw [e4, e4, e4, e4] at hv
  constructor
  · rw [refB_c, refB_c, gBy_pos m (by omega), gBy_pos m (by omega)]
    generalize (fourP (splitL 46 p)).1 = r at *
    match r, hl with
    | [a, b, c, d], _ =>
      simp only [List.getD_cons_zero, List.getD_cons_succ] at *
      have x1 : (f4r (mkS p) / 65536).toNat / 256 = a := by omega
      have x2 : (f4r (mkS p) / 65536).toNat % 256 = b := by omega
      have x3 : (f4r (mkS p) % 65536).toNat / 256 = c := by omega
      have x4 : (f4r (mkS p) % 65536).toNat % 256 = d := by omega
      rw [x1, x2, x3, x4]
      rfl
  · intro x hx
    simp only [List.mem_cons, List.not_mem_nil, or_false] at hx
    rcases hx with rfl | rfl <;> omega
theorem num_val {p : List UInt8} (h : numOk 16 p = true) (hl : p.length ≤ 4) : grpOk p = true := by
  unfold grpOk
  rw [h, decide_eq_true (num16 h hl), decide_eq_true hl]; rfl
theorem grp_num {p : List UInt8} (h : grpOk p = true) : numOk 16 p = true ∧ p.length ≤ 4 := by
  unfold grpOk at h
  simp only [Bool.and_eq_true, decide_eq_true_eq] at h
  exact ⟨h.1, h.2.2⟩

/-! ### The groups behind all gaps -/
theorem ref_tail (all : List (List UInt8)) : ∀ (qs : List (List UInt8)) (i : Nat) (gap : Bool), [] ∉ qs →
    (refG all i gap qs = none ∧ grL true qs = none) ∨ ∃ g, refG all i gap qs = some g ∧ okG g ∧ grL true qs = some (refB 0 g)
  | [], i, gap, h => .inr ⟨[], by unfold refG; rfl, (by intro x hx; cases hx), by unfold grL; rfl⟩
  | p :: ps, i, gap, h => by
    have hp : p ≠ [] := fun e => h (by simp [e])
    have ih := ref_tail all ps (i + 1) gap fun hm => h (by simp [hm])
    rw [refG_n _ _ _ _ hp]
    by_cases h4 : (fourP (splitL 46 p)).2 = true ∧ ps = []
    · rw [if_pos h4]
      obtain ⟨q1, q2⟩ := four_val h4.1 0
      refine .inr ⟨_, rfl, q2, ?_⟩
      rw [q1]
      unfold grL
      rw [h4.1, h4.2]; rfl
    · rw [if_neg h4]
      have e : grL true (p :: ps) = if grpOk p then (match grL true ps with
          | some r => some (numL 16 p / 256 :: numL 16 p % 256 :: r)
          | none => none) else none := by
        conv => lhs; unfold grL
        rw [if_neg]
        · cases grL true ps <;> rfl
        · intro hc
          simp only [Bool.and_eq_true, Bool.true_and] at hc
          exact h4 ⟨hc.2, List.isEmpty_iff.1 hc.1⟩
      rw [e]
      by_cases hn : numOk 16 p = true ∧ p.length ≤ 4
      · rw [if_pos hn, if_pos (num_val hn.1 hn.2)]
        rcases ih with ⟨i1, i2⟩ | ⟨g, i1, i2, i3⟩
        · rw [i1, i2]; exact .inl ⟨rfl, rfl⟩
        · rw [i1, i3]
          have hlt := num16 hn.1 hn.2
          refine .inr ⟨_, rfl, ?_, ?_⟩
          · intro x hx
            rcases List.mem_cons.1 hx with rfl | hx
            · omega
            · exact i2 x hx
          · rw [refB_c, gBy_pos 0 (by omega)]
            simp
      · rw [if_neg hn, if_neg (fun hg => hn (grp_num hg))]
        exact .inl ⟨rfl, rfl⟩
/-! ### The groups ahead of the gap -/
theorem ref_head (all : List (List UInt8)) (rest : List (List UInt8)) (hr : rest ≠ []) : ∀ (qs : List (List UInt8)) (i : Nat) (gap : Bool), [] ∉ qs →
    (refG all i gap (qs ++ rest) = none ∧ grL false qs = none) ∨ ∃ g, okG g ∧ grL false qs = some (refB 0 g) ∧ refG all i gap (qs ++ rest) = match refG all (i + qs.length) gap rest with
      | some r => some (g ++ r)
      | none => none
  | [], i, gap, h => .inr ⟨[], (by intro x hx; cases hx), by unfold grL; rfl, by
      show refG all i gap rest = match refG all i gap rest with
        | some r => some r
        | none => none
      cases refG all i gap rest <;> rfl⟩
  | p :: ps, i, gap, h => by
    have hp : p ≠ [] := fun e => h (by simp [e])
    have ih := ref_head all rest hr ps (i + 1) gap fun hm => h (by simp [hm])
    have e0 : (p :: ps) ++ rest = p :: (ps ++ rest) := rfl
    rw [e0, refG_n _ _ _ _ hp, if_neg (fun q => hr (List.append_eq_nil_iff.1 q.2).2)]
    have e : grL false (p :: ps) = if grpOk p then (match grL false ps with
        | some r => some (numL 16 p / 256 :: numL 16 p % 256 :: r)
        | none => none) else none := by
      conv => lhs; unfold grL
      rw [Bool.false_and, if_neg Bool.false_ne_true]
      cases grL false ps <;> rfl
    rw [e]
    by_cases hn : numOk 16 p = true ∧ p.length ≤ 4
    · rw [if_pos hn, if_pos (num_val hn.1 hn.2)]
      have hlt := num16 hn.1 hn.2
      have el : i + (p :: ps).length = i + 1 + ps.length := by simp only [List.length_cons]; omega
      rw [el]
      rcases ih with ⟨i1, i2⟩ | ⟨g, i1, i2, i3⟩
      · rw [i1, i2]; exact .inl ⟨rfl, rfl⟩
      · rw [i3, i2]
        refine .inr ⟨((numL 16 p : Nat) : Int) :: g, ?_, ?_, ?_⟩
        · intro x hx
          rcases List.mem_cons.1 hx with rfl | hx
          · omega
          · exact i1 x hx
        · rw [refB_c, gBy_pos 0 (by omega)]
          simp
        · cases refG all (i + 1 + ps.length) gap rest <;> rfl
    · rw [if_neg hn, if_neg (fun hg => hn (grp_num hg))]
      exact .inl ⟨rfl, rfl⟩
/-! ### Empty parts -/
theorem gr_emp (t : Bool) : ∀ qs : List (List UInt8), [] ∈ qs → grL t qs = none
  | [], h => by cases h
  | p :: ps, h => by
    unfold grL
    by_cases hp : p = []
    · subst hp
      have e1 : (fourP (splitL 46 [])).2 = false := rfl
      have e2 : grpOk [] = false := rfl
      rw [e1, e2, Bool.and_false, Bool.and_false, if_neg Bool.false_ne_true, if_neg Bool.false_ne_true]
    · have hm : [] ∈ ps := by
        rcases List.mem_cons.1 h with e | e
        · exact (hp e.symm).elim
        · exact e
      have hne : ps.isEmpty = false := by cases ps with | nil => cases hm | cons a l => rfl
      rw [hne, Bool.false_and, Bool.and_false, if_neg Bool.false_ne_true, gr_emp t ps hm]
      split <;> rfl
theorem ref_emp : ∀ (qs pre : List (List UInt8)) (gap : Bool), pre ≠ [] → [] ∈ qs → (∀ A B, qs = A ++ [] :: B → B ≠ [] → gap = true) → (qs = [[]] → pre.getD (pre.length - 1) [] ≠ []) → refG (pre ++ qs) pre.length gap qs = none
  | [], pre, gap, hpre, h, _, _ => by cases h
  | p :: ps, pre, gap, hpre, h, hmid, hlast => by
    have hpl : 0 < pre.length := by cases pre with | nil => exact (hpre rfl).elim | cons a l => simp
    by_cases hp : p = []
    · subst hp
      rw [refG_e]
      by_cases hps : ps = []
      · rw [if_pos (.inr hps), if_pos]
        subst hps
        refine .inr (.inr ⟨hpl, ?_⟩)
        have := hlast rfl
        have e : (pre ++ [[]]).length - 2 = pre.length - 1 := by simp
        rw [e]
        have e2 : (pre ++ [([] : List UInt8)]).getD (pre.length - 1) [] = pre.getD (pre.length - 1) [] := by
          rw [List.getD_eq_getElem?_getD, List.getD_eq_getElem?_getD, List.getElem?_append_left (by omega)]
        rw [e2]; exact this
      · rw [if_neg (by rintro (q | q)
                       · omega
                       · exact hps q), hmid [] ps rfl hps, if_pos rfl]
    · have hm : [] ∈ ps := by
        rcases List.mem_cons.1 h with e | e
        · exact (hp e.symm).elim
        · exact e
      have hne : ps ≠ [] := fun e => by rw [e] at hm; cases hm
      rw [refG_n _ _ _ _ hp, if_neg (fun q => hne q.2)]
      have ih := ref_emp ps (pre ++ [p]) gap (by simp) hm (fun A B e hB => hmid (p :: A) B (by rw [e]; rfl) hB) (fun _ => by simpa using hp)
      have e1 : pre ++ [p] ++ ps = pre ++ p :: ps := by simp
      have e2 : (pre ++ [p]).length = pre.length + 1 := by simp
      rw [e1, e2] at ih
      rw [ih]
      split <;> rfl

/-! ### Where '::' stands -/
theorem split_one {c : UInt8} : ∀ {l : List UInt8}, splitL c l = [[]] → l = []
  | [], _ => rfl
  | b :: t, h => by
    obtain ⟨q, qs, e⟩ := splitL_ne c t
    unfold splitL at h
    split at h
    · rw [e] at h; simp at h
    · rw [e] at h; simp at h
theorem split_e {c : UInt8} {l : List UInt8} {B : List (List UInt8)} (h : splitL c l = [] :: B) (hB : B ≠ []) : l.head? = some c := by
  cases l with
  | nil => simp [splitL] at h; exact (hB h).elim
  | cons b t =>
    obtain ⟨q, qs, e⟩ := splitL_ne c t
    unfold splitL at h
    split at h
    · rename_i hb; subst hb; rfl
    · rw [e] at h; simp at h
theorem dd1 : ∀ (l : List UInt8), cutDD l = none → ∀ A B, splitL 58 l = A ++ [] :: B → A ≠ [] → B ≠ [] → False
  | [], _, A, B, h, hA, hB => by
    cases A with
    | nil => exact hA rfl
    | cons a A => simp [splitL] at h
  | a :: t, hc, A, B, h, hA, hB => by
    obtain ⟨q, qs, e⟩ := splitL_ne 58 t
    unfold cutDD at hc
    split at hc
    · cases hc
    · rename_i hcond
      have hct : cutDD t = none := by
        cases hct : cutDD t with
        | none => rfl
        | some x => rw [hct] at hc; cases hc
      cases A with
      | nil => exact hA rfl
      | cons x A =>
        unfold splitL at h
        split at h
        · rename_i ha
          simp only [List.cons_append, List.cons.injEq] at h
          by_cases hA' : A = []
          · subst hA'
            have := split_e (B := B) (by simpa using h.2) hB
            exact hcond ⟨ha, this⟩
          · exact dd1 t hct A B h.2 hA' hB
        · rw [e] at h
          simp only [List.cons_append, List.cons.injEq] at h
          exact dd1 t hct (q :: A) B (by rw [e, h.2]; rfl) (by simp) hB
theorem split_y {c a : UInt8} (h : a = c) (t : List UInt8) : splitL c (a :: t) = [] :: splitL c t := by
  conv => lhs; unfold splitL
  rw [if_pos h]
theorem split_n {c a : UInt8} (h : ¬ a = c) (t : List UInt8) {q : List UInt8} {qs : List (List UInt8)} (e : splitL c t = q :: qs) : splitL c (a :: t) = (a :: q) :: qs := by
  conv => lhs; unfold splitL
  rw [if_neg h, e]
theorem dd2 : ∀ (l h t : List UInt8), cutDD l = some (h, t) → l = h ++ 58 :: 58 :: t ∧ splitL 58 l = splitL 58 h ++ [] :: splitL 58 t ∧ cutDD h = none ∧ ∀ A, splitL 58 h = A ++ [[]] → A = []
  | [], h, t, e => by cases e
  | a :: r, h, t, e => by
    unfold cutDD at e
    split at e
    · rename_i hc
      cases e
      obtain ⟨ha, hr⟩ := hc
      subst ha
      cases r with
      | nil => cases hr
      | cons b r =>
        simp at hr; subst hr
        refine ⟨rfl, ?_, rfl, ?_⟩
        · show splitL 58 (58 :: 58 :: r) = [[]] ++ [] :: splitL 58 r
          conv => lhs; unfold splitL
          rw [if_pos rfl]
          conv => lhs; unfold splitL
          rw [if_pos rfl]
          rfl
        · intro A hA
          cases A with
          | nil => rfl
          | cons x A => simp [splitL] at hA
    · rename_i hc
      split at e
      · rename_i h' r' hr
        cases e
        obtain ⟨i1, i2, i3, i4⟩ := dd2 r h' t hr
        obtain ⟨q, qs, eq⟩ := splitL_ne 58 h'
        refine ⟨by rw [i1]; rfl, ?_, ?_, ?_⟩
        · by_cases ha : a = 58
          · rw [split_y ha, split_y ha, i2]; rfl
          · rw [split_n ha _ (show splitL 58 r = q :: (qs ++ [] :: splitL 58 t) by rw [i2, eq]; rfl), split_n ha _ eq]; rfl
        · unfold cutDD
          rw [i3, if_neg]
          rintro ⟨h1, h2⟩
          cases h' with
          | nil => exact hc ⟨h1, by rw [i1]; rfl⟩
          | cons b u => exact hc ⟨h1, by rw [i1]; simpa using h2⟩
        · intro A hA
          exfalso
          unfold splitL at hA
          split at hA
          · rename_i ha
            cases A with
            | nil => rw [eq] at hA; simp at hA
            | cons x A =>
              simp only [List.cons_append, List.cons.injEq] at hA
              have := i4 A hA.2
              subst this
              have hn := split_one hA.2
              subst hn
              exact hc ⟨ha, by rw [i1]; rfl⟩
          · rw [eq] at hA
            cases A with
            | nil => simp at hA
            | cons x A =>
              simp only [List.cons_append, List.cons.injEq] at hA
              have := i4 (q :: A) (by rw [eq, hA.2]; rfl)
              simp at this
      · cases e

end Go.Pv

/- Addresses: the document's Parse answers as ip.Parse does. -/
namespace Go.Pv
set_option linter.unusedVariables false
set_option maxRecDepth 100000
set_option maxHeartbeats 400000
open Go Go.Proofs
variable {I : World → Prop} {ng : Nat}

/-! ### How long a text of an address is -/
def sumL (ps : List (List UInt8)) : Nat := ps.foldr (fun p n => p.length + 1 + n) 0
theorem sum_c (p : List UInt8) (ps : List (List UInt8)) : sumL (p :: ps) = p.length + 1 + sumL ps := rfl
theorem split_sum (c : UInt8) : ∀ l : List UInt8, sumL (splitL c l) = l.length + 1
  | [] => rfl
  | b :: t => by
    obtain ⟨q, qs, e⟩ := splitL_ne c t
    have ih := split_sum c t
    by_cases h : b = c
    · rw [split_y h, sum_c, ih]; simp only [List.length_cons, List.length_nil]; omega
    · rw [split_n h _ e, sum_c]
      rw [e, sum_c] at ih
      simp only [List.length_cons]; omega
theorem fold10 : ∀ (l : List UInt8) (v : Nat), v * 10 ^ l.length ≤ l.foldl (fun n c => n * 10 + hexv c) v
  | [], v => by simp
  | c :: t, v => by
    rw [List.foldl_cons]
    have ih := fold10 t (v * 10 + hexv c)
    have e : v * 10 ^ (c :: t).length = v * 10 * 10 ^ t.length := by rw [List.length_cons, Nat.pow_succ, Nat.mul_comm (10 ^ t.length), Nat.mul_assoc]
    rw [e]
    refine Nat.le_trans (Nat.mul_le_mul_right _ ?_) ih
    omega
theorem hx0 : ∀ n : Nat, n < 256 → hx (n : Int) = 0 → n = 48 := by decide +kernel
theorem oct_len {p : List UInt8} (h : octOk p = true) : p.length ≤ 3 := by
  have hlt := oct_lt h
  refine Classical.byContradiction fun hn => ?_
  unfold octOk at h
  simp only [Bool.and_eq_true, Bool.not_eq_true', Bool.and_eq_false_iff, decide_eq_false_iff_not] at h
  obtain ⟨h1, _, h3⟩ := h
  cases p with
  | nil => simp at hn
  | cons c t =>
    rcases h3 with h3 | h3
    · simp only [List.length_cons] at *; omega
    · have hc : c ≠ 48 := by
        intro e
        rw [e] at h3
        cases h3
      have h0 : 1 ≤ hexv c := by
        refine Classical.byContradiction fun hz => hc ?_
        unfold hexv at hz
        split at hz
        · have := hx0 c.toNat c.toNat_lt (by omega)
          exact UInt8.toNat.inj this
        · omega
      have hf := fold10 t (0 * 10 + hexv c)
      have hp : 10 ^ 3 ≤ 10 ^ t.length := Nat.pow_le_pow_right (by omega) (by simp only [List.length_cons] at hn; omega)
      have h2 : 1 * 10 ^ t.length ≤ (0 * 10 + hexv c) * 10 ^ t.length := Nat.mul_le_mul_right _ (by omega)
      unfold numL at hlt
      rw [List.foldl_cons] at hlt
      omega
theorem goF_oct : ∀ ps : List (List UInt8), (goF ps).2 = true → ∀ p ∈ ps, octOk p = true
  | [], _, p, hp => by cases hp
  | q :: ps, h, p, hp => by
    unfold goF at h
    split at h
    · rename_i ho
      rcases List.mem_cons.1 hp with rfl | hp
      · exact ho
      · exact goF_oct ps h p hp
    · cases h
theorem sum_le (k : Nat) : ∀ ps : List (List UInt8), (∀ p ∈ ps, p.length ≤ k) → sumL ps ≤ (k + 1) * ps.length
  | [], _ => by simp [sumL]
  | p :: ps, h => by
    have := sum_le k ps fun q hq => h q (by simp [hq])
    have h2 := h p (by simp)
    rw [sum_c, List.length_cons, Nat.mul_add]; omega
theorem four_sz {p : List UInt8} (h : (fourP (splitL 46 p)).2 = true) : p.length ≤ 15 := by
  have hs := split_sum 46 p
  unfold fourP at h
  split at h
  · rename_i h4
    have := sum_le 3 (splitL 46 p) fun q hq => oct_len (goF_oct _ h q hq)
    rw [h4] at this
    omega
  · cases h
theorem gr_sz (t : Bool) : ∀ (ps : List (List UInt8)) (r : List Nat), grL t ps = some r → 2 * sumL ps ≤ 5 * r.length + 12
  | [], r, h => by simp [sumL]
  | p :: ps, r, h => by
    unfold grL at h
    split at h
    · rename_i hc
      cases h
      simp only [Bool.and_eq_true] at hc
      have hps : ps = [] := List.isEmpty_iff.1 hc.2.1
      subst hps
      have h1 := four4 hc.2.2
      have h2 := four_sz hc.2.2
      rw [sum_c]
      simp only [sumL, List.foldr_nil]; omega
    · split at h
      · rename_i hg
        split at h
        · rename_i r' hr
          cases h
          have := gr_sz t ps r' hr
          have h2 := (grp_num hg).2
          rw [sum_c]
          simp only [List.length_cons]; omega
        · cases h
      · cases h
theorem grp_sz (t : Bool) (l : List UInt8) (r : List Nat) (h : grpL t l = some r) : 2 * l.length ≤ 5 * r.length + 12 := by
  unfold grpL at h
  split at h
  · rename_i he
    have : l = [] := List.isEmpty_iff.1 he
    subst this; simp
  · have := gr_sz t _ r h
    rw [split_sum] at this; omega
theorem no58 : ∀ l : List UInt8, (l.any fun b => decide (b = 58)) = false → splitL 58 l = [l]
  | [], _ => rfl
  | b :: t, h => by
    rw [List.any_cons, Bool.or_eq_false_iff, decide_eq_false_iff_not] at h
    rw [split_n h.1 t (no58 t h.2)]
theorem six_ok {l : List UInt8} {r : List Nat} (h : sixL l = some r) : l.length ≤ 64 ∧ (l.any fun b => decide (b = 58)) = true := by
  unfold sixL at h
  cases hc : cutDD l with
  | none =>
    rw [hc] at h
    dsimp only at h
    split at h
    · rename_i a ha
      split at h
      · rename_i h16
        have := grp_sz true l a ha
        refine ⟨by omega, ?_⟩
        cases hn : (l.any fun b => decide (b = 58)) with
        | true => rfl
        | false =>
          exfalso
          have hs := no58 l hn
          unfold grpL at ha
          split at ha
          · cases ha; simp at h16
          · rw [hs] at ha
            have := grL_len true _ _ ha
            simp only [List.length_cons, List.length_nil] at this; omega
      · cases h
    · cases h
  | some x =>
    obtain ⟨hd, tl⟩ := x
    rw [hc] at h
    dsimp only at h
    obtain ⟨e1, _⟩ := dd2 l hd tl hc
    split at h
    · rename_i a b ha hb
      split at h
      · have h1 := grp_sz false hd a ha
        have h2 := grp_sz true tl b hb
        refine ⟨?_, ?_⟩
        · rw [e1, List.length_append]; simp only [List.length_cons]; omega
        · rw [e1, List.any_append]; simp
      · cases h
    · cases h

/-! ### The law -/
def refP (all : List (List UInt8)) : Res := match refG all 0 false all with
  | some g => if all.length < 3 then bad51 else fin51 g
  | none => bad51
def six51 (l : List UInt8) : Res := match sixL l with
  | some r => some (.tup [.agg (.bool true :: r.map byCV), .bool true], [])
  | none => bad51
theorem cs_full (r : List Nat) (h : r.length = 16) : cs51 r = .bool true :: r.map byCV := by
  unfold cs51
  rw [h, Nat.sub_self, List.replicate_zero, List.append_nil]
theorem law_none (l : List UInt8) (hc : cutDD l = none) : refP (splitL 58 l) = six51 l := by
  have hs : six51 l = match grpL true l with
      | some a => if a.length = 16 then some (.tup [.agg (.bool true :: a.map byCV), .bool true], []) else bad51
      | none => bad51 := by
    unfold six51 sixL
    rw [hc]
    dsimp only
    cases grpL true l with
    | none => rfl
    | some a =>
      dsimp only
      by_cases h : a.length = 16
      · rw [if_pos h, if_pos h]
      · rw [if_neg h, if_neg h]
  rw [hs]
  by_cases hl : l = []
  · subst hl
    have e : refG [[]] 0 false [[]] = none := by rw [refG_e, if_pos (.inl rfl), if_pos (.inl (by simp))]
    have e0 : splitL 58 ([] : List UInt8) = [[]] := rfl
    unfold refP
    rw [e0, e]; rfl
  · have hle : l.isEmpty = false := by cases l with | nil => exact (hl rfl).elim | cons a t => rfl
    have hg : grpL true l = grL true (splitL 58 l) := by unfold grpL; rw [hle, if_neg Bool.false_ne_true]
    rw [hg]
    by_cases he : [] ∈ splitL 58 l
    · rw [gr_emp true _ he]
      have hn : refG (splitL 58 l) 0 false (splitL 58 l) = none := by
        obtain ⟨p, ps, e⟩ := splitL_ne 58 l
        have hd := dd1 l hc
        rw [e] at he hd ⊢
        by_cases hp : p = []
        · subst hp
          rw [refG_e, if_pos (.inl rfl), if_pos]
          by_cases h3 : ([] :: ps).length < 3
          · exact .inl h3
          · refine .inr (.inl ⟨rfl, fun h => ?_⟩)
            match ps, h, h3 with
            | [], _, h3 => simp at h3
            | q :: C, h, h3 =>
              have hq : q = [] := h
              subst hq
              refine hd [[]] C rfl (by simp) (fun hC => ?_)
              subst hC; simp at h3
        · have hm : [] ∈ ps := by
            rcases List.mem_cons.1 he with e | e
            · exact (hp e.symm).elim
            · exact e
          have hne : ps ≠ [] := fun e => by rw [e] at hm; cases hm
          rw [refG_n _ _ _ _ hp, if_neg (fun q => hne q.2)]
          have ih := ref_emp ps [p] false (by simp) hm (fun A B e hB => (hd (p :: A) B (by rw [e]; rfl) (by simp) hB).elim) (fun _ => hp)
          have e1 : refG (p :: ps) (0 + 1) false ps = none := ih
          rw [e1]
          split <;> rfl
      unfold refP
      rw [hn]
    · rcases ref_tail (splitL 58 l) (splitL 58 l) 0 false he with ⟨i1, i2⟩ | ⟨g, i1, i2, i3⟩
      · unfold refP; rw [i1, i2]
      · unfold refP
        rw [i1, i3]
        dsimp only
        obtain ⟨c1, c2⟩ := cnt_ok g i2
        have hlen := refB_len 0 g i2
        unfold fin51
        rw [c1, c2]
        by_cases h8 : g.length = 8
        · have := grL_len true _ _ i3
          rw [hlen] at this
          rw [if_neg (by omega), if_neg (by rintro (h | h)
                                            · omega
                                            · exact h.2 h8), if_pos (by omega), refB_m _ 0 g i2, cs_full _ (by omega)]
        · rw [if_neg (show ¬ (refB 0 g).length = 16 by omega)]
          by_cases h3 : (splitL 58 l).length < 3
          · rw [if_pos h3]
          · rw [if_neg h3, if_pos (.inr ⟨rfl, h8⟩)]
theorem law_some (l h t : List UInt8) (hc : cutDD l = some (h, t)) : refP (splitL 58 l) = six51 l := by
  obtain ⟨d1, d2, d3, d4⟩ := dd2 l h t hc
  obtain ⟨hp, hps, eH⟩ := splitL_ne 58 h
  obtain ⟨tp, tps, eT⟩ := splitL_ne 58 t
  have hHne : splitL 58 h ≠ [] := by rw [eH]; simp
  have hTne : splitL 58 t ≠ [] := by rw [eT]; simp
  have hHl : 0 < (splitL 58 h).length := by rw [eH]; simp
  have hTl : 0 < (splitL 58 t).length := by rw [eT]; simp
  have hall : (splitL 58 l).length = (splitL 58 h).length + 1 + (splitL 58 t).length := by rw [d2, List.length_append, List.length_cons]; omega
  -- the gap
  have hgap : refG (splitL 58 l) (splitL 58 h).length false ([] :: splitL 58 t) = match refG (splitL 58 l) ((splitL 58 h).length + 1) true (splitL 58 t) with
      | some r => some (-1 :: r)
      | none => none := by
    rw [refG_e, if_neg (by rintro (q | q)
                           · omega
                           · exact hTne q), if_neg Bool.false_ne_true]
    all_goals (cases refG (splitL 58 l) ((splitL 58 h).length + 1) true (splitL 58 t) <;> rfl)
  -- behind it
  have hT : (grpL true t = none ∧ refG (splitL 58 l) ((splitL 58 h).length + 1) true (splitL 58 t) = none) ∨ ∃ g, okG g ∧ grpL true t = some (refB 0 g) ∧ refG (splitL 58 l) ((splitL 58 h).length + 1) true (splitL 58 t) = some g := by
    by_cases ht : t = []
    · subst ht
      refine .inr ⟨[], (by intro x hx; cases hx), rfl, ?_⟩
      have e1 : splitL 58 ([] : List UInt8) = [[]] := rfl
      rw [e1, refG_e, if_pos (.inr rfl), if_neg]
      · unfold refG; rfl
      · rw [hall, e1]
        rintro (q | q | q)
        · simp only [List.length_cons, List.length_nil] at q; omega
        · omega
        · refine q.2 ?_
          rw [d2, e1]
          have : (splitL 58 h).length + 1 + ([[]] : List (List UInt8)).length - 2 = (splitL 58 h).length := by simp only [List.length_cons, List.length_nil]; omega
          rw [this, List.getD_eq_getElem?_getD, List.getElem?_append_right (Nat.le_refl _), Nat.sub_self]; rfl
    · have hte : t.isEmpty = false := by cases t with | nil => exact (ht rfl).elim | cons a u => rfl
      have hg : grpL true t = grL true (splitL 58 t) := by unfold grpL; rw [hte, if_neg Bool.false_ne_true]
      rw [hg]
      by_cases he : [] ∈ splitL 58 t
      · refine .inl ⟨gr_emp true _ he, ?_⟩
        have ih := ref_emp (splitL 58 t) (splitL 58 h ++ [[]]) true (by simp) he (fun _ _ _ _ => rfl) (fun e => (ht (split_one e)).elim)
        have e1 : splitL 58 h ++ [[]] ++ splitL 58 t = splitL 58 l := by rw [d2]; simp
        have e2 : (splitL 58 h ++ [([] : List UInt8)]).length = (splitL 58 h).length + 1 := by simp
        rw [e1, e2] at ih
        exact ih
      · rcases ref_tail (splitL 58 l) (splitL 58 t) ((splitL 58 h).length + 1) true he with ⟨i1, i2⟩ | ⟨g, i1, i2, i3⟩
        · exact .inl ⟨i2, i1⟩
        · exact .inr ⟨g, i2, i3, i1⟩
  -- ahead of it
  have hH : (grpL false h = none ∧ refG (splitL 58 l) 0 false (splitL 58 l) = none) ∨ ∃ g, okG g ∧ grpL false h = some (refB 0 g) ∧ refG (splitL 58 l) 0 false (splitL 58 l) = match refG (splitL 58 l) (splitL 58 h).length false ([] :: splitL 58 t) with
      | some r => some (g ++ r)
      | none => none := by
    by_cases hh : h = []
    · subst hh
      refine .inr ⟨[], (by intro x hx; cases hx), rfl, ?_⟩
      have e1 : splitL 58 ([] : List UInt8) = [[]] := rfl
      rw [e1] at d2 hall ⊢
      have e2 : splitL 58 l = [] :: [] :: splitL 58 t := d2
      have e3 : refG (splitL 58 l) 0 false (splitL 58 l) = refG (splitL 58 l) 1 false ([] :: splitL 58 t) := by
        have e4 : refG (splitL 58 l) 0 false ([] :: [] :: splitL 58 t) = refG (splitL 58 l) 1 false ([] :: splitL 58 t) := by
          rw [refG_e, if_pos (.inl rfl), if_neg]
          rw [hall]
          rintro (q | q | q)
          · simp only [List.length_cons, List.length_nil] at q; omega
          · refine q.2 ?_
            rw [e2]; rfl
          · omega
        conv => lhs; rw [show refG (splitL 58 l) 0 false (splitL 58 l) = refG (splitL 58 l) 0 false ([] :: [] :: splitL 58 t) from congrArg (refG (splitL 58 l) 0 false) e2]
        exact e4
      rw [e3]
      show _ = match refG (splitL 58 l) 1 false ([] :: splitL 58 t) with
        | some r => some r
        | none => none
      cases refG (splitL 58 l) 1 false ([] :: splitL 58 t) <;> rfl
    · have hhe : h.isEmpty = false := by cases h with | nil => exact (hh rfl).elim | cons a u => rfl
      have hg : grpL false h = grL false (splitL 58 h) := by unfold grpL; rw [hhe, if_neg Bool.false_ne_true]
      rw [hg]
      have e0 : refG (splitL 58 l) 0 false (splitL 58 l) = refG (splitL 58 l) 0 false (splitL 58 h ++ [] :: splitL 58 t) := congrArg (refG (splitL 58 l) 0 false) d2
      by_cases he : [] ∈ splitL 58 h
      · refine .inl ⟨gr_emp false _ he, ?_⟩
        rw [e0]
        rw [eH] at he
        by_cases hpe : hp = []
        · subst hpe
          have e1 : splitL 58 h ++ [] :: splitL 58 t = [] :: (hps ++ [] :: splitL 58 t) := by rw [eH]; rfl
          rw [e1, refG_e, if_pos (.inl rfl), if_pos]
          refine .inr (.inl ⟨rfl, fun hq => ?_⟩)
          rw [d2, e1] at hq
          cases hps with
          | nil => exact hh (split_one eH)
          | cons q C =>
            have hq' : q = [] := hq
            subst hq'
            by_cases hC : C = []
            · subst hC
              have := d4 [[]] (by rw [eH]; rfl)
              simp at this
            · exact dd1 h d3 [[]] C (by rw [eH]; rfl) (by simp) hC
        · exfalso
          have hm : [] ∈ hps := by
            rcases List.mem_cons.1 he with e | e
            · exact (hpe e.symm).elim
            · exact e
          obtain ⟨A, B, e⟩ := List.append_of_mem hm
          by_cases hB : B = []
          · subst hB
            have := d4 (hp :: A) (by rw [eH, e]; rfl)
            simp at this
          · exact dd1 h d3 (hp :: A) B (by rw [eH, e]; rfl) (by simp) hB
      · rw [e0]
        rcases ref_head (splitL 58 l) ([] :: splitL 58 t) (by simp) (splitL 58 h) 0 false he with ⟨i1, i2⟩ | ⟨g, i1, i2, i3⟩
        · exact .inl ⟨i2, i1⟩
        · refine .inr ⟨g, i1, i2, ?_⟩
          rw [Nat.zero_add] at i3
          rw [i3]
          all_goals (cases refG (splitL 58 l) (splitL 58 h).length false ([] :: splitL 58 t) <;> rfl)
  have hs : six51 l = match grpL false h, grpL true t with
      | some a, some b => if a.length + b.length ≤ 16 then some (.tup [.agg (.bool true :: (a ++ List.replicate (16 - a.length - b.length) 0 ++ b).map byCV), .bool true], []) else bad51
      | _, _ => bad51 := by
    unfold six51 sixL
    rw [hc]
    dsimp only
    cases grpL false h with
    | none => rfl
    | some a =>
      cases grpL true t with
      | none => rfl
      | some b =>
        dsimp only
        by_cases h : a.length + b.length ≤ 16
        · rw [if_pos h, if_pos h]
        · rw [if_neg h, if_neg h]
  rw [hs]
  unfold refP
  rcases hH with ⟨q1, q2⟩ | ⟨gh, q1, q2, q3⟩
  · rw [q1, q2]
  · rw [q3, hgap]
    rcases hT with ⟨p1, p2⟩ | ⟨gt, p1, p2, p3⟩
    · rw [p1, p2, q2]
    · rw [p3, p2, q2]
      dsimp only
      rw [if_neg (by omega)]
      obtain ⟨c1, c2⟩ := cnt_ok gh q1
      obtain ⟨c3, c4⟩ := cnt_ok gt p1
      have hcnt : cntP (gh ++ -1 :: gt) = gh.length + gt.length := by
        rw [cnt_app, c1]
        show gh.length + (if (-1 : Int) < 0 then cntP gt else cntP gt + 1) = _
        rw [if_pos (by decide), c3]
      have hneg : negP (gh ++ -1 :: gt) = true := by
        rw [neg_app]
        show (negP gh || (decide ((-1 : Int) < 0) || negP gt)) = true
        rw [decide_eq_true (by decide), Bool.true_or, Bool.or_true]
      have l1 := refB_len 0 gh q1
      have l2 := refB_len 0 gt p1
      unfold fin51
      rw [hcnt, hneg]
      by_cases h8 : gh.length + gt.length > 8
      · rw [if_pos (.inl h8), if_neg (by omega)]
      · rw [if_neg (by rintro (q | q)
                       · exact h8 q
                       · cases q.1), if_pos (by omega)]
        have e1 : refB (gh.length + gt.length) (gh ++ -1 :: gt) = refB 0 gh ++ List.replicate (16 - (refB 0 gh).length - (refB 0 gt).length) 0 ++ refB 0 gt := by
          rw [refB_app, refB_c, refB_m _ 0 gh q1, refB_m _ 0 gt p1]
          have e2 : gBy (gh.length + gt.length) (-1) = List.replicate (2 * (8 - (gh.length + gt.length))) 0 := by unfold gBy; rw [if_pos (by decide)]
          rw [e2, List.append_assoc]
          congr 3; omega
        rw [e1, cs_full _ (by simp only [List.length_append, List.length_replicate]; omega)]
theorem law51 (l : List UInt8) : refP (splitL 58 l) = six51 l := by
  cases hc : cutDD l with
  | none => exact law_none l hc
  | some x => exact law_some l x.1 x.2 hc

end Go.Pv

/- Addresses: the document's Parse: its contract. -/
namespace Go.Pv
set_option linter.unusedVariables false
set_option maxRecDepth 100000
set_option maxHeartbeats 400000
open Go Go.Proofs
variable {I : World → Prop} {ng : Nat}

theorem refB_len2 (m : Nat) : ∀ g : List Int, (refB m g).length + 2 * (8 - m) * cntP g = 2 * cntP g + 2 * (8 - m) * g.length
  | [] => rfl
  | x :: g => by
    have ih := refB_len2 m g
    rw [refB_c, List.length_append]
    have e : cntP (x :: g) = if x < 0 then cntP g else cntP g + 1 := rfl
    have m1 : 2 * (8 - m) * (g.length + 1) = 2 * (8 - m) * g.length + 2 * (8 - m) := Nat.mul_succ _ _
    have m2 : 2 * (8 - m) * (cntP g + 1) = 2 * (8 - m) * cntP g + 2 * (8 - m) := Nat.mul_succ _ _
    by_cases hx : x < 0
    · have e2 : gBy m x = List.replicate (2 * (8 - m)) 0 := by unfold gBy; rw [if_pos hx]
      rw [if_pos hx] at e
      rw [e, e2, List.length_cons, List.length_replicate, m1]; omega
    · rw [if_neg hx] at e
      rw [e, gBy_pos m (by omega)]
      simp only [List.length_cons, List.length_nil]
      rw [m1, m2]; omega
theorem refG_b (all : List (List UInt8)) (hsz : ∀ p ∈ all, p.length ≤ 10000) : ∀ (qs : List (List UInt8)) (i : Nat) (gap : Bool) (g : List Int), (∀ p ∈ qs, p ∈ all) → refG all i gap qs = some g →
    (∀ x ∈ g, x < 65536) ∧ g.length ≤ 2 * qs.length ∧ g.length ≤ cntP g + (if gap = true then 0 else 1)
  | [], i, gap, g, hm, h => by
    have e : refG all i gap [] = some [] := by unfold refG; rfl
    rw [e] at h; cases h
    refine ⟨(by intro x hx; cases hx), by simp, by simp⟩
  | p :: ps, i, gap, g, hm, h => by
    have hm' : ∀ q ∈ ps, q ∈ all := fun q hq => hm q (by simp [hq])
    by_cases hp : p = []
    · subst hp
      rw [refG_e] at h
      split at h
      · split at h
        · cases h
        · obtain ⟨h1, h2, h3⟩ := refG_b all hsz ps (i + 1) gap g hm' h
          exact ⟨h1, by simp only [List.length_cons]; omega, h3⟩
      · split at h
        · cases h
        · rename_i hg
          have hg' : gap = false := by simpa using hg
          subst hg'
          cases hr : refG all (i + 1) true ps with
          | none => rw [hr] at h; cases h
          | some r =>
            rw [hr] at h; cases h
            obtain ⟨h1, h2, h3⟩ := refG_b all hsz ps (i + 1) true r hm' hr
            refine ⟨?_, by simp only [List.length_cons]; omega, ?_⟩
            · intro x hx
              rcases List.mem_cons.1 hx with rfl | hx
              · decide
              · exact h1 x hx
            · have e : cntP (-1 :: r) = cntP r := by
                show (if (-1 : Int) < 0 then cntP r else cntP r + 1) = _
                rw [if_pos (by decide)]
              rw [e]
              simp only [List.length_cons, Bool.false_eq_true, if_false, if_true] at *; omega
    · rw [refG_n _ _ _ _ hp] at h
      split at h
      · rename_i h4
        cases h
        obtain ⟨q1, q2⟩ := four_val h4.1 0
        obtain ⟨c1, c2⟩ := cnt_ok _ q2
        refine ⟨fun x hx => (q2 x hx).2, by simp only [List.length_cons, List.length_nil]; omega, by rw [c1]; omega⟩
      · split at h
        · rename_i hn
          cases hr : refG all (i + 1) gap ps with
          | none => rw [hr] at h; cases h
          | some r =>
            rw [hr] at h; cases h
            obtain ⟨h1, h2, h3⟩ := refG_b all hsz ps (i + 1) gap r hm' hr
            have hlt := num16 hn.1 hn.2
            refine ⟨?_, by simp only [List.length_cons]; omega, ?_⟩
            · intro x hx
              rcases List.mem_cons.1 hx with rfl | hx
              · omega
              · exact h1 x hx
            · have e : cntP (((numL 16 p : Nat) : Int) :: r) = cntP r + 1 := by
                show (if ((numL 16 p : Nat) : Int) < 0 then cntP r else cntP r + 1) = _
                rw [if_neg (by omega)]
              rw [e]
              simp only [List.length_cons]; omega
        · cases h
theorem fin51_c (v : CV) : bad51 = some (.tup [ipZero, .bool false], []) := rfl
theorem h51 (hg : OnGlobals I ng) (h70 : Cw I ng 132 L70) (h28 : Cw I ng 73 L28d) : Cw I ng 67 L51 := contract_of an51 hg (hok_of (g65 hg h70 h28)) fun cargs rv outs h => by
  unfold L51 at h
  split at h <;> first | (cases h; done) | skip
  rename_i s
  by_cases hs : s.size ≤ 3000
  · obtain ⟨l, rfl⟩ : ∃ l, s = mkS l := ⟨_, (mkS_bl s).symm⟩
    rw [sizeM] at hs
    refine ⟨50000, ?_⟩
    rw [abody_eq rfl (by kernel_rfl)]
    show aexec Tryz.prog (call' B65) (filt an51 0) 50000 c51 (envOf Tryz.prog 67 [.c (.str (mkS l))]) [] (endOf Tryz.prog 67 []) = _
    rw [seg_a (k := 4) (by decide) sp51a ha51a, ip51, sizeM, decide_eq_true (show l.length ≤ 10000 by omega)]
    simp only [Bool.true_and, Bool.and_self, bT]
    simp only [picked, pickAlt, sizeM, decide_eq_true hs, Bool.true_and] at h
    have hb := f4r_b (mkS l)
    unfold ip6 ip4 at h
    rw [sizeM] at h
    cases hf : f4 (mkS l) with
    | true =>
      obtain ⟨v0, v1⟩ := hb.1 hf
      have h15 := four_sz (p := l) hf
      rw [hf, decide_eq_true (show l.length ≤ 64 by omega)] at h
      cases h
      rw [decide_eq_true (show f4r (mkS l) ≥ 0 from v0), bT, wrapU v0 (by omega), decide_eq_true v0, decide_eq_true (show f4r (mkS l) < 18446744073709551616 by omega)]
      simp only [Bool.and_self, bT]
      have b0 := f4b_lt (mkS l) 0
      have b1 := f4b_lt (mkS l) 1
      have b2 := f4b_lt (mkS l) 2
      have b3 := f4b_lt (mkS l) 3
      have hv : f4r (mkS l) = ((f4b (mkS l) 0 * 256 + f4b (mkS l) 1) * 256 + f4b (mkS l) 2) * 256 + f4b (mkS l) 3 := by unfold f4r; rw [hf, if_pos rfl]
      have x0 : f4r (mkS l) / 16777216 % 256 = f4b (mkS l) 0 := by omega
      have x1 : f4r (mkS l) / 65536 % 256 = f4b (mkS l) 1 := by omega
      have x2 : f4r (mkS l) / 256 % 256 = f4b (mkS l) 2 := by omega
      have x3 : f4r (mkS l) % 256 = f4b (mkS l) 3 := by omega
      rw [x0, x1, x2, x3]
      unfold ipAgg ipB
      simp only [hf, if_true]
      rfl
    | false =>
      have hv := hb.2 hf
      rw [hv, decide_eq_false (by decide), bF]
      have e1 : (spS (mkS l) (Nat.toUInt8 58)).length = (splitL 58 l).length := by rw [sp_len]; rfl
      have e2 : gROk (mkS l) = (refG (splitL 58 l) 0 false (splitL 58 l)).isSome := rfl
      have e3 : rB (mkS l) = ((refG (splitL 58 l) 0 false (splitL 58 l)).getD []).map intCV := rfl
      rw [e1, e2, e3]
      have hl := split_len 58 l
      have hsz : ∀ p ∈ splitL 58 l, p.length ≤ 10000 := fun p hp => by
        have := split_sz 58 _ p hp; omega
      have hfin : six51 l = some (rv, outs) := by
        rw [hf] at h
        simp only [Bool.not_false, Bool.true_and, Bool.and_false] at h
        have e4 : s6 (mkS l) = (sixL l).isSome := rfl
        have e5 : hasB (mkS l) 58 = l.any fun b => decide (b = 58) := rfl
        rw [e4, e5] at h
        unfold six51
        cases h6 : sixL l with
        | none =>
          rw [h6] at h
          simp only [Option.isSome_none, Bool.false_and, Bool.and_false] at h
          cases h; rfl
        | some r =>
          obtain ⟨k1, k2⟩ := six_ok h6
          rw [h6, k2, decide_eq_true k1] at h
          simp only [Option.isSome_some, Bool.and_self] at h
          cases h
          have := list16 r (six_len h6)
          dsimp only
          rw [← this]
          unfold ipAgg ipB
          simp only [hf, Bool.false_eq_true, if_false]
          unfold s6b
          rw [mkS_data, h6]
          rfl
      rw [← law51] at hfin
      refine Eq.trans ?_ hfin
      unfold refP
      cases hr : refG (splitL 58 l) 0 false (splitL 58 l) with
      | none =>
        simp only [Option.isSome_none, bF]
        rfl
      | some g =>
        simp only [Option.isSome_some, bT, Option.getD_some]
        obtain ⟨k1, k2, k3⟩ := refG_b (splitL 58 l) hsz (splitL 58 l) 0 false g (fun _ h => h) hr
        by_cases h3 : (splitL 58 l).length < 3
        · rw [decide_eq_true (show (((splitL 58 l).length : Nat) : Int) < 3 by omega), bT, if_pos h3]; rfl
        · rw [decide_eq_false (show ¬ (((splitL 58 l).length : Nat) : Int) < 3 by omega), bF, if_neg h3]
          refine w51 g 50000 (by omega) (by omega) k1 (fun h8 => ?_)
          have := refB_len2 (cntP g) g
          simp only [Bool.false_eq_true, if_false] at k3
          have hc := cntP_le g
          rcases (show g.length = cntP g ∨ g.length = cntP g + 1 by omega) with e | e
          · rw [e] at this; omega
          · rw [e, Nat.mul_add] at this; omega
  · simp only [picked, pickAlt, decide_eq_false hs, Bool.false_and] at h; cases h

end Go.Pv

/- URLs: specs of what url.Parse is made of; cuts by one byte: trees. -/
namespace Go.Pv
set_option linter.unusedVariables false
set_option maxRecDepth 100000
open Go Go.Proofs

def brS (s : ByteArray) : Bool := s.data.toList.any fun b => decide (b = 91) || decide (b = 93)
def cutB (s : ByteArray) (c : UInt8) : ByteArray := mkS (s.data.toList.takeWhile fun b => !decide (b = c))
def cutA (s : ByteArray) (c : UInt8) : ByteArray := mkS ((s.data.toList.dropWhile fun b => !decide (b = c)).drop 1)
def cutF (s : ByteArray) (c : UInt8) : Bool := s.data.toList.any fun b => decide (b = c)
def auHU (s : ByteArray) : Bool := decide (0 ≤ lastI s 64)
def auUsr (s : ByteArray) : ByteArray := if auHU s then s.extract 0 (lastI s 64).toNat else ⟨#[]⟩
def auRest (s : ByteArray) : ByteArray := if auHU s then s.extract ((lastI s 64).toNat + 1) s.size else s
def auHP (s : ByteArray) : Bool := decide (0 ≤ lastI (auRest s) 58) && decide (lastI (auRest s) 93 < lastI (auRest s) 58)
def auPort (s : ByteArray) : ByteArray := if auHP s then (auRest s).extract ((lastI (auRest s) 58).toNat + 1) (auRest s).size else ⟨#[]⟩
def auHost (s : ByteArray) : ByteArray := if auHP s then (auRest s).extract 0 (lastI (auRest s) 58).toNat else auRest s
def hostS (s : ByteArray) : Bool := if decide (2 ≤ s.size) && (preS s ⟨#[91]⟩ && sufS s ⟨#[93]⟩) then ip6 (s.extract 1 (s.size - 1)) else !(s.data.toList.any fun b => inS ⟨#[58, 91, 93, 64]⟩ b.toNat)
def auOk (s : ByteArray) : Bool := hostS (auHost s) && (digS (auPort s) && !brS (auUsr s))
def L30 : Fn1 := fun x => match x with
  | [.str s] => some [(decide (s.size ≤ 10000), .bool (brS s), [])]
  | _ => none
def L60 : Fn1 := fun x => match x with
  | [.str s, .str ⟨⟨[c]⟩⟩] => some [(decide (s.size ≤ 10000), .int .i64 (Lib.indexByte s.data.toList c), [])]
  | _ => none
def L28 : Fn1 := fun x => match x with
  | [.str s, .str ⟨⟨[c]⟩⟩] => some [(decide (s.size ≤ 10000), .tup [.str (cutB s c), .str (cutA s c), .bool (cutF s c)], [])]
  | _ => none
def kU : Nat := 12 + 4294967296 * (26 + 1)
def L27 : Fn1 := fun x => match x with
  | [.boxv k (.agg [.str a, .str ⟨⟨[]⟩⟩, .bool false, .str ⟨⟨[]⟩⟩, .str ⟨⟨[]⟩⟩, .bool false, .bool true, .str ⟨⟨[]⟩⟩, .str ⟨⟨[]⟩⟩, .bool false, .str ⟨⟨[]⟩⟩, .bool false]), .str s] =>
    if Nat.beq k kU then some [(decide (s.size ≤ 2500), .bool (auOk s), [.agg [.str a, .str (auUsr s), .bool (auHU s), .str (auHost s), .str (auPort s), .bool (auHP s), .bool true, .str ⟨#[]⟩, .str ⟨#[]⟩, .bool false, .str ⟨#[]⟩, .bool false]])] else none
  | _ => none
def A30 : Table := fun g => if Nat.beq g 74 then L30 else A25 g
def A60 : Table := fun g => if Nat.beq g 118 then L60 else A30 g
def A48 : Table := fun g => if Nat.beq g 99 then L28 else A60 g
def A28 : Table := fun g => if Nat.beq g 73 then L28 else A48 g
def A47 : Table := fun g => if Nat.beq g 98 then L47 else A28 g
def A27 : Table := fun g => if Nat.beq g 72 then L27 else A47 g
def A51 : Table := fun g => if Nat.beq g 67 then L51 else A27 g
theorem ur30 (s : ByteArray) : abody Tryz.prog (call' A25) (fun _ => none) 1 74 [.str s] =
 bif' (decide (s.size ≤ 10000) && decide ((ByteArray.mk #[91, 93]).size ≤ 10000)) (some (CV.bool !(s.extract (findI s 0 (ByteArray.mk #[91, 93])) s.size).toList == (ByteArray.mk #[]).toList, [])) none := by kernel_rfl
theorem ur60 (s : ByteArray) (c : UInt8) : abody Tryz.prog (call' A30) (fun _ => none) 1 118 [.str s, .str ⟨⟨[c]⟩⟩] =
 bif' ((ByteArray.mk (Array.mk [c])).toList == s.toList) (some (CV.int IntKind.i64 (Int.ofNat 0), [])) (some (CV.int IntKind.i64 (Lib.indexByte s.data.toList (byteAt (ByteArray.mk (Array.mk [c])) (Int.toNat 0)).toNat.toUInt8), [])) := by kernel_rfl
theorem ur48 (s : ByteArray) (c : UInt8) : abody Tryz.prog (call' A60) (fun _ => none) 1 99 [.str s, .str ⟨⟨[c]⟩⟩] =
 bif' (decide (s.size ≤ 10000)) (bif' (decide (Lib.indexByte s.data.toList c ≥ 0)) (bif' (decide (0 ≤ Lib.indexByte s.data.toList c)) (bif' (decide (Lib.indexByte s.data.toList c ≤ (↑s.size : Int))) (bif' (decide (0 ≤ IntKind.i64.wrap (Lib.indexByte s.data.toList c + (↑(ByteArray.mk (Array.mk [c])).size : Int)))) (bif' (decide (IntKind.i64.wrap (Lib.indexByte s.data.toList c + (↑(ByteArray.mk (Array.mk [c])).size : Int)) ≤ (↑s.size : Int))) (bif' (decide ((↑s.size : Int) ≤ (↑s.size : Int))) (some (CV.tup [CV.str (s.extract (Int.toNat 0) (Lib.indexByte s.data.toList c).toNat), CV.str (s.extract (IntKind.i64.wrap (Lib.indexByte s.data.toList c + (↑(ByteArray.mk (Array.mk [c])).size : Int))).toNat (↑s.size : Int).toNat), CV.bool true], [])) none) none) none) none) none) (some (CV.tup [CV.str s, CV.str ⟨⟨[]⟩⟩, CV.bool false], []))) none := by kernel_rfl
theorem ur28 (s : ByteArray) (c : UInt8) : abody Tryz.prog (call' A48) (fun _ => none) 1 73 [.str s, .str ⟨⟨[c]⟩⟩] =
 bif' (decide (s.size ≤ 10000)) (some (CV.tup [CV.str (cutB s c), CV.str (cutA s c), CV.bool (cutF s c)], [])) none := by kernel_rfl

end Go.Pv

/- URLs: authority and url.Parse in pieces: trees. -/
namespace Go.Pv
set_option linter.unusedVariables false
set_option maxRecDepth 100000
open Go Go.Proofs

def letC : ByteArray := mkS ([97, 98, 99, 100, 101, 102, 103, 104, 105, 106, 107, 108, 109, 110, 111, 112, 113, 114, 115, 116, 117, 118, 119, 120, 121, 122, 65, 66, 67, 68, 69, 70] ++ [71, 72, 73, 74, 75, 76, 77, 78, 79, 80, 81, 82, 83, 84, 85, 86, 87, 88, 89, 90])
def schC : ByteArray := mkS ([97, 98, 99, 100, 101, 102, 103, 104, 105, 106, 107, 108, 109, 110, 111, 112, 113, 114, 115, 116, 117, 118, 119, 120, 121, 122, 65, 66, 67, 68, 69, 70] ++ [71, 72, 73, 74, 75, 76, 77, 78, 79, 80, 81, 82, 83, 84, 85, 86, 87, 88, 89, 90, 48, 49, 50, 51, 52, 53, 54, 55, 56, 57, 43, 45, 46])
def h27 : Head := ⟨[0, 1], [], 1⟩
def an27 : Ann := fun i => if Nat.beq i 500004 then some h27 else if Nat.beq i 500007 then some h27 else none
noncomputable def c27 : Code := codeOf Tryz.prog 72
abbrev uV (a us : ByteArray) (hu : Bool) (ho po : ByteArray) (hp t : Bool) (pa qu : ByteArray) (hq : Bool) (fr : ByteArray) (hf : Bool) : CV := .agg [.str a, .str us, .bool hu, .str ho, .str po, .bool hp, .bool t, .str pa, .str qu, .bool hq, .str fr, .bool hf]
abbrev zU (a : ByteArray) (t : Bool) : CV := uV a ⟨⟨[]⟩⟩ false ⟨⟨[]⟩⟩ ⟨⟨[]⟩⟩ false t ⟨⟨[]⟩⟩ ⟨⟨[]⟩⟩ false ⟨⟨[]⟩⟩ false
noncomputable def c13 : Code := codeOf Tryz.prog 47
noncomputable def d27a : Code := tailC 2 c27
noncomputable def d27b : Code := tailC 1 d27a
noncomputable def d13a : Code := tailC 4 c13
noncomputable def d13b : Code := tailC 1 d13a
noncomputable def d13c : Code := tailC 1 d13b
noncomputable def d13d : Code := tailC 1 d13c
def h13a : Head := ⟨[0, 2, 4, 5], [], 2⟩
def h13b : Head := ⟨[2, 4, 5, 8], [], 2⟩
def an13 : Ann := fun i => if Nat.beq i 500005 then some h13a else if Nat.beq i 500010 then some h13a else if Nat.beq i 500011 then some h13b else if Nat.beq i 500017 then some h13b else none
abbrev z0 : AO := .box (.c (zU ⟨⟨[]⟩⟩ false)) kU
theorem up27 (s a : ByteArray) (n : Nat) (L : Env → Hp → Res) (K : KX) : aexec Tryz.prog (call' A47) (filt an27 1) n (prefC 2 c27) (envOf Tryz.prog 72 [.bptr 0 0, .c (.str s)]) [.box (.c (zU a true)) kU] (thenK (headK h27 L) K) =
 bif' (decide (s.size ≤ 10000)) (bif' (decide (lastI s 64 ≥ 0)) (bif' (decide (0 ≤ lastI s 64)) (bif' (decide (lastI s 64 ≤ (↑s.size : Int))) (bif' (decide (0 ≤ IntKind.i64.wrap (lastI s 64 + 1))) (bif' (decide (IntKind.i64.wrap (lastI s 64 + 1) ≤ (↑s.size : Int))) (bif' (decide ((↑s.size : Int) ≤ (↑s.size : Int))) (L (mkEnv 122 [(0, PV.bptr 0 0), (1, PV.c (CV.str (s.extract (IntKind.i64.wrap (lastI s 64 + 1)).toNat (↑s.size : Int).toNat)))]) [AO.box (PV.c (CV.agg [CV.str a, CV.str (s.extract (Int.toNat 0) (lastI s 64).toNat), CV.bool true, CV.str ⟨⟨[]⟩⟩, CV.str ⟨⟨[]⟩⟩, CV.bool false, CV.bool true, CV.str ⟨⟨[]⟩⟩, CV.str ⟨⟨[]⟩⟩, CV.bool false, CV.str ⟨⟨[]⟩⟩, CV.bool false])) kU]) none) none) none) none) none) (L (mkEnv 122 [(0, PV.bptr 0 0), (1, PV.c (CV.str s))]) [AO.box (PV.c (CV.agg [CV.str a, CV.str ⟨⟨[]⟩⟩, CV.bool false, CV.str ⟨⟨[]⟩⟩, CV.str ⟨⟨[]⟩⟩, CV.bool false, CV.bool true, CV.str ⟨⟨[]⟩⟩, CV.str ⟨⟨[]⟩⟩, CV.bool false, CV.str ⟨⟨[]⟩⟩, CV.bool false])) kU])) none := by kernel_rfl
theorem uq27 (s a us : ByteArray) (hu : Bool) (n : Nat) (L : Env → Hp → Res) (K : KX) : aexecB Tryz.prog (call' A47) (filt an27 1) n (prefC 1 d27a) (mkEnv 122 [(0, .bptr 0 0), (1, .c (.str s))]) [.box (.c (uV a us hu ⟨⟨[]⟩⟩ ⟨⟨[]⟩⟩ false true ⟨⟨[]⟩⟩ ⟨⟨[]⟩⟩ false ⟨⟨[]⟩⟩ false)) kU] (thenK (headK h27 L) K) =
 bif' (decide (s.size ≤ 10000)) (bif' (decide (lastI s 58 ≥ 0)) (bif' (decide (s.size ≤ 10000)) (bif' (decide (lastI s 58 > lastI s 93)) (bif' (decide (0 ≤ IntKind.i64.wrap (lastI s 58 + 1))) (bif' (decide (IntKind.i64.wrap (lastI s 58 + 1) ≤ (↑s.size : Int))) (bif' (decide ((↑s.size : Int) ≤ (↑s.size : Int))) (bif' (decide (0 ≤ lastI s 58)) (bif' (decide (lastI s 58 ≤ (↑s.size : Int))) (L (mkEnv 122 [(0, PV.bptr 0 0), (1, PV.c (CV.str (s.extract (Int.toNat 0) (lastI s 58).toNat)))]) [AO.box (PV.c (CV.agg [CV.str a, CV.str us, CV.bool hu, CV.str ⟨⟨[]⟩⟩, CV.str (s.extract (IntKind.i64.wrap (lastI s 58 + 1)).toNat (↑s.size : Int).toNat), CV.bool true, CV.bool true, CV.str ⟨⟨[]⟩⟩, CV.str ⟨⟨[]⟩⟩, CV.bool false, CV.str ⟨⟨[]⟩⟩, CV.bool false])) kU]) none) none) none) none) none) (L (mkEnv 122 [(0, PV.bptr 0 0), (1, PV.c (CV.str s))]) [AO.box (PV.c (CV.agg [CV.str a, CV.str us, CV.bool hu, CV.str ⟨⟨[]⟩⟩, CV.str ⟨⟨[]⟩⟩, CV.bool false, CV.bool true, CV.str ⟨⟨[]⟩⟩, CV.str ⟨⟨[]⟩⟩, CV.bool false, CV.str ⟨⟨[]⟩⟩, CV.bool false])) kU])) none) (L (mkEnv 122 [(0, PV.bptr 0 0), (1, PV.c (CV.str s))]) [AO.box (PV.c (CV.agg [CV.str a, CV.str us, CV.bool hu, CV.str ⟨⟨[]⟩⟩, CV.str ⟨⟨[]⟩⟩, CV.bool false, CV.bool true, CV.str ⟨⟨[]⟩⟩, CV.str ⟨⟨[]⟩⟩, CV.bool false, CV.str ⟨⟨[]⟩⟩, CV.bool false])) kU])) none := by kernel_rfl
theorem us27 (s a us po : ByteArray) (hu hp : Bool) (n : Nat) : aexecB Tryz.prog (call' A47) (filt an27 1) n d27b (mkEnv 122 [(0, .bptr 0 0), (1, .c (.str s))]) [.box (.c (uV a us hu ⟨⟨[]⟩⟩ po hp true ⟨⟨[]⟩⟩ ⟨⟨[]⟩⟩ false ⟨⟨[]⟩⟩ false)) kU] (endOf Tryz.prog 72 [kU]) =
 bif' (preS s (ByteArray.mk #[91])) (bif' (decide ((s.extract (ByteArray.mk #[91]).size s.size).size ≤ 10000) && sufS (s.extract (ByteArray.mk #[91]).size s.size) (ByteArray.mk #[93])) (bif' (decide (((s.extract (ByteArray.mk #[91]).size s.size).extract 0 ((s.extract (ByteArray.mk #[91]).size s.size).size - (ByteArray.mk #[93]).size)).size ≤ 3000) && ip6 ((s.extract (ByteArray.mk #[91]).size s.size).extract 0 ((s.extract (ByteArray.mk #[91]).size s.size).size - (ByteArray.mk #[93]).size))) (bif' (decide (po.size ≤ 10000) && (decide ((ByteArray.mk #[48, 49, 50, 51, 52, 53, 54, 55, 56, 57]).size ≤ 100) && asciiS (ByteArray.mk #[48, 49, 50, 51, 52, 53, 54, 55, 56, 57]))) (bif' (allS po (ByteArray.mk #[48, 49, 50, 51, 52, 53, 54, 55, 56, 57])) (bif' (decide (us.size ≤ 10000)) (some (CV.bool !brS us, [CV.agg [CV.str a, CV.str us, CV.bool hu, CV.str s, CV.str po, CV.bool hp, CV.bool true, CV.str ⟨⟨[]⟩⟩, CV.str ⟨⟨[]⟩⟩, CV.bool false, CV.str ⟨⟨[]⟩⟩, CV.bool false]])) none) (some (CV.bool false, [CV.agg [CV.str a, CV.str us, CV.bool hu, CV.str s, CV.str po, CV.bool hp, CV.bool true, CV.str ⟨⟨[]⟩⟩, CV.str ⟨⟨[]⟩⟩, CV.bool false, CV.str ⟨⟨[]⟩⟩, CV.bool false]]))) none) (bif' (decide (((s.extract (ByteArray.mk #[91]).size s.size).extract 0 ((s.extract (ByteArray.mk #[91]).size s.size).size - (ByteArray.mk #[93]).size)).size ≤ 3000) && ip4 ((s.extract (ByteArray.mk #[91]).size s.size).extract 0 ((s.extract (ByteArray.mk #[91]).size s.size).size - (ByteArray.mk #[93]).size))) (some (CV.bool false, [CV.agg [CV.str a, CV.str us, CV.bool hu, CV.str s, CV.str po, CV.bool hp, CV.bool true, CV.str ⟨⟨[]⟩⟩, CV.str ⟨⟨[]⟩⟩, CV.bool false, CV.str ⟨⟨[]⟩⟩, CV.bool false]])) (bif' (decide (((s.extract (ByteArray.mk #[91]).size s.size).extract 0 ((s.extract (ByteArray.mk #[91]).size s.size).size - (ByteArray.mk #[93]).size)).size ≤ 3000)) (some (CV.bool false, [CV.agg [CV.str a, CV.str us, CV.bool hu, CV.str s, CV.str po, CV.bool hp, CV.bool true, CV.str ⟨⟨[]⟩⟩, CV.str ⟨⟨[]⟩⟩, CV.bool false, CV.str ⟨⟨[]⟩⟩, CV.bool false]])) none))) (bif' (decide ((s.extract (ByteArray.mk #[91]).size s.size).size ≤ 10000)) (bif' (decide (s.size ≤ 10000) && decide ((ByteArray.mk #[58, 91, 93, 64]).size ≤ 10000)) (bif' ((s.extract 0 (findI s 0 (ByteArray.mk #[58, 91, 93, 64]))).toList == s.toList) (bif' (decide (po.size ≤ 10000) && (decide ((ByteArray.mk #[48, 49, 50, 51, 52, 53, 54, 55, 56, 57]).size ≤ 100) && asciiS (ByteArray.mk #[48, 49, 50, 51, 52, 53, 54, 55, 56, 57]))) (bif' (allS po (ByteArray.mk #[48, 49, 50, 51, 52, 53, 54, 55, 56, 57])) (bif' (decide (us.size ≤ 10000)) (some (CV.bool !brS us, [CV.agg [CV.str a, CV.str us, CV.bool hu, CV.str s, CV.str po, CV.bool hp, CV.bool true, CV.str ⟨⟨[]⟩⟩, CV.str ⟨⟨[]⟩⟩, CV.bool false, CV.str ⟨⟨[]⟩⟩, CV.bool false]])) none) (some (CV.bool false, [CV.agg [CV.str a, CV.str us, CV.bool hu, CV.str s, CV.str po, CV.bool hp, CV.bool true, CV.str ⟨⟨[]⟩⟩, CV.str ⟨⟨[]⟩⟩, CV.bool false, CV.str ⟨⟨[]⟩⟩, CV.bool false]]))) none) (some (CV.bool false, [CV.agg [CV.str a, CV.str us, CV.bool hu, CV.str s, CV.str po, CV.bool hp, CV.bool true, CV.str ⟨⟨[]⟩⟩, CV.str ⟨⟨[]⟩⟩, CV.bool false, CV.str ⟨⟨[]⟩⟩, CV.bool false]]))) none) none)) (bif' (decide (s.size ≤ 10000) && sufS s (ByteArray.mk #[93])) (bif' (decide (s.size ≤ 10000) && decide ((ByteArray.mk #[58, 91, 93, 64]).size ≤ 10000)) (bif' ((s.extract 0 (findI s 0 (ByteArray.mk #[58, 91, 93, 64]))).toList == s.toList) (bif' (decide (po.size ≤ 10000) && (decide ((ByteArray.mk #[48, 49, 50, 51, 52, 53, 54, 55, 56, 57]).size ≤ 100) && asciiS (ByteArray.mk #[48, 49, 50, 51, 52, 53, 54, 55, 56, 57]))) (bif' (allS po (ByteArray.mk #[48, 49, 50, 51, 52, 53, 54, 55, 56, 57])) (bif' (decide (us.size ≤ 10000)) (some (CV.bool !brS us, [CV.agg [CV.str a, CV.str us, CV.bool hu, CV.str s, CV.str po, CV.bool hp, CV.bool true, CV.str ⟨⟨[]⟩⟩, CV.str ⟨⟨[]⟩⟩, CV.bool false, CV.str ⟨⟨[]⟩⟩, CV.bool false]])) none) (some (CV.bool false, [CV.agg [CV.str a, CV.str us, CV.bool hu, CV.str s, CV.str po, CV.bool hp, CV.bool true, CV.str ⟨⟨[]⟩⟩, CV.str ⟨⟨[]⟩⟩, CV.bool false, CV.str ⟨⟨[]⟩⟩, CV.bool false]]))) none) (some (CV.bool false, [CV.agg [CV.str a, CV.str us, CV.bool hu, CV.str s, CV.str po, CV.bool hp, CV.bool true, CV.str ⟨⟨[]⟩⟩, CV.str ⟨⟨[]⟩⟩, CV.bool false, CV.str ⟨⟨[]⟩⟩, CV.bool false]]))) none) (bif' (decide (s.size ≤ 10000)) (bif' (decide (s.size ≤ 10000) && decide ((ByteArray.mk #[58, 91, 93, 64]).size ≤ 10000)) (bif' ((s.extract 0 (findI s 0 (ByteArray.mk #[58, 91, 93, 64]))).toList == s.toList) (bif' (decide (po.size ≤ 10000) && (decide ((ByteArray.mk #[48, 49, 50, 51, 52, 53, 54, 55, 56, 57]).size ≤ 100) && asciiS (ByteArray.mk #[48, 49, 50, 51, 52, 53, 54, 55, 56, 57]))) (bif' (allS po (ByteArray.mk #[48, 49, 50, 51, 52, 53, 54, 55, 56, 57])) (bif' (decide (us.size ≤ 10000)) (some (CV.bool !brS us, [CV.agg [CV.str a, CV.str us, CV.bool hu, CV.str s, CV.str po, CV.bool hp, CV.bool true, CV.str ⟨⟨[]⟩⟩, CV.str ⟨⟨[]⟩⟩, CV.bool false, CV.str ⟨⟨[]⟩⟩, CV.bool false]])) none) (some (CV.bool false, [CV.agg [CV.str a, CV.str us, CV.bool hu, CV.str s, CV.str po, CV.bool hp, CV.bool true, CV.str ⟨⟨[]⟩⟩, CV.str ⟨⟨[]⟩⟩, CV.bool false, CV.str ⟨⟨[]⟩⟩, CV.bool false]]))) none) (some (CV.bool false, [CV.agg [CV.str a, CV.str us, CV.bool hu, CV.str s, CV.str po, CV.bool hp, CV.bool true, CV.str ⟨⟨[]⟩⟩, CV.str ⟨⟨[]⟩⟩, CV.bool false, CV.str ⟨⟨[]⟩⟩, CV.bool false]]))) none) none)) := by kernel_rfl
theorem up13 (s : ByteArray) (n : Nat) (L : Env → Hp → Res) : aexec Tryz.prog (call' A27) (filt an13 0) n (prefC 4 c13) (envOf Tryz.prog 47 [.c (.str s)]) [] (thenK (headK h13a L) (endOf Tryz.prog 47 [])) =
 bif' (decide ((↑s.size : Int) > 2048)) (some (CV.tup [CV.agg [CV.str ⟨⟨[]⟩⟩, CV.str ⟨⟨[]⟩⟩, CV.bool false, CV.str ⟨⟨[]⟩⟩, CV.str ⟨⟨[]⟩⟩, CV.bool false, CV.bool false, CV.str ⟨⟨[]⟩⟩, CV.str ⟨⟨[]⟩⟩, CV.bool false, CV.str ⟨⟨[]⟩⟩, CV.bool false], CV.int IntKind.i64 (Int.ofNat 3)], [])) (L (mkEnv 104 [(0, PV.c (CV.str s)), (2, PV.bptr 0 0), (4, PV.bptr 1 0), (5, PV.c (CV.str s))]) [AO.box (PV.c (CV.agg [CV.str ⟨⟨[]⟩⟩, CV.str ⟨⟨[]⟩⟩, CV.bool false, CV.str ⟨⟨[]⟩⟩, CV.str ⟨⟨[]⟩⟩, CV.bool false, CV.bool false, CV.str ⟨⟨[]⟩⟩, CV.str ⟨⟨[]⟩⟩, CV.bool false, CV.str ⟨⟨[]⟩⟩, CV.bool false])) kU, AO.box (PV.c (CV.agg [CV.str ⟨⟨[]⟩⟩, CV.str ⟨⟨[]⟩⟩, CV.bool false, CV.str ⟨⟨[]⟩⟩, CV.str ⟨⟨[]⟩⟩, CV.bool false, CV.bool false, CV.str ⟨⟨[]⟩⟩, CV.str ⟨⟨[]⟩⟩, CV.bool false, CV.str ⟨⟨[]⟩⟩, CV.bool false])) kU]) := by kernel_rfl
theorem uq13 (s : ByteArray) (n : Nat) (L : Env → Hp → Res) : aexecB Tryz.prog (call' A27) (filt an13 0) n (prefC 1 d13a) (mkEnv 104 [(0, .c (.str s)), (2, .bptr 0 0), (4, .bptr 1 0), (5, .c (.str s))]) [z0, z0] (thenK (headK h13a L) (endOf Tryz.prog 47 [])) =
 bif' (decide (s.size ≤ 10000) && decide ((ByteArray.mk #[58, 47, 63, 35]).size ≤ 10000)) (bif' (!(s.extract (findI s 0 (ByteArray.mk #[58, 47, 63, 35])) s.size).toList == (ByteArray.mk #[]).toList) (bif' (decide (0 < (↑(s.extract (findI s 0 (ByteArray.mk #[58, 47, 63, 35])) s.size).size : Int))) (bif' (byteAt (s.extract (findI s 0 (ByteArray.mk #[58, 47, 63, 35])) s.size) (Int.toNat 0) == 58) (bif' ((s.extract 0 (findI s 0 (ByteArray.mk #[58, 47, 63, 35]))).toList == (ByteArray.mk #[]).toList) (some (CV.tup [CV.agg [CV.str ⟨⟨[]⟩⟩, CV.str ⟨⟨[]⟩⟩, CV.bool false, CV.str ⟨⟨[]⟩⟩, CV.str ⟨⟨[]⟩⟩, CV.bool false, CV.bool false, CV.str ⟨⟨[]⟩⟩, CV.str ⟨⟨[]⟩⟩, CV.bool false, CV.str ⟨⟨[]⟩⟩, CV.bool false], CV.int IntKind.i64 (Int.ofNat 5)], [])) (bif' (decide ((s.extract 0 (findI s 0 (ByteArray.mk #[58, 47, 63, 35]))).size ≤ 10000) && (decide (schC.size ≤ 100) && asciiS schC)) (bif' (!allS (s.extract 0 (findI s 0 (ByteArray.mk #[58, 47, 63, 35]))) schC) (some (CV.tup [CV.agg [CV.str ⟨⟨[]⟩⟩, CV.str ⟨⟨[]⟩⟩, CV.bool false, CV.str ⟨⟨[]⟩⟩, CV.str ⟨⟨[]⟩⟩, CV.bool false, CV.bool false, CV.str ⟨⟨[]⟩⟩, CV.str ⟨⟨[]⟩⟩, CV.bool false, CV.str ⟨⟨[]⟩⟩, CV.bool false], CV.int IntKind.i64 (Int.ofNat 5)], [])) (bif' (decide (1 ≤ (↑(s.extract 0 (findI s 0 (ByteArray.mk #[58, 47, 63, 35]))).size : Int))) (bif' (decide (((s.extract 0 (findI s 0 (ByteArray.mk #[58, 47, 63, 35]))).extract (Int.toNat 0) (Int.toNat 1)).size ≤ 10000) && (decide (letC.size ≤ 100) && asciiS letC)) (bif' (!allS ((s.extract 0 (findI s 0 (ByteArray.mk #[58, 47, 63, 35]))).extract (Int.toNat 0) (Int.toNat 1)) letC) (some (CV.tup [CV.agg [CV.str ⟨⟨[]⟩⟩, CV.str ⟨⟨[]⟩⟩, CV.bool false, CV.str ⟨⟨[]⟩⟩, CV.str ⟨⟨[]⟩⟩, CV.bool false, CV.bool false, CV.str ⟨⟨[]⟩⟩, CV.str ⟨⟨[]⟩⟩, CV.bool false, CV.str ⟨⟨[]⟩⟩, CV.bool false], CV.int IntKind.i64 (Int.ofNat 5)], [])) (bif' (decide (1 ≤ (↑(s.extract (findI s 0 (ByteArray.mk #[58, 47, 63, 35])) s.size).size : Int))) (bif' (decide ((↑(s.extract (findI s 0 (ByteArray.mk #[58, 47, 63, 35])) s.size).size : Int) ≤ (↑(s.extract (findI s 0 (ByteArray.mk #[58, 47, 63, 35])) s.size).size : Int))) (L (mkEnv 104 [(0, PV.c (CV.str s)), (2, PV.bptr 0 0), (4, PV.bptr 1 0), (5, PV.c (CV.str ((s.extract (findI s 0 (ByteArray.mk #[58, 47, 63, 35])) s.size).extract (Int.toNat 1) (↑(s.extract (findI s 0 (ByteArray.mk #[58, 47, 63, 35])) s.size).size : Int).toNat)))]) [AO.box (PV.c (CV.agg [CV.str ⟨⟨[]⟩⟩, CV.str ⟨⟨[]⟩⟩, CV.bool false, CV.str ⟨⟨[]⟩⟩, CV.str ⟨⟨[]⟩⟩, CV.bool false, CV.bool false, CV.str ⟨⟨[]⟩⟩, CV.str ⟨⟨[]⟩⟩, CV.bool false, CV.str ⟨⟨[]⟩⟩, CV.bool false])) kU, AO.box (PV.c (CV.agg [CV.str (s.extract 0 (findI s 0 (ByteArray.mk #[58, 47, 63, 35]))), CV.str ⟨⟨[]⟩⟩, CV.bool false, CV.str ⟨⟨[]⟩⟩, CV.str ⟨⟨[]⟩⟩, CV.bool false, CV.bool false, CV.str ⟨⟨[]⟩⟩, CV.str ⟨⟨[]⟩⟩, CV.bool false, CV.str ⟨⟨[]⟩⟩, CV.bool false])) kU]) none) none)) none) none)) none)) (L (mkEnv 104 [(0, PV.c (CV.str s)), (2, PV.bptr 0 0), (4, PV.bptr 1 0), (5, PV.c (CV.str s))]) [AO.box (PV.c (CV.agg [CV.str ⟨⟨[]⟩⟩, CV.str ⟨⟨[]⟩⟩, CV.bool false, CV.str ⟨⟨[]⟩⟩, CV.str ⟨⟨[]⟩⟩, CV.bool false, CV.bool false, CV.str ⟨⟨[]⟩⟩, CV.str ⟨⟨[]⟩⟩, CV.bool false, CV.str ⟨⟨[]⟩⟩, CV.bool false])) kU, AO.box (PV.c (CV.agg [CV.str ⟨⟨[]⟩⟩, CV.str ⟨⟨[]⟩⟩, CV.bool false, CV.str ⟨⟨[]⟩⟩, CV.str ⟨⟨[]⟩⟩, CV.bool false, CV.bool false, CV.str ⟨⟨[]⟩⟩, CV.str ⟨⟨[]⟩⟩, CV.bool false, CV.str ⟨⟨[]⟩⟩, CV.bool false])) kU])) none) (L (mkEnv 104 [(0, PV.c (CV.str s)), (2, PV.bptr 0 0), (4, PV.bptr 1 0), (5, PV.c (CV.str s))]) [AO.box (PV.c (CV.agg [CV.str ⟨⟨[]⟩⟩, CV.str ⟨⟨[]⟩⟩, CV.bool false, CV.str ⟨⟨[]⟩⟩, CV.str ⟨⟨[]⟩⟩, CV.bool false, CV.bool false, CV.str ⟨⟨[]⟩⟩, CV.str ⟨⟨[]⟩⟩, CV.bool false, CV.str ⟨⟨[]⟩⟩, CV.bool false])) kU, AO.box (PV.c (CV.agg [CV.str ⟨⟨[]⟩⟩, CV.str ⟨⟨[]⟩⟩, CV.bool false, CV.str ⟨⟨[]⟩⟩, CV.str ⟨⟨[]⟩⟩, CV.bool false, CV.bool false, CV.str ⟨⟨[]⟩⟩, CV.str ⟨⟨[]⟩⟩, CV.bool false, CV.str ⟨⟨[]⟩⟩, CV.bool false])) kU])) none := by kernel_rfl
theorem ur13 (s r a : ByteArray) (n : Nat) (L : Env → Hp → Res) : aexecB Tryz.prog (call' A27) (filt an13 0) n (prefC 1 d13b) (mkEnv 104 [(0, .c (.str s)), (2, .bptr 0 0), (4, .bptr 1 0), (5, .c (.str r))]) [z0, .box (.c (zU a false)) kU] (thenK (headK h13b L) (endOf Tryz.prog 47 [])) =
 bif' (decide (s.size ≤ 10000)) (L (mkEnv 104 [(2, PV.bptr 0 0), (4, PV.bptr 1 0), (5, PV.c (CV.str r)), (8, PV.c (CV.bool (stS s)))]) [AO.box (PV.c (CV.agg [CV.str ⟨⟨[]⟩⟩, CV.str ⟨⟨[]⟩⟩, CV.bool false, CV.str ⟨⟨[]⟩⟩, CV.str ⟨⟨[]⟩⟩, CV.bool false, CV.bool false, CV.str ⟨⟨[]⟩⟩, CV.str ⟨⟨[]⟩⟩, CV.bool false, CV.str ⟨⟨[]⟩⟩, CV.bool false])) kU, AO.box (PV.c (CV.agg [CV.str a, CV.str ⟨⟨[]⟩⟩, CV.bool false, CV.str ⟨⟨[]⟩⟩, CV.str ⟨⟨[]⟩⟩, CV.bool false, CV.bool false, CV.str ⟨⟨[]⟩⟩, CV.str ⟨⟨[]⟩⟩, CV.bool false, CV.str ⟨⟨[]⟩⟩, CV.bool false])) kU]) none := by kernel_rfl
theorem us13 (r a : ByteArray) (ok : Bool) (n : Nat) (L : Env → Hp → Res) : aexecB Tryz.prog (call' A27) (filt an13 0) n (prefC 1 d13c) (mkEnv 104 [(2, .bptr 0 0), (4, .bptr 1 0), (5, .c (.str r)), (8, .c (.bool ok))]) [z0, .box (.c (zU a false)) kU] (thenK (headK h13b L) (endOf Tryz.prog 47 [])) =
 bif' (preS r (ByteArray.mk #[47, 47])) (bif' (decide ((r.extract (ByteArray.mk #[47, 47]).size r.size).size ≤ 10000) && decide ((ByteArray.mk #[47, 63, 35]).size ≤ 10000)) (bif' ok (bif' (decide (((r.extract (ByteArray.mk #[47, 47]).size r.size).extract 0 (findI (r.extract (ByteArray.mk #[47, 47]).size r.size) 0 (ByteArray.mk #[47, 63, 35]))).size ≤ 2500)) (L (mkEnv 104 [(2, PV.bptr 0 0), (4, PV.bptr 1 0), (5, PV.c (CV.str ((r.extract (ByteArray.mk #[47, 47]).size r.size).extract (findI (r.extract (ByteArray.mk #[47, 47]).size r.size) 0 (ByteArray.mk #[47, 63, 35])) (r.extract (ByteArray.mk #[47, 47]).size r.size).size))), (8, PV.c (CV.bool (auOk ((r.extract (ByteArray.mk #[47, 47]).size r.size).extract 0 (findI (r.extract (ByteArray.mk #[47, 47]).size r.size) 0 (ByteArray.mk #[47, 63, 35]))))))]) [AO.box (PV.c (CV.agg [CV.str ⟨⟨[]⟩⟩, CV.str ⟨⟨[]⟩⟩, CV.bool false, CV.str ⟨⟨[]⟩⟩, CV.str ⟨⟨[]⟩⟩, CV.bool false, CV.bool false, CV.str ⟨⟨[]⟩⟩, CV.str ⟨⟨[]⟩⟩, CV.bool false, CV.str ⟨⟨[]⟩⟩, CV.bool false])) kU, AO.box (PV.c (CV.agg [CV.str a, CV.str (auUsr ((r.extract (ByteArray.mk #[47, 47]).size r.size).extract 0 (findI (r.extract (ByteArray.mk #[47, 47]).size r.size) 0 (ByteArray.mk #[47, 63, 35])))), CV.bool (auHU ((r.extract (ByteArray.mk #[47, 47]).size r.size).extract 0 (findI (r.extract (ByteArray.mk #[47, 47]).size r.size) 0 (ByteArray.mk #[47, 63, 35])))), CV.str (auHost ((r.extract (ByteArray.mk #[47, 47]).size r.size).extract 0 (findI (r.extract (ByteArray.mk #[47, 47]).size r.size) 0 (ByteArray.mk #[47, 63, 35])))), CV.str (auPort ((r.extract (ByteArray.mk #[47, 47]).size r.size).extract 0 (findI (r.extract (ByteArray.mk #[47, 47]).size r.size) 0 (ByteArray.mk #[47, 63, 35])))), CV.bool (auHP ((r.extract (ByteArray.mk #[47, 47]).size r.size).extract 0 (findI (r.extract (ByteArray.mk #[47, 47]).size r.size) 0 (ByteArray.mk #[47, 63, 35])))), CV.bool true, CV.str ⟨⟨[]⟩⟩, CV.str ⟨⟨[]⟩⟩, CV.bool false, CV.str ⟨⟨[]⟩⟩, CV.bool false])) kU]) none) (L (mkEnv 104 [(2, PV.bptr 0 0), (4, PV.bptr 1 0), (5, PV.c (CV.str ((r.extract (ByteArray.mk #[47, 47]).size r.size).extract (findI (r.extract (ByteArray.mk #[47, 47]).size r.size) 0 (ByteArray.mk #[47, 63, 35])) (r.extract (ByteArray.mk #[47, 47]).size r.size).size))), (8, PV.c (CV.bool false))]) [AO.box (PV.c (CV.agg [CV.str ⟨⟨[]⟩⟩, CV.str ⟨⟨[]⟩⟩, CV.bool false, CV.str ⟨⟨[]⟩⟩, CV.str ⟨⟨[]⟩⟩, CV.bool false, CV.bool false, CV.str ⟨⟨[]⟩⟩, CV.str ⟨⟨[]⟩⟩, CV.bool false, CV.str ⟨⟨[]⟩⟩, CV.bool false])) kU, AO.box (PV.c (CV.agg [CV.str a, CV.str ⟨⟨[]⟩⟩, CV.bool false, CV.str ⟨⟨[]⟩⟩, CV.str ⟨⟨[]⟩⟩, CV.bool false, CV.bool true, CV.str ⟨⟨[]⟩⟩, CV.str ⟨⟨[]⟩⟩, CV.bool false, CV.str ⟨⟨[]⟩⟩, CV.bool false])) kU])) none) (L (mkEnv 104 [(2, PV.bptr 0 0), (4, PV.bptr 1 0), (5, PV.c (CV.str r)), (8, PV.c (CV.bool ok))]) [AO.box (PV.c (CV.agg [CV.str ⟨⟨[]⟩⟩, CV.str ⟨⟨[]⟩⟩, CV.bool false, CV.str ⟨⟨[]⟩⟩, CV.str ⟨⟨[]⟩⟩, CV.bool false, CV.bool false, CV.str ⟨⟨[]⟩⟩, CV.str ⟨⟨[]⟩⟩, CV.bool false, CV.str ⟨⟨[]⟩⟩, CV.bool false])) kU, AO.box (PV.c (CV.agg [CV.str a, CV.str ⟨⟨[]⟩⟩, CV.bool false, CV.str ⟨⟨[]⟩⟩, CV.str ⟨⟨[]⟩⟩, CV.bool false, CV.bool false, CV.str ⟨⟨[]⟩⟩, CV.str ⟨⟨[]⟩⟩, CV.bool false, CV.str ⟨⟨[]⟩⟩, CV.bool false])) kU]) := by kernel_rfl
theorem ut13 (r a us ho po : ByteArray) (hu hp t ok : Bool) (n : Nat) : aexecB Tryz.prog (call' A27) (filt an13 0) n d13d (mkEnv 104 [(2, .bptr 0 0), (4, .bptr 1 0), (5, .c (.str r)), (8, .c (.bool ok))]) [z0, .box (.c (uV a us hu ho po hp t ⟨⟨[]⟩⟩ ⟨⟨[]⟩⟩ false ⟨⟨[]⟩⟩ false)) kU] (endOf Tryz.prog 47 []) =
 bif' (decide (r.size ≤ 10000)) (bif' (decide ((cutB r 35).size ≤ 10000)) (bif' (!ok) (some (CV.tup [CV.agg [CV.str ⟨⟨[]⟩⟩, CV.str ⟨⟨[]⟩⟩, CV.bool false, CV.str ⟨⟨[]⟩⟩, CV.str ⟨⟨[]⟩⟩, CV.bool false, CV.bool false, CV.str ⟨⟨[]⟩⟩, CV.str ⟨⟨[]⟩⟩, CV.bool false, CV.str ⟨⟨[]⟩⟩, CV.bool false], CV.int IntKind.i64 (Int.ofNat 5)], [])) (bif' (decide (Lib.indexByte (cutA r 35).data.toList (Int.toNat 35).toUInt8 ≥ 0)) (some (CV.tup [CV.agg [CV.str ⟨⟨[]⟩⟩, CV.str ⟨⟨[]⟩⟩, CV.bool false, CV.str ⟨⟨[]⟩⟩, CV.str ⟨⟨[]⟩⟩, CV.bool false, CV.bool false, CV.str ⟨⟨[]⟩⟩, CV.str ⟨⟨[]⟩⟩, CV.bool false, CV.str ⟨⟨[]⟩⟩, CV.bool false], CV.int IntKind.i64 (Int.ofNat 5)], [])) (bif' (fitsS ((cutB (cutB r 35) 63).size + (cutA (cutB r 35) 63).size)) (bif' (fitsS ((cutB (cutB r 35) 63 ++ cutA (cutB r 35) 63).size + (cutA r 35).size)) (bif' (decide ((cutB (cutB r 35) 63 ++ cutA (cutB r 35) 63 ++ cutA r 35).size ≤ 10000)) (bif' (brS (cutB (cutB r 35) 63 ++ cutA (cutB r 35) 63 ++ cutA r 35)) (some (CV.tup [CV.agg [CV.str ⟨⟨[]⟩⟩, CV.str ⟨⟨[]⟩⟩, CV.bool false, CV.str ⟨⟨[]⟩⟩, CV.str ⟨⟨[]⟩⟩, CV.bool false, CV.bool false, CV.str ⟨⟨[]⟩⟩, CV.str ⟨⟨[]⟩⟩, CV.bool false, CV.str ⟨⟨[]⟩⟩, CV.bool false], CV.int IntKind.i64 (Int.ofNat 5)], [])) (some (CV.tup [CV.agg [CV.str a, CV.str us, CV.bool hu, CV.str ho, CV.str po, CV.bool hp, CV.bool t, CV.str (cutB (cutB r 35) 63), CV.str (cutA (cutB r 35) 63), CV.bool (cutF (cutB r 35) 63), CV.str (cutA r 35), CV.bool (cutF r 35)], CV.int IntKind.i64 (Int.ofNat 0)], []))) none) none) none))) none) none := by kernel_rfl

end Go.Pv

/- Parts of URLs: brackets; cuts at a byte. -/
namespace Go.Pv
set_option linter.unusedVariables false
set_option maxRecDepth 100000
open Go Go.Proofs
variable {I : World → Prop} {ng : Nat}

/-! ### Where the first byte of a set is -/
theorem findL_le (p : List UInt8) : ∀ l : List UInt8, findL p l ≤ l.length
  | [] => Nat.le_refl _
  | b :: t => by
    unfold findL
    split
    · omega
    · have := findL_le p t; simp only [List.length_cons]; omega
theorem take_findL (p : List UInt8) : ∀ l : List UInt8, l.take (findL p l) = l.takeWhile fun b => !inS (mkS p) b.toNat
  | [] => rfl
  | b :: t => by
    unfold findL
    cases h : inS (mkS p) b.toNat with
    | true => simp [List.takeWhile_cons, h]
    | false => simp [List.takeWhile_cons, h, take_findL p t]
theorem drop_findL (p : List UInt8) : ∀ l : List UInt8, l.drop (findL p l) = l.dropWhile fun b => !inS (mkS p) b.toNat
  | [] => rfl
  | b :: t => by
    unfold findL
    cases h : inS (mkS p) b.toNat with
    | true => simp [List.dropWhile_cons, h]
    | false => simp [List.dropWhile_cons, h, drop_findL p t]
theorem in_lit (p : List UInt8) (b : UInt8) : inS (mkS p) b.toNat = p.contains b := by
  unfold inS
  rw [mkS_data, Bool.eq_iff_iff, List.any_eq_true, List.contains_iff_mem]
  constructor
  · rintro ⟨x, hx, h⟩
    rw [decide_eq_true_eq] at h
    have : x = b := u8_int.1 h
    subst this; exact hx
  · intro h
    exact ⟨b, h, by simp⟩
theorem dropWhile_nil {q : UInt8 → Bool} : ∀ {l : List UInt8}, l.dropWhile q = [] ↔ l.all q = true
  | [] => by simp
  | b :: t => by
    rw [List.dropWhile_cons, List.all_cons]
    cases h : q b with
    | true => simpa using dropWhile_nil
    | false => simp
theorem find0 (l p : List UInt8) : findI (mkS l) 0 (mkS p) = findL p l := by
  unfold findI
  rw [mkS_data, mkS_data, List.drop_zero, Nat.zero_add]
theorem brS_mk (l : List UInt8) : brS (mkS l) = !decide (l.drop (findL [91, 93] l) = []) := by
  unfold brS
  rw [mkS_data, drop_findL, Bool.eq_iff_iff, List.any_eq_true, Bool.not_eq_true', decide_eq_false_iff_not, dropWhile_nil, List.all_eq_true]
  constructor
  · rintro ⟨x, hx, h⟩ ha
    have := ha x hx
    rw [in_lit] at this
    simp at this h
    rcases h with rfl | rfl <;> simp at this
  · intro h
    refine Classical.byContradiction fun hn => h fun x hx => ?_
    rw [in_lit]
    refine Classical.byContradiction fun h2 => hn ⟨x, hx, ?_⟩
    simp at h2
    simp only [Bool.or_eq_true, decide_eq_true_eq]
    exact Decidable.or_iff_not_imp_left.2 h2
theorem size_lit : (decide ((mkS [91, 93]).size ≤ 10000)) = true := rfl
theorem g30 (hg : OnGlobals I ng) (h : Kw I ng A23) : Kw I ng A30 := known_add (g25 hg h) (contract_of (fun _ => none) hg (hok_of (g25 hg h)) fun cargs rv outs h => by
  unfold L30 at h
  split at h <;> first | (cases h; done) | skip
  rename_i s
  by_cases hs : s.size ≤ 10000
  · simp only [picked, pickAlt, decide_eq_true hs] at h
    cases h
    refine ⟨1, ?_⟩
    obtain ⟨l, rfl⟩ : ∃ l, s = mkS l := ⟨_, (mkS_bl s).symm⟩
    rw [ur30]
    have e : (ByteArray.mk #[91, 93]) = mkS [91, 93] := rfl
    have e0 : (ByteArray.mk #[]) = mkS [] := rfl
    rw [e, e0, size_lit, Bool.and_true, bif_t _ _ (decide_eq_true hs), find0, mkS_ext, toList_data, toList_data, mkS_data, mkS_data, sizeM]
    have hl : (l.drop (findL [91, 93] l)).take (l.length - findL [91, 93] l) = l.drop (findL [91, 93] l) := List.take_of_length_le (by simp)
    rw [hl, brS_mk]
    congr 3
    cases l.drop (findL [91, 93] l) <;> rfl
  · simp only [picked, pickAlt, decide_eq_false hs] at h; cases h)

/-! ### Cuts at a byte -/
theorem idx_cut (c : UInt8) : ∀ l : List UInt8, (0 ≤ Lib.indexByte l c → l.take (Lib.indexByte l c).toNat = (l.takeWhile fun b => !decide (b = c)) ∧ l.drop (Lib.indexByte l c).toNat = (l.dropWhile fun b => !decide (b = c)) ∧ (Lib.indexByte l c).toNat < l.length) ∧
    (Lib.indexByte l c < 0 → (l.takeWhile fun b => !decide (b = c)) = l ∧ (l.dropWhile fun b => !decide (b = c)) = [])
  | [] => ⟨fun h => by simp [Lib.indexByte] at h, fun _ => ⟨rfl, rfl⟩⟩
  | b :: t => by
    have ih := idx_cut c t
    have e : Lib.indexByte (b :: t) c = if b == c then (0 : Int) else if Lib.indexByte t c == -1 then -1 else Lib.indexByte t c + 1 := rfl
    rw [e]
    by_cases hb : b = c
    · subst hb
      simp
    · have h1 : (b == c) = false := by simpa using hb
      have := Lib.indexByte_ge t c
      rw [h1]
      simp only [Bool.false_eq_true, if_false, List.takeWhile_cons, List.dropWhile_cons, decide_eq_false hb, Bool.not_false, if_true]
      by_cases h2 : Lib.indexByte t c = -1
      · have h3 : (Lib.indexByte t c == -1) = true := by simpa using h2
        rw [h3]
        have := ih.2 (by omega)
        refine ⟨fun h => by simp at h, fun _ => ?_⟩
        rw [this.1, this.2]
        exact ⟨rfl, rfl⟩
      · have h3 : (Lib.indexByte t c == -1) = false := by simpa using h2
        rw [h3]
        simp only [Bool.false_eq_true, if_false]
        have ih1 := ih.1 (by omega)
        have e2 : (Lib.indexByte t c + 1).toNat = (Lib.indexByte t c).toNat + 1 := by omega
        rw [e2]
        refine ⟨fun _ => ⟨?_, ?_, ?_⟩, fun h => by omega⟩
        · rw [List.take_succ_cons, ih1.1]
        · rw [List.drop_succ_cons, ih1.2.1]
        · simp only [List.length_cons]; omega
theorem g60 (hg : OnGlobals I ng) (h : Kw I ng A23) : Kw I ng A60 := known_add (g30 hg h) (contract_of (fun _ => none) hg (hok_of (g30 hg h)) fun cargs rv outs h => by
  unfold L60 at h
  split at h <;> first | (cases h; done) | skip
  rename_i s c
  by_cases hs : s.size ≤ 10000
  · simp only [picked, pickAlt, decide_eq_true hs] at h
    cases h
    refine ⟨1, ?_⟩
    rw [ur60, toList_data, toList_data]
    have e : byteAt (ByteArray.mk (Array.mk [c])) (Int.toNat 0) = ((c.toNat : Nat) : Int) := rfl
    rw [e, natM, u8_cast', bif_b]
    split
    · rename_i h1
      have h1 : [c] = s.data.toList := by simpa using h1
      rw [← h1]
      simp [Lib.indexByte]
    · rfl
  · simp only [picked, pickAlt, decide_eq_false hs] at h; cases h)
theorem g48 (hg : OnGlobals I ng) (h : Kw I ng A23) : Kw I ng A48 := known_add (g60 hg h) (contract_of (fun _ => none) hg (hok_of (g60 hg h)) fun cargs rv outs h => by
  unfold L28 at h
  split at h <;> first | (cases h; done) | skip
  rename_i s c
  by_cases hs : s.size ≤ 10000
  · simp only [picked, pickAlt, decide_eq_true hs] at h
    cases h
    refine ⟨1, ?_⟩
    obtain ⟨l, rfl⟩ : ∃ l, s = mkS l := ⟨_, (mkS_bl s).symm⟩
    rw [ur48, bif_t _ _ (decide_eq_true hs), mkS_data]
    rw [sizeM] at *
    unfold cutB cutA cutF
    simp only [dataM]
    obtain ⟨q1, q2⟩ := idx_cut c l
    have hm := index_mem l c
    by_cases hi : 0 ≤ Lib.indexByte l c
    · obtain ⟨a1, a2, a3⟩ := q1 hi
      rw [bif_t _ _ (decide_eq_true hi), bif_t _ _ (decide_eq_true hi), bif_t _ _ (decide_eq_true (by omega))]
      have e : IntKind.i64.wrap (Lib.indexByte l c + (((ByteArray.mk (Array.mk [c])).size : Nat) : Int)) = Lib.indexByte l c + 1 := by
        show IntKind.i64.wrap (Lib.indexByte l c + 1) = _
        rw [wrap_id (by omega) (by omega)]
      rw [e, bif_t _ _ (decide_eq_true (by omega)), bif_t _ _ (decide_eq_true (by omega)), bif_t _ _ (decide_eq_true (by omega))]
      have e2 : (Lib.indexByte l c + 1).toNat = (Lib.indexByte l c).toNat + 1 := by omega
      have e3 : Int.toNat 0 = 0 := rfl
      rw [e2, e3, natM, mkS_ext, mkS_ext, List.drop_zero, Nat.sub_zero, a1, ← a2, List.drop_drop]
      rw [← hm, decide_eq_true hi]
      have e4 : (l.drop ((Lib.indexByte l c).toNat + 1)).take (l.length - ((Lib.indexByte l c).toNat + 1)) = l.drop ((Lib.indexByte l c).toNat + 1) := List.take_of_length_le (by simp)
      rw [e4]
    · obtain ⟨a1, a2⟩ := q2 (by omega)
      rw [bif_f _ _ (decide_eq_false hi), a1, a2, ← hm, decide_eq_false hi]
      rfl
  · simp only [picked, pickAlt, decide_eq_false hs] at h; cases h)
theorem g28 (hg : OnGlobals I ng) (h : Kw I ng A23) : Kw I ng A28 := known_add (g48 hg h) (contract_of (fun _ => none) hg (hok_of (g48 hg h)) fun cargs rv outs h => by
  unfold L28 at h
  split at h <;> first | (cases h; done) | skip
  rename_i s c
  by_cases hs : s.size ≤ 10000
  · simp only [picked, pickAlt, decide_eq_true hs] at h
    cases h
    exact ⟨1, by rw [ur28, bif_t _ _ (decide_eq_true hs)]⟩
  · simp only [picked, pickAlt, decide_eq_false hs] at h; cases h)

end Go.Pv

/- Parts of URLs: authority. -/
namespace Go.Pv
set_option linter.unusedVariables false
set_option maxRecDepth 100000
open Go Go.Proofs
variable {I : World → Prop} {ng : Nat}

theorem abody_eq2 {P : Program} {tb : Handler} {an : Ann} {n : Nat} {f : FuncId} {cargs : List CV} {ps : List PV} {H : Hp} (ho : openArgs cargs [] = (ps, H)) (hf : ((P.funcs[f]?).bind (·.body)).isSome = true) :
    abody P tb an n f cargs = aexec P tb (filt an H.length) n (codeOf P f) (envOf P f ps) H (endOf P f (lentOf H)) := by
  unfold abody codeOf envOf endOf
  cases h1 : P.funcs[f]? with
  | none => rw [h1] at hf; cases hf
  | some fn =>
    cases h2 : fn.body with
    | none => rw [h1] at hf; simp [h2] at hf
    | some c =>
      simp only [ho, h2]

theorem lastL_b (l : List UInt8) (c : Int) : ∀ k, -1 ≤ lastL k l c ∧ lastL k l c < k
  | 0 => by simp [lastL]
  | k + 1 => by
    unfold lastL
    have := lastL_b l c k
    split <;> omega
theorem lastI_b (s : ByteArray) (c : Int) : -1 ≤ lastI s c ∧ lastI s c < s.size := lastL_b _ _ _

theorem ten_in : ∀ n : Nat, n < 256 → inS (ByteArray.mk #[48, 49, 50, 51, 52, 53, 54, 55, 56, 57]) (n : Int) = (decide (48 ≤ n) && decide (n ≤ 57)) := by decide +kernel
theorem ten_all (s : ByteArray) : allS s (ByteArray.mk #[48, 49, 50, 51, 52, 53, 54, 55, 56, 57]) = digS s := by
  unfold allS digS
  congr 1
  funext b
  exact ten_in _ b.toNat_lt
theorem tw_id {q : UInt8 → Bool} : ∀ {l : List UInt8}, l.takeWhile q = l ↔ l.all q = true
  | [] => by simp
  | b :: t => by
    rw [List.takeWhile_cons, List.all_cons]
    cases h : q b with
    | true => simpa using tw_id
    | false => simp
theorem no_find (l p : List UInt8) : (((mkS l).extract 0 (findI (mkS l) 0 (mkS p))).toList == (mkS l).toList) = true ↔ (l.any fun b => inS (mkS p) b.toNat) = false := by
  rw [find0, mkS_ext, List.drop_zero, Nat.sub_zero, toList_data, toList_data, mkS_data, mkS_data, take_findL, beq_iff_eq]
  rw [tw_id, List.any_eq_false, List.all_eq_true]
  constructor
  · intro h x hx
    have := h x hx
    simpa using this
  · intro h x hx
    have := h x hx
    simpa using this
theorem hostS_eq (s : ByteArray) (h : s.size ≤ 10000) : hostS s = if preS s (ByteArray.mk #[91]) = true then if sufS (s.extract (ByteArray.mk #[91]).size s.size) (ByteArray.mk #[93]) = true then
    ip6 ((s.extract (ByteArray.mk #[91]).size s.size).extract 0 ((s.extract (ByteArray.mk #[91]).size s.size).size - (ByteArray.mk #[93]).size))
    else (s.extract 0 (findI s 0 (ByteArray.mk #[58, 91, 93, 64]))).toList == s.toList
  else (s.extract 0 (findI s 0 (ByteArray.mk #[58, 91, 93, 64]))).toList == s.toList := by
  obtain ⟨l, rfl⟩ : ∃ l, s = mkS l := ⟨_, (mkS_bl s).symm⟩
  have hF : (((mkS l).extract 0 (findI (mkS l) 0 (ByteArray.mk #[58, 91, 93, 64]))).toList == (mkS l).toList) = !(l.any fun b => inS ⟨#[58, 91, 93, 64]⟩ b.toNat) := by
    have := no_find l [58, 91, 93, 64]
    rw [Bool.eq_iff_iff, Bool.not_eq_true']
    exact this
  rw [hF]
  unfold hostS
  rw [mkS_data]
  have e1 : (ByteArray.mk #[91]).size = 1 := rfl
  have e3 : (ByteArray.mk #[93]).size = 1 := rfl
  have e2 : (ByteArray.mk (Array.mk [91] : Array UInt8)) = ByteArray.mk #[91] := rfl
  have hl : (l.drop 1).take (l.length - 1) = l.drop 1 := List.take_of_length_le (by simp)
  simp only [e1, e3, sizeM, mkS_ext, hl, List.drop_zero, Nat.sub_zero, List.length_drop]
  unfold preS sufS
  simp only [dataM]
  cases l with
  | nil => rfl
  | cons a t =>
    have e5 : (a :: t).drop 1 = t := rfl
    rw [e5]
    have p1 : ([91] : List UInt8).isPrefixOf (a :: t) = (91 == a) := by simp [List.isPrefixOf]
    rw [p1]
    by_cases ha : (91 == a) = true
    · rw [ha, if_pos rfl]
      have ha' : a = 91 := by simpa using (eq_of_beq ha).symm
      subst ha'
      cases t with
      | nil =>
        have : decide (2 ≤ ([91] : List UInt8).length) = false := rfl
        rw [this]
        have s2 : ([93] : List UInt8).isSuffixOf [] = false := rfl
        rw [s2]
        rfl
      | cons b u =>
        have c1 : decide (2 ≤ (91 :: b :: u : List UInt8).length) = true := decide_eq_true (by simp)
        have s1 : ([93] : List UInt8).isSuffixOf (91 :: b :: u) = ([93] : List UInt8).isSuffixOf (b :: u) := by
          rw [Bool.eq_iff_iff, List.isSuffixOf_iff_suffix, List.isSuffixOf_iff_suffix, List.suffix_cons_iff]
          simp
        rw [c1, s1, Bool.true_and, Bool.true_and]
    · have ha' : (91 == a) = false := by simpa using ha
      rw [ha']
      simp
theorem us27' (s a us po : ByteArray) (hu hp : Bool) (n : Nat) (hs : s.size ≤ 2500) (h1 : us.size ≤ 2500) (h2 : po.size ≤ 2500) (R : Res)
    (hR : R = some (.bool (hostS s && (digS po && !brS us)), [uV a us hu s po hp true ⟨⟨[]⟩⟩ ⟨⟨[]⟩⟩ false ⟨⟨[]⟩⟩ false])) :
    aexecB Tryz.prog (call' A47) (filt an27 1) n d27b (mkEnv 122 [(0, .bptr 0 0), (1, .c (.str s))]) [.box (.c (uV a us hu ⟨⟨[]⟩⟩ po hp true ⟨⟨[]⟩⟩ ⟨⟨[]⟩⟩ false ⟨⟨[]⟩⟩ false)) kU] (endOf Tryz.prog 72 [kU]) = R := by
  rw [us27, hR, hostS_eq s (by omega), ten_all]
  have b1 : decide (s.size ≤ 10000) = true := decide_eq_true (by omega)
  have b2 : decide (us.size ≤ 10000) = true := decide_eq_true (by omega)
  have b3 : decide (po.size ≤ 10000) = true := decide_eq_true (by omega)
  have b4 : decide ((s.extract (ByteArray.mk #[91]).size s.size).size ≤ 10000) = true := decide_eq_true (by rw [ByteArray.size_extract]; omega)
  have b5 : decide (((s.extract (ByteArray.mk #[91]).size s.size).extract 0 ((s.extract (ByteArray.mk #[91]).size s.size).size - (ByteArray.mk #[93]).size)).size ≤ 3000) = true := decide_eq_true (by rw [ByteArray.size_extract, ByteArray.size_extract]; omega)
  have b6 : decide ((ByteArray.mk #[58, 91, 93, 64]).size ≤ 10000) = true := rfl
  have b7 : decide ((ByteArray.mk #[48, 49, 50, 51, 52, 53, 54, 55, 56, 57]).size ≤ 100) = true := rfl
  have b8 : asciiS (ByteArray.mk #[48, 49, 50, 51, 52, 53, 54, 55, 56, 57]) = true := by decide +kernel
  rw [b1, b2, b3, b4, b5, b6, b7, b8]
  generalize ((s.extract 0 (findI s 0 (ByteArray.mk #[58, 91, 93, 64]))).toList == s.toList) = F
  generalize ip6 ((s.extract (ByteArray.mk #[91]).size s.size).extract 0 ((s.extract (ByteArray.mk #[91]).size s.size).size - (ByteArray.mk #[93]).size)) = C
  generalize ip4 ((s.extract (ByteArray.mk #[91]).size s.size).extract 0 ((s.extract (ByteArray.mk #[91]).size s.size).size - (ByteArray.mk #[93]).size)) = C4
  generalize preS s (ByteArray.mk #[91]) = A
  generalize sufS (s.extract (ByteArray.mk #[91]).size s.size) (ByteArray.mk #[93]) = B
  generalize sufS s (ByteArray.mk #[93]) = B'
  generalize digS po = D
  generalize brS us = E
  cases A <;> cases B <;> cases B' <;> cases C <;> cases C4 <;> cases D <;> cases F <;> cases E <;> rfl

theorem ext0 (s : ByteArray) : (s.extract (Int.toNat 0) (0 : Int).toNat) = ⟨⟨[]⟩⟩ := by
  obtain ⟨l, rfl⟩ : ∃ l, s = mkS l := ⟨_, (mkS_bl s).symm⟩
  rw [mkS_ext]; rfl
theorem bif_tt {α : Type} (x y : Option α) : bif' true x y = x := bif_t x y (Eq.refl true)
theorem bif_ff {α : Type} (x y : Option α) : bif' false x y = y := bif_f x y (Eq.refl false)
theorem toNat0 : Int.toNat 0 = 0 := by simp
theorem fo27a : tailC 2 c27 = d27a := eq_of_heq (heq_of_eq (by kernel_rfl))
theorem fo27b : tailC 1 d27a = d27b := eq_of_heq (heq_of_eq (by kernel_rfl))
theorem sp27 : spine 2 c27 = true := by kernel_rfl
theorem ha27 : headAt (filt an27 1) (tailC 2 c27) = some h27 := by kernel_rfl
theorem sp27b : spine 1 d27a = true := by kernel_rfl
theorem ha27b : headAt (filt an27 1) (tailC 1 d27a) = some h27 := by kernel_rfl
theorem uq27' (s a us : ByteArray) (hu : Bool) (n : Nat) (hs : s.size ≤ 2500) (h1 : us.size ≤ 2500) (R : Res)
    (hR : R = some (.bool (hostS (if decide (0 ≤ lastI s 58) && decide (lastI s 93 < lastI s 58) then s.extract 0 (lastI s 58).toNat else s) && (digS (if decide (0 ≤ lastI s 58) && decide (lastI s 93 < lastI s 58) then s.extract ((lastI s 58).toNat + 1) s.size else ⟨⟨[]⟩⟩) && !brS us)),
      [uV a us hu (if decide (0 ≤ lastI s 58) && decide (lastI s 93 < lastI s 58) then s.extract 0 (lastI s 58).toNat else s) (if decide (0 ≤ lastI s 58) && decide (lastI s 93 < lastI s 58) then s.extract ((lastI s 58).toNat + 1) s.size else ⟨⟨[]⟩⟩) (decide (0 ≤ lastI s 58) && decide (lastI s 93 < lastI s 58)) true ⟨⟨[]⟩⟩ ⟨⟨[]⟩⟩ false ⟨⟨[]⟩⟩ false])) :
    aexecB Tryz.prog (call' A47) (filt an27 1) n d27a (mkEnv 122 [(0, .bptr 0 0), (1, .c (.str s))]) [.box (.c (uV a us hu ⟨⟨[]⟩⟩ ⟨⟨[]⟩⟩ false true ⟨⟨[]⟩⟩ ⟨⟨[]⟩⟩ false ⟨⟨[]⟩⟩ false)) kU] (endOf Tryz.prog 72 [kU]) = R := by
  have b1 : decide (s.size ≤ 10000) = true := decide_eq_true (by omega)
  rw [seg_b (k := 1) (by decide) sp27b ha27b, uq27, b1]
  have hb := lastI_b s 58
  by_cases hp : 0 ≤ lastI s 58
  · have b2 : decide (lastI s 58 ≥ 0) = true := decide_eq_true hp
    have b2' : decide (0 ≤ lastI s 58) = true := decide_eq_true hp
    by_cases hq : lastI s 93 < lastI s 58
    · have b3 : decide (lastI s 58 > lastI s 93) = true := decide_eq_true hq
      have b3' : decide (lastI s 93 < lastI s 58) = true := decide_eq_true hq
      have e : IntKind.i64.wrap (lastI s 58 + 1) = lastI s 58 + 1 := wrap_id (by omega) (by omega)
      have e' : (lastI s 58 + 1).toNat = (lastI s 58).toNat + 1 := by omega
      have b4 : decide (0 ≤ lastI s 58 + 1) = true := decide_eq_true (by omega)
      have b5 : decide (lastI s 58 + 1 ≤ (s.size : Int)) = true := decide_eq_true (by omega)
      have b6 : decide ((s.size : Int) ≤ (s.size : Int)) = true := decide_eq_true (by omega)
      have b7 : decide (lastI s 58 ≤ (s.size : Int)) = true := decide_eq_true (by omega)
      rw [b2, b3, e, b4, b5, b6, b7, e', natM]
      simp only [bif_tt, fo27b, toNat0]
      rw [b2', b3'] at hR
      simp only [Bool.and_self, Bool.and_false, if_true, Bool.false_eq_true, if_false] at hR
      exact us27' _ _ _ _ _ _ n (by rw [ByteArray.size_extract]; omega) h1 (by rw [ByteArray.size_extract]; omega) R hR
    · have b3 : decide (lastI s 58 > lastI s 93) = false := decide_eq_false hq
      have b3' : decide (lastI s 93 < lastI s 58) = false := decide_eq_false hq
      rw [b2, b3]
      simp only [bif_tt, bif_ff, fo27b]
      rw [b2', b3'] at hR
      simp only [Bool.and_self, Bool.and_false, if_true, Bool.false_eq_true, if_false] at hR
      exact us27' _ _ _ _ _ _ n hs h1 (by decide) R hR
  · have b2 : decide (lastI s 58 ≥ 0) = false := decide_eq_false hp
    have b2' : decide (0 ≤ lastI s 58) = false := decide_eq_false hp
    rw [b2]
    simp only [bif_tt, bif_ff, fo27b]
    rw [b2'] at hR
    simp only [Bool.false_and, Bool.false_eq_true, if_false] at hR
    exact us27' _ _ _ _ _ _ n hs h1 (by decide) R hR
theorem g47 (hg : OnGlobals I ng) (h : Kw I ng A23) (h47 : Cw I ng 98 L47) : Kw I ng A47 := known_add (g28 hg h) h47
theorem g27 (hg : OnGlobals I ng) (h : Kw I ng A23) (h47 : Cw I ng 98 L47) : Kw I ng A27 := known_add (g47 hg h h47) (contract_of an27 hg (hok_of (g47 hg h h47)) fun cargs rv outs h => by
  unfold L27 at h
  split at h <;> first | (cases h; done) | skip
  rename_i k a s
  split at h <;> first | (cases h; done) | skip
  rename_i hk
  have hk := Nat.eq_of_beq_eq_true hk
  subst hk
  by_cases hs : s.size ≤ 2500
  · simp only [picked, pickAlt, decide_eq_true hs] at h
    cases h
    refine ⟨1, ?_⟩
    rw [abody_eq2 (ps := [.bptr 0 0, .c (.str s)]) (H := [.box (.c (zU a true)) kU]) rfl (by kernel_rfl)]
    show aexec Tryz.prog (call' A47) (filt an27 1) 1 c27 (envOf Tryz.prog 72 [.bptr 0 0, .c (.str s)]) [.box (.c (zU a true)) kU] (endOf Tryz.prog 72 [kU]) = _
    have b1 : decide (s.size ≤ 10000) = true := decide_eq_true (by omega)
    rw [seg_a (k := 2) (by decide) sp27 ha27, up27, b1]
    have hb := lastI_b s 64
    by_cases hp : 0 ≤ lastI s 64
    · have b2 : decide (lastI s 64 ≥ 0) = true := decide_eq_true hp
      have b2' : decide (0 ≤ lastI s 64) = true := decide_eq_true hp
      have e : IntKind.i64.wrap (lastI s 64 + 1) = lastI s 64 + 1 := wrap_id (by omega) (by omega)
      have e' : (lastI s 64 + 1).toNat = (lastI s 64).toNat + 1 := by omega
      have b4 : decide (0 ≤ lastI s 64 + 1) = true := decide_eq_true (by omega)
      have b5 : decide (lastI s 64 + 1 ≤ (s.size : Int)) = true := decide_eq_true (by omega)
      have b6 : decide ((s.size : Int) ≤ (s.size : Int)) = true := decide_eq_true (by omega)
      have b7 : decide (lastI s 64 ≤ (s.size : Int)) = true := decide_eq_true (by omega)
      rw [b2, e, b4, b5, b6, b7, e', natM]
      simp only [bif_tt, fo27a, toNat0]
      refine uq27' _ _ _ _ 1 (by rw [ByteArray.size_extract]; omega) (by rw [ByteArray.size_extract]; omega) _ ?_
      unfold auOk auHost auPort auHP auRest auUsr auHU
      rw [b2']
      first | rfl | (simp only [if_true, Bool.false_eq_true, if_false])
    · have b2 : decide (lastI s 64 ≥ 0) = false := decide_eq_false hp
      have b2' : decide (0 ≤ lastI s 64) = false := decide_eq_false hp
      rw [b2]
      simp only [bif_tt, bif_ff, fo27a]
      refine uq27' _ _ _ _ 1 hs (by decide) _ ?_
      unfold auOk auHost auPort auHP auRest auUsr auHU
      rw [b2']
      first | rfl | (simp only [if_true, Bool.false_eq_true, if_false])
  · simp only [picked, pickAlt, decide_eq_false hs] at h; cases h)

end Go.Pv

/- URLs: what url.Parse answers. -/
namespace Go.Pv
set_option linter.unusedVariables false
set_option linter.unusedSimpArgs false
set_option maxRecDepth 100000
set_option maxHeartbeats 20000
open Go Go.Proofs
variable {I : World → Prop} {ng : Nat}

abbrev pC : ByteArray := ByteArray.mk #[58, 47, 63, 35]
abbrev pD : ByteArray := ByteArray.mk #[47, 63, 35]
abbrev nB : ByteArray := ⟨⟨[]⟩⟩
def uTl (s : ByteArray) : ByteArray := s.extract (findI s 0 pC) s.size
def uHd (s : ByteArray) : ByteArray := s.extract 0 (findI s 0 pC)
def uHS (s : ByteArray) : Bool := !((uTl s).toList == (ByteArray.mk #[]).toList) && (byteAt (uTl s) 0 == 58)
def uSch (s : ByteArray) : ByteArray := if uHS s then uHd s else nB
def uRst (s : ByteArray) : ByteArray := if uHS s then (uTl s).extract 1 (uTl s).size else s
def uSOk (s : ByteArray) : Bool := !uHS s || (!((uHd s).toList == (ByteArray.mk #[]).toList) && (allS (uHd s) schC && allS ((uHd s).extract 0 1) letC))
def rHA (r : ByteArray) : Bool := preS r (ByteArray.mk #[47, 47])
def rIn (r : ByteArray) : ByteArray := r.extract 2 r.size
def rAu (r : ByteArray) : ByteArray := (rIn r).extract 0 (findI (rIn r) 0 pD)
def rAf (r : ByteArray) : ByteArray := if rHA r then (rIn r).extract (findI (rIn r) 0 pD) (rIn r).size else r
def rUsr (r : ByteArray) : ByteArray := if rHA r then auUsr (rAu r) else nB
def rHU (r : ByteArray) : Bool := rHA r && auHU (rAu r)
def rHost (r : ByteArray) : ByteArray := if rHA r then auHost (rAu r) else nB
def rPort (r : ByteArray) : ByteArray := if rHA r then auPort (rAu r) else nB
def rHP (r : ByteArray) : Bool := rHA r && auHP (rAu r)
def rOkU (r : ByteArray) : Bool := !rHA r || auOk (rAu r)
def tPa (t : ByteArray) : ByteArray := cutB (cutB t 35) 63
def tQu (t : ByteArray) : ByteArray := cutA (cutB t 35) 63
def tHQ (t : ByteArray) : Bool := cutF (cutB t 35) 63
def tFr (t : ByteArray) : ByteArray := cutA t 35
def tHF (t : ByteArray) : Bool := cutF t 35
def tOk (t : ByteArray) : Bool := !((tFr t).data.toList.any fun b => decide (b = 35)) && !brS (tPa t ++ tQu t ++ tFr t)
def uV2 (a r t : ByteArray) : CV := uV a (rUsr r) (rHU r) (rHost r) (rPort r) (rHP r) (rHA r) (tPa t) (tQu t) (tHQ t) (tFr t) (tHF t)
def uOk (s : ByteArray) : Bool := uSOk s && (stS s && (rOkU (uRst s) && tOk (rAf (uRst s))))
def uR (s : ByteArray) : CV := uV2 (uSch s) (uRst s) (rAf (uRst s))
def L13 : Fn1 := fun x => match x with
  | [.str s] => some [(decide (2048 < s.size), .tup [zU nB false, .int .i64 3], []), (uOk s, .tup [uR s, .int .i64 0], []), (true, .tup [zU nB false, .int .i64 5], [])]
  | _ => none
def L22 : Fn1 := fun x => match x with
  | [.str s] => some [(decide (s.size ≤ 2500) && uOk s, .tup [uR s, .bool true], []), (decide (s.size ≤ 2500), .tup [zU nB false, .bool false], [])]
  | _ => none
def fin13 (ok : Bool) (v : CV) : Res := if ok = true then some (.tup [v, .int .i64 0], []) else some (.tup [zU nB false, .int .i64 5], [])

theorem fin_f (X : Bool) (v w : CV) : fin13 (false && X) v = fin13 (false && X) w := rfl
theorem cutB_sz (s : ByteArray) (c : UInt8) : (cutB s c).size ≤ s.size := by
  unfold cutB
  rw [sizeM]
  have := (List.takeWhile_sublist (fun b => !decide (b = c)) (l := s.data.toList)).length_le
  rw [data_len] at this
  exact this
theorem cutA_sz (s : ByteArray) (c : UInt8) : (cutA s c).size ≤ s.size := by
  unfold cutA
  rw [sizeM, List.length_drop]
  have := (List.dropWhile_sublist (fun b => !decide (b = c)) (l := s.data.toList)).length_le
  rw [data_len] at this
  omega
theorem u35 : (Int.toNat 35).toUInt8 = 35 := rfl
theorem ut13' (r a us ho po : ByteArray) (hu hp t ok : Bool) (n : Nat) (hr : r.size ≤ 2500) (R : Res)
    (hR : R = fin13 (ok && tOk r) (uV a us hu ho po hp t (tPa r) (tQu r) (tHQ r) (tFr r) (tHF r))) :
    aexecB Tryz.prog (call' A27) (filt an13 0) n d13d (mkEnv 104 [(2, .bptr 0 0), (4, .bptr 1 0), (5, .c (.str r)), (8, .c (.bool ok))]) [z0, .box (.c (uV a us hu ho po hp t ⟨⟨[]⟩⟩ ⟨⟨[]⟩⟩ false ⟨⟨[]⟩⟩ false)) kU] (endOf Tryz.prog 47 []) = R := by
  have z1 := cutB_sz r 35
  have z2 := cutA_sz r 35
  have z3 := cutB_sz (cutB r 35) 63
  have z4 := cutA_sz (cutB r 35) 63
  have b1 : decide (r.size ≤ 10000) = true := decide_eq_true (by omega)
  have b2 : decide ((cutB r 35).size ≤ 10000) = true := decide_eq_true (by omega)
  have b3 : fitsS ((cutB (cutB r 35) 63).size + (cutA (cutB r 35) 63).size) = true := fits_small (by omega)
  have b4 : fitsS ((cutB (cutB r 35) 63 ++ cutA (cutB r 35) 63).size + (cutA r 35).size) = true := fits_small (by rw [ByteArray.size_append]; omega)
  have b5 : decide ((cutB (cutB r 35) 63 ++ cutA (cutB r 35) 63 ++ cutA r 35).size ≤ 10000) = true := decide_eq_true (by rw [ByteArray.size_append, ByteArray.size_append]; omega)
  rw [ut13, hR, b1, b2, b3, b4, b5, u35, index_mem]
  unfold tOk tFr tPa tQu tHQ tHF fin13
  simp only [bif_tt]
  generalize ((cutA r 35).data.toList.any fun b => decide (b = 35)) = X
  generalize brS (cutB (cutB r 35) 63 ++ cutA (cutB r 35) 63 ++ cutA r 35) = Y
  cases ok <;> cases X <;> cases Y <;> rfl

theorem sp13c : spine 1 d13c = true := by kernel_rfl
theorem ha13c : headAt (filt an13 0) (tailC 1 d13c) = some h13b := by kernel_rfl
theorem fo13c : tailC 1 d13c = d13d := eq_of_heq (heq_of_eq (by kernel_rfl))
theorem us13' (r a : ByteArray) (ok : Bool) (n : Nat) (hr : r.size ≤ 2500) (R : Res) (hR : R = fin13 ((ok && rOkU r) && tOk (rAf r)) (uV2 a r (rAf r))) :
    aexecB Tryz.prog (call' A27) (filt an13 0) n d13c (mkEnv 104 [(2, .bptr 0 0), (4, .bptr 1 0), (5, .c (.str r)), (8, .c (.bool ok))]) [z0, .box (.c (zU a false)) kU] (endOf Tryz.prog 47 []) = R := by
  rw [seg_b (k := 1) (by decide) sp13c ha13c, us13]
  have e2 : (ByteArray.mk #[47, 47]).size = 2 := rfl
  have e3 : r.extract 2 r.size = rIn r := by unfold rIn; rfl
  have e4 : (rIn r).extract 0 (findI (rIn r) 0 pD) = rAu r := by unfold rAu; rfl
  have z1 : (rIn r).size ≤ 2500 := by unfold rIn; rw [ByteArray.size_extract]; omega
  have z2 : (rAu r).size ≤ 2500 := by unfold rAu; rw [ByteArray.size_extract]; omega
  have z3 : (rAf r).size ≤ 2500 := by
    unfold rAf
    split
    · rw [ByteArray.size_extract]; omega
    · exact hr
  have b1 : decide ((rIn r).size ≤ 10000) = true := decide_eq_true (by omega)
  have b2 : decide ((rAu r).size ≤ 2500) = true := decide_eq_true z2
  have b3 : decide ((ByteArray.mk #[47, 63, 35]).size ≤ 10000) = true := rfl
  have e5 : preS r (ByteArray.mk #[47, 47]) = rHA r := by unfold rHA; rfl
  rw [e2, e3, e4, e5, b1, b2, b3]
  cases hA : rHA r with
  | true =>
    have e6 : (rIn r).extract (findI (rIn r) 0 pD) (rIn r).size = rAf r := by unfold rAf; rw [hA, if_pos rfl]
    rw [e6]
    rw [Bool.true_and]
    rw [bif_tt]
    cases ok with
    | true =>
      rw [bif_tt, bif_tt, bif_tt, fo13c]
      refine ut13' _ _ _ _ _ _ _ _ _ n z3 R ?_
      rw [hR]
      unfold uV2 rUsr rHU rHost rPort rHP rOkU
      rw [hA]
      simp only [Bool.true_and, Bool.false_and, Bool.and_true, Bool.and_false, Bool.not_true, Bool.not_false, Bool.false_or, Bool.true_or, if_true, Bool.false_eq_true, if_false]
    | false =>
      rw [bif_ff, bif_tt, fo13c]
      refine ut13' _ _ _ _ _ _ _ _ _ n z3 R ?_
      rw [hR, Bool.false_and, Bool.false_and]
      unfold fin13
      simp only [Bool.true_and, Bool.false_and, Bool.and_true, Bool.and_false, Bool.not_true, Bool.not_false, Bool.false_or, Bool.true_or, if_true, Bool.false_eq_true, if_false]
  | false =>
    simp only [bif_ff, fo13c]
    have e6 : rAf r = r := by unfold rAf; rw [hA]; simp only [Bool.false_eq_true, if_false]
    rw [e6] at hR
    refine ut13' _ _ _ _ _ _ _ _ _ n hr R ?_
    rw [hR]
    unfold uV2 rUsr rHU rHost rPort rHP rOkU
    rw [hA]
    simp only [Bool.true_and, Bool.false_and, Bool.and_true, Bool.and_false, Bool.not_true, Bool.not_false, Bool.false_or, Bool.true_or, if_true, Bool.false_eq_true, if_false]

theorem sp13b : spine 1 d13b = true := by kernel_rfl
theorem ha13b : headAt (filt an13 0) (tailC 1 d13b) = some h13b := by kernel_rfl
theorem fo13b : tailC 1 d13b = d13c := eq_of_heq (heq_of_eq (by kernel_rfl))
theorem ur13' (s r a : ByteArray) (n : Nat) (hs : s.size ≤ 2500) (hr : r.size ≤ 2500) (R : Res) (hR : R = fin13 ((stS s && rOkU r) && tOk (rAf r)) (uV2 a r (rAf r))) :
    aexecB Tryz.prog (call' A27) (filt an13 0) n d13b (mkEnv 104 [(0, .c (.str s)), (2, .bptr 0 0), (4, .bptr 1 0), (5, .c (.str r))]) [z0, .box (.c (zU a false)) kU] (endOf Tryz.prog 47 []) = R := by
  have b1 : decide (s.size ≤ 10000) = true := decide_eq_true (by omega)
  rw [seg_b (k := 1) (by decide) sp13b ha13b, ur13, b1]
  simp only [bif_tt, fo13b]
  exact us13' r a (stS s) n hr R hR

theorem sp13a : spine 1 d13a = true := by kernel_rfl
theorem ha13a : headAt (filt an13 0) (tailC 1 d13a) = some h13a := by kernel_rfl
theorem fo13a : tailC 1 d13a = d13b := eq_of_heq (heq_of_eq (by kernel_rfl))
theorem sch_as : asciiS schC = true := by decide +kernel
theorem let_as : asciiS letC = true := by decide +kernel
theorem uq13' (s : ByteArray) (n : Nat) (hs : s.size ≤ 2500) (R : Res) (hR : R = fin13 (uOk s) (uR s)) :
    aexecB Tryz.prog (call' A27) (filt an13 0) n d13a (mkEnv 104 [(0, .c (.str s)), (2, .bptr 0 0), (4, .bptr 1 0), (5, .c (.str s))]) [z0, z0] (endOf Tryz.prog 47 []) = R := by
  rw [seg_b (k := 1) (by decide) sp13a ha13a, uq13]
  have e1 : s.extract (findI s 0 (ByteArray.mk #[58, 47, 63, 35])) s.size = uTl s := by unfold uTl; rfl
  have e2 : s.extract 0 (findI s 0 (ByteArray.mk #[58, 47, 63, 35])) = uHd s := by unfold uHd; rfl
  have z1 : (uTl s).size ≤ 2500 := by unfold uTl; rw [ByteArray.size_extract]; omega
  have z2 : (uHd s).size ≤ 2500 := by unfold uHd; rw [ByteArray.size_extract]; omega
  have z3 : ((uHd s).extract 0 1).size ≤ 2500 := by rw [ByteArray.size_extract]; omega
  have t0 : Int.toNat 1 = 1 := rfl
  rw [e1, e2]
  simp only [toNat0, t0, natM]
  have b1 : decide (s.size ≤ 10000) = true := decide_eq_true (by omega)
  have b2 : decide ((ByteArray.mk #[58, 47, 63, 35]).size ≤ 10000) = true := rfl
  have b3 : decide ((uHd s).size ≤ 10000) = true := decide_eq_true (by omega)
  have b4 : decide (((uHd s).extract 0 1).size ≤ 10000) = true := decide_eq_true (by omega)
  have b5 : decide (schC.size ≤ 100) = true := rfl
  have b6 : decide (letC.size ≤ 100) = true := rfl
  have b7 : decide (((uTl s).size : Int) ≤ ((uTl s).size : Int)) = true := decide_eq_true (by omega)
  rw [b1, b2, b3, b4, b5, b6, b7, sch_as, let_as]
  have ne : ∀ x : ByteArray, (x.toList == (ByteArray.mk #[]).toList) = decide (x.size = 0) := by
    intro x
    obtain ⟨l, rfl⟩ : ∃ l, x = mkS l := ⟨_, (mkS_bl x).symm⟩
    have e0 : (ByteArray.mk #[]) = mkS [] := rfl
    rw [e0, toList_data, toList_data, mkS_data, mkS_data, sizeM]
    cases l <;> rfl
  have hOk : uOk s = (uSOk s && ((stS s && rOkU (uRst s)) && tOk (rAf (uRst s)))) := by unfold uOk; simp only [Bool.and_assoc]
  rw [hOk] at hR
  by_cases h0 : (uTl s).size = 0
  · have b8 : ((uTl s).toList == (ByteArray.mk #[]).toList) = true := by rw [ne, decide_eq_true h0]
    have hS : uHS s = false := by unfold uHS; rw [b8]; simp only [Bool.true_and, Bool.false_and, Bool.and_true, Bool.and_false, Bool.not_true, Bool.not_false, Bool.false_or, Bool.true_or, if_true, Bool.false_eq_true, if_false]
    rw [b8]
    simp only [Bool.not_true, Bool.and_self, bif_tt, bif_ff, fo13a]
    refine ur13' s s nB n hs hs R ?_
    rw [hR]
    unfold uR uSOk uSch uRst
    rw [hS]
    simp only [Bool.true_and, Bool.false_and, Bool.and_true, Bool.and_false, Bool.not_true, Bool.not_false, Bool.false_or, Bool.true_or, if_true, Bool.false_eq_true, if_false]
  · have b8 : ((uTl s).toList == (ByteArray.mk #[]).toList) = false := by rw [ne, decide_eq_false h0]
    have b9 : decide (0 < ((uTl s).size : Int)) = true := decide_eq_true (by omega)
    have b10 : decide (1 ≤ ((uTl s).size : Int)) = true := decide_eq_true (by omega)
    rw [b8, b9, b10]
    simp only [Bool.not_false, Bool.and_self, bif_tt, bif_ff, fo13a]
    cases h58 : (byteAt (uTl s) 0 == 58) with
    | false =>
      have hS : uHS s = false := by unfold uHS; rw [h58, Bool.and_false]
      simp only [bif_ff, bif_tt]
      refine ur13' s s nB n hs hs R ?_
      rw [hR]
      unfold uR uSOk uSch uRst
      rw [hS]
      simp only [Bool.true_and, Bool.false_and, Bool.and_true, Bool.and_false, Bool.not_true, Bool.not_false, Bool.false_or, Bool.true_or, if_true, Bool.false_eq_true, if_false]
    | true =>
      have hS : uHS s = true := by unfold uHS; rw [h58, b8]; simp only [Bool.true_and, Bool.false_and, Bool.and_true, Bool.and_false, Bool.not_true, Bool.not_false, Bool.false_or, Bool.true_or, if_true, Bool.false_eq_true, if_false]
      simp only [bif_tt]
      have hSO : uSOk s = (!((uHd s).toList == (ByteArray.mk #[]).toList) && (allS (uHd s) schC && allS ((uHd s).extract 0 1) letC)) := by unfold uSOk; rw [hS]; simp only [Bool.true_and, Bool.false_and, Bool.and_true, Bool.and_false, Bool.not_true, Bool.not_false, Bool.false_or, Bool.true_or, if_true, Bool.false_eq_true, if_false]
      rw [hSO] at hR
      by_cases h1 : (uHd s).size = 0
      · have c1 : ((uHd s).toList == (ByteArray.mk #[]).toList) = true := by rw [ne, decide_eq_true h1]
        rw [c1] at hR ⊢
        rw [hR]
        simp only [bif_tt]
        unfold fin13
        simp only [Bool.true_and, Bool.false_and, Bool.and_true, Bool.and_false, Bool.not_true, Bool.not_false, Bool.false_or, Bool.true_or, if_true, Bool.false_eq_true, if_false]
        rfl
      · have c1 : ((uHd s).toList == (ByteArray.mk #[]).toList) = false := by rw [ne, decide_eq_false h1]
        have c2 : decide (1 ≤ ((uHd s).size : Int)) = true := decide_eq_true (by omega)
        rw [c1] at hR ⊢
        rw [c2]
        simp only [bif_ff, bif_tt]
        cases h2 : allS (uHd s) schC with
        | false =>
          rw [h2] at hR; rw [hR]
          simp only [Bool.not_false, bif_tt]
          unfold fin13
          simp only [Bool.true_and, Bool.false_and, Bool.and_true, Bool.and_false, Bool.not_true, Bool.not_false, Bool.false_or, Bool.true_or, if_true, Bool.false_eq_true, if_false]
          rfl
        | true =>
          cases h3 : allS ((uHd s).extract 0 1) letC with
          | false =>
            rw [h2, h3] at hR; rw [hR]
            simp only [Bool.not_true, Bool.not_false, bif_tt, bif_ff]
            unfold fin13
            simp only [Bool.true_and, Bool.false_and, Bool.and_true, Bool.and_false, Bool.not_true, Bool.not_false, Bool.false_or, Bool.true_or, if_true, Bool.false_eq_true, if_false]
            rfl
          | true =>
            simp only [Bool.not_true, bif_ff, bif_tt]
            refine ur13' s ((uTl s).extract 1 (uTl s).size) (uHd s) n hs (by rw [ByteArray.size_extract]; omega) R ?_
            rw [hR, h2, h3]
            unfold uR uSch uRst
            rw [hS]
            simp only [Bool.true_and, Bool.false_and, Bool.and_true, Bool.and_false, Bool.not_true, Bool.not_false, Bool.false_or, Bool.true_or, if_true, Bool.false_eq_true, if_false]

theorem sp13 : spine 4 c13 = true := by kernel_rfl
theorem ha13 : headAt (filt an13 0) (tailC 4 c13) = some h13a := by kernel_rfl
theorem fo13 : tailC 4 c13 = d13a := eq_of_heq (heq_of_eq (by kernel_rfl))
def A13 : Table := fun g => if Nat.beq g 47 then L13 else A27 g
theorem g13 (hg : OnGlobals I ng) (h : Kw I ng A23) (h47 : Cw I ng 98 L47) : Kw I ng A13 := known_add (g27 hg h h47) (contract_of an13 hg (hok_of (g27 hg h h47)) fun cargs rv outs h => by
  unfold L13 at h
  split at h <;> first | (cases h; done) | skip
  rename_i s
  refine ⟨1, ?_⟩
  rw [abody_eq2 (ps := [.c (.str s)]) (H := []) rfl (by kernel_rfl)]
  show aexec Tryz.prog (call' A27) (filt an13 0) 1 c13 (envOf Tryz.prog 47 [.c (.str s)]) [] (endOf Tryz.prog 47 []) = _
  rw [seg_a (k := 4) (by decide) sp13 ha13, up13]
  by_cases hs : 2048 < s.size
  · have b1 : decide ((s.size : Int) > 2048) = true := decide_eq_true (by omega)
    simp only [picked, pickAlt, decide_eq_true hs] at h
    cases h
    rw [b1]; rfl
  · have b1 : decide ((s.size : Int) > 2048) = false := decide_eq_false (by omega)
    simp only [picked, pickAlt, decide_eq_false hs] at h
    rw [b1]
    simp only [bif_ff, fo13]
    refine uq13' s 1 (by omega) _ ?_
    unfold fin13
    cases hk : uOk s with
    | true => rw [hk] at h; cases h; rfl
    | false => rw [hk] at h; cases h; rfl)

end Go.Pv
