/- awake: two URLs resolved and normed, worked out by the kernel, call by call. -/
import Derived.Test.YtpclikkakhcomaaGreatDoorJn1
set_option linter.unusedVariables false
set_option maxRecDepth 100000
namespace Go.Pv
open Go Go.Proofs

def by1 (l : List Nat) : ByteArray := ⟨(l.map UInt8.ofNat).toArray⟩
def beq1 : CV → CV → Bool
  | .str a, .str b => a.data.toList == b.data.toList
  | .bool a, .bool b => a == b
  | .int k a, .int k' b => k == k' && a == b
  | _, _ => false
def beqL : List CV → List CV → Bool
  | [], [] => true
  | a :: la, b :: lb => beq1 a b && beqL la lb
  | _, _ => false
def beqA : CV → CV → Bool
  | .agg a, .agg b => beqL a b
  | a, b => beq1 a b
def beqAs : List CV → List CV → Bool
  | [], [] => true
  | a :: la, b :: lb => beqA a b && beqAs la lb
  | _, _ => false
theorem beq1_ok {a b : CV} (h : beq1 a b = true) : a = b := by
  cases a <;> cases b <;> simp [beq1] at h
  · rw [h]
  · rw [h.1, h.2]
  · rename_i x y
    congr 1
    exact ByteArray.ext h
theorem beqL_ok : ∀ {a b : List CV}, beqL a b = true → a = b
  | [], [], _ => rfl
  | [], _ :: _, h => by simp [beqL] at h
  | _ :: _, [], h => by simp [beqL] at h
  | a :: la, b :: lb, h => by
    simp only [beqL, Bool.and_eq_true] at h
    rw [beq1_ok h.1, beqL_ok h.2]
theorem beqA_ok {a b : CV} (h : beqA a b = true) : a = b := by
  unfold beqA at h
  split at h
  · rw [beqL_ok h]
  · exact beq1_ok h
theorem beqAs_ok : ∀ {a b : List CV}, beqAs a b = true → a = b
  | [], [], _ => rfl
  | [], _ :: _, h => by simp [beqAs] at h
  | _ :: _, [], h => by simp [beqAs] at h
  | a :: la, b :: lb, h => by
    simp only [beqAs, Bool.and_eq_true] at h
    rw [beqA_ok h.1, beqAs_ok h.2]
/-- A function at some points. -/
def ptF : List (List CV × CV) → Fn1
  | [], _ => none
  | (a, r) :: l, x => if beqAs x a then some [(true, r, [])] else ptF l x
theorem ptF_ok : ∀ {l : List (List CV × CV)} {x : List CV} {rv : CV} {outs : List CV}, picked (ptF l x) = some (rv, outs) → (x, rv) ∈ l ∧ outs = []
  | [], x, rv, outs, h => by cases h
  | (a, r) :: l, x, rv, outs, h => by
    simp only [ptF] at h
    split at h
    · rename_i hb
      cases h
      rw [beqAs_ok hb]
      exact ⟨by simp, rfl⟩
    · obtain ⟨h1, h2⟩ := ptF_ok h
      exact ⟨by simp [h1], h2⟩
theorem contract_pt {P : Program} {I : World → Prop} {ng : Nat} {tb : Handler} {f : FuncId} {l : List (List CV × CV)} (hg : OnGlobals I ng) (h : HOk P I ng tb) (hl : ∀ x rv, (x, rv) ∈ l → abody P tb (fun _ => none) 200 f x = some (rv, [])) : Contract P I ng f (ptF l) :=
  contract_of _ hg h fun cargs rv outs hF => by
    obtain ⟨h1, rfl⟩ := ptF_ok hF
    exact ⟨200, hl _ _ h1⟩

def ilA : List FuncId := [75, 50, 51, 76]
noncomputable def hd (T : Table) : Handler := inls Tryz.prog (fun _ => none) 200 ilA (call' T)
theorem hd_ok {I : World → Prop} {ng : Nat} {T : Table} (hg : OnGlobals I ng) (h : Known Tryz.prog I ng T) : HOk Tryz.prog I ng (hd T) := inls_ok hg (hok_of h) _
noncomputable def tJ : Table := addF noTable 39 FJoin
theorem kJ {I : World → Prop} {ng : Nat} (hg : OnGlobals I ng) : Known Tryz.prog I ng tJ := known_add known_no (c39 hg)
noncomputable def tA : Table := bodiesI Tryz.prog 200 ilA [72, 98, 117, 116, 134, 73, 99, 115, 114, 133, 132, 139, 142, 141, 143, 135, 118, 136, 140, 125, 97, 113, 131, 74, 25, 49, 71, 96, 63, 70, 69, 95, 94, 112, 130, 80, 105, 68, 38, 65] tJ
theorem kA {I : World → Prop} {ng : Nat} (hg : OnGlobals I ng) : Known Tryz.prog I ng tA := known_bodiesI hg (kJ hg) _
theorem ptUp_0 : abody Tryz.prog (hd tA) (fun _ => none) 200 47 [.str (by1 [104, 116, 116, 112, 58, 47, 47, 97, 47, 98, 47, 99, 47, 100, 59, 112, 63, 113])] = some (.tup [.agg [.str (by1 [104, 116, 116, 112]), .str (by1 []), .bool false, .str (by1 [97]), .str (by1 []), .bool false, .bool true, .str (by1 [47, 98, 47, 99, 47, 100, 59, 112]), .str (by1 [113]), .bool true, .str (by1 []), .bool false], .int .i64 0], []) := by kernel_rfl
theorem ptUp_1 : abody Tryz.prog (hd tA) (fun _ => none) 200 47 [.str (by1 [46, 46, 47, 103])] = some (.tup [.agg [.str (by1 []), .str (by1 []), .bool false, .str (by1 []), .str (by1 []), .bool false, .bool false, .str (by1 [46, 46, 47, 103]), .str (by1 []), .bool false, .str (by1 []), .bool false], .int .i64 0], []) := by kernel_rfl
theorem ptUp_2 : abody Tryz.prog (hd tA) (fun _ => none) 200 47 [.str (by1 [104, 116, 116, 112, 58, 47, 47, 97, 47, 98, 47, 103])] = some (.tup [.agg [.str (by1 [104, 116, 116, 112]), .str (by1 []), .bool false, .str (by1 [97]), .str (by1 []), .bool false, .bool true, .str (by1 [47, 98, 47, 103]), .str (by1 []), .bool false, .str (by1 []), .bool false], .int .i64 0], []) := by kernel_rfl
theorem ptUp_3 : abody Tryz.prog (hd tA) (fun _ => none) 200 47 [.str (by1 [72, 84, 84, 80, 58, 47, 47, 69, 88, 46, 99, 111, 109, 58, 48, 56, 48, 47, 37, 55, 101, 97, 47, 46, 47, 98, 37, 50, 102])] = some (.tup [.agg [.str (by1 [72, 84, 84, 80]), .str (by1 []), .bool false, .str (by1 [69, 88, 46, 99, 111, 109]), .str (by1 [48, 56, 48]), .bool true, .bool true, .str (by1 [47, 37, 55, 101, 97, 47, 46, 47, 98, 37, 50, 102]), .str (by1 []), .bool false, .str (by1 []), .bool false], .int .i64 0], []) := by kernel_rfl
def lUp : List (List CV × CV) := [([.str (by1 [104, 116, 116, 112, 58, 47, 47, 97, 47, 98, 47, 99, 47, 100, 59, 112, 63, 113])], .tup [.agg [.str (by1 [104, 116, 116, 112]), .str (by1 []), .bool false, .str (by1 [97]), .str (by1 []), .bool false, .bool true, .str (by1 [47, 98, 47, 99, 47, 100, 59, 112]), .str (by1 [113]), .bool true, .str (by1 []), .bool false], .int .i64 0]), ([.str (by1 [46, 46, 47, 103])], .tup [.agg [.str (by1 []), .str (by1 []), .bool false, .str (by1 []), .str (by1 []), .bool false, .bool false, .str (by1 [46, 46, 47, 103]), .str (by1 []), .bool false, .str (by1 []), .bool false], .int .i64 0]), ([.str (by1 [104, 116, 116, 112, 58, 47, 47, 97, 47, 98, 47, 103])], .tup [.agg [.str (by1 [104, 116, 116, 112]), .str (by1 []), .bool false, .str (by1 [97]), .str (by1 []), .bool false, .bool true, .str (by1 [47, 98, 47, 103]), .str (by1 []), .bool false, .str (by1 []), .bool false], .int .i64 0]), ([.str (by1 [72, 84, 84, 80, 58, 47, 47, 69, 88, 46, 99, 111, 109, 58, 48, 56, 48, 47, 37, 55, 101, 97, 47, 46, 47, 98, 37, 50, 102])], .tup [.agg [.str (by1 [72, 84, 84, 80]), .str (by1 []), .bool false, .str (by1 [69, 88, 46, 99, 111, 109]), .str (by1 [48, 56, 48]), .bool true, .bool true, .str (by1 [47, 37, 55, 101, 97, 47, 46, 47, 98, 37, 50, 102]), .str (by1 []), .bool false, .str (by1 []), .bool false], .int .i64 0])]
theorem cUp {I : World → Prop} {ng : Nat} (hg : OnGlobals I ng) : Contract Tryz.prog I ng 47 (ptF lUp) := contract_pt hg (hd_ok hg (kA hg)) fun x rv h => by
  simp only [lUp, List.mem_cons, Prod.mk.injEq, List.not_mem_nil, or_false] at h
  rcases h with ⟨rfl, rfl⟩ | ⟨rfl, rfl⟩ | ⟨rfl, rfl⟩ | ⟨rfl, rfl⟩
  · exact ptUp_0
  · exact ptUp_1
  · exact ptUp_2
  · exact ptUp_3
theorem ptUt_0 : abody Tryz.prog (hd tA) (fun _ => none) 200 48 [.agg [.str (by1 [104, 116, 116, 112]), .str (by1 []), .bool false, .str (by1 [97]), .str (by1 []), .bool false, .bool true, .str (by1 [47, 98, 47, 99, 47, 100, 59, 112]), .str (by1 [113]), .bool true, .str (by1 []), .bool false]] = some (.str (by1 [104, 116, 116, 112, 58, 47, 47, 97, 47, 98, 47, 99, 47, 100, 59, 112, 63, 113]), []) := by kernel_rfl
theorem ptUt_1 : abody Tryz.prog (hd tA) (fun _ => none) 200 48 [.agg [.str (by1 []), .str (by1 []), .bool false, .str (by1 []), .str (by1 []), .bool false, .bool false, .str (by1 [46, 46, 47, 103]), .str (by1 []), .bool false, .str (by1 []), .bool false]] = some (.str (by1 [46, 46, 47, 103]), []) := by kernel_rfl
theorem ptUt_2 : abody Tryz.prog (hd tA) (fun _ => none) 200 48 [.agg [.str (by1 [104, 116, 116, 112]), .str (by1 []), .bool false, .str (by1 [97]), .str (by1 []), .bool false, .bool true, .str (by1 [47, 98, 47, 103]), .str (by1 []), .bool false, .str (by1 []), .bool false]] = some (.str (by1 [104, 116, 116, 112, 58, 47, 47, 97, 47, 98, 47, 103]), []) := by kernel_rfl
theorem ptUt_3 : abody Tryz.prog (hd tA) (fun _ => none) 200 48 [.agg [.str (by1 [72, 84, 84, 80]), .str (by1 []), .bool false, .str (by1 [69, 88, 46, 99, 111, 109]), .str (by1 [48, 56, 48]), .bool true, .bool true, .str (by1 [47, 37, 55, 101, 97, 47, 46, 47, 98, 37, 50, 102]), .str (by1 []), .bool false, .str (by1 []), .bool false]] = some (.str (by1 [72, 84, 84, 80, 58, 47, 47, 69, 88, 46, 99, 111, 109, 58, 48, 56, 48, 47, 37, 55, 101, 97, 47, 46, 47, 98, 37, 50, 102]), []) := by kernel_rfl
def lUt : List (List CV × CV) := [([.agg [.str (by1 [104, 116, 116, 112]), .str (by1 []), .bool false, .str (by1 [97]), .str (by1 []), .bool false, .bool true, .str (by1 [47, 98, 47, 99, 47, 100, 59, 112]), .str (by1 [113]), .bool true, .str (by1 []), .bool false]], .str (by1 [104, 116, 116, 112, 58, 47, 47, 97, 47, 98, 47, 99, 47, 100, 59, 112, 63, 113])), ([.agg [.str (by1 []), .str (by1 []), .bool false, .str (by1 []), .str (by1 []), .bool false, .bool false, .str (by1 [46, 46, 47, 103]), .str (by1 []), .bool false, .str (by1 []), .bool false]], .str (by1 [46, 46, 47, 103])), ([.agg [.str (by1 [104, 116, 116, 112]), .str (by1 []), .bool false, .str (by1 [97]), .str (by1 []), .bool false, .bool true, .str (by1 [47, 98, 47, 103]), .str (by1 []), .bool false, .str (by1 []), .bool false]], .str (by1 [104, 116, 116, 112, 58, 47, 47, 97, 47, 98, 47, 103])), ([.agg [.str (by1 [72, 84, 84, 80]), .str (by1 []), .bool false, .str (by1 [69, 88, 46, 99, 111, 109]), .str (by1 [48, 56, 48]), .bool true, .bool true, .str (by1 [47, 37, 55, 101, 97, 47, 46, 47, 98, 37, 50, 102]), .str (by1 []), .bool false, .str (by1 []), .bool false]], .str (by1 [72, 84, 84, 80, 58, 47, 47, 69, 88, 46, 99, 111, 109, 58, 48, 56, 48, 47, 37, 55, 101, 97, 47, 46, 47, 98, 37, 50, 102]))]
theorem cUt {I : World → Prop} {ng : Nat} (hg : OnGlobals I ng) : Contract Tryz.prog I ng 48 (ptF lUt) := contract_pt hg (hd_ok hg (kA hg)) fun x rv h => by
  simp only [lUt, List.mem_cons, Prod.mk.injEq, List.not_mem_nil, or_false] at h
  rcases h with ⟨rfl, rfl⟩ | ⟨rfl, rfl⟩ | ⟨rfl, rfl⟩ | ⟨rfl, rfl⟩
  · exact ptUt_0
  · exact ptUt_1
  · exact ptUt_2
  · exact ptUt_3
noncomputable def tB : Table := addF tJ 47 (ptF lUp)
theorem kB {I : World → Prop} {ng : Nat} (hg : OnGlobals I ng) : Known Tryz.prog I ng tB := known_add (kJ hg) (cUp hg)
noncomputable def tC : Table := addF tB 48 (ptF lUt)
theorem kC {I : World → Prop} {ng : Nat} (hg : OnGlobals I ng) : Known Tryz.prog I ng tC := known_add (kB hg) (cUt hg)
theorem ptUc_0 : abody Tryz.prog (hd tC) (fun _ => none) 200 24 [.agg [.str (by1 [104, 116, 116, 112]), .str (by1 []), .bool false, .str (by1 [97]), .str (by1 []), .bool false, .bool true, .str (by1 [47, 98, 47, 99, 47, 100, 59, 112]), .str (by1 [113]), .bool true, .str (by1 []), .bool false]] = some (.int .i64 0, []) := by kernel_rfl
theorem ptUc_1 : abody Tryz.prog (hd tC) (fun _ => none) 200 24 [.agg [.str (by1 []), .str (by1 []), .bool false, .str (by1 []), .str (by1 []), .bool false, .bool false, .str (by1 [46, 46, 47, 103]), .str (by1 []), .bool false, .str (by1 []), .bool false]] = some (.int .i64 0, []) := by kernel_rfl
theorem ptUc_2 : abody Tryz.prog (hd tC) (fun _ => none) 200 24 [.agg [.str (by1 [104, 116, 116, 112]), .str (by1 []), .bool false, .str (by1 [97]), .str (by1 []), .bool false, .bool true, .str (by1 [47, 98, 47, 103]), .str (by1 []), .bool false, .str (by1 []), .bool false]] = some (.int .i64 0, []) := by kernel_rfl
theorem ptUc_3 : abody Tryz.prog (hd tC) (fun _ => none) 200 24 [.agg [.str (by1 [72, 84, 84, 80]), .str (by1 []), .bool false, .str (by1 [69, 88, 46, 99, 111, 109]), .str (by1 [48, 56, 48]), .bool true, .bool true, .str (by1 [47, 37, 55, 101, 97, 47, 46, 47, 98, 37, 50, 102]), .str (by1 []), .bool false, .str (by1 []), .bool false]] = some (.int .i64 0, []) := by kernel_rfl
def lUc : List (List CV × CV) := [([.agg [.str (by1 [104, 116, 116, 112]), .str (by1 []), .bool false, .str (by1 [97]), .str (by1 []), .bool false, .bool true, .str (by1 [47, 98, 47, 99, 47, 100, 59, 112]), .str (by1 [113]), .bool true, .str (by1 []), .bool false]], .int .i64 0), ([.agg [.str (by1 []), .str (by1 []), .bool false, .str (by1 []), .str (by1 []), .bool false, .bool false, .str (by1 [46, 46, 47, 103]), .str (by1 []), .bool false, .str (by1 []), .bool false]], .int .i64 0), ([.agg [.str (by1 [104, 116, 116, 112]), .str (by1 []), .bool false, .str (by1 [97]), .str (by1 []), .bool false, .bool true, .str (by1 [47, 98, 47, 103]), .str (by1 []), .bool false, .str (by1 []), .bool false]], .int .i64 0), ([.agg [.str (by1 [72, 84, 84, 80]), .str (by1 []), .bool false, .str (by1 [69, 88, 46, 99, 111, 109]), .str (by1 [48, 56, 48]), .bool true, .bool true, .str (by1 [47, 37, 55, 101, 97, 47, 46, 47, 98, 37, 50, 102]), .str (by1 []), .bool false, .str (by1 []), .bool false]], .int .i64 0)]
theorem cUc {I : World → Prop} {ng : Nat} (hg : OnGlobals I ng) : Contract Tryz.prog I ng 24 (ptF lUc) := contract_pt hg (hd_ok hg (kC hg)) fun x rv h => by
  simp only [lUc, List.mem_cons, Prod.mk.injEq, List.not_mem_nil, or_false] at h
  rcases h with ⟨rfl, rfl⟩ | ⟨rfl, rfl⟩ | ⟨rfl, rfl⟩ | ⟨rfl, rfl⟩
  · exact ptUc_0
  · exact ptUc_1
  · exact ptUc_2
  · exact ptUc_3
noncomputable def tD : Table := addF tJ 24 (ptF lUc)
theorem kD {I : World → Prop} {ng : Nat} (hg : OnGlobals I ng) : Known Tryz.prog I ng tD := known_add (kJ hg) (cUc hg)
noncomputable def tE : Table := bodiesI Tryz.prog 200 ilA [28, 53, 52, 77, 27, 14, 32, 60, 86, 85, 109, 30, 54, 78, 104, 123, 138, 137, 122, 103, 102, 121, 120, 119, 101, 84, 83, 108, 59, 82, 107, 128, 127, 31, 58, 81, 106, 124, 80, 105, 57, 79, 56, 55, 29, 26, 25, 49, 19, 38, 65, 37, 64, 36, 63] tD
theorem kE {I : World → Prop} {ng : Nat} (hg : OnGlobals I ng) : Known Tryz.prog I ng tE := known_bodiesI hg (kD hg) _
theorem ptRe_0 : abody Tryz.prog (hd tE) (fun _ => none) 200 11 [.agg [.str (by1 [104, 116, 116, 112]), .str (by1 []), .bool false, .str (by1 [97]), .str (by1 []), .bool false, .bool true, .str (by1 [47, 98, 47, 99, 47, 100, 59, 112]), .str (by1 [113]), .bool true, .str (by1 []), .bool false], .agg [.str (by1 []), .str (by1 []), .bool false, .str (by1 []), .str (by1 []), .bool false, .bool false, .str (by1 [46, 46, 47, 103]), .str (by1 []), .bool false, .str (by1 []), .bool false]] = some (.tup [.agg [.str (by1 [104, 116, 116, 112]), .str (by1 []), .bool false, .str (by1 [97]), .str (by1 []), .bool false, .bool true, .str (by1 [47, 98, 47, 103]), .str (by1 []), .bool false, .str (by1 []), .bool false], .int .i64 0], []) := by kernel_rfl
def lRe : List (List CV × CV) := [([.agg [.str (by1 [104, 116, 116, 112]), .str (by1 []), .bool false, .str (by1 [97]), .str (by1 []), .bool false, .bool true, .str (by1 [47, 98, 47, 99, 47, 100, 59, 112]), .str (by1 [113]), .bool true, .str (by1 []), .bool false], .agg [.str (by1 []), .str (by1 []), .bool false, .str (by1 []), .str (by1 []), .bool false, .bool false, .str (by1 [46, 46, 47, 103]), .str (by1 []), .bool false, .str (by1 []), .bool false]], .tup [.agg [.str (by1 [104, 116, 116, 112]), .str (by1 []), .bool false, .str (by1 [97]), .str (by1 []), .bool false, .bool true, .str (by1 [47, 98, 47, 103]), .str (by1 []), .bool false, .str (by1 []), .bool false], .int .i64 0])]
theorem cRe {I : World → Prop} {ng : Nat} (hg : OnGlobals I ng) : Contract Tryz.prog I ng 11 (ptF lRe) := contract_pt hg (hd_ok hg (kE hg)) fun x rv h => by
  simp only [lRe, List.mem_cons, Prod.mk.injEq, List.not_mem_nil, or_false] at h
  obtain ⟨rfl, rfl⟩ := h
  exact ptRe_0
theorem ptNo_0 : abody Tryz.prog (hd tE) (fun _ => none) 200 12 [.agg [.str (by1 [72, 84, 84, 80]), .str (by1 []), .bool false, .str (by1 [69, 88, 46, 99, 111, 109]), .str (by1 [48, 56, 48]), .bool true, .bool true, .str (by1 [47, 37, 55, 101, 97, 47, 46, 47, 98, 37, 50, 102]), .str (by1 []), .bool false, .str (by1 []), .bool false]] = some (.tup [.agg [.str (by1 [104, 116, 116, 112]), .str (by1 []), .bool false, .str (by1 [101, 120, 46, 99, 111, 109]), .str (by1 []), .bool false, .bool true, .str (by1 [47, 126, 97, 47, 98, 37, 50, 70]), .str (by1 []), .bool false, .str (by1 []), .bool false], .int .i64 0], []) := by kernel_rfl
def lNo : List (List CV × CV) := [([.agg [.str (by1 [72, 84, 84, 80]), .str (by1 []), .bool false, .str (by1 [69, 88, 46, 99, 111, 109]), .str (by1 [48, 56, 48]), .bool true, .bool true, .str (by1 [47, 37, 55, 101, 97, 47, 46, 47, 98, 37, 50, 102]), .str (by1 []), .bool false, .str (by1 []), .bool false]], .tup [.agg [.str (by1 [104, 116, 116, 112]), .str (by1 []), .bool false, .str (by1 [101, 120, 46, 99, 111, 109]), .str (by1 []), .bool false, .bool true, .str (by1 [47, 126, 97, 47, 98, 37, 50, 70]), .str (by1 []), .bool false, .str (by1 []), .bool false], .int .i64 0])]
theorem cNo {I : World → Prop} {ng : Nat} (hg : OnGlobals I ng) : Contract Tryz.prog I ng 12 (ptF lNo) := contract_pt hg (hd_ok hg (kE hg)) fun x rv h => by
  simp only [lNo, List.mem_cons, Prod.mk.injEq, List.not_mem_nil, or_false] at h
  obtain ⟨rfl, rfl⟩ := h
  exact ptNo_0
noncomputable def tF : Table := bodiesI Tryz.prog 200 ilA [46, 67, 92, 91, 90, 111, 129, 93, 45, 43, 42, 41, 40, 61, 87, 44] tJ
theorem kF {I : World → Prop} {ng : Nat} (hg : OnGlobals I ng) : Known Tryz.prog I ng tF := known_bodiesI hg (kJ hg) _
theorem ptRp_0 : abody Tryz.prog (hd tF) (fun _ => none) 200 23 [.str (by1 [104, 116, 116, 112, 58, 47, 47, 97, 47, 98, 47, 99, 47, 100, 59, 112, 63, 113])] = some (.tup [.agg [.str (by1 [104, 116, 116, 112]), .str (by1 []), .bool false, .str (by1 [97]), .str (by1 []), .bool false, .bool true, .str (by1 [47, 98, 47, 99, 47, 100, 59, 112]), .str (by1 [113]), .bool true, .str (by1 []), .bool false], .bool true], []) := by kernel_rfl
theorem ptRp_1 : abody Tryz.prog (hd tF) (fun _ => none) 200 23 [.str (by1 [46, 46, 47, 103])] = some (.tup [.agg [.str (by1 []), .str (by1 []), .bool false, .str (by1 []), .str (by1 []), .bool false, .bool false, .str (by1 [46, 46, 47, 103]), .str (by1 []), .bool false, .str (by1 []), .bool false], .bool true], []) := by kernel_rfl
theorem ptRp_2 : abody Tryz.prog (hd tF) (fun _ => none) 200 23 [.str (by1 [72, 84, 84, 80, 58, 47, 47, 69, 88, 46, 99, 111, 109, 58, 48, 56, 48, 47, 37, 55, 101, 97, 47, 46, 47, 98, 37, 50, 102])] = some (.tup [.agg [.str (by1 [72, 84, 84, 80]), .str (by1 []), .bool false, .str (by1 [69, 88, 46, 99, 111, 109]), .str (by1 [48, 56, 48]), .bool true, .bool true, .str (by1 [47, 37, 55, 101, 97, 47, 46, 47, 98, 37, 50, 102]), .str (by1 []), .bool false, .str (by1 []), .bool false], .bool true], []) := by kernel_rfl
def lRp : List (List CV × CV) := [([.str (by1 [104, 116, 116, 112, 58, 47, 47, 97, 47, 98, 47, 99, 47, 100, 59, 112, 63, 113])], .tup [.agg [.str (by1 [104, 116, 116, 112]), .str (by1 []), .bool false, .str (by1 [97]), .str (by1 []), .bool false, .bool true, .str (by1 [47, 98, 47, 99, 47, 100, 59, 112]), .str (by1 [113]), .bool true, .str (by1 []), .bool false], .bool true]), ([.str (by1 [46, 46, 47, 103])], .tup [.agg [.str (by1 []), .str (by1 []), .bool false, .str (by1 []), .str (by1 []), .bool false, .bool false, .str (by1 [46, 46, 47, 103]), .str (by1 []), .bool false, .str (by1 []), .bool false], .bool true]), ([.str (by1 [72, 84, 84, 80, 58, 47, 47, 69, 88, 46, 99, 111, 109, 58, 48, 56, 48, 47, 37, 55, 101, 97, 47, 46, 47, 98, 37, 50, 102])], .tup [.agg [.str (by1 [72, 84, 84, 80]), .str (by1 []), .bool false, .str (by1 [69, 88, 46, 99, 111, 109]), .str (by1 [48, 56, 48]), .bool true, .bool true, .str (by1 [47, 37, 55, 101, 97, 47, 46, 47, 98, 37, 50, 102]), .str (by1 []), .bool false, .str (by1 []), .bool false], .bool true])]
theorem cRp {I : World → Prop} {ng : Nat} (hg : OnGlobals I ng) : Contract Tryz.prog I ng 23 (ptF lRp) := contract_pt hg (hd_ok hg (kF hg)) fun x rv h => by
  simp only [lRp, List.mem_cons, Prod.mk.injEq, List.not_mem_nil, or_false] at h
  rcases h with ⟨rfl, rfl⟩ | ⟨rfl, rfl⟩ | ⟨rfl, rfl⟩
  · exact ptRp_0
  · exact ptRp_1
  · exact ptRp_2
noncomputable def tG : Table := addF tJ 11 (ptF lRe)
theorem kG {I : World → Prop} {ng : Nat} (hg : OnGlobals I ng) : Known Tryz.prog I ng tG := known_add (kJ hg) (cRe hg)
noncomputable def tH : Table := addF tG 12 (ptF lNo)
theorem kH {I : World → Prop} {ng : Nat} (hg : OnGlobals I ng) : Known Tryz.prog I ng tH := known_add (kG hg) (cNo hg)
noncomputable def tK : Table := addF tH 23 (ptF lRp)
theorem kK {I : World → Prop} {ng : Nat} (hg : OnGlobals I ng) : Known Tryz.prog I ng tK := known_add (kH hg) (cRp hg)
noncomputable def tL : Table := bodiesI Tryz.prog 200 ilA [21, 20, 6, 19, 38, 65, 37, 64, 36, 63] tK
theorem kL {I : World → Prop} {ng : Nat} (hg : OnGlobals I ng) : Known Tryz.prog I ng tL := known_bodiesI hg (kK hg) _
theorem awake_val : abody Tryz.prog (hd tL) (fun _ => none) 200 7 [] = some (.bool true, []) := by kernel_rfl
def FAwake : Fn1 := fun x => match x with
  | [] => some [(true, .bool true, [])]
  | _ => none
theorem cAwake {I : World → Prop} {ng : Nat} (hg : OnGlobals I ng) : Contract Tryz.prog I ng 7 FAwake := contract_of _ hg (hd_ok hg (kL hg)) fun cargs rv outs h => by
  unfold FAwake at h
  split at h
  · cases h; exact ⟨200, awake_val⟩
  · cases h

end Go.Pv
