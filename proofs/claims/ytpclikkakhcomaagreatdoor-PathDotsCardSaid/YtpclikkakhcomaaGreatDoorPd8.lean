/- PathDots: the row and its card. -/
import Derived.Test.YtpclikkakhcomaaGreatDoorPd7
import Derived.Test.YtpclikkakhcomaaGreatDoorRows
import Derived.Test.YtpclikkakhcomaaGreatDoorCards
import Derived.Test.YtpclikkakhcomaaGreatDoorTie
import Derived.ProofKit
import Derived.Below
import Derived.ChangeMaps5
import Derived.Lay
import Derived.LaidOnce
import Derived.SevenTiedAt
set_option linter.unusedVariables false
set_option maxRecDepth 100000
namespace Go.Pv
open Go Go.Proofs Go.RowKit

/-- The state in which a law is called. -/
def start (W : World) : St := { w := W, ι := fun _ => none, cp := fun _ => 0, H := [], F := fun _ _ => False, n0 := 0, ng := 0 }
theorem start_ok (W : World) : Ok (start W) where
  ob := fun r o h => by simp [start] at h
  out := fun r h => rfl
  inj := fun r r' b h => by cases h
  old := fun r b h => by cases h
  free := fun r b off h => by cases h
  forb := fun b off h => h.elim
  n0 := Nat.zero_le _
  glob := fun r b h => by cases h
  ng := Nat.le_refl _
theorem keeps_below {W : World} {S : St} (h : Keeps (start W) S) : Below W.heap.size W S.w :=
  ⟨h.os, h.tape, h.output, h.size, fun k hk => h.blk k hk fun r e => by cases e⟩

theorem law3 (s : ByteArray) (W : World) : Calls Tryz.prog 3 #[.string s] W fun e w' => e = .returned (.bool true) ∧ Below W.heap.size W w' := by
  refine (m3 [.str s] (.bool true) [] rfl (start W) #[.string s] rfl (start_ok W) rfl trivial (.cons (.c (.str s)) .nil)).mono ?_
  rintro e w' ⟨v, S', u, rfl, rfl, ok, K, hI, hr, hu, hL⟩
  refine ⟨?_, keeps_below K⟩
  cases hr with
  | res hr =>
    cases hr with
    | val hr =>
      cases hr with
      | cell hr =>
        cases hr with
        | data hr => cases hr; rfl

end Go.Pv

namespace Go.Proofs.YtpclikkakhcomaaGreatDoor
open Go.ChangeShapes Go.WideShapes Go.ChangeAt Go.RowKit Go.ChangeMaps

theorem own_knob : ownKnob Tryz.prog.godebug = none := by kernel_rfl
theorem lifted3 (os : Os) (started : os.Started) (H : Type) (enc : TypeId × Value → H) :
    ReturnsInHanded {} Tryz.checked os 3 .any (fun w args => (Rows.pathDotsSpec.pre enc Tryz.prog Tryz.f3 [] false w args ∧ laidMetH Tryz.prog Rows.pathDotsRow.laid w) ∧ sizedMet enc Tryz.prog Tryz.f3 (OpenSpec.ofChange Rows.pathDotsSpec) false w args)
      (Rows.pathDotsSpec.post enc Tryz.prog Tryz.f3 false true false false) := by
  refine returnsInHanded_of_change_and (C := Tryz.checked) (X := fun w _ => laidMetH Tryz.prog Rows.pathDotsRow.laid w) (fun _ _ _ hh h => h.of_heap hh) own_knob started (by kernel_rfl) Tryz.func3
    (ChangeSpec.witness_shaped (enc := enc) (C := Tryz.checked) (os := os) (X := fun w _ => laidMetH Tryz.prog Rows.pathDotsRow.laid w) false (World.laidAll Tryz.prog os Rows.pathDotsRow.laid) #[.string ⟨#[]⟩] 8 (World.laidAll_os _ _ _)
      (World.shaped_of_ZipB (by kernel_rfl) (by kernel_rfl)) (by kernel_rfl) (by kernel_rfl) (by kernel_rfl)
      (by rw [MakeChecks.laidMetH_plain _ _ _ (by kernel_rfl)]; exact laidMet_laidAll _ (by kernel_rfl) (by kernel_rfl))) ?_
  intro W base args ds gs before hval0 hW _ _ hL _
  have hval : ∀ (j : Nat) t v, Tryz.f3.params[j]? = some t → args[j]? = some v → Value.okWide Tryz.prog W .any base t v := hval0
  have hW' := hW
  obtain ⟨p, q, hA0, hV, rfl, _, _⟩ := hW
  have hA : DataW.TrodAll enc Tryz.prog W 0 (fun _ => true) true Tryz.f3.params.toList args.toList ds p := hA0
  rw [Tryz.params3] at hA hval
  obtain ⟨v0, d0, rfl, rfl, h0⟩ := trodAll_one hA
  obtain ⟨rfl, rfl⟩ := trodVars_none hV
  obtain ⟨x, rfl, rfl, rfl, wx⟩ := open_string Tryz.underlying9 (hval 0 9 v0 rfl rfl) h0
  simp only [List.append_nil] at hW'
  refine (Go.Pv.law3 x W).mono fun e W' ⟨he, hb⟩ => ?_
  subst he
  exact ⟨_, rfl, _, _, _, [], [], [], hW', trodAll_mk1 (shut_bool Tryz.underlying4 _), trodAll_mk1 (shut_string Tryz.underlying9 wx), rfl, hb.frame _, fun h => by cases h⟩

theorem holds3 : Rows.PathDotsSaid :=
  OpenClaim.holds_of_wide 3 Tryz.f3 rfl rfl rfl rfl rfl rfl rfl ⟨rfl, rfl, rfl, rfl, rfl⟩ rfl rfl rfl rfl rfl (by kernel_rfl) Tryz.func3 (by kernel_rfl)
    (of_decide_eq_true (by kernel_rfl)) (by unfold Func.isWrapper; first | (rw [if_pos (by decide +kernel)]; kernel_rfl) | (rw [if_neg (by decide +kernel)]; exact ⟨rfl, rfl⟩))
    (fun os started H enc _ => lifted3 os started H enc)
theorem card3 : Rows.PathDotsCardSaid :=
  Claim7.holds_tied_plain_at .later [] [.data, .data, .data, .data, .sentinel, .sentinel, .pinned] true (true, "ae0b47af7e0f5c4cb443a6ae23e0427fa2b0536c3ee83cdab05f33f6cd49b387") true holds3 (fun _ h => by cases h) (by kernel_rfl) (fun _ h => by cases h) pathDots_row_tie rfl ⟨rfl, rfl⟩ (by kernel_rfl) rfl
    (fun f fn hf hfn => by
      obtain rfl : f = 3 := Option.some.inj ((show Tryz.prog.funcNamed "lantern/lanternlaw08.PathDots" = some 3 by kernel_rfl).symm.trans hf) |>.symm
      obtain rfl : fn = Tryz.f3 := (Option.some.inj (Tryz.func3.symm.trans hfn)).symm
      exact ⟨by kernel_rfl, fun j t ht => by
        rw [Tryz.params3] at ht
        have hm : t ∈ [9] := by simpa using Array.mem_of_getElem? ht
        have hall : ([9].all fun u => !Tryz.prog.wantsStandIn u) = true := by kernel_rfl
        exact (show Tryz.prog.wantsStandIn t = false by simpa using List.all_eq_true.1 hall t hm)⟩)
    (by kernel_rfl)
#print axioms card3
end Go.Proofs.YtpclikkakhcomaaGreatDoor
