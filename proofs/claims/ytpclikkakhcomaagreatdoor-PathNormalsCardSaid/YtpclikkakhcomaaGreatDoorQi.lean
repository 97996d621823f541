/- PathNormals: the row and its card. -/
import Derived.Test.YtpclikkakhcomaaGreatDoorQh
import Derived.Test.YtpclikkakhcomaaGreatDoorRows
import Derived.Test.YtpclikkakhcomaaGreatDoorCards
import Derived.Test.YtpclikkakhcomaaGreatDoorTie
import Derived.ProofKit
import Derived.Below
import Derived.ChangeMaps5
import Derived.Lay
import Derived.LaidOnce
import Derived.SevenTiedAt
import Derived.HandedShaped
import Derived.Shelf.Vars
import Derived.Lib.LaidU8T
import Derived.Lib.LaidTab
import Derived.LaidLaws
set_option linter.unusedSimpArgs false
set_option linter.unusedVariables false
namespace Go.Pv
set_option maxRecDepth 100000
open Go Go.Proofs Go.RowKit
def start (W : World) : St := { w := W, ι := fun _ => none, cp := fun _ => 0, H := [], F := fun _ _ => False, n0 := 8, ng := 8 }
theorem start_ok (W : World) (h : 8 ≤ W.heap.size) : Ok (start W) where
 ob := fun r o h => by simp [start] at h
 out := fun r h => rfl
 inj := fun r r' b h => by cases h
 old := fun r b h => by cases h
 free := fun r b off h => by cases h
 forb := fun b off h => h.elim
 n0 := h
 glob := fun r b h => by cases h
 ng := Nat.le_refl _
theorem keeps_below {W : World} {S : St} (h : Keeps (start W) S) : Below W.heap.size W S.w :=
 ⟨h.os, h.tape, h.output, h.size, fun k hk => h.blk k hk fun r e => by cases e⟩
def uVal (sc us : ByteArray) (hu : Bool) (ho po : ByteArray) (hp ha : Bool) (pa qu : ByteArray) (hq : Bool) (fr : ByteArray) (hf : Bool) : Value :=
 .agg #[.string sc, .string us, .bool hu, .string ho, .string po, .bool hp, .bool ha, .string pa, .string qu, .bool hq, .string fr, .bool hf]
theorem u_arg (S : St) (sc us : ByteArray) (hu : Bool) (ho po : ByteArray) (hp ha : Bool) (pa qu : ByteArray) (hq : Bool) (fr : ByteArray) (hf : Bool) : Vc S (uV sc us hu ho po hp ha pa qu hq fr hf) (uVal sc us hu ho po hp ha pa qu hq fr hf) := by
 refine .agg _ _ (.cons (.str _) (.cons (.str _) (.cons (.bool _) (.cons (.str _) (.cons (.str _) (.cons (.bool _) (.cons (.bool _) (.cons (.str _) (.cons (.str _) (.cons (.bool _) (.cons (.str _) (.cons (.bool _) .nil)))))))))))) ?_
 intro v hv
 simp only [List.mem_cons, List.not_mem_nil, or_false] at hv
 rcases hv with rfl | rfl | rfl | rfl | rfl | rfl | rfl | rfl | rfl | rfl | rfl | rfl <;> rfl
theorem law5 (sc us : ByteArray) (hu : Bool) (ho po : ByteArray) (hp ha : Bool) (pa qu : ByteArray) (hq : Bool) (fr : ByteArray) (hf : Bool) (W : World) (hI : gN W) (h8 : 8 ≤ W.heap.size) :
   Calls Tryz.prog 5 #[uVal sc us hu ho po hp ha pa qu hq fr hf] W fun e w' => e = .returned (.bool true) ∧ Below W.heap.size W w' := by
 refine (cn5 [uV sc us hu ho po hp ha pa qu hq fr hf] (.bool true) [] rfl (start W) #[uVal sc us hu ho po hp ha pa qu hq fr hf] rfl (start_ok W h8) rfl hI (.cons (.c (u_arg _ sc us hu ho po hp ha pa qu hq fr hf)) .nil)).mono ?_
 rintro e w' ⟨v, S', u, rfl, rfl, ok, K, hI, hr, hu, hL⟩
 refine ⟨?_, keeps_below K⟩
 cases hr with
 | res hr =>
   cases hr with
   | val hr =>
     cases hr with
     | cell hr =>
       cases hr with
       | data hr => cases hr; rfl
end Go.Pv
namespace Go.Proofs.YtpclikkakhcomaaGreatDoor
set_option maxRecDepth 100000
open Go.ChangeShapes Go.WideShapes Go.ChangeAt Go.RowKit Go.ChangeMaps Go.Shelf Go.Lib
section
variable {H : Type} {enc : TypeId × Value → H}
theorem lift_both {a : Assume} {C : Checked} {os : Os} {f : FuncId} {fn : Func} {s : ChangeSpec} {conds : List PathCond} {apart fresh handsOn again : Bool} {X : World → Array Value → Prop}
   (hX : ∀ (w w' : World) (args : Array Value), w.heap = w'.heap → X w args → X w' args)
   (own : ownKnob C.prog.godebug = none) (started : os.Started) (noInit : C.prog.inits.idxOf? f = none) (hfn : C.prog.funcs[f]? = some fn)
   (witness : ∃ (w : World) (tape : Tape) (i : Input), w.os = os ∧ (w.forCall tape i).Shaped C.prog ∧ i.vars = [] ∧ Input.okWide C.prog (w.forCall tape i) .any w.heap.size f i ∧
     ((s.pre enc C.prog fn conds apart (w.forCall tape i).memory i.args ∧ X (w.forCall tape i).memory i.args) ∧ sizedMet enc C.prog fn (OpenSpec.ofChange s) apart (w.forCall tape i).memory i.args) ∧ a.holds C.prog (lone (Frame.enter C.prog f i.args .normal) [] (w.forCall tape i)))
   (contract : ∀ (W : World) (base : Nat) (args : Array Value) (ds gs : List (DataW H)) (before : List MemPlace),
     (∀ (j : Nat) t v, fn.params[j]? = some t → args[j]? = some v → Value.okWide C.prog W .any base t v) →
     DataW.Whole enc C.prog fn.params.toList s.vars apart W args.toList ds gs before → X W args → W.ShapedOpen C.prog →
     Calls C.prog f args W fun e W' => ∃ v, e = .returned v ∧ s.post enc C.prog fn apart fresh handsOn again W args v W') :
   ReturnsInHanded a C os f .any (fun w args => (s.pre enc C.prog fn conds apart w args ∧ X w args) ∧ sizedMet enc C.prog fn (OpenSpec.ofChange s) apart w args) (s.post enc C.prog fn apart fresh handsOn again) := by
 refine returnsInHanded_of_calls own started noInit witness fun w tape i _ shape _ hok hpre _ => ?_
 obtain ⟨_, _, _, fn', hfn', _, _, _, _, hval⟩ := hok
 obtain rfl : fn' = fn := Option.some.inj (hfn'.symm.trans hfn)
 obtain ⟨⟨⟨ds, gs, before, hw, _⟩, hx⟩, _⟩ := hpre
 refine (contract (w.forCall tape i) w.heap.size i.args ds gs before hval (DataW.Whole.of_heap (w' := w.forCall tape i) (by rfl) hw) (hX _ _ _ (by rfl) hx) shape).mono fun e W' ⟨v, he, hp⟩ => ?_
 subst he
 exact ChangeSpec.post_blind hp
def uDat (sc us : ByteArray) (hu : Bool) (ho po : ByteArray) (hp ha : Bool) (pa qu : ByteArray) (hq : Bool) (fr : ByteArray) (hf : Bool) : DataW H :=
 .agg [.lit (.string sc.data.toList), .lit (.string us.data.toList), .lit (.bool hu), .lit (.string ho.data.toList), .lit (.string po.data.toList), .lit (.bool hp), .lit (.bool ha), .lit (.string pa.data.toList), .lit (.string qu.data.toList), .lit (.bool hq), .lit (.string fr.data.toList), .lit (.bool hf)]
theorem cells30 : Tryz.prog.cellsOf 26 = 12 := by kernel_rfl
theorem cells9 : Tryz.prog.cellsOf 9 = 1 := by kernel_rfl
theorem cells4 : Tryz.prog.cellsOf 4 = 1 := by kernel_rfl
theorem u_reads (W : World) (base : Nat) (sp : Nat → Bool) (held : Bool) {sc us : ByteArray} {hu : Bool} {ho po : ByteArray} {hp ha : Bool} {pa qu : ByteArray} {hq : Bool} {fr : ByteArray} {hf : Bool} (w0 : sc.size ≤ maxLen) (w1 : us.size ≤ maxLen) (w3 : ho.size ≤ maxLen) (w4 : po.size ≤ maxLen) (w7 : pa.size ≤ maxLen) (w8 : qu.size ≤ maxLen) (w10 : fr.size ≤ maxLen) :
   DataW.Trod enc Tryz.prog W base sp held 26 (Go.Pv.uVal sc us hu ho po hp ha pa qu hq fr hf) (uDat sc us hu ho po hp ha pa qu hq fr hf) [] := ⟨2, by
 have e9 := Tryz.underlying9
 have e4 := Tryz.underlying4
 have := trod_struct_mk (enc := enc) (w := W) (base := base) (spare := sp) (held := held) (n := 1) (cs := [.string sc, .string us, .bool hu, .string ho, .string po, .bool hp, .bool ha, .string pa, .string qu, .bool hq, .string fr, .bool hf])
   (xs := [(.lit (.string sc.data.toList), []), (.lit (.string us.data.toList), []), (.lit (.bool hu), []), (.lit (.string ho.data.toList), []), (.lit (.string po.data.toList), []), (.lit (.bool hp), []), (.lit (.bool ha), []), (.lit (.string pa.data.toList), []), (.lit (.string qu.data.toList), []), (.lit (.bool hq), []), (.lit (.string fr.data.toList), []), (.lit (.bool hf), [])])
   Tryz.underlying26 (by rw [cells30]; rfl) (by simp [DataW.trod, cells9, cells4, e9, e4, w0, w1, w3, w4, w7, w8, w10])
 simpa [Go.Pv.uVal, uDat, Value.cells] using this⟩
theorem u_open {W : World} {b0 : Nat} {v : Value} {d : DataW H} {p : List MemPlace} (hv : Value.okWide Tryz.prog W .any b0 26 v) (h : DataW.Trod enc Tryz.prog W 0 (fun _ => true) true 26 v d p) :
   ∃ (sc us : ByteArray) (hu : Bool) (ho po : ByteArray) (hp ha : Bool) (pa qu : ByteArray) (hq : Bool) (fr : ByteArray) (hf : Bool), v = Go.Pv.uVal sc us hu ho po hp ha pa qu hq fr hf ∧ d = uDat sc us hu ho po hp ha pa qu hq fr hf ∧ p = [] ∧
     sc.size ≤ maxLen ∧ us.size ≤ maxLen ∧ ho.size ≤ maxLen ∧ po.size ≤ maxLen ∧ pa.size ≤ maxLen ∧ qu.size ≤ maxLen ∧ fr.size ≤ maxLen := by
 obtain ⟨cs, rfl, hsz⟩ := okWide_struct Tryz.underlying26 hv
 rw [cells30] at hsz
 obtain ⟨l⟩ := cs
 match l, hsz with
 | [c0, c1, c2, c3, c4, c5, c6, c7, c8, c9, c10, c11], _ =>
 obtain ⟨fuel, hf⟩ := h
 obtain ⟨xs, n, _, hx, _, hlen, hf⟩ := DataW.trod_struct Tryz.underlying26 hf
 match xs, hlen with
 | [y0, y1, y2, y3, y4, y5, y6, y7, y8, y9, y10, y11], _ =>
 have f0 := hf 0 _ rfl
 have f1 := hf 1 _ rfl
 have f2 := hf 2 _ rfl
 have f3 := hf 3 _ rfl
 have f4 := hf 4 _ rfl
 have f5 := hf 5 _ rfl
 have f6 := hf 6 _ rfl
 have f7 := hf 7 _ rfl
 have f8 := hf 8 _ rfl
 have f9 := hf 9 _ rfl
 have f10 := hf 10 _ rfl
 have f11 := hf 11 _ rfl
 obtain ⟨sc, q0, e0, w0⟩ := DataW.trod_string Tryz.underlying9 f0
 obtain ⟨us, q1, e1, w1⟩ := DataW.trod_string Tryz.underlying9 f1
 obtain ⟨hu, q2, e2⟩ := DataW.trod_bool Tryz.underlying4 f2
 obtain ⟨ho, q3, e3, w3⟩ := DataW.trod_string Tryz.underlying9 f3
 obtain ⟨po, q4, e4, w4⟩ := DataW.trod_string Tryz.underlying9 f4
 obtain ⟨hp, q5, e5⟩ := DataW.trod_bool Tryz.underlying4 f5
 obtain ⟨ha, q6, e6⟩ := DataW.trod_bool Tryz.underlying4 f6
 obtain ⟨pa, q7, e7, w7⟩ := DataW.trod_string Tryz.underlying9 f7
 obtain ⟨qu, q8, e8, w8⟩ := DataW.trod_string Tryz.underlying9 f8
 obtain ⟨hq, q9, e9⟩ := DataW.trod_bool Tryz.underlying4 f9
 obtain ⟨fr, q10, e10, w10⟩ := DataW.trod_string Tryz.underlying9 f10
 obtain ⟨hf', q11, e11⟩ := DataW.trod_bool Tryz.underlying4 f11
 simp [Value.cells, cells9, cells4] at q0 q1 q2 q3 q4 q5 q6 q7 q8 q9 q10 q11
 subst q0 q1 q2 q3 q4 q5 q6 q7 q8 q9 q10 q11
 subst e0 e1 e2 e3 e4 e5 e6 e7 e8 e9 e10 e11
 simp at hx
 exact ⟨sc, us, hu, ho, po, hp, ha, pa, qu, hq, fr, hf', rfl, hx.1, hx.2, w0, w1, w3, w4, w7, w8, w10⟩
end
def rU : Ren := ⟨fun n => n, fun | 5 => 5 | 119 => 142 | 138 => 144 | 139 => 145 | n => n, fun | 3 => 4 | 4 => 5 | n => n⟩
theorem first_eq : Rows.laid_unicode_utf8_first = Lib.firstData := by kernel_rfl
theorem accept_eq : Rows.laid_unicode_utf8_acceptRanges = Lib.acceptData := by kernel_rfl
theorem gI_of {W : World} (hL : laidMetH Tryz.prog Rows.pathNormalsRow.laid W) (hs : W.ShapedOpen Tryz.prog) : Go.Pv.gI W := by
 rw [MakeChecks.laidMetH_plain _ _ _ (by kernel_rfl)] at hL
 refine ⟨cell_of_shapedOpen_int (t := 3) (zero := #[.int .i64 0]) hs (of_decide_eq_true (by kernel_rfl)) (by kernel_rfl) rfl (by kernel_rfl) (by kernel_rfl) Tryz.underlying3, ?_⟩
 have r1 := Lib.laidMet.reads hL (.tail _ (.tail _ (.tail _ (.tail _ (.tail _ (.tail _ (.head _)))))))
 have r2 := Lib.laidMet.reads hL (.tail _ (.tail _ (.tail _ (.head _))))
 rw [first_eq] at r1
 rw [accept_eq] at r2
 exact utf8Tabs_of_readsT (ρ := rU) ⟨Tryz.underlying5, Tryz.underlying142, Tryz.underlying144, Tryz.underlying145⟩ ⟨by kernel_rfl, by kernel_rfl, by kernel_rfl, by kernel_rfl, by kernel_rfl, by kernel_rfl, by kernel_rfl⟩ r1 r2
theorem pow_eq : (Rows.laid_internal_strconv_uint64pow10 : DataW Unit) = Lib.tabData .u64 Lib.pow10Tab := by kernel_rfl
theorem tab_of {W : World} {l : List (String × DataW Unit)} (h : laidMet Tryz.prog l W) (hm : ("internal/strconv.uint64pow10", Lib.tabData .u64 Lib.pow10Tab) ∈ l) : Lib.TabIs Tryz.prog W "internal/strconv.uint64pow10" .u64 Lib.pow10Tab := by
 obtain ⟨g', t', cs, fuel, p, hg', ht', hvar, hd⟩ := Lib.laidMet.reads h hm
 obtain rfl := Option.some.inj (Go.Pv.glob3.symm.trans hg')
 obtain rfl := Option.some.inj ((show (Tryz.prog.globals[3]?).map (·.type) = some 137 by kernel_rfl).symm.trans ht')
 unfold Lib.TabIs
 rw [hvar, ← Lib.cells_of_tab Tryz.underlying137 Tryz.underlying106 (by kernel_rfl) (by kernel_rfl) hd]
theorem err_of {W : World} {l : List (String × DataW Unit)} (h : laidMet Tryz.prog l W) {n nm : String} {d : DataW Unit} (hm : (n, .iface nm d) ∈ l) {g : Nat} (hg : Tryz.prog.globalNamed n = some g) (hty : (Tryz.prog.globals[g]?).map (·.type) = some 50) :
   ∃ ev, W.cell? ⟨g, 0, none⟩ = some ev ∧ (ev = .nilIface ∨ ∃ te pe, ev = .iface te pe) := by
 obtain ⟨g', t', cs, fuel, p, hg', ht', hvar, hd⟩ := Lib.laidMet.reads h hm
 obtain rfl := Option.some.inj (hg.symm.trans hg')
 obtain rfl := Option.some.inj (hty.symm.trans ht')
 obtain ⟨fuel', u, v, hcs, _, _⟩ := iface_of_trod Tryz.underlying50 hd
 refine ⟨.iface u v, ?_, .inr ⟨u, v, rfl⟩⟩
 rw [World.var?_cell hg hvar 0]
 have : cs = #[.iface u v] := by
   obtain ⟨cs⟩ := cs
   have hcs : cs = [.iface u v] := hcs
   rw [hcs]
 rw [this]
 rfl
theorem gN_of {W : World} (hL : laidMetH Tryz.prog Rows.pathNormalsRow.laid W) (hs : W.ShapedOpen Tryz.prog) : Go.Pv.gN W := by
 refine ⟨gI_of hL hs, ?_⟩
 rw [MakeChecks.laidMetH_plain _ _ _ (by kernel_rfl)] at hL
 have hT : ("internal/strconv.uint64pow10", Rows.laid_internal_strconv_uint64pow10) ∈ Rows.pathNormalsRow.laid := .tail _ (.tail _ (.head _))
 rw [pow_eq] at hT
 have h1 : ("strconv.ErrRange", Rows.laid_strconv_ErrRange) ∈ Rows.pathNormalsRow.laid := .tail _ (.tail _ (.tail _ (.tail _ (.head _))))
 have h2 : ("strconv.ErrSyntax", Rows.laid_strconv_ErrSyntax) ∈ Rows.pathNormalsRow.laid := .tail _ (.tail _ (.tail _ (.tail _ (.tail _ (.head _)))))
 exact ⟨tab_of hL hT, err_of hL h2 (by kernel_rfl) (by kernel_rfl), err_of hL h1 (by kernel_rfl) (by kernel_rfl)⟩
noncomputable def z7 : Array Value × TypeId := ((begin Tryz.prog (fun _ _ => 0) default).world.heap[7]?.bind Obj.row?).getD (#[], 0)
theorem glob7 : ((begin Tryz.prog (fun _ _ => 0) default).world.heap[7]?).bind Obj.row? = some (z7.1, z7.2) := by kernel_rfl
theorem size8 {W : World} (hs : W.ShapedOpen Tryz.prog) : 8 ≤ W.heap.size := by
 obtain ⟨cs, hh, _, _⟩ := hs.1 7 _ _ (of_decide_eq_true (by kernel_rfl)) glob7
 exact (Array.getElem?_eq_some_iff.1 hh).1
theorem own_knob : ownKnob Tryz.prog.godebug = none := by kernel_rfl
theorem lifted5 (os : Os) (started : os.Started) (H : Type) (enc : TypeId × Value → H) :
   ReturnsInHanded {} Tryz.checked os 5 .any (fun w args => (Rows.pathNormalsSpec.pre enc Tryz.prog Tryz.f5 [] false w args ∧ laidMetH Tryz.prog Rows.pathNormalsRow.laid w) ∧ sizedMet enc Tryz.prog Tryz.f5 (OpenSpec.ofChange Rows.pathNormalsSpec) false w args)
     (Rows.pathNormalsSpec.post enc Tryz.prog Tryz.f5 false true false false) := by
 refine lift_both (C := Tryz.checked) (X := fun w _ => laidMetH Tryz.prog Rows.pathNormalsRow.laid w) (fun _ _ _ hh h => h.of_heap hh) own_knob started (by kernel_rfl) Tryz.func5
   (ChangeSpec.witness_shaped (enc := enc) (C := Tryz.checked) (os := os) (X := fun w _ => laidMetH Tryz.prog Rows.pathNormalsRow.laid w) false (World.laidAll Tryz.prog os Rows.pathNormalsRow.laid) #[.agg #[.string ⟨#[]⟩, .string ⟨#[]⟩, .bool false, .string ⟨#[]⟩, .string ⟨#[]⟩, .bool false, .bool false, .string ⟨#[]⟩, .string ⟨#[]⟩, .bool false, .string ⟨#[]⟩, .bool false]] 8 (World.laidAll_os _ _ _)
     (World.shaped_of_ZipB (by kernel_rfl) (by kernel_rfl)) (by kernel_rfl) (by kernel_rfl) (by kernel_rfl)
     (by rw [MakeChecks.laidMetH_plain _ _ _ (by kernel_rfl)]; exact laidMet_laidAll _ (by kernel_rfl) (by kernel_rfl))) ?_
 intro W base args ds gs before hval0 hW hL hS
 have hval : ∀ (j : Nat) t v, Tryz.f5.params[j]? = some t → args[j]? = some v → Value.okWide Tryz.prog W .any base t v := hval0
 have hW' := hW
 obtain ⟨p, q, hA0, hV, rfl, _, _⟩ := hW
 have hA : DataW.TrodAll enc Tryz.prog W 0 (fun _ => true) true Tryz.f5.params.toList args.toList ds p := hA0
 rw [Tryz.params5] at hA hval
 obtain ⟨v0, d0, rfl, rfl, h0⟩ := trodAll_one hA
 obtain ⟨rfl, rfl⟩ := trodVars_none hV
 obtain ⟨sc, us, hu, ho, po, hp, ha, pa, qu, hq, fr, hf, rfl, rfl, rfl, w0, w1, w3, w4, w7, w8, w10⟩ := u_open (hval 0 26 v0 rfl rfl) h0
 simp only [List.append_nil] at hW'
 refine (Go.Pv.law5 sc us hu ho po hp ha pa qu hq fr hf W (gN_of hL hS) (size8 hS)).mono fun e W' ⟨he, hb⟩ => ?_
 subst he
 exact ⟨_, rfl, _, _, _, [], [], [], hW', trodAll_mk1 (shut_bool Tryz.underlying4 _), trodAll_mk1 (u_reads _ _ _ _ w0 w1 w3 w4 w7 w8 w10), rfl, hb.frame _, fun h => by cases h⟩
theorem holds5 : Rows.PathNormalsSaid :=
 OpenClaim.holds_of_wide 5 Tryz.f5 rfl rfl rfl rfl rfl rfl rfl ⟨rfl, rfl, rfl, rfl, rfl⟩ rfl rfl rfl rfl rfl (by kernel_rfl) Tryz.func5 (by kernel_rfl)
   (of_decide_eq_true (by kernel_rfl)) (by unfold Func.isWrapper; first | (rw [if_pos (by decide +kernel)]; kernel_rfl) | (rw [if_neg (by decide +kernel)]; exact ⟨rfl, rfl⟩))
   (fun os started H enc _ => lifted5 os started H enc)
theorem card5 : Rows.PathNormalsCardSaid :=
 Claim7.holds_tied_plain_at .later [] [.data, .data, .data, .data, .sentinel, .sentinel, .pinned] true (true, "ae0b47af7e0f5c4cb443a6ae23e0427fa2b0536c3ee83cdab05f33f6cd49b387") true holds5 (fun _ h => by cases h) (by kernel_rfl) (fun _ h => by cases h) pathNormals_row_tie rfl ⟨rfl, rfl⟩ (by kernel_rfl) rfl
   (fun f fn hf hfn => by
     obtain rfl : f = 5 := Option.some.inj ((show Tryz.prog.funcNamed "lantern/lanternlaw08.PathNormals" = some 5 by kernel_rfl).symm.trans hf) |>.symm
     obtain rfl : fn = Tryz.f5 := (Option.some.inj (Tryz.func5.symm.trans hfn)).symm
     exact ⟨by kernel_rfl, fun j t ht => by
       rw [Tryz.params5] at ht
       have hm : t ∈ [26] := by simpa using Array.mem_of_getElem? ht
       have hall : ([26].all fun u => !Tryz.prog.wantsStandIn u) = true := by kernel_rfl
       exact (show Tryz.prog.wantsStandIn t = false by simpa using List.all_eq_true.1 hall t hm)⟩)
   (by kernel_rfl)
#print axioms card5
end Go.Proofs.YtpclikkakhcomaaGreatDoor
