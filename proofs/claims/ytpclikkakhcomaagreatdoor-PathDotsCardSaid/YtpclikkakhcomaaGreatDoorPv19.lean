/- One operation. -/
import Derived.Test.YtpclikkakhcomaaGreatDoorPv18
set_option linter.unusedVariables false
namespace Go.Pv
open Go

/-- What holds of the program's own variables hangs on their blocks alone. -/
def OnGlobals (I : World → Prop) (ng : Nat) : Prop := ∀ w w' : World, (∀ b, b < ng → w'.heap[b]? = w.heap[b]?) → I w → I w'

theorem Keeps.inv {I : World → Prop} {S S' : St} (ok : Ok S) (K : Keeps S S') (hI : OnGlobals I S.ng) (h : I S.w) : I S'.w := by
  refine hI S.w S'.w (fun b hb => K.blk b ?_ fun r hr => ?_) h
  · have := ok.ng; have := ok.n0; omega
  · have := ok.glob r b hr; omega
theorem Good.inv {I : World → Prop} {S S' : St} (ok : Ok S) (G : Good S S') (hI : OnGlobals I S.ng) (h : I S.w) : I S'.w := G.keeps.inv ok hI h

/-- What an operation comes to. -/
def After (S : St) (a : Act) (d : Option Tmp) (I : World → Prop) (K : KV) (res : CV × List CV) (a' : Act) (w' : World) : Prop :=
  ∃ S' p v, a' = a.put d v ∧ S'.w = w' ∧ Good S S' ∧ I S'.w ∧ Vr S' p v ∧ K p S'.H = some res

theorem Does.wp {P : Program} {I : World → Prop} {o : Oper} {a : Act} {s : Sem Value} {S : St} {K : KV} {res : CV × List CV} {Q : Exit → Act → World → Prop} (ok : Ok S) (hg : OnGlobals I S.ng) (hI : I S.w) (he : execOp a.eval o = (do pure (Next.value (← s)))) (h : Does P s S K res) :
    o.wp P a S.w (After S a o.dst I K res) Q := by
  obtain ⟨v, S', p, h1, h2, h3, h4⟩ := h
  unfold Oper.wp
  rw [he]
  simp only [Sem.run_bind, h1, Result.andThen_ok, Sem.run_pure, Oper.upon_value]
  exact ⟨S', p, v, rfl, rfl, h2, h2.inv ok hg hI, h3, h4⟩

theorem Does.wp' {P : Program} {I : World → Prop} {o : Oper} {a : Act} {s : Sem Value} {S : St} {K : KV} {res : CV × List CV} {Q : Exit → Act → World → Prop} (ok : Ok S) (hg : OnGlobals I S.ng) (hI : I S.w) (he : (execOp a.eval o).run P S.w = (s.run P S.w).andThen fun v w => .ok (.value v) w) (h : Does P s S K res) :
    o.wp P a S.w (After S a o.dst I K res) Q := by
  obtain ⟨v, S', p, h1, h2, h3, h4⟩ := h
  unfold Oper.wp
  rw [he]
  simp only [h1, Result.andThen_ok, Oper.upon_value]
  exact ⟨S', p, v, rfl, rfl, h2, h2.inv ok hg hI, h3, h4⟩

theorem arr1 {α β : Type} {l : Array α} {f : α → β} {x : β} (h : l.toList.map f = [x]) : ∃ y, l = #[y] ∧ f y = x := by
  obtain ⟨l⟩ := l
  match l, h with
  | [y], h => exact ⟨y, rfl, by simpa using h⟩
theorem arr2 {α β : Type} {l : Array α} {f : α → β} {x y : β} (h : l.toList.map f = [x, y]) : ∃ a b, l = #[a, b] ∧ f a = x ∧ f b = y := by
  obtain ⟨l⟩ := l
  match l, h with
  | [a, b], h =>
    simp at h
    exact ⟨a, b, rfl, h.1, h.2⟩

theorem All2.ofMap {S : St} {α : Type} {f : α → PV} {g : α → Value} (h : ∀ x, Vr S (f x) (g x)) : ∀ (l : List α), All2 (Vr S) (l.map f) (l.map g)
  | [] => .nil
  | x :: l => .cons (h x) (All2.ofMap h l)

theorem find_indexByte {fn : Func} (h : fn.name = "internal/bytealg.IndexByteString") : Extern.find fn = some Extern.BytealgIndexByte.indexByte := by
  have hg : Extern.allGenericRows.lookup "internal/bytealg.IndexByteString" = none := by kernel_rfl
  have ht : Extern.allTypedRows.lookup "internal/bytealg.IndexByteString" = none := by kernel_rfl
  have hr : Extern.allRows.lookup "internal/bytealg.IndexByteString" = some Extern.BytealgIndexByte.indexByte := by kernel_rfl
  simp only [Extern.find, h, hg, ht, hr]
  rfl
theorem next_indexByte {fn : Func} (h : fn.name = "internal/bytealg.IndexByteString") (ho : fn.origin = "") : Extern.findNext fn = none := by
  have hg : Extern.allNextRows.lookup "internal/bytealg.IndexByteString" = none := by kernel_rfl
  have hr : Extern.allNextRows.lookup "" = none := by kernel_rfl
  simp only [Extern.findNext, h, ho, hg, hr]
  rfl
/-- A known entry does what the interpreter says. -/
theorem find_noEscape {fn : Func} (h : fn.name = "internal/abi.NoEscape") : Extern.find fn = some Extern.AbiNoEscape.same := by
  have hg : Extern.allGenericRows.lookup "internal/abi.NoEscape" = none := by kernel_rfl
  have ht : Extern.allTypedRows.lookup "internal/abi.NoEscape" = none := by kernel_rfl
  have hr : Extern.allRows.lookup "internal/abi.NoEscape" = some Extern.AbiNoEscape.same := by kernel_rfl
  simp only [Extern.find, h, hg, ht, hr]
  rfl
theorem next_noEscape {fn : Func} (h : fn.name = "internal/abi.NoEscape") (ho : fn.origin = "") : Extern.findNext fn = none := by
  have hg : Extern.allNextRows.lookup "internal/abi.NoEscape" = none := by kernel_rfl
  have hr : Extern.allNextRows.lookup "" = none := by kernel_rfl
  simp only [Extern.findNext, h, ho, hg, hr]
  rfl
theorem ext_ok {P : Program} {f : FuncId} {args : List PV} {vals : Array Value} {S : St} {K : KV} {res : CV × List CV} (ok : Ok S) (hv : All2 (Vr S) args vals.toList) (h : ext' P f args S.H K = some res) :
    ∃ v, (callFunc f vals).run P S.w = .ok (.value v) S.w ∧ Does P (pure v) S K res := by
  unfold ext' at h
  split at h <;> first | (cases h; done) | skip
  · rename_i hn
    split at h <;> first | (cases h; done) | skip
    rename_i s c
    unfold extNo at hn
    split at hn <;> first | (cases hn; done) | skip
    rename_i fn hf
    split at hn <;> first | (cases hn; done) | skip
    rename_i hb
    split at hn
    · rename_i hname
      simp only [Bool.and_eq_true, beq_iff_eq] at hb hname
      obtain ⟨x, y, hvs, h1, h2⟩ : ∃ x y, vals = #[x, y] ∧ Vr S (.c (.str s)) x ∧ Vr S (.c (.int .u8 c)) y := by
        obtain ⟨l⟩ := vals
        cases hv with
        | cons h1 h2 =>
          cases h2 with
          | cons h2 h3 =>
            cases h3
            exact ⟨_, _, rfl, h1, h2⟩
      have hx : x = .string s := by cases c_of h1; rfl
      have hy : y = .int .u8 c := by cases c_of h2; rfl
      subst hvs; subst hx; subst hy
      refine ⟨_, ?_, .same ok (Sem.run_pure ..) (.c (.int ..)) h⟩
      rw [run_callFunc_extern hf (by rw [hname]; rfl) hb.1 (next_indexByte hname hb.2) (find_indexByte hname), Lib.run_indexByteString]
      rfl
    · split at hn <;> cases hn
  · rename_i hn
    split at h <;> first | (cases h; done) | skip
    rename_i p
    unfold extNo at hn
    split at hn <;> first | (cases hn; done) | skip
    rename_i fn hf
    split at hn <;> first | (cases hn; done) | skip
    rename_i hb
    split at hn
    · cases hn
    · split at hn <;> first | (cases hn; done) | skip
      rename_i hname
      simp only [Bool.and_eq_true, beq_iff_eq] at hb hname
      obtain ⟨x, hvs, h1⟩ : ∃ x, vals = #[x] ∧ Vr S p x := by
        obtain ⟨l⟩ := vals
        cases hv with
        | cons h1 h2 =>
          cases h2
          exact ⟨_, rfl, h1⟩
      subst hvs
      refine ⟨x, ?_, .same ok (Sem.run_pure ..) h1 h⟩
      rw [run_callFunc_extern hf (by rw [hname]; rfl) hb.1 (next_noEscape hname hb.2) (find_noEscape hname)]
      rfl
theorem run_call {P : Program} {w : World} {f : FuncId} {args : Array Value} (h : plainFn P f = true) : (callFunc f args).run P w = .ok (.enter f args) w := by
  unfold plainFn at h
  split at h <;> first | (cases h; done) | skip
  rename_i fn hf
  simp only [Bool.and_eq_true, bne_iff_ne, ne_eq] at h
  have hb : ¬ fn.body = none := by
    intro hb; rw [hb] at h; simp at h
  simp [callFunc, hf, h.1, hb]

theorem call_wp {P : Program} {I : World → Prop} {tb : Handler} {o : Oper} {a : Act} {S : St} {f : FuncId} {args : List PV} {vals : Array Value} {K : KV} {res : CV × List CV} {Q : Exit → Act → World → Prop} (ok : Ok S) (hI : I S.w) (tbl : HOk P I S.ng tb)
    (he : (execOp a.eval o).run P S.w = .ok (.enter f vals) S.w) (hv : All2 (Vr S) args vals.toList) (h : tb f args S.H K = some res) : o.wp P a S.w (After S a o.dst I K res) Q := by
  unfold Oper.wp
  rw [he]
  simp only [Oper.upon_enter]
  refine (tbl.call ok rfl hI hv h).mono ?_
  rintro e w' ⟨v, S', p, rfl, rfl, G, hI', hv', hk⟩
  exact ⟨S', p, v, rfl, rfl, G, hI', hv', hk⟩

theorem aop_ok {P : Program} {I : World → Prop} {tb : Handler} {o : Oper} {a : Act} {S : St} {ev : Operand → PV} {K : KV} {res : CV × List CV} {Q : Exit → Act → World → Prop} (ok : Ok S) (hg : OnGlobals I S.ng) (hI : I S.w) (tbl : HOk P I S.ng tb)
    (hρ : ∀ x, Vr S (ev x) (a.eval x)) (h : aop P tb o ev S.H K = some res) : o.wp P a S.w (After S a o.dst I K res) Q := by
  obtain ⟨dst, op, type, pos, after, guard⟩ := o
  unfold aop at h
  simp only at h
  cases op <;> (try simp only at h)
  case move x => exact Does.wp ok hg hI rfl (.same (s := pure (a.eval x)) ok rfl (hρ x) h)
  case assign x => exact Does.wp ok hg hI rfl (.same (s := pure (a.eval x)) ok rfl (hρ x) h)
  case pick c x y =>
    split at h <;> first | (cases h; done) | skip
    rename_i t hc
    have hc' := hρ c
    rw [hc] at hc'
    have hb := bool_of hc'
    rcases bif_some h with ⟨rfl, h⟩ | ⟨rfl, h⟩
    · exact Does.wp (s := pure (a.eval x)) ok hg hI (by simp only [execOp, hb]; rfl) (.same ok rfl (hρ x) h)
    · exact Does.wp (s := pure (a.eval y)) ok hg hI (by simp only [execOp, hb]; rfl) (.same ok rfl (hρ y) h)
  case alloc t =>
    split at h <;> first | (cases h; done) | skip
    rename_i z hz
    split at h <;> first | (cases h; done) | skip
    rename_i hl
    exact Does.wp ok hg hI rfl (alloc_ok ok hz hl h)
  case box t x =>
    split at h <;> first | (cases h; done) | skip
    rename_i k hk
    split at h <;> first | (cases h; done) | skip
    rename_i hl
    exact Does.wp ok hg hI rfl (box_ok ok (hρ x) hk hl h)
  case build t parts =>
    refine Does.wp ok hg hI rfl (build_ok ok ?_ h)
    simp only [Array.toList_map]
    induction parts.toList with
    | nil => exact .nil
    | cons q l ih => exact .cons ⟨rfl, hρ _⟩ ih
  case buildSlice t len parts =>
    refine Does.wp ok hg hI rfl (buildSlice_ok ok ?_ h)
    simp only [Array.toList_map]
    induction parts.toList with
    | nil => exact .nil
    | cons q l ih => exact .cons ⟨rfl, hρ _⟩ ih
  case load t x => exact Does.wp ok hg hI rfl (load_ok ok (hρ x) h)
  case store t x y =>
    obtain ⟨S', s1, s2, s3⟩ := store_ok (P := P) ok (hρ x) (hρ y) h
    unfold Oper.wp
    simp only [execOp, Sem.run_bind, s1, Result.andThen_ok, Sem.run_pure, Oper.upon_skip]
    exact ⟨S', .tup [], undef, rfl, rfl, s2, s2.inv ok hg hI, .tup _ _ .nil, s3⟩
  case nilCheck x =>
    have hx := hρ x
    split at h <;> first | (cases h; done) | skip
    · rename_i r t hev
      split at h <;> first | (cases h; done) | skip
      rename_i e k hr
      rw [hev] at hx
      have hx0 := hx
      cases hx with
      | bptr r t v o1 hlt hb =>
        obtain ⟨b, _, hv⟩ := hb _ _ hr
        exact Does.wp (s := pure (a.eval x)) ok hg hI (by simp only [execOp, hv]; rfl) (.same ok rfl hx0 h)
    · rename_i r g i t hev
      split at h <;> first | (cases h; done) | skip
      rename_i q hr0
      obtain ⟨xs, k, s⟩ := q
      have hr := getRow_some hr0
      rw [hev] at hx
      have hx0 := hx
      cases hx with
      | rptr r g i t v o1 hg' hb =>
        obtain ⟨b, _, hv⟩ := hb _ _ _ hr
        exact Does.wp (s := pure (a.eval x)) ok hg hI (by simp only [execOp, hv]; rfl) (.same ok rfl hx0 h)
    · rename_i cs hev
      rw [hev] at hx
      have hx0 := hx
      generalize hv : a.eval x = v at hx hx0
      cases hx with
      | ro cs ad vs _ _ => exact Does.wp (s := pure (.pointer (some ad))) ok hg hI (by simp only [execOp, hv]; rfl) (.same ok rfl hx0 h)
    · rename_i f caps hev
      rw [hev] at hx
      have hx0 := hx
      generalize hv : a.eval x = v at hx hx0
      cases hx with
      | fn f caps vs _ => exact Does.wp (s := pure (.func (.func f) #[] vs)) ok hg hI (by simp only [execOp, hv]; rfl) (.same ok rfl hx0 h)
  case binOp op t x y yt => exact Does.wp ok hg hI rfl (binOp_ok ok (hρ x) (hρ y) h)
  case unOp op t x => exact Does.wp ok hg hI rfl (unOp_ok ok (hρ x) h)
  case convert s d x => exact Does.wp ok hg hI rfl (convert_ok ok (hρ x) h)
  case makeInterface t x =>
    have hx := hρ x
    split at h <;> first | (cases h; done) | skip
    rename_i d hne hu hev
    refine Does.wp ok hg hI rfl (.same ok (v := .iface t (a.eval x)) (p := .c .err) ?_ (.c (.err _ _)) h)
    simp only [Instr.makeInterface, Sem.run_bind, run_underlying hu, Result.andThen_ok]
    cases d <;> first | rfl | exact (hne _ hu).elim
  case makeFunc fn first captured =>
    cases fn <;> (try simp only at h) <;> first | (cases h; done) | skip
    rename_i f
    split at h <;> first | (cases h; done) | skip
    rename_i hf
    have hf' : first = #[] := by cases first; simp at hf; subst hf; rfl
    subst hf'
    refine Does.wp ok hg hI rfl (.same ok (v := .func (.func f) #[] (captured.map a.eval)) ?_ (.fn _ _ _ ?_) h)
    · simp [Instr.makeFunc]
    · rw [Array.toList_map]; exact All2.ofMap hρ _
  case makeSlice t l c => exact Does.wp ok hg hI rfl (makeSlice_ok ok (hρ l) (hρ c) h)
  case slice t x lo hi mx =>
    have hopt : ∀ (z : Option Operand), OptR S (z.map ev) (z.map a.eval) := by
      intro z; cases z with
      | none => exact trivial
      | some z => exact hρ z
    exact Does.wp ok hg hI rfl (slice_ok ok (hρ x) (hopt lo) (hopt hi) (hopt mx) h)
  case fieldAddr t x f => exact Does.wp ok hg hI rfl (fieldAddr_ok ok (hρ x) h)
  case field t x f => exact Does.wp ok hg hI rfl (field_ok ok (hρ x) h)
  case indexAddr t x i => exact Does.wp ok hg hI rfl (indexAddr_ok ok (hρ x) (hρ i) h)
  case index t x i => exact Does.wp ok hg hI rfl (index_ok ok (hρ x) (hρ i) h)
  case range t x =>
    have hx := hρ x
    split at h <;> first | (cases h; done) | skip
    rename_i s hu hev
    rw [hev] at hx
    have hv := str_of hx
    exact Does.wp ok hg hI (by simp only [execOp, hv]) (range_ok ok hu h)
  case next it isS =>
    have hx := hρ it
    cases isS <;> (try simp only at h) <;> first | (cases h; done) | skip
    split at h <;> first | (cases h; done) | skip
    rename_i r hev
    split at h <;> first | (cases h; done) | skip
    rename_i s ps hr
    rw [hev] at hx
    exact Does.wp ok hg hI rfl (next_ok ok hx hr h)
  case extract t i =>
    have hx := hρ t
    split at h <;> first | (cases h; done) | skip
    rename_i ps hev
    split at h <;> first | (cases h; done) | skip
    rename_i p hp
    rw [hev] at hx
    generalize hv : a.eval t = v at hx
    cases hx with
    | tup ps vs h1 =>
      obtain ⟨u, hu, hpu⟩ := h1.get hp
      have hu' : vs[i]? = some u := by simpa using hu
      exact Does.wp (s := pure u) ok hg hI (by simp only [execOp, hv, Instr.extract, hu']) (.same ok rfl hpu h)
  case call c =>
    split at h <;> first | (cases h; done) | skip
    · rename_i b hcal
      unfold builtin' at h
      split at h <;> first | (cases h; done) | skip
      · rename_i x t hargs htys
        obtain ⟨y, hy, hyx⟩ := arr1 hargs
        have ht : c.argTypes = #[t] := by
          apply Array.ext'
          rw [htys]
        subst hyx
        exact Does.wp' ok hg hI (by simp [execOp, resolve, hcal, hy, ht, invoke, builtin]) (len_ok ok (hρ y) type h)
      · rename_i s x t u hargs htys
        split at h <;> first | (cases h; done) | skip
        rename_i d hnu hu
        obtain ⟨y, z, hy, hys, hzx⟩ := arr2 hargs
        have ht : c.argTypes = #[t, u] := by
          apply Array.ext'
          rw [htys]
        subst hys; subst hzx
        refine Does.wp' ok hg hI (by simp [execOp, resolve, hcal, hy, ht, invoke, builtin]) (append_ok (ty := type) ok (hρ y) (hρ z) ⟨d, hu, fun k e => hnu k e⟩ h)
      · rename_i x hargs
        obtain ⟨y, hy, hyx⟩ := arr1 hargs
        subst hyx
        exact Does.wp' ok hg hI (by simp [execOp, resolve, hcal, hy, invoke, builtin]) (sliceData_ok (ts := c.argTypes) (ty := type) ok (hρ y) h)
      · rename_i x n pt it hargs htys
        obtain ⟨y, z, hy, hys, hzx⟩ := arr2 hargs
        have ht : c.argTypes = #[pt, it] := by
          apply Array.ext'
          rw [htys]
        subst hys; subst hzx
        exact Does.wp' ok hg hI (by simp [execOp, resolve, hcal, hy, ht, invoke, builtin]) (unsafeString_ok (it := it) (ty := type) ok (hρ y) (hρ z) h)
    · rename_i f hcal
      have hf := hρ f
      split at h
      · unfold pure' at h
        split at h <;> first | (cases h; done) | skip
        rename_i fid hev
        rw [hev] at hf
        generalize hv : a.eval f = v at hf
        cases hf with
        | fn f caps vs h1 =>
          have hvs : vs = #[] := by
            cases vs with
            | mk l => cases h1; rfl
          subst hvs
          split at h
          · rename_i hpl
            split at h <;> first | (cases h; done) | skip
            rename_i cargs hda
            obtain ⟨a1, a2⟩ := dataArgs_ok (vs := (c.args.map a.eval).toList) (by rw [Array.toList_map]; exact All2.ofMap hρ _) hda
            have he : (execOp a.eval { dst := dst, op := .call c, type := type, pos := pos, after := after, guard := guard }).run P S.w = .ok (.enter fid (c.args.map a.eval)) S.w := by
              simp [execOp, resolve, hcal, hv, Deferred.ofValue, invoke, run_call hpl]
            refine Oper.wp_mono ?_ (call_wp (K := dataK K) (res := res) ok hI tbl he a1 h)
            rintro a' w' ⟨S', p, v, e1, e2, G, hI', hv', hk⟩
            refine ⟨S', p, v, e1, e2, G, hI', hv', ?_⟩
            unfold dataK at hk
            split at hk
            · exact hk
            · cases hk
          · obtain ⟨v', e1, e2⟩ := ext_ok (vals := c.args.map a.eval) ok (by
              rw [Array.toList_map]
              exact All2.ofMap hρ _) h
            refine Does.wp' (s := pure v') ok hg hI (by simp [execOp, resolve, hcal, hv, Deferred.ofValue, invoke, e1]) e2
      split at h <;> first | (cases h; done) | skip
      · rename_i fid caps hev
        rw [hev] at hf
        generalize hv : a.eval f = v at hf
        split at h
        · rename_i hpl
          cases hf with
          | fn f caps vs h1 =>
            refine call_wp (vals := (c.args.map a.eval) ++ vs) ok hI tbl ?_ ?_ h
            · simp [execOp, resolve, hcal, hv, Deferred.ofValue, invoke, run_call hpl]
            · rw [Array.toList_append, Array.toList_map]
              exact (All2.ofMap hρ _).append h1
        · cases hf with
          | fn f caps vs h1 =>
            obtain ⟨v', e1, e2⟩ := ext_ok (vals := (c.args.map a.eval) ++ vs) ok (by
              rw [Array.toList_append, Array.toList_map]
              exact (All2.ofMap hρ _).append h1) h
            refine Does.wp' (s := pure v') ok hg hI (by simp [execOp, resolve, hcal, hv, Deferred.ofValue, invoke, e1]) e2
      · rename_i fid caps hev
        rw [hev] at hf
        generalize hv : a.eval f = v at hf
        split at h
        · rename_i hpl
          cases hf with
          | c hf =>
            cases hf with
            | fn f caps vs h1 =>
              refine call_wp (vals := (c.args.map a.eval) ++ vs) ok hI tbl ?_ ?_ h
              · simp [execOp, resolve, hcal, hv, Deferred.ofValue, invoke, run_call hpl]
              · rw [Array.toList_append, Array.toList_map]
                exact (All2.ofMap hρ _).append (Vr.ofcl h1)
        · cases hf with
          | c hf =>
            cases hf with
            | fn f caps vs h1 =>
              obtain ⟨v', e1, e2⟩ := ext_ok (vals := (c.args.map a.eval) ++ vs) ok (by
                rw [Array.toList_append, Array.toList_map]
                exact (All2.ofMap hρ _).append (Vr.ofcl h1)) h
              refine Does.wp' (s := pure v') ok hg hI (by simp [execOp, resolve, hcal, hv, Deferred.ofValue, invoke, e1]) e2
  all_goals cases h

end Go.Pv
