/- What reads, continued: indexes, fields, cuts, lengths, conversions, operators. -/
import Derived.Test.YtpclikkakhcomaaGreatDoorPv7
import Derived.Laws.BytesArg
import Derived.Lib.ConvBytes
set_option linter.unusedVariables false
namespace Go.Pv
open Go

section
variable {P : Program} {t : TypeId} {S : St} {K : KV} {res : CV × List CV}

theorem int_of {S : St} {k : IntKind} {n : Int} {v : Value} (h : Vr S (.c (.int k n)) v) : v = .int k n := by
  cases h with | c h => cases h; rfl
theorem str_of {S : St} {s : ByteArray} {v : Value} (h : Vr S (.c (.str s)) v) : v = .string s := by
  cases h with | c h => cases h; rfl
theorem bool_of {S : St} {b : Bool} {v : Value} (h : Vr S (.c (.bool b)) v) : v = .bool b := by
  cases h with | c h => cases h; rfl
theorem Vi (S : St) (k : IntKind) (n : Int) : Vr S (.c (.int k n)) (.int k n) := .c (.int k n)
theorem Vb (S : St) (b : Bool) : Vr S (.c (.bool b)) (.bool b) := .c (.bool b)
theorem Vs (S : St) (s : ByteArray) : Vr S (.c (.str s)) (.string s) := .c (.str s)

theorem indexAddr_ok {x ix : PV} {v vi : Value} (ok : Ok S) (hx : Vr S x v) (hi : Vr S ix vi) (h : indexAddr' P t x ix S.H K = some res) : Does P (Instr.indexAt t v vi) S K res := by
  unfold indexAddr' at h
  split at h <;> first | (cases h; done) | skip
  rename_i ik i
  obtain rfl := int_of hi
  split at h <;> first | (cases h; done) | skip
  · rename_i e hu
    split at h <;> first | (cases h; done) | skip
    · rename_i n r g hs
      split at h <;> first | (cases h; done) | skip
      rename_i xs k s hr0
      have hr := getRow_some hr0
      split at h <;> first | (cases h; done) | skip
      rename_i hnk; subst hnk
      obtain ⟨hi0, h⟩ := bif_true h
      obtain ⟨hi1, h⟩ := bif_true h
      have hi0 : 0 ≤ i := by simpa using hi0
      have hi1 : i < xs.length := by simpa using hi1
      obtain ⟨h0, hk, hb⟩ := ok.ob r _ hr
      cases hx with
      | rw r g v h1 hg hv =>
        rcases hv _ _ _ hr with ⟨b, a, hb1, rfl, ha⟩ | ⟨_, _, h3, _⟩
        · rcases hb with ⟨a1, _, _⟩ | ⟨b', cs, T, fr, vs, a1, a2, a3, a4, a5, _⟩
          · rw [a1] at hb1; cases hb1
          · have ha := ha (by omega)
            subst ha
            refine .same ok (v := .pointer (some ⟨b, i.toNat * n, none⟩)) (p := .rptr r g i.toNat 0) ?_ (.rptr _ _ _ _ _ rfl hg fun xs' k' s' hr' => ⟨b, hb1, ?_⟩) h
            · simp only [Instr.indexAt, asIntOf, Sem.run_bind, Sem.run_pure, Result.andThen_ok, run_underlying hu]
              rw [if_pos ⟨hi0, by exact_mod_cast hi1⟩]
              simp [run_size hs, add_at]
            · rw [hr] at hr'; cases hr'; rfl
        · omega
    · rename_i n r g off len hs
      split at h <;> first | (cases h; done) | skip
      rename_i xs k s hr0
      have hr := getRow_some hr0
      split at h <;> first | (cases h; done) | skip
      rename_i hnk; subst hnk
      obtain ⟨hi0, h⟩ := bif_true h
      obtain ⟨hi1, h⟩ := bif_true h
      have hi0 : 0 ≤ i := by simpa using hi0
      have hi1 : i < len := by simpa using hi1
      obtain ⟨h0, hk, hb⟩ := ok.ob r _ hr
      cases hx with
      | row r g off len v h1 hg hv =>
        obtain ⟨hle, hv⟩ := hv _ _ _ hr
        rcases hv with ⟨b, a, hb1, rfl, ha⟩ | ⟨_, _, h3, _⟩
        · rcases hb with ⟨a1, _, _⟩ | ⟨b', cs, T, fr, vs, a1, a2, a3, a4, a5, _⟩
          · rw [a1] at hb1; cases hb1
          · have ha := ha (by omega)
            subst ha
            refine .same ok (v := .pointer (some ⟨b, off * n + i.toNat * n, none⟩)) (p := .rptr r g (off + i.toNat) 0) ?_ (.rptr _ _ _ _ _ rfl hg fun xs' k' s' hr' => ⟨b, hb1, ?_⟩) h
            · simp only [Instr.indexAt, asIntOf, Sem.run_bind, Sem.run_pure, Result.andThen_ok, run_underlying hu]
              rw [if_pos ⟨hi0, by exact_mod_cast hi1⟩]
              simp [run_size hs, add_at]
            · rw [hr] at hr'; cases hr'; simp [Nat.add_mul]
        · omega
    · rename_i n own full k xs hs
      split at h <;> first | (cases h; done) | skip
      rename_i hnk; subst hnk
      obtain ⟨hi0, h⟩ := bif_true h
      obtain ⟨hi1, h⟩ := bif_true h
      have hi0 : 0 ≤ i := by simpa using hi0
      have hi1 : i < xs.length := by simpa using hi1
      cases hx with
      | c hx => cases hx with
        | sl full k xs a c vs h1 h2 h3 h4 h5 =>
          have hlt : i.toNat < xs.length := by omega
          refine .same ok (v := .pointer (some (a.add (i.toNat * n)))) (p := .ro _) ?_ (.ro _ _ ((vs.drop (i.toNat * n)).take n) ?_ ((h3.drop _).take _)) h
          · simp only [Instr.indexAt, asIntOf, Sem.run_bind, Sem.run_pure, Result.andThen_ok, run_underlying hu]
            rw [if_pos ⟨hi0, by exact_mod_cast hi1⟩]
            simp [run_size hs]
          · rw [← flat_get h1 hlt]; exact (h2.drop _).take _
        | slnil k => simp at hi1; omega
  · rename_i n e hu
    have goal : ∀ (a : Addr) (p : PV) (m : Nat), v = .pointer (some a) → tySize P e = some m → 0 ≤ i → i < n → Vr S p (.pointer (some (a.add (i.toNat * m)))) → K p S.H = some res → Does P (Instr.indexAt t v (.int ik i)) S K res := by
      intro a p m hv hs hi0 hi1 hp hk
      subst hv
      refine .same ok (v := .pointer (some (a.add (i.toNat * m)))) ?_ hp hk
      simp only [Instr.indexAt, asIntOf, Sem.run_bind, Sem.run_pure, Result.andThen_ok, run_underlying hu, Instr.sureAddr]
      rw [if_pos ⟨hi0, hi1⟩]
      simp [run_size hs]
    split at h <;> first | (cases h; done) | skip
    · rename_i m r o hs
      split at h <;> first | (cases h; done) | skip
      rename_i e' k' hr
      obtain ⟨hi0, h⟩ := bif_true h
      obtain ⟨hi1, h⟩ := bif_true h
      cases hx with
      | bptr r o v h1 hlt hb =>
        obtain ⟨b, hb1, rfl⟩ := hb _ _ hr
        refine goal _ _ m rfl hs (by simpa using hi0) (by simpa using hi1) ?_ h
        rw [add_at]; exact .bptr _ _ _ rfl hlt fun _ _ _ => ⟨b, hb1, rfl⟩
    · rename_i m r g j o hs
      split at h <;> first | (cases h; done) | skip
      rename_i q hr0
      obtain ⟨xs, k, s⟩ := q
      have hr := getRow_some hr0
      obtain ⟨hi0, h⟩ := bif_true h
      obtain ⟨hi1, h⟩ := bif_true h
      cases hx with
      | rptr r g i o v h1 hg hb =>
        obtain ⟨b, hb1, rfl⟩ := hb _ _ _ hr
        refine goal _ _ m rfl hs (by simpa using hi0) (by simpa using hi1) ?_ h
        rw [add_at]; exact .rptr _ _ _ _ _ rfl hg fun xs' k' s' hr' => ⟨b, hb1, by rw [hr] at hr'; cases hr'; rw [Nat.add_assoc]⟩
    · rename_i m cs hs
      obtain ⟨hi0, h⟩ := bif_true h
      obtain ⟨hi1, h⟩ := bif_true h
      cases hx with
      | ro cs a vs h1 h2 => exact goal _ _ m rfl hs (by simpa using hi0) (by simpa using hi1) (.ro _ _ _ (h1.drop _) (h2.drop _)) h

theorem byte_get {s : ByteArray} {i : Nat} (h : i < s.size) : s[i]? = some (s.data.toList.getD i 0) := by
  have h' : i < s.data.size := h
  simp [h, List.getD_eq_getElem?_getD]
  rfl

theorem index_ok {x ix : PV} {v vi : Value} (ok : Ok S) (hx : Vr S x v) (hi : Vr S ix vi) (h : index' P t x ix S.H K = some res) : Does P (Instr.index t v vi) S K res := by
  unfold index' at h
  split at h <;> first | (cases h; done) | skip
  rename_i ik i
  obtain rfl := int_of hi
  split at h <;> first | (cases h; done) | skip
  · rename_i s hu
    obtain rfl := str_of hx
    obtain ⟨hi0, h⟩ := bif_true h
    obtain ⟨hi1, h⟩ := bif_true h
    have hi0 : 0 ≤ i := by simpa using hi0
    have hi1 : i < s.size := by simpa using hi1
    refine .same ok (v := .int .u8 (byteAt s i.toNat)) ?_ (Vi ..) h
    have hlt : i.toNat < s.size := by omega
    simp only [Instr.index, asIntOf, Sem.run_bind, Sem.run_pure, Result.andThen_ok, run_underlying hu, if_pos hi0, byte_get hlt]
    rfl
  · rename_i n e cs hu
    split at h <;> first | (cases h; done) | skip
    rename_i m hs
    obtain ⟨hi0, h⟩ := bif_true h
    obtain ⟨hi1, h⟩ := bif_true h
    have hi0 : 0 ≤ i := by simpa using hi0
    have hi1 : i < n := by simpa using hi1
    cases hx with
    | c hx => cases hx with
      | agg cs vs h1 h2 =>
        obtain ⟨p, u, hk, hv, hpart⟩ := readCV_ok h1 h2 h
        refine .same ok ?_ hv hk
        simp only [Instr.index, asIntOf, Sem.run_bind, Sem.run_pure, Result.andThen_ok, run_underlying hu]
        rw [if_pos ⟨hi0, hi1⟩]
        simp only [Sem.run_bind, run_size hs, Result.andThen_ok]
        exact run_part hpart

theorem field_ok {x : PV} {f : Nat} {v : Value} (ok : Ok S) (hx : Vr S x v) (h : field' P t x f S.H K = some res) : Does P (Instr.field t v f) S K res := by
  unfold field' at h
  split at h <;> first | (cases h; done) | skip
  rename_i off ft hf
  obtain ⟨fs, y, hu, hy, hoff, hft⟩ := tyField_some hf
  subst hoff; subst hft
  have goal : ∀ (cs : Array Value) (u : Value) (p : PV), v = .agg cs → Part P y.type cs.toList y.offset u → Vr S p u → K p S.H = some res → Does P (Instr.field t v f) S K res := by
    intro cs u p hv hp hu' hk
    subst hv
    refine .same ok ?_ hu' hk
    simp only [Instr.field, Sem.run_bind, run_underlying hu, Result.andThen_ok, hy, asAgg, Sem.run_pure]
    exact run_part hp
  split at h <;> first | (cases h; done) | skip
  · cases hx with
    | c hx => cases hx with
      | agg cs vs h1 h2 =>
        obtain ⟨p, u, hk, hv, hpart⟩ := readCV_ok h1 h2 h
        exact goal _ _ _ rfl hpart hv hk
  · rename_i ps
    cases hx with
    | agg ps vs h1 h2 =>
      obtain ⟨p, u, hk, hv, hpart⟩ := readPV_ok (e := .agg ps) rfl rfl h1 h2 (fun x hx => by cases hx) h
      exact goal _ _ _ rfl hpart hv hk

/-! ### Cuts -/
def OptR (S : St) : Option PV → Option Value → Prop
  | none, none => True
  | some p, some v => Vr S p v
  | _, _ => False

theorem bound_some {p : PV} {d i : Int} (h : bound (some p) d = some i) : ∃ k, p = .c (.int k i) := by
  unfold bound at h
  split at h
  · rename_i heq; cases heq
  · rename_i k i' heq
    cases heq; cases h; exact ⟨_, rfl⟩
  · cases h
theorem bound_cases {S : St} {lo : Option PV} {vlo : Option Value} {d i : Int} (hr : OptR S lo vlo) (h : bound lo d = some i) : (vlo = none ∧ i = d) ∨ ∃ k, vlo = some (.int k i) := by
  cases lo with
  | none =>
    cases vlo with
    | none => simp [bound] at h; exact .inl ⟨rfl, h.symm⟩
    | some v => exact hr.elim
  | some p =>
    cases vlo with
    | none => exact hr.elim
    | some v =>
      obtain ⟨k, rfl⟩ := bound_some h
      exact .inr ⟨k, by rw [int_of hr]⟩
theorem run_bound {P : Program} {w : World} {k : IntKind} {i : Int} {y : Nat} {code : BoundsCode} (h0 : 0 ≤ i) (h1 : i ≤ y) : (Instr.sliceBound (.int k i) y code).run P w = .ok i.toNat w := by
  simp only [Instr.sliceBound, asIntOf, Sem.run_bind, Sem.run_pure, Result.andThen_ok]
  rw [if_pos ⟨h0, h1⟩]; rfl
theorem run_bounds {P : Program} {w : World} {S : St} {lo hi : Option PV} {vlo vhi : Option Value} {l h : Int} {isS : Bool} {len cap : Nat} (hl : OptR S lo vlo) (hh : OptR S hi vhi) (bl : bound lo 0 = some l) (bh : bound hi len = some h) (h0 : 0 ≤ l) (h1 : l ≤ h) (h2 : h ≤ cap) :
    (Instr.sliceBounds isS len cap vlo vhi none).run P w = .ok (l.toNat, h.toNat, cap) w := by
  have e1 : l ≤ h.toNat := by omega
  rcases bound_cases hl bl with ⟨rfl, rfl⟩ | ⟨k, rfl⟩ <;> rcases bound_cases hh bh with ⟨rfl, rfl⟩ | ⟨k', rfl⟩
  · simp [Instr.sliceBounds]
  · simp [Instr.sliceBounds, run_bound (P := P) (w := w) (k := k') (i := h) (y := cap) (by omega) h2]
  · have := fun code => run_bound (P := P) (w := w) (k := k) (i := l) (y := len) (code := code) h0 (by omega)
    simp [Instr.sliceBounds, this]
  · have := fun code => run_bound (P := P) (w := w) (k := k) (i := l) (y := h.toNat) (code := code) h0 e1
    simp [Instr.sliceBounds, run_bound (P := P) (w := w) (k := k') (i := h) (y := cap) (by omega) h2, this]

theorem slice_ok {x : PV} {lo hi mx : Option PV} {v : Value} {vlo vhi vmx : Option Value} (ok : Ok S) (hx : Vr S x v) (hl : OptR S lo vlo) (hh : OptR S hi vhi) (hm : OptR S mx vmx) (h : slice' P t x lo hi mx S.H K = some res) :
    Does P (Instr.sliceAt t v vlo vhi vmx) S K res := by
  have none_of : OptR S (none : Option PV) vmx → vmx = none := by
    intro h; cases vmx with
    | none => rfl
    | some v => exact h.elim
  unfold slice' at h
  split at h <;> first | (cases h; done) | skip
  · rename_i s hu
    obtain rfl := none_of hm
    obtain rfl := str_of hx
    split at h <;> first | (cases h; done) | skip
    rename_i l hh' bl bh
    obtain ⟨q0, h⟩ := bif_true h
    obtain ⟨q1, h⟩ := bif_true h
    obtain ⟨q2, h⟩ := bif_true h
    refine .same ok (v := .string (s.extract l.toNat hh'.toNat)) ?_ (Vs ..) h
    simp only [Instr.sliceAt, Sem.run_bind, run_underlying hu, Result.andThen_ok, Instr.slice, Option.isSome_none, Bool.false_eq_true, if_false, Sem.run_pure]
    rw [run_bounds (S := S) hl hh bl bh (by simpa using q0) (by simpa using q1) (by simpa using q2)]
    simp
  · rename_i e r g hu
    obtain rfl := none_of hm
    split at h <;> first | (cases h; done) | skip
    rename_i xs k s n hr0 hs
    have hr := getRow_some hr0
    split at h <;> first | (cases h; done) | skip
    rename_i hnk; subst hnk
    split at h <;> first | (cases h; done) | skip
    rename_i l hh' bl bh
    obtain ⟨q0, h⟩ := bif_true h
    obtain ⟨q1, h⟩ := bif_true h
    obtain ⟨q2, h⟩ := bif_true h
    have q0 : 0 ≤ l := by simpa using q0
    have q1 : l ≤ hh' := by simpa using q1
    have q2 : hh' ≤ xs.length := by simpa using q2
    obtain ⟨h0, hk, hb⟩ := ok.ob r _ hr
    cases hx with
    | rw r g v h1 hg hv =>
      rcases hv _ _ _ hr with ⟨b, a, hb1, rfl, ha⟩ | ⟨h3, _, h4, rfl⟩
      · have hcap : xs.length ≤ S.cp r := by
          rcases hb with ⟨a1, _, _⟩ | ⟨b', cs, T, fr, vs, a1, a2, a3, a4, a5, _⟩
          · rw [a1] at hb1; cases hb1
          · exact a5
        refine .same ok (v := .slice (if S.cp r - 0 = l.toNat then some a else some (a.add (l.toNat * n))) (hh'.toNat - l.toNat) (S.cp r - 0 - l.toNat)) ?_ ?_ h
        · simp only [Instr.sliceAt, Sem.run_bind, run_underlying hu, Result.andThen_ok, Instr.slice]
          rw [run_bounds (S := S) hl hh bl bh q0 q1 (by omega)]
          simp only [Result.andThen_ok, run_size hs, Sem.run_pure, Option.map_some]
        · refine .row _ _ _ _ _ rfl hg fun xs' k' s' hr' => ?_
          rw [hr] at hr'; cases hr'
          refine ⟨by omega, .inl ⟨b, if S.cp r - 0 = l.toNat then a else a.add (l.toNat * n), hb1, ?_, fun hlt => ?_⟩⟩
          · congr 1
            split <;> rfl
          · rw [if_neg (by omega), ha (by omega), add_at]; simp
      · refine .same ok (v := .slice none 0 0) ?_ ?_ h
        · simp only [Instr.sliceAt, Sem.run_bind, run_underlying hu, Result.andThen_ok, Instr.slice]
          have e1 : l = 0 := by omega
          have e2 : hh' = 0 := by omega
          try rw [h4] at bh
          rw [run_bounds (S := S) hl hh bl bh q0 q1 (by omega)]
          simp [run_size hs]
          omega
        · refine .row _ _ _ _ _ rfl hg fun xs' k' s' hr' => ?_
          rw [hr] at hr'; cases hr'
          exact ⟨by omega, .inr ⟨h3, by omega, by omega, rfl⟩⟩
  · rename_i e r g off len hu
    obtain rfl := none_of hm
    split at h <;> first | (cases h; done) | skip
    rename_i xs k s n hr0 hs
    have hr := getRow_some hr0
    split at h <;> first | (cases h; done) | skip
    rename_i hnk; subst hnk
    split at h <;> first | (cases h; done) | skip
    rename_i l hh' bl bh
    obtain ⟨q0, h⟩ := bif_true h
    obtain ⟨q1, h⟩ := bif_true h
    obtain ⟨q2, h⟩ := bif_true h
    have q0 : 0 ≤ l := by simpa using q0
    have q1 : l ≤ hh' := by simpa using q1
    have q2 : hh' ≤ len := by simpa using q2
    obtain ⟨h0, hk, hb⟩ := ok.ob r _ hr
    cases hx with
    | row r g off len v h1 hg hv =>
      obtain ⟨hle, hv⟩ := hv _ _ _ hr
      rcases hv with ⟨b, a, hb1, rfl, ha⟩ | ⟨h3, h5, h4, rfl⟩
      · have hcap : xs.length ≤ S.cp r := by
          rcases hb with ⟨a1, _, _⟩ | ⟨b', cs, T, fr, vs, a1, a2, a3, a4, a5, _⟩
          · rw [a1] at hb1; cases hb1
          · exact a5
        refine .same ok (v := .slice (if S.cp r - off = l.toNat then some a else some (a.add (l.toNat * n))) (hh'.toNat - l.toNat) (S.cp r - off - l.toNat)) ?_ ?_ h
        · simp only [Instr.sliceAt, Sem.run_bind, run_underlying hu, Result.andThen_ok, Instr.slice]
          rw [run_bounds (S := S) hl hh bl bh q0 q1 (by omega)]
          simp only [Result.andThen_ok, run_size hs, Sem.run_pure, Option.map_some]
        · refine .row _ _ _ _ _ rfl hg fun xs' k' s' hr' => ?_
          rw [hr] at hr'; cases hr'
          refine ⟨by omega, .inl ⟨b, if S.cp r - off = l.toNat then a else a.add (l.toNat * n), hb1, ?_, fun hlt => ?_⟩⟩
          · rw [show S.cp r - (off + l.toNat) = S.cp r - off - l.toNat by omega]
            congr 1
            split <;> rfl
          · rw [if_neg (by omega), ha (by omega), add_at, Nat.add_mul]
      · refine .same ok (v := .slice none 0 0) ?_ ?_ h
        · simp only [Instr.sliceAt, Sem.run_bind, run_underlying hu, Result.andThen_ok, Instr.slice]
          have e1 : l = 0 := by omega
          have e2 : hh' = 0 := by omega
          try rw [h4] at bh
          rw [run_bounds (S := S) hl hh bl bh q0 q1 (by omega)]
          simp [run_size hs]
          omega
        · refine .row _ _ _ _ _ rfl hg fun xs' k' s' hr' => ?_
          rw [hr] at hr'; cases hr'
          exact ⟨by omega, .inr ⟨h3, by omega, by omega, rfl⟩⟩
  · rename_i e own full k xs hu
    obtain rfl := none_of hm
    split at h <;> first | (cases h; done) | skip
    rename_i n hs
    split at h <;> first | (cases h; done) | skip
    rename_i hnk; subst hnk
    split at h <;> first | (cases h; done) | skip
    rename_i l hh' bl bh
    obtain ⟨q0, h⟩ := bif_true h
    obtain ⟨q1, h⟩ := bif_true h
    obtain ⟨q2, h⟩ := bif_true h
    have q0 : 0 ≤ l := by simpa using q0
    have q1 : l ≤ hh' := by simpa using q1
    have q2 : hh' ≤ xs.length := by simpa using q2
    cases hx with
    | c hx => cases hx with
      | sl full k xs a c vs h1 h2 h3 h4 h5 =>
        have hl' : ((xs.drop l.toNat).take (hh'.toNat - l.toNat)).length = hh'.toNat - l.toNat := by simp; omega
        refine .same ok (v := .slice (some (if c = l.toNat then a else a.add (l.toNat * n))) ((xs.drop l.toNat).take (hh'.toNat - l.toNat)).length (c - l.toNat)) ?_ (.c (.sl _ _ _ _ _ (((vs.drop (l.toNat * n)).take ((hh'.toNat - l.toNat) * n))) ?_ ?_ ?_ (by omega) ?_)) h
        · simp only [Instr.sliceAt, Sem.run_bind, run_underlying hu, Result.andThen_ok, Instr.slice]
          rw [run_bounds (S := S) hl hh bl bh q0 q1 (by omega), hl']
          simp only [Result.andThen_ok, run_size hs, Sem.run_pure, Option.map_some]
          congr 2
          split <;> rfl
        · intro e he; exact h1 e (List.mem_of_mem_drop (List.mem_of_mem_take he))
        · rw [flat_take _ (fun e he => h1 e (List.mem_of_mem_drop he)), flat_drop _ h1]; exact (h2.drop _).take _
        · split
          · rename_i hc
            intro j u hu
            have : (hh'.toNat - l.toNat) = 0 := by omega
            rw [this] at hu; simp at hu
          · exact (h3.drop _).take _
        · intro hf
          simp only [Bool.and_eq_true] at hf
          obtain ⟨hf1, hf2⟩ := hf
          have := h5 hf1
          cases hi with
          | none =>
            simp [bound] at bh
            omega
          | some p => simp at hf2
      | slnil k =>
        have e1 : l = 0 := by simp at q2; omega
        have e2 : hh' = 0 := by simp at q2; omega
        subst e1; subst e2
        refine .same ok (v := .slice none 0 0) ?_ (.c ?_) h
        · simp only [Instr.sliceAt, Sem.run_bind, run_underlying hu, Result.andThen_ok, Instr.slice]
          rw [run_bounds (S := S) (len := 0) hl hh bl bh (by omega) (by omega) (by omega)]
          simp [run_size hs]
        · simp; exact .slnil _

theorem len_ok {x : PV} {v : Value} (ok : Ok S) (hx : Vr S x v) (ty : TypeId) (h : len' P t x S.H K = some res) : Does P (Builtin.len_ #[t] ty #[v]) S K res := by
  unfold len' at h
  split at h <;> first | (cases h; done) | skip
  · rename_i s hu
    obtain rfl := str_of hx
    exact .same ok (by simp [Builtin.len_, run_underlying hu, goInt]) (Vi ..) h
  · rename_i n e hu
    refine .same ok (v := .int .i64 n) ?_ (Vi ..) h
    simp [Builtin.len_, run_underlying hu, goInt]
  · rename_i e hu
    split at h <;> first | (cases h; done) | skip
    rename_i k xs he
    obtain ⟨base, cap, vs, rfl, _⟩ := elemsOf_ok ok hx he
    exact .same ok (by simp [Builtin.len_, run_underlying hu, goInt]) (Vi ..) h

end
end Go.Pv
