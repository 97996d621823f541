/- Literals of slices; conversions; iterators. -/
import Derived.Test.YtpclikkakhcomaaGreatDoorPv14
import Derived.Lib.Builder
import Derived.Lib.UnsafeStr
set_option linter.unusedVariables false
namespace Go.Pv
open Go

section
variable {P : Program} {t : TypeId}

theorem fill_elems {S : St} {n : Nat} : ∀ {ps : List (Nat × PV)} {vs : List (Nat × Value)} {xs xs' : List CV} {cells : Array Value} {b : Bool} {H' : Hp}, Ok S → PartsR S ps vs → fillE n ps xs S.H = some (b, xs', H') → b = true →
    (∀ e ∈ xs, e.cl.length = n) → All2 (Vc S) (elemCells xs) cells.toList → (∀ u ∈ cells.toList, u.oneCell' = true) →
    ∃ S' cells', S'.H = H' ∧ Marked S S' ∧ Instr.fill (fun i => some (i * n, n)) cells vs = some cells' ∧ xs'.length = xs.length ∧ (∀ e ∈ xs', e.cl.length = n) ∧ All2 (Vc S') (elemCells xs') cells'.toList ∧ (∀ u ∈ cells'.toList, u.oneCell' = true)
  | [], vs, xs, xs', cells, b, H', ok, hp, h, hb, hk, hc, h1 => by
    cases hp
    simp [fillE] at h
    obtain ⟨_, rfl, rfl⟩ := h
    exact ⟨S, cells, rfl, .refl ok, rfl, rfl, hk, hc, h1⟩
  | (i, p) :: ps, vs, xs, xs', cells, b, H', ok, hp, h, hb, hk, hc, h1 => by
    cases hp with
    | cons h2 h3 =>
      rename_i q vs
      obtain ⟨j, v⟩ := q
      obtain ⟨e, hv⟩ := h2
      simp only at e hv; subst e
      simp only [fillE] at h
      split at h <;> first | (cases h; done) | skip
      rename_i x H1 hcl
      split at h <;> first | (cases h; done) | skip
      rename_i b' xs'' H2 hf
      split at h <;> first | (cases h; done) | skip
      rename_i hi
      cases h
      simp only [Bool.and_eq_true, beq_iff_eq] at hb
      obtain ⟨S1, e1, M1, c1⟩ := closeVal_ok ok hv hcl
      subst e1
      obtain ⟨d1, d2⟩ := c1.cells
      have hn : v.cells.size = n := by have := d1.length; simp at this; omega
      have hcl' := hc.length
      rw [flat_len hk] at hcl'
      have hin : i * n + n ≤ xs.length * n := by
        have : (i + 1) * n ≤ xs.length * n := Nat.mul_le_mul_right _ hi
        rw [Nat.add_mul] at this; omega
      have hl : i * n + n ≤ cells.size := by simp at hcl'; omega
      have hset := cellsSet_list v.cells.toList cells (i * n) (by simp; omega)
      have hk' : ∀ e ∈ xs.set i x, e.cl.length = n := by
        intro e he
        rcases List.mem_or_eq_of_mem_set he with he | rfl
        · exact hk e he
        · exact hb.1
      have hrel : All2 (Vc S1) (elemCells (xs.set i x)) (cellsSet cells (i * n) v.cells.toList).toList := by
        have hc1 := hc.imp (fun _ _ _ h => h.mono M1.good.ext)
        have : elemCells (xs.set i x) = setRange (elemCells xs) (i * n) x.cl := by
          rw [flat_set hi, flat_take i hk, flat_drop (i + 1) hk]
          simp only [setRange, hb.1]
          rw [show i * n + n = (i + 1) * n by rw [Nat.add_mul]; omega]
        rw [this, hset]
        exact hc1.setRange d1
      obtain ⟨S2, cells', e2, M2, f1, f2, f3, f4, f5⟩ := fill_elems (cells := cellsSet cells (i * n) v.cells.toList) M1.good.ok (h3.imp fun _ _ _ h => ⟨h.1, h.2.mono M1.good.ext⟩) hf hb.2 hk' hrel (by
        intro u hu
        rw [hset] at hu
        simp only [setRange, List.mem_append] at hu
        rcases hu with (hu | hu) | hu
        · exact h1 u (List.mem_of_mem_take hu)
        · exact d2 u hu
        · exact h1 u (List.mem_of_mem_drop hu))
      exact ⟨S2, cells', e2, M1.trans M2, by rw [fill_cons (off := i * n) (n := n) rfl hn hl]; exact f1, by rw [f2]; simp, f3, f4, f5⟩

theorem buildSlice_ok {S : St} {len : Nat} {ps : List (Nat × PV)} {vs : Array (Nat × Value)} {K : KV} {res : CV × List CV} (ok : Ok S) (hp : PartsR S ps vs.toList) (h : buildSlice' P t len ps S.H K = some res) : Does P (Instr.buildSlice t len vs) S K res := by
  unfold buildSlice' at h
  split at h <;> first | (cases h; done) | skip
  rename_i e hu
  split at h <;> first | (cases h; done) | skip
  rename_i z n hz hn
  split at h <;> first | (cases h; done) | skip
  rename_i hc
  obtain ⟨hle, hzn, hn0⟩ := hc
  split at h <;> first | (cases h; done) | skip
  rename_i b xs H1 hf
  obtain ⟨hb, h⟩ := bif_true h
  obtain ⟨zv, hz1, hz2⟩ := run_zero hz
  obtain ⟨z1, z2⟩ := (hz2 S).cells
  have hzs : zv.cells.size = n := by have := z1.length; simp at this; omega
  let cs : Array Value := (Array.range (len * n)).map (zv.cells[· % zv.cells.size]!)
  have hcsl : cs.toList = (List.replicate len zv.cells.toList).flatten := by
    apply List.ext_getElem?
    intro j
    rw [get_flatten (by simpa using hzs) hn0]
    simp only [cs, Array.getElem?_toList, Array.getElem?_map, Array.getElem?_range, hzs]
    split
    · have : j % n < zv.cells.size := by rw [hzs]; exact Nat.mod_lt _ hn0
      simp [this]
    · rfl
  obtain ⟨S1, cells', e1, M, f1, f2, f3, f4, f5⟩ := fill_elems (cells := cs) ok hp hf hb (fun x hx => by rw [List.eq_of_mem_replicate hx]; exact hzn) (by rw [hcsl]; exact All2.flat_rep z1 len) (by
    intro u hu
    rw [hcsl, List.mem_flatten] at hu
    obtain ⟨l', h1, h2⟩ := hu
    rw [List.eq_of_mem_replicate h1] at h2
    exact z2 u h2)
  subst e1
  have hxl : xs.length = len := by rw [f2]; simp
  have hcl : cells'.size = len * n := by have := f4.length; rw [flat_len f3, hxl] at this; simpa using this.symm
  obtain ⟨G, hv⟩ := new_row (T := e) (fr := (0, 0)) (cap := len) M.good.ok hn0 f3 f4 f5 (cs := cells') (fun j v hj => by simpa using hj) hcl (by omega) (unfrozen_none _)
  rw [hxl] at hv
  refine ⟨_, _, _, ?_, M.good.trans G, hv, h⟩
  simp only [Instr.buildSlice, Sem.run_bind, run_underlying hu, Result.andThen_ok, run_size hn]
  rw [if_neg (by show ¬ len * n > 2 ^ 24; omega)]
  by_cases h0 : len * n = 0
  · rw [if_pos h0]
    have hcs' : (Array.range (len * n)).map ((#[] : Array Value)[· % (#[] : Array Value).size]!) = cs := by simp [cs, h0]
    simp only [Sem.run_bind, Sem.run_pure, Result.andThen_ok, hcs', f1, newRow, run_newObj, M.w, St.push]
    rfl
  · rw [if_neg h0]
    have hcs' : (Array.range (len * n)).map (zv.cells[· % zv.cells.size]!) = cs := rfl
    simp only [Sem.run_bind, hz1, Sem.run_pure, Result.andThen_ok, hcs', f1, newRow, run_newObj, M.w, St.push]
    rfl

/-! ### Conversions -/
theorem u8_cells {S : St} : ∀ {xs : List CV} {vs : List Value}, All2 (Vc S) xs vs → xs.all isU8 = true → vs = (xs.map CV.toInt).map (Value.int .u8)
  | [], _, .nil, _ => rfl
  | x :: xs, _, .cons h1 h2, h => by
    simp only [List.all_cons, Bool.and_eq_true] at h
    have ih := u8_cells h2 h.2
    cases x <;> simp [isU8] at h
    rename_i k n
    cases k <;> simp at h
    cases h1
    simp [CV.toInt, ih]
theorem u8_flat : ∀ {xs : List CV}, xs.all isU8 = true → elemCells xs = xs
  | [], _ => rfl
  | x :: xs, h => by
    simp only [List.all_cons, Bool.and_eq_true] at h
    have ih := u8_flat h.2
    cases x <;> simp [isU8] at h
    show _ :: elemCells xs = _
    rw [ih]

theorem run_toStr {w : World} {src dst e : TypeId} {a : Addr} {cap : Nat} {ns : List Int} (hs : P.underlying src = some (.slice e)) (he : P.underlying e = some (.int .u8)) (hd : P.underlying dst = some .string)
    (hc : ∀ j v, (ns.map (Value.int .u8))[j]? = some v → w.cell? (a.add j) = some v) :
    (convert src dst (.slice (some a) ns.length cap)).run P w = .ok (.string ⟨(ns.map fun n => UInt8.ofNat n.toNat).toArray⟩) w := by
  have hl := run_loadCells_list (P := P) w a (ns.map (Value.int .u8)) hc
  rw [List.length_map] at hl
  rw [run_convert_bytes_string w src dst e _ ns.length cap hs he hd, run_bytesToString w a ns.length cap ns hl, foldl_push_bytes]
  congr 2
  simp [ByteArray.empty, ByteArray.emptyWithCapacity]
  rfl

theorem convert_ok {S : St} {src dst : TypeId} {p : PV} {v : Value} {K : KV} {res : CV × List CV} (ok : Ok S) (hv : Vr S p v) (h : convert' P src dst p S.H K = some res) : Does P (convert src dst v) S K res := by
  unfold convert' at h
  split at h <;> first | (cases h; done) | skip
  · rename_i k0 k k1 n hs hd
    obtain rfl := int_of hv
    exact .same ok (by simp [convert, run_underlying hs, run_underlying hd, Conv.intToInt]) (Vi ..) h
  · rename_i s hs hd
    obtain rfl := str_of hv
    exact .same ok (by simp [convert, run_underlying hs, run_underlying hd]) (Vs ..) h
  · rename_i e s hs hd
    split at h <;> first | (cases h; done) | skip
    rename_i he
    obtain rfl := str_of hv
    have D := drawn_good ok (S.w.drawn + 1)
    have hge := grownCap_ge S.w s.size 0 e
    have hrun := Lib.run_convert_string_bytes (P := P) S.w src dst e s hs hd he
    have hsz : (Lib.bytesCells S.w e s).size = grownCap S.w s.size 0 e := by
      simp [Lib.bytesCells]
      have : s.data.size = s.size := rfl
      omega
    let S' : St := { w := Lib.bytesWorld S.w e s, ι := fun r => if r = S.H.length then some S.w.heap.size else S.ι r, cp := fun r => if r = S.H.length then grownCap S.w s.size 0 e else S.cp r, H := S.H ++ [.row (strBytes s) 1 0 false], F := S.F, n0 := S.n0, ng := S.ng }
    -- as a new row, its mark aside
    have hold : ∀ b, b < S.w.heap.size → S'.w.heap[b]? = S.w.heap[b]? := fun b hb => Lib.bytesWorld_at_old S.w e s b hb
    have hnew := Lib.bytesWorld_at_new S.w e s
    let S0 : St := (S.drawn (S.w.drawn + 1)).push (.cells (Lib.bytesCells S.w e s) e ((Lib.bytesCells S.w e s).size, (Lib.bytesCells S.w e s).size + 1)) (.row (strBytes s) 1 0 false) (grownCap S.w s.size 0 e)
    have hw : S0.w = S'.w := by
      show (S.w.drew.alloc _) = Lib.bytesWorld S.w e s
      have h1 : (Lib.bytesWorld S.w e s).heap = (S.w.drew.alloc (.cells (Lib.bytesCells S.w e s) e ((Lib.bytesCells S.w e s).size, (Lib.bytesCells S.w e s).size + 1))).heap := by
        apply Array.ext_getElem?
        intro i
        rcases Nat.lt_trichotomy i S.w.heap.size with h | h | h
        · rw [hold i h]; exact (heap_alloc_lt (w := S.w.drew) h).symm
        · subst h; rw [hnew]; exact (heap_alloc_new (w := S.w.drew)).symm
        · rw [Array.getElem?_eq_none (by rw [Lib.bytesWorld_size]; omega), Array.getElem?_eq_none (by rw [World.size_alloc]; show S.w.heap.size + 1 ≤ i; omega)]
      have h2 : Lib.bytesWorld S.w e s = { (S.w.drew.alloc (.cells (Lib.bytesCells S.w e s) e ((Lib.bytesCells S.w e s).size, (Lib.bytesCells S.w e s).size + 1))) with heap := (Lib.bytesWorld S.w e s).heap } := by
        simp [Lib.bytesWorld, World.freeze, World.alloc, World.drew, -World.alloc_eq, -World.drew_eq]
      rw [h2, h1]
    obtain ⟨G, hp⟩ := new_row (S := S.drawn (S.w.drawn + 1)) (T := e) (fr := ((Lib.bytesCells S.w e s).size, (Lib.bytesCells S.w e s).size + 1)) (cap := grownCap S.w s.size 0 e) D.ok (k := 1) (by omega) (xs := strBytes s) (fun x hx => by
        simp only [strBytes, List.mem_map] at hx
        obtain ⟨b, _, rfl⟩ := hx; rfl) (by rw [bytes_flat]; exact bytes_rel _ s) (by
        intro u hu
        simp only [List.mem_map] at hu
        obtain ⟨b, _, rfl⟩ := hu; rfl) (cs := Lib.bytesCells S.w e s) (fun j u hj => by
        have hjl := (List.getElem?_eq_some_iff.1 hj).1
        simp only [List.length_map] at hjl
        simp only [Lib.bytesCells]
        rw [Array.getElem?_append_left (by simpa using hjl)]
        simpa using hj) (by rw [hsz]; omega) (by rw [bytes_len]; exact hge) (fun i hi => by simp; omega)
    rw [bytes_len] at hp
    refine ⟨_, S0, .rw S.H.length 0, ?_, D.trans G, hp, h⟩
    rw [hrun, hw]; rfl
  · rename_i t0 r o hs hd
    split at h <;> first | (cases h; done) | skip
    rename_i e k sz hr hsz
    split at h <;> first | (cases h; done) | skip
    rename_i hlt
    have hv0 := hv
    cases hv with
    | bptr r o v o1 hl hb =>
      obtain ⟨b, hb1, rfl⟩ := hb _ _ hr
      obtain ⟨b', cs, T, fr, ve, q1, q2, q3, q4, q5, q6, q7⟩ := ok.ob r _ hr
      rw [hb1] at q1; cases q1
      have hcs : cs.size = ksz k := by rw [← q6]; exact q5.size q4
      obtain ⟨i, hi⟩ : ∃ i, P.info? t0 = some i := by
        unfold tySize at hsz
        cases hi : P.info? t0 with
        | none => rw [hi] at hsz; simp at hsz
        | some i => exact ⟨i, rfl⟩
      have hi0 : i.size ≠ 0 := by
        unfold tySize at hsz
        rw [hi] at hsz
        simp at hsz
        omega
      exact .same ok (Lib.run_to_unsafe S.w (cells := cs.size) (e := T) ⟨b, o, none⟩ hs hd hi hi0 (by simp [World.shape?, q2]) (by rw [hcs]; exact hlt)) hv0 h
  · rename_i u r hs hd
    split at h <;> first | (cases h; done) | skip
    rename_i e k hr
    split at h <;> first | (cases h; done) | skip
    rename_i hc
    obtain ⟨hk, hsm, hlies⟩ := hc
    have hv0 := hv
    cases hv with
    | bptr r o v o1 hl hb =>
      obtain ⟨b, hb1, rfl⟩ := hb _ _ hr
      obtain ⟨b', cs, T, fr, ve, q1, q2, q3, q4, q5, q6, q7⟩ := ok.ob r _ hr
      rw [hb1] at q1; cases q1
      have hcs : cs.size = ksz k := by rw [← q6]; exact q5.size q4
      have hT : T = u := by
        rcases q3.2 with h2 | h2
        · rw [hk] at h2; cases h2
        · exact Nat.succ.inj (h2.trans hk)
      subst hT
      obtain ⟨i, hi⟩ := Option.isSome_iff_exists.1 hsm
      exact .same ok (Lib.run_from_unsafe S.w (cells := cs.size) (e := T) ⟨b, 0, none⟩ hs hd hi (by simp [World.shape?, q2]) (by rw [hcs]; exact hlies)) hv0 h
  · rename_i e hs hd
    split at h <;> first | (cases h; done) | skip
    rename_i xs he hel
    obtain ⟨hall, h⟩ := bif_true h
    obtain ⟨base, cap, vs, rfl, h1, h2, h3, h4, h5⟩ := elemsOf_ok ok hv hel
    rw [u8_flat hall] at h2
    have hvs := u8_cells h2 hall
    refine .same ok (v := .string (bytesOf xs)) ?_ (Vs ..) h
    cases base with
    | none =>
      have := h5 rfl
      subst this
      rw [run_convert_bytes_string S.w src dst e _ _ _ hs he hd]
      simp [Conv.bytesToString, bytesOf]
      rfl
    | some a =>
      have := run_toStr (P := P) (w := S.w) (a := a) (cap := cap) (ns := xs.map CV.toInt) hs he hd (fun j u hj => h4 a rfl j u (by rw [hvs]; exact hj))
      rw [List.length_map] at this
      rw [this]
      simp [bytesOf, Function.comp_def]

/-! ### A slice's first element's address; a string of an array's bytes -/
theorem sliceData_ok {S : St} {ts : Array TypeId} {ty : TypeId} {x : PV} {v : Value} {K : KV} {res : CV × List CV} (ok : Ok S) (hv : Vr S x v) (h : sliceData' x S.H K = some res) : Does P (Builtin.unsafeSliceData_ ts ty #[v]) S K res := by
  unfold sliceData' at h
  split at h <;> first | (cases h; done) | skip
  · cases c_of hv
    exact .same ok (v := .pointer none) rfl (.c .nilptr) h
  · rename_i r g
    split at h <;> first | (cases h; done) | skip
    rename_i xs k s hr0
    have hr := getRow_some hr0
    obtain ⟨hne, h⟩ := bif_true h
    cases hv with
    | rw r g v o1 hg hrow =>
      obtain ⟨h0, hk, hb⟩ := ok.ob r _ hr
      rcases hb with ⟨_, rfl, _⟩ | ⟨b, cs, T, fr, vs, q1, q2, q3, q4, q5, _⟩
      · simp at hne
      · have hx : 0 < xs.length := by cases xs with | nil => simp at hne | cons _ _ => simp
        rcases hrow _ _ _ hr with ⟨b', a, e1, rfl, e2⟩ | ⟨e1, _⟩
        · rw [q1] at e1; cases e1
          have ha := e2 (by omega)
          have hc : S.cp r - 0 ≠ 0 := by omega
          refine .same ok (v := .pointer (some a)) (Lib.run_unsafeSliceData_row S.w ts ty a _ _ hc) (.rptr _ _ _ _ _ rfl hg fun xs' k' s' hr' => ?_) h
          exact ⟨b, q1, by rw [ha]; simp⟩
        · rw [q1] at e1; cases e1

theorem freeze_other {w : World} {a : Addr} {n b : Nat} (h : b ≠ a.block) : (w.freeze a n).heap[b]? = w.heap[b]? := by
  unfold World.freeze
  split
  · rfl
  · simp only [Array.getElem?_modify, if_neg (show ¬ a.block = b from fun e => h e.symm)]
theorem freeze_size {w : World} {a : Addr} {n : Nat} : (w.freeze a n).heap.size = w.heap.size := by
  unfold World.freeze
  split
  · rfl
  · simp
theorem freeze_same {w : World} {a : Addr} {n : Nat} : (w.freeze a n).os = w.os ∧ (w.freeze a n).tape = w.tape ∧ (w.freeze a n).output = w.output := by
  unfold World.freeze
  split <;> exact ⟨rfl, rfl, rfl⟩
theorem freeze_cell {w : World} {a c : Addr} {n : Nat} : (w.freeze a n).cell? c = w.cell? c := by
  by_cases hn : n = 0
  · unfold World.freeze; rw [if_pos hn]
  by_cases h : c.block = a.block
  · unfold World.freeze World.cell?
    rw [if_neg hn]
    simp only [Array.getElem?_modify, if_pos h.symm]
    cases hc : w.heap[c.block]? with
    | none => rfl
    | some o => cases o <;> rfl
  · unfold World.cell?
    rw [freeze_other h]

theorem run_loadInts {w : World} : ∀ (ns : List Int) (a : Addr) (acc : ByteArray), (∀ j v, (ns.map (Value.int .u8))[j]? = some v → w.cell? (a.add j) = some v) →
    (loadBytes a acc ns.length).run P w = .ok ⟨acc.data ++ (ns.map fun n => UInt8.ofNat n.toNat).toArray⟩ w
  | [], a, acc, _ => by simp [loadBytes]
  | x :: l, a, acc, h => by
    have h0 : w.cell? a = some (.int .u8 x) := by
      have := h 0 _ rfl
      simpa [Addr.add] using this
    have ih := run_loadInts l (a.add 1) (acc.push (UInt8.ofNat x.toNat)) (fun j y hy => by
      have := h (j + 1) y (by simpa using hy)
      have e : (a.add 1).add j = a.add (j + 1) := by
        unfold Addr.add
        by_cases hj : j = 0
        · subst hj; simp
        · simp [hj]; omega
      rw [e]; exact this)
    have hx : (x.toNat).toUInt8 = UInt8.ofNat x.toNat := rfl
    simp only [List.length_cons, loadBytes, Sem.run_bind, run_load, h0, Result.andThen, hx]
    rw [ih]
    congr 1
    apply ByteArray.ext
    simp [ByteArray.push]

theorem run_unsafeString {w : World} {pt it ty e : TypeId} (hp : P.underlying pt = some (.pointer e)) (hc : P.cellsOf e = 1) {g cells : Nat} (hsh : w.shape? g = some (e, cells)) {ns : List Int} (h0 : 0 < ns.length) (hn : ns.length ≤ cells) (h63 : ns.length ≤ 9223372036854775807) {k : IntKind}
    (hcell : ∀ j v, (ns.map (Value.int .u8))[j]? = some v → w.cell? ((⟨g, 0, none⟩ : Addr).add j) = some v) :
    (Builtin.unsafeString_ #[pt, it] ty #[.pointer (some ⟨g, 0, none⟩), .int k ns.length]).run P w = .ok (.string ⟨(ns.map fun n => UInt8.ofNat n.toNat).toArray⟩) (w.freeze ⟨g, 0, none⟩ ns.length) := by
  have hl : ns.length ≠ 0 := by omega
  have hlb := run_loadInts (P := P) ns ⟨g, 0, none⟩ .empty hcell
  have hlies := Lib.liesAt_bytes (P := P) hc (cells / P.cellsOf e) ns.length (by rw [hc]; simpa using hn)
  have h63' : ¬ (9223372036854775807 : Int) < (ns.length : Int) := by omega
  have hdef : Builtin.unsafeString_ #[pt, it] ty #[.pointer (some ⟨g, 0, none⟩), .int k ns.length] =
      (do
        let n ← asInt (.int k ns.length)
        if n < 0 then runtimePanic (.error "unsafe.String: len out of range")
        if n > IntKind.i64.max then unsupported (.unsafePointer "String: a length above the largest int")
        if n = 0 then pure (.string .empty)
        else if ← variablesAt ⟨g, 0, none⟩ (← elemOf pt) n.toNat then do
          let s ← loadBytes ⟨g, 0, none⟩ .empty n.toNat
          freeze ⟨g, 0, none⟩ n.toNat
          pure (.string s)
        else unsupported (.unsafePointer "String: not so many bytes at ptr")) := rfl
  rw [hdef]
  have hmax : IntKind.i64.max = 9223372036854775807 := rfl
  have hneg : ¬ (ns.length : Int) < 0 := by omega
  simp [asInt, asIntOf, hmax, h63', hneg, hl, variablesAt, hsh, elemOf, run_underlying hp, hlies, hlb]

theorem run_unsafeString_zero {w : World} {pt it ty : TypeId} {k : IntKind} : (Builtin.unsafeString_ #[pt, it] ty #[.pointer none, .int k 0]).run P w = .ok (.string .empty) w := by
  have hmax : IntKind.i64.max = 9223372036854775807 := rfl
  have hdef : Builtin.unsafeString_ #[pt, it] ty #[.pointer none, .int k 0] =
      (do
        let n ← asInt (.int k 0)
        if n < 0 then runtimePanic (.error "unsafe.String: len out of range")
        if n > IntKind.i64.max then unsupported (.unsafePointer "String: a length above the largest int")
        if n = 0 then pure (.string .empty)
        else runtimePanic (.error "unsafe.String: ptr is nil and len is not zero")) := rfl
  rw [hdef]
  simp [asInt, asIntOf, hmax]

theorem unsafeString_ok {S : St} {pt it ty : TypeId} {x n : PV} {v u : Value} {K : KV} {res : CV × List CV} (ok : Ok S) (hv : Vr S x v) (hu : Vr S n u) (h : unsafeString' P pt x n S.H K = some res) : Does P (Builtin.unsafeString_ #[pt, it] ty #[v, u]) S K res := by
  unfold unsafeString' at h
  split at h <;> first | (cases h; done) | skip
  · rename_i k n
    obtain ⟨h0, h⟩ := bif_true h
    have h0 : n = 0 := of_decide_eq_true h0
    subst h0
    cases c_of hv
    cases c_of hu
    exact .same ok (v := .string .empty) run_unsafeString_zero (Vs ..) h
  · rename_i r g k n
    split at h <;> first | (cases h; done) | skip
    rename_i e xs s hp hr0
    have hr := getRow_some hr0
    split at h <;> first | (cases h; done) | skip
    rename_i hc
    obtain ⟨hg, hcell⟩ := hc
    obtain ⟨p1, h⟩ := bif_true h
    obtain ⟨p2, h⟩ := bif_true h
    obtain ⟨p3, h⟩ := bif_true h
    obtain ⟨p4, h⟩ := bif_true h
    have p1 : 0 < n := of_decide_eq_true p1
    have p2 : n ≤ (xs.length : Int) := of_decide_eq_true p2
    have p3 : n ≤ 9223372036854775807 := of_decide_eq_true p3
    cases c_of hu
    have hlt : r < S.H.length := (List.getElem?_eq_some_iff.1 hr).1
    obtain ⟨h0, hk, hb⟩ := ok.ob r _ hr
    rcases hb with ⟨_, rfl, _⟩ | ⟨b, cs, T, fr, vs, q1, q2, q3, q4, q5, q6, q7, q8⟩
    · simp at p2; omega
    have hT : T = e := by
      rcases q3.2 with h2 | h2
      · rw [hg] at h2; cases h2
      · exact Nat.succ.inj (h2.trans hg)
    subst hT
    cases hv with
    | rptr _ _ _ _ v o1 hgen hptr =>
      obtain ⟨b', hb', rfl⟩ := hptr _ _ _ hr
      rw [q1] at hb'; cases hb'
      have hlen : ((xs.take n.toNat).map CV.toInt).length = n.toNat := by simp; omega
      have hk' : ∀ e ∈ xs.take n.toNat, e.cl.length = 1 := fun e he => hk e (List.mem_of_mem_take he)
      have hfl : elemCells (xs.take n.toNat) = (elemCells xs).take n.toNat := by have := flat_take n.toNat hk; rwa [Nat.mul_one] at this
      have hvs := u8_cells (by have := q6.take n.toNat; rw [← hfl, u8_flat p4] at this; exact this) p4
      have hcells : ∀ j v, (((xs.take n.toNat).map CV.toInt).map (Value.int .u8))[j]? = some v → S.w.cell? ((⟨b, 0, none⟩ : Addr).add j) = some v := by
        intro j v hj
        rw [← hvs, List.getElem?_take] at hj
        split at hj <;> first | (cases hj; done) | skip
        rw [add_at, heap_cell q2]
        simpa using q7 j v hj
      have hrun := run_unsafeString (P := P) (w := S.w) (it := it) (ty := ty) (k := k) hp hcell (g := b) (cells := cs.size) (by simp [World.shape?, q2]) (ns := (xs.take n.toNat).map CV.toInt) (by rw [hlen]; omega) (by rw [hlen, q4]; omega) (by rw [hlen]; omega) hcells
      rw [hlen] at hrun
      rw [show ((n.toNat : Nat) : Int) = n by omega] at hrun
      let S' : St := { S with w := S.w.freeze ⟨b, 0, none⟩ n.toNat, ι := fun r' => if r' = r then none else S.ι r', H := S.H.set r .dead }
      have T' : Turn S S' r .dead := by
        refine ⟨hlt, rfl, fun r' hr' => by simp [S', hr'], fun _ _ => rfl, .inr (.inl (by simp [S'])), freeze_same.1, freeze_same.2.1, freeze_same.2.2, by show _ ≤ (S.w.freeze _ _).heap.size; rw [freeze_size]; exact Nat.le_refl _, fun b0 _ hb0 => freeze_other (fun e => hb0 (by rw [e]; exact q1)), rfl, rfl, rfl, ?_, ?_, ?_, ?_⟩
        · intro b0 off v hb0 _ hc
          exact ⟨fun he => by simp [S'] at he, by show (S.w.freeze _ _).cell? _ = _; rw [freeze_cell]; exact hc⟩
        · intro e1 k1 he; cases he
        · intro s p he; cases he
        · intro xs k g s he; cases he
      have G := T'.good ok (by show (if r = r then none else S.ι r) = none; rw [if_pos rfl])
      refine ⟨.string (bytesOf (xs.take n.toNat)), S', _, ?_, G, Vs .., h⟩
      have e0 : (⟨b, 0 * 1 + 0, none⟩ : Addr) = ⟨b, 0, none⟩ := rfl
      rw [e0, hrun]
      simp [bytesOf, Function.comp_def, S']

/-! ### Iterators over strings -/
theorem range_ok {S : St} {s : ByteArray} {K : KV} {res : CV × List CV} (ok : Ok S) (hu : P.underlying t = some .string) (h : K (.iter S.H.length) (S.H ++ [.iter s 0]) = some res) : Does P (Instr.range t (.string s)) S K res := by
  have G := push_good ok (.stringIter s 0) (.iter s 0) 0 ⟨S.w.heap.size, by simp [St.push], heap_alloc_new⟩
  refine ⟨_, _, .iter S.H.length, ?_, G, .iter _ _ rfl (by simp [St.push]) fun _ _ _ => ⟨S.w.heap.size, by simp [St.push], rfl⟩, h⟩
  simp [Instr.range, run_underlying hu, St.push]

theorem next_ok {S : St} {r pos : Nat} {ty : TypeId} {s : ByteArray} {v : Value} {K : KV} {res : CV × List CV} (ok : Ok S) (hv : Vr S (.iter r) v) (hr : S.H[r]? = some (.iter s pos))
    (h : bif' (decide (pos < s.size)) (K (.tup [.c (.bool true), .c (.int .i64 pos), .c (.int .i32 (Utf8.decode s pos).1)]) (S.H.set r (.iter s (pos + (Utf8.decode s pos).2)))) (K (.tup [.c (.bool false)]) S.H) = some res) :
    Does P (Instr.next v true ty) S K res := by
  have hlt : r < S.H.length := (List.getElem?_eq_some_iff.1 hr).1
  obtain ⟨b, h1, h2⟩ := ok.ob r _ hr
  cases hv with
  | iter r v h1' hlt' hb =>
    obtain ⟨b', hb1, rfl⟩ := hb _ _ hr
    rw [h1] at hb1; cases hb1
    have hget : (getObj b).run P S.w = .ok (.stringIter s pos) S.w := by simp [getObj, Sem.run, h2]
    rcases bif_some h with ⟨h0, h⟩ | ⟨h0, h⟩
    · have h0 : pos < s.size := by simpa using h0
      let w' : World := { S.w with heap := S.w.heap.setIfInBounds b (.stringIter s (pos + (Utf8.decode s pos).2)) }
      have hset : (setObj b (.stringIter s (pos + (Utf8.decode s pos).2))).run P S.w = .ok () w' := by simp [setObj, Sem.run, h2, w']
      have hbl : b < S.w.heap.size := ok.old r b h1
      let S' : St := { S with w := w', H := S.H.set r (.iter s (pos + (Utf8.decode s pos).2)) }
      have hoth : ∀ b', b' ≠ b → w'.heap[b']? = S.w.heap[b']? := fun b' hb' => by
        show (S.w.heap.setIfInBounds b _)[b']? = _
        rw [Array.getElem?_setIfInBounds_ne (fun e => hb' e.symm)]
      have T' : Turn S S' r (.iter s (pos + (Utf8.decode s pos).2)) := by
        refine ⟨hlt, rfl, fun _ _ => rfl, fun _ _ => rfl, .inl rfl, rfl, rfl, rfl, by simp [S', w'], fun b' _ hb' => hoth b' (fun e => hb' (by rw [e]; exact h1)), rfl, rfl, rfl, ?_, ?_, ?_, ?_⟩
        · intro b' off' v' _ hs
          obtain ⟨xs, k', g, hrow, _⟩ := hs
          rw [hr] at hrow; cases hrow
        · intro e1 k1 he; cases he
        · intro s p he; exact ⟨_, _, hr, rfl⟩
        · intro xs k g s he; cases he
      have G := T'.good ok ⟨b, h1, by show (S.w.heap.setIfInBounds b _)[b]? = _; simp [hbl]⟩
      refine ⟨.tuple #[.bool true, .int .i64 pos, .int .i32 (Utf8.decode s pos).1], S', _, ?_, G, .tup _ _ (.cons (Vb ..) (.cons (Vi ..) (.cons (Vi ..) .nil))), h⟩
      simp only [Instr.next, Sem.run_bind, hget, Result.andThen_ok]
      rw [if_pos h0]
      simp only [Sem.run_bind, hset, Result.andThen_ok, Sem.run_pure, goInt]
      rfl
    · have h0 : ¬ pos < s.size := by simpa using h0
      refine .same ok (v := .tuple #[.bool false]) ?_ (.tup _ _ (.cons (Vb ..) .nil)) h
      simp only [Instr.next, Sem.run_bind, hget, Result.andThen_ok]
      rw [if_neg h0]; rfl

end
end Go.Pv
