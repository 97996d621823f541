/- What abstract values stand for in a world of the model, and how that lasts. -/
import Derived.Test.YtpclikkakhcomaaGreatDoorPv3
import Derived.Below
import Derived.Laws.Cells
import Derived.Laws.Entries
set_option linter.unusedVariables false
namespace Go.Pv
open Go

inductive All2 {α β : Type} (R : α → β → Prop) : List α → List β → Prop where
  | nil : All2 R [] []
  | cons {a b as bs} : R a b → All2 R as bs → All2 R (a :: as) (b :: bs)

theorem All2.length {α β : Type} {R : α → β → Prop} {as : List α} {bs : List β} (h : All2 R as bs) : as.length = bs.length := by
  induction h with
  | nil => rfl
  | cons _ _ ih => simp [ih]
theorem All2.imp {α β : Type} {R R' : α → β → Prop} {as : List α} {bs : List β} (h : All2 R as bs) (f : ∀ a b, a ∈ as → R a b → R' a b) : All2 R' as bs := by
  induction h with
  | nil => exact .nil
  | cons h1 _ ih => exact .cons (f _ _ (by simp) h1) (ih fun a b ha => f a b (by simp [ha]))
theorem All2.get {α β : Type} {R : α → β → Prop} {as : List α} {bs : List β} (h : All2 R as bs) : ∀ {i : Nat} {a : α}, as[i]? = some a → ∃ b, bs[i]? = some b ∧ R a b := by
  induction h with
  | nil => simp
  | cons h1 _ ih =>
    intro i a ha
    cases i with
    | zero => simp at ha; subst ha; exact ⟨_, by simp, h1⟩
    | succ i => simp at ha; simpa using ih ha
theorem All2.get' {α β : Type} {R : α → β → Prop} {as : List α} {bs : List β} (h : All2 R as bs) : ∀ {i : Nat} {b : β}, bs[i]? = some b → ∃ a, as[i]? = some a ∧ R a b := by
  induction h with
  | nil => simp
  | cons h1 _ ih =>
    intro i a ha
    cases i with
    | zero => simp at ha; subst ha; exact ⟨_, by simp, h1⟩
    | succ i => simp at ha; simpa using ih ha
theorem All2.append {α β : Type} {R : α → β → Prop} {as as' : List α} {bs bs' : List β} (h : All2 R as bs) (h' : All2 R as' bs') : All2 R (as ++ as') (bs ++ bs') := by
  induction h with
  | nil => exact h'
  | cons h1 _ ih => exact .cons h1 ih
theorem All2.take {α β : Type} {R : α → β → Prop} {as : List α} {bs : List β} (h : All2 R as bs) : ∀ n, All2 R (as.take n) (bs.take n) := by
  induction h with
  | nil => intro n; simp; exact .nil
  | cons h1 _ ih =>
    intro n
    cases n with
    | zero => exact .nil
    | succ n => exact .cons h1 (ih n)
theorem All2.drop {α β : Type} {R : α → β → Prop} {as : List α} {bs : List β} (h : All2 R as bs) : ∀ n, All2 R (as.drop n) (bs.drop n) := by
  induction h with
  | nil => intro n; simp; exact .nil
  | cons h1 h2 ih =>
    intro n
    cases n with
    | zero => exact .cons h1 h2
    | succ n => exact ih n
theorem All2.set {α β : Type} {R : α → β → Prop} {as : List α} {bs : List β} (h : All2 R as bs) {a : α} {b : β} (hr : R a b) : ∀ n, All2 R (as.set n a) (bs.set n b) := by
  induction h with
  | nil => intro n; simp; exact .nil
  | cons h1 h2 ih =>
    intro n
    cases n with
    | zero => exact .cons hr h2
    | succ n => exact .cons h1 (ih n)
theorem All2.map {α β γ : Type} {R : α → β → Prop} {R' : γ → β → Prop} (f : α → γ) {as : List α} {bs : List β} (h : All2 R as bs) (hf : ∀ a b, R a b → R' (f a) b) : All2 R' (as.map f) bs := by
  induction h with
  | nil => exact .nil
  | cons h1 _ ih => exact .cons (hf _ _ h1) ih
theorem All2.replicate {α β : Type} {R : α → β → Prop} {a : α} {b : β} (h : R a b) : ∀ n, All2 R (List.replicate n a) (List.replicate n b)
  | 0 => .nil
  | n + 1 => .cons h (All2.replicate h n)

/-- A run's state: the world; each object's block and capacity; the objects; what others may write. -/
structure St where
  w : World
  ι : Nat → Option Nat
  cp : Nat → Nat
  H : Hp
  F : Nat → Nat → Prop
  n0 : Nat
  ng : Nat

/-- A place that nobody will write. -/
def stable (S : St) (b off : Nat) : Prop :=
  ¬ S.F b off ∧ ∀ r, S.ι r = some b → ∃ xs k g, S.H[r]? = some (.row xs k g true) ∧ off < xs.length * k

def ReadsAt (S : St) (a : Addr) (vs : List Value) : Prop :=
  ∀ j v, vs[j]? = some v → a.spot = none ∧ stable S a.block (a.off + j) ∧ S.w.cell? ⟨a.block, a.off + j, none⟩ = some v ∧ v.oneCell' = true

def elemCells (xs : List CV) : List CV := xs.flatMap CV.cl

inductive Vc (S : St) : CV → Value → Prop where
  | bool (b : Bool) : Vc S (.bool b) (.bool b)
  | int (k : IntKind) (n : Int) : Vc S (.int k n) (.int k n)
  | str (s : ByteArray) : Vc S (.str s) (.string s)
  | nilsl : Vc S .nilsl (.slice none 0 0)
  | nilptr : Vc S .nilptr (.pointer none)
  | nilfn : Vc S .nilfn .nilFunc
  | nilif : Vc S .nilif .nilIface
  | err (t : TypeId) (v : Value) : Vc S .err (.iface t v)
  | fn (f : FuncId) (caps : List CV) (vs : Array Value) : All2 (Vc S) caps vs.toList → Vc S (.fn f caps) (.func (.func f) #[] vs)
  | agg (cs : List CV) (vs : Array Value) : All2 (Vc S) cs vs.toList → (∀ v ∈ vs.toList, v.oneCell' = true) → Vc S (.agg cs) (.agg vs)
  | sl (full : Bool) (k : Nat) (xs : List CV) (a : Addr) (c : Nat) (vs : List Value) : (∀ e ∈ xs, e.cl.length = k) → All2 (Vc S) (elemCells xs) vs → ReadsAt S a vs → xs.length ≤ c → (full = true → c = xs.length) →
      Vc S (.sl false full k xs) (.slice (some a) xs.length c)
  | slnil (k : Nat) : Vc S (.sl false false k []) (.slice none 0 0)

/-- A slice over object r's array, from element 'off' on. -/
def RowV (S : St) (r off len k : Nat) (v : Value) : Prop :=
  (∃ b a, S.ι r = some b ∧ v = .slice (some a) len (S.cp r - off) ∧ (0 < S.cp r - off → a = ⟨b, off * k, none⟩)) ∨ (S.ι r = none ∧ off = 0 ∧ len = 0 ∧ v = .slice none 0 0)

def GenOk (S : St) (r g : Nat) : Prop := r < S.H.length ∧ ∀ xs k g' s, S.H[r]? = some (.row xs k g' s) → g ≤ g'

inductive Vr (S : St) : PV → Value → Prop where
  | undef (v : Value) : Vr S .undef v
  | c {x : CV} {v : Value} : Vc S x v → Vr S (.c x) v
  | agg (cs : List PV) (vs : Array Value) : All2 (Vr S) cs vs.toList → (∀ v ∈ vs.toList, v.oneCell' = true) → Vr S (.agg cs) (.agg vs)
  | rw (r g : Nat) (v : Value) : v.oneCell' = true → GenOk S r g → (∀ xs k s, S.H[r]? = some (.row xs k g s) → RowV S r 0 xs.length k v) → Vr S (.rw r g) v
  | row (r g off len : Nat) (v : Value) : v.oneCell' = true → GenOk S r g → (∀ xs k s, S.H[r]? = some (.row xs k g s) → off + len ≤ xs.length ∧ RowV S r off len k v) → Vr S (.row r g off len) v
  | bptr (r t : Nat) (v : Value) : v.oneCell' = true → r < S.H.length → (∀ e k, S.H[r]? = some (.box e k) → ∃ b, S.ι r = some b ∧ v = .pointer (some ⟨b, t, none⟩)) → Vr S (.bptr r t) v
  | rptr (r g i t : Nat) (v : Value) : v.oneCell' = true → GenOk S r g → (∀ xs k s, S.H[r]? = some (.row xs k g s) → ∃ b, S.ι r = some b ∧ v = .pointer (some ⟨b, i * k + t, none⟩)) → Vr S (.rptr r g i t) v
  | ro (cs : List CV) (a : Addr) (vs : List Value) : All2 (Vc S) cs vs → ReadsAt S a vs → Vr S (.ro cs) (.pointer (some a))
  | fn (f : FuncId) (caps : List PV) (vs : Array Value) : All2 (Vr S) caps vs.toList → Vr S (.fn f caps) (.func (.func f) #[] vs)
  | iter (r : Nat) (v : Value) : v.oneCell' = true → r < S.H.length → (∀ s p, S.H[r]? = some (.iter s p) → ∃ b, S.ι r = some b ∧ v = .pointer (some ⟨b, 0, none⟩)) → Vr S (.iter r) v
  | tup (ps : List PV) (vs : Array Value) : All2 (Vr S) ps vs.toList → Vr S (.tup ps) (.tuple vs)

def unfrozen (fr : Nat × Nat) (n : Nat) : Prop := ∀ i, i < n → (decide (fr.1 ≤ i) && decide (i < fr.2)) = false

def bOk (T : TypeId) (fr : Nat × Nat) (n k : Nat) : Prop := unfrozen fr n ∧ (kty k = 0 ∨ T + 1 = kty k)
def rOk (T : TypeId) (fr : Nat × Nat) (n g : Nat) : Prop := unfrozen fr n ∧ (gty g = 0 ∨ T + 1 = gty g)
/-- What an object is in memory. -/
def ObOk (S : St) (r : Nat) : AO → Prop
  | .box e k => ∃ b cs T fr v, S.ι r = some b ∧ S.w.heap[b]? = some (.cells cs T fr) ∧ bOk T fr cs.size k ∧ e.ncells = some (ksz k) ∧ Vr S e v ∧ v.cells = cs ∧ (∀ v ∈ cs.toList, v.oneCell' = true)
  | .row xs k g s => 0 < k ∧ (∀ e ∈ xs, e.cl.length = k) ∧ ((S.ι r = none ∧ xs = [] ∧ S.cp r = 0) ∨
      ∃ (b : Nat) (cs : Array Value) (T : TypeId) (fr : Nat × Nat) (vs : List Value), S.ι r = some b ∧ S.w.heap[b]? = some (.cells cs T fr) ∧ rOk T fr cs.size g ∧ cs.size = S.cp r * k ∧ xs.length ≤ S.cp r ∧ All2 (Vc S) (elemCells xs) vs ∧ (∀ (j : Nat) (v : Value), vs[j]? = some v → cs[j]? = some v) ∧ (∀ v ∈ vs, v.oneCell' = true))
  | .iter s pos => ∃ b, S.ι r = some b ∧ S.w.heap[b]? = some (.stringIter s pos)
  | .dead => S.ι r = none

structure Ok (S : St) : Prop where
  ob : ∀ r o, S.H[r]? = some o → ObOk S r o
  out : ∀ r, S.H.length ≤ r → S.ι r = none
  inj : ∀ r r' b, S.ι r = some b → S.ι r' = some b → r = r'
  old : ∀ r b, S.ι r = some b → b < S.w.heap.size
  free : ∀ r b off, S.ι r = some b → ¬ S.F b off
  forb : ∀ b off, S.F b off → b < S.n0
  n0 : S.n0 ≤ S.w.heap.size
  glob : ∀ r b, S.ι r = some b → S.ng ≤ b
  ng : S.ng ≤ S.n0

/-- S' is S, something having been made or written. -/
structure Ext (S S' : St) : Prop where
  st : ∀ b off v, stable S b off → S.w.cell? ⟨b, off, none⟩ = some v → stable S' b off ∧ S'.w.cell? ⟨b, off, none⟩ = some v
  len : S.H.length ≤ S'.H.length
  box : ∀ r e' k', r < S.H.length → S'.H[r]? = some (.box e' k') → ∃ e k, S.H[r]? = some (.box e k) ∧ S'.ι r = S.ι r
  iter : ∀ r s' p', r < S.H.length → S'.H[r]? = some (.iter s' p') → ∃ s p, S.H[r]? = some (.iter s p) ∧ S'.ι r = S.ι r
  row : ∀ r xs' k' g' s', r < S.H.length → S'.H[r]? = some (.row xs' k' g' s') → ∃ xs k g s, S.H[r]? = some (.row xs k g s) ∧ g ≤ g' ∧
    (g = g' → k' = k ∧ xs'.length = xs.length ∧ S'.ι r = S.ι r ∧ S'.cp r = S.cp r)

theorem Ext.refl (S : St) : Ext S S :=
  ⟨fun _ _ _ h h' => ⟨h, h'⟩, Nat.le_refl _, fun _ e k _ h => ⟨e, k, h, rfl⟩, fun _ s p _ h => ⟨s, p, h, rfl⟩, fun _ xs k g s _ h => ⟨xs, k, g, s, h, Nat.le_refl _, fun _ => ⟨rfl, rfl, rfl, rfl⟩⟩⟩
theorem Ext.trans {S1 S2 S3 : St} (h : Ext S1 S2) (h' : Ext S2 S3) : Ext S1 S3 where
  st b off v hs hc := by
    obtain ⟨a1, a2⟩ := h.st b off v hs hc
    exact h'.st b off v a1 a2
  len := Nat.le_trans h.len h'.len
  box r e k hr hb := by
    obtain ⟨e1, k1, h1, h2⟩ := h'.box r e k (Nat.lt_of_lt_of_le hr h.len) hb
    obtain ⟨e2, k2, h3, h4⟩ := h.box r e1 k1 hr h1
    exact ⟨e2, k2, h3, h2.trans h4⟩
  iter r e k hr hb := by
    obtain ⟨e1, k1, h1, h2⟩ := h'.iter r e k (Nat.lt_of_lt_of_le hr h.len) hb
    obtain ⟨e2, k2, h3, h4⟩ := h.iter r e1 k1 hr h1
    exact ⟨e2, k2, h3, h2.trans h4⟩
  row r xs k g s hr hb := by
    obtain ⟨x1, k1, g1, s1, h1, hg1, h2⟩ := h'.row r xs k g s (Nat.lt_of_lt_of_le hr h.len) hb
    obtain ⟨x2, k2, g2, s2, h3, hg2, h4⟩ := h.row r x1 k1 g1 s1 hr h1
    refine ⟨x2, k2, g2, s2, h3, by omega, fun e => ?_⟩
    have e1 : g1 = g := by omega
    have e2 : g2 = g1 := by omega
    obtain ⟨a1, a2, a3, a4⟩ := h2 e1
    obtain ⟨b1, b2, b3, b4⟩ := h4 e2
    exact ⟨a1.trans b1, a2.trans b2, a3.trans b3, a4.trans b4⟩

/-- What is stable stays, and reads as it did. -/
def StExt (S S' : St) : Prop := ∀ b off v, stable S b off → S.w.cell? ⟨b, off, none⟩ = some v → stable S' b off ∧ S'.w.cell? ⟨b, off, none⟩ = some v
theorem ReadsAt.move {S S' : St} (E : StExt S S') {a : Addr} {vs : List Value} (h : ReadsAt S a vs) : ReadsAt S' a vs := by
  intro j v hv
  obtain ⟨h1, h2, h3, h4⟩ := h j v hv
  obtain ⟨h5, h6⟩ := E _ _ _ h2 h3
  exact ⟨h1, h5, h6, h4⟩
theorem ReadsAt.mono {S S' : St} (E : Ext S S') {a : Addr} {vs : List Value} (h : ReadsAt S a vs) : ReadsAt S' a vs := h.move E.st

theorem sizeOf_cl {e c : CV} (h : c ∈ e.cl) : SizeOf.sizeOf c ≤ SizeOf.sizeOf e := by
  cases e with
  | agg cs =>
    have := List.sizeOf_lt_of_mem (show c ∈ cs from h)
    simp only [CV.agg.sizeOf_spec]; omega
  | _ => simp only [CV.cl, List.mem_cons, List.mem_nil_iff, or_false] at h; subst h; exact Nat.le_refl _
theorem mem_elemCells {xs : List CV} {c : CV} (h : c ∈ elemCells xs) : ∃ e ∈ xs, c ∈ e.cl := by
  simpa [elemCells, List.mem_flatMap] using h

theorem Vc.mono' {S S' : St} (E : StExt S S') : ∀ (n : Nat) (x : CV) (v : Value), SizeOf.sizeOf x < n → Vc S x v → Vc S' x v := by
  intro n
  induction n with
  | zero => intro x v h; omega
  | succ n ih =>
    intro x v hn h
    cases h with
    | bool b => exact .bool b
    | int k n => exact .int k n
    | str s => exact .str s
    | nilsl => exact .nilsl
    | nilptr => exact .nilptr
    | nilfn => exact .nilfn
    | nilif => exact .nilif
    | err t v => exact .err t v
    | slnil k => exact .slnil k
    | fn f caps vs h =>
      refine .fn f caps vs (h.imp fun a b ha hr => ih a b ?_ hr)
      have := List.sizeOf_lt_of_mem ha
      simp only [CV.fn.sizeOf_spec] at hn; omega
    | agg cs vs h h1 =>
      refine .agg cs vs (h.imp fun a b ha hr => ih a b ?_ hr) h1
      have := List.sizeOf_lt_of_mem ha
      simp only [CV.agg.sizeOf_spec] at hn; omega
    | sl full k xs a c vs hk h hr hc hf =>
      refine .sl full k xs a c vs hk (h.imp fun a b ha hr => ih a b ?_ hr) (hr.move E) hc hf
      obtain ⟨e, he, hc⟩ := mem_elemCells ha
      have h1 := List.sizeOf_lt_of_mem he
      have h2 := sizeOf_cl hc
      simp only [CV.sl.sizeOf_spec] at hn; omega
theorem Vc.move {S S' : St} (E : StExt S S') {x : CV} {v : Value} (h : Vc S x v) : Vc S' x v := Vc.mono' E _ x v (Nat.lt_succ_self _) h
theorem Vc.mono {S S' : St} (E : Ext S S') {x : CV} {v : Value} (h : Vc S x v) : Vc S' x v := h.move E.st

theorem GenOk.mono {S S' : St} (E : Ext S S') {r g : Nat} (h : GenOk S r g) : GenOk S' r g := by
  refine ⟨Nat.lt_of_lt_of_le h.1 E.len, fun xs k g' s hr => ?_⟩
  obtain ⟨x1, k1, g1, s1, h1, h2, _⟩ := E.row r xs k g' s h.1 hr
  have := h.2 _ _ _ _ h1
  omega
theorem GenOk.same {S S' : St} (E : Ext S S') {r g : Nat} (h : GenOk S r g) {xs k s} (hr : S'.H[r]? = some (.row xs k g s)) :
    ∃ xs0 s0, S.H[r]? = some (.row xs0 k g s0) ∧ xs.length = xs0.length ∧ S'.ι r = S.ι r ∧ S'.cp r = S.cp r := by
  obtain ⟨x1, k1, g1, s1, h1, h2, h3⟩ := E.row r xs k g s h.1 hr
  have e : g1 = g := by have := h.2 _ _ _ _ h1; omega
  obtain ⟨a1, a2, a3, a4⟩ := h3 e
  subst e; subst a1
  exact ⟨x1, s1, h1, a2, a3, a4⟩
theorem RowV.same {S S' : St} {r off len k : Nat} {v : Value} (h : RowV S r off len k v) (h1 : S'.ι r = S.ι r) (h2 : S'.cp r = S.cp r) : RowV S' r off len k v := by
  unfold RowV at *
  rw [h1, h2]; exact h

theorem Vr.mono' {S S' : St} (E : Ext S S') : ∀ (n : Nat) (x : PV) (v : Value), SizeOf.sizeOf x < n → Vr S x v → Vr S' x v := by
  intro n
  induction n with
  | zero => intro x v h; omega
  | succ n ih =>
    intro x v hn h
    cases h with
    | undef v => exact .undef v
    | c h => exact .c (h.mono E)
    | agg cs vs h h1 =>
      refine .agg cs vs (h.imp fun a b ha hr => ih a b ?_ hr) h1
      have := List.sizeOf_lt_of_mem ha
      simp only [PV.agg.sizeOf_spec] at hn; omega
    | rw r g v h1 hg h =>
      refine .rw r g v h1 (hg.mono E) fun xs k s hr => ?_
      obtain ⟨x0, s0, h0, hl, h1, h2⟩ := hg.same E hr
      rw [hl]; exact (h x0 k s0 h0).same h1 h2
    | row r g off len v h1 hg h =>
      refine .row r g off len v h1 (hg.mono E) fun xs k s hr => ?_
      obtain ⟨x0, s0, h0, hl, h1, h2⟩ := hg.same E hr
      rw [hl]; exact ⟨(h x0 k s0 h0).1, (h x0 k s0 h0).2.same h1 h2⟩
    | bptr r t v h1 hr h =>
      refine .bptr r t v h1 (Nat.lt_of_lt_of_le hr E.len) fun e k hb => ?_
      obtain ⟨e1, k1, h1, h2⟩ := E.box r e k hr hb
      obtain ⟨b, hb, hv⟩ := h e1 k1 h1
      exact ⟨b, h2.trans hb, hv⟩
    | rptr r g i t v h1 hg h =>
      refine .rptr r g i t v h1 (hg.mono E) fun xs k s hr => ?_
      obtain ⟨x0, s0, h0, hl, h1, h2⟩ := hg.same E hr
      obtain ⟨b, hb, hv⟩ := h x0 k s0 h0
      exact ⟨b, h1.trans hb, hv⟩
    | ro cs a vs h hr => exact .ro cs a vs (h.imp fun a b _ hr => hr.mono E) (hr.mono E)
    | fn f caps vs h =>
      refine .fn f caps vs (h.imp fun a b ha hr => ih a b ?_ hr)
      have := List.sizeOf_lt_of_mem ha
      simp only [PV.fn.sizeOf_spec] at hn; omega
    | iter r v h1 hr h =>
      refine .iter r v h1 (Nat.lt_of_lt_of_le hr E.len) fun e k hb => ?_
      obtain ⟨e1, k1, h1, h2⟩ := E.iter r e k hr hb
      obtain ⟨b, hb, hv⟩ := h e1 k1 h1
      exact ⟨b, h2.trans hb, hv⟩
    | tup ps vs h =>
      refine .tup ps vs (h.imp fun a b ha hr => ih a b ?_ hr)
      have := List.sizeOf_lt_of_mem ha
      simp only [PV.tup.sizeOf_spec] at hn; omega
theorem Vr.mono {S S' : St} (E : Ext S S') {x : PV} {v : Value} (h : Vr S x v) : Vr S' x v := Vr.mono' E _ x v (Nat.lt_succ_self _) h

end Go.Pv
