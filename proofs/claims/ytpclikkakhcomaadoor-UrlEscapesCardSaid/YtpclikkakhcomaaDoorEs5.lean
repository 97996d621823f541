/- UrlEscapes: the law. -/
import Derived.Test.YtpclikkakhcomaaDoorEs4
set_option linter.unusedVariables false
set_option maxRecDepth 100000
namespace Go.Pv
open Go Go.Proofs

theorem text8_at {l : List Int} (h : ∀ x ∈ l, 0 ≤ x ∧ x < 256) {j : Nat} (hj : j < l.length) : byteAt (text8 l) j = l.getD j 0 := by
  obtain ⟨x0, x1⟩ := h (l[j]) (List.getElem_mem hj)
  unfold byteAt text8 bytesOf cells8
  rw [List.getD_eq_getElem?_getD, List.getD_eq_getElem?_getD, List.getElem?_eq_getElem hj]
  rw [List.map_map]
  show ((((List.map _ l)[j]?.getD (0 : UInt8)).toNat : Nat) : Int) = l[j]
  rw [List.getElem?_map, List.getElem?_eq_getElem hj]
  show (((UInt8.ofNat (CV.toInt (.int .u8 l[j])).toNat).toNat : Nat) : Int) = l[j]
  show (((UInt8.ofNat (l[j]).toNat).toNat : Nat) : Int) = l[j]
  rw [UInt8.toNat_ofNat']
  omega
theorem escN_range {n : Nat} (hn : n < 256) : ∀ x ∈ escN n, 0 ≤ x ∧ x < 256 := by
  intro x hx
  unfold escN at hx
  split at hx
  · simp at hx; omega
  · simp only [List.mem_cons, List.not_mem_nil, or_false] at hx
    rcases hx with rfl | rfl | rfl
    · omega
    · exact byte_lt _ _
    · exact byte_lt _ _
theorem flat_range {l : List Nat} (h : ∀ n ∈ l, n < 256) : ∀ x ∈ flat l, 0 ≤ x ∧ x < 256 := by
  intro x hx
  obtain ⟨n, hn, hx⟩ := List.mem_flatMap.1 hx
  exact escN_range (h n hn) x hx
theorem flatE_len : ∀ l : List Nat, (flat l).length ≤ 3 * l.length
  | [] => by simp [flat]
  | n :: l => by
    have hf : flat (n :: l) = escN n ++ flat l := rfl
    have := flatE_len l
    have h3 : (escN n).length ≤ 3 := by unfold escN; split <;> simp
    rw [hf, List.length_append, List.length_cons]
    omega
def bs (s : ByteArray) : List Nat := s.data.toList.map UInt8.toNat
theorem bs_lt (s : ByteArray) : ∀ n ∈ bs s, n < 256 := by
  intro n hn
  obtain ⟨b, _, rfl⟩ := List.mem_map.1 hn
  exact b.toNat_lt
theorem bs_len (s : ByteArray) : (bs s).length = s.size := by
  unfold bs; rw [List.length_map, Array.length_toList]; rfl
theorem bs_back (s : ByteArray) : text8 ((bs s).map fun n : Nat => (n : Int)) = s := by
  apply ByteArray.ext
  apply Array.ext'
  show List.map _ (List.map _ (List.map _ (List.map _ s.data.toList))) = s.data.toList
  rw [List.map_map, List.map_map, List.map_map]
  refine (List.map_congr_left fun b _ => ?_).trans (List.map_id _)
  show UInt8.ofNat ((b.toNat : Int)).toNat = b
  rw [Int.toNat_natCast]
  exact UInt8.ofNat_toNat

theorem escT_eq {s : ByteArray} (hs : s.size ≤ 10000) : escT s = text8 (flat (bs s)) := by
  unfold escT
  rw [esc_flat s 12000 0 [] (by omega)]
  simp [bs]
theorem escT_reads {s : ByteArray} (hs : s.size ≤ 10000) : Reads (escT s) 0 (flat (bs s)) := by
  rw [escT_eq hs]
  refine ⟨by rw [text8_size]; omega, fun j hj => ?_⟩
  rw [Nat.zero_add]
  exact text8_at (flat_range (bs_lt s)) hj
theorem escT_size {s : ByteArray} (hs : s.size ≤ 10000) : (escT s).size ≤ 3 * s.size := by
  have := flatE_len (bs s)
  rw [escT_eq hs, text8_size, ← bs_len s]
  exact this
theorem un_escT {s : ByteArray} (hs : s.size ≤ 3000) : unS (escT s) 12000 0 [] = some ((bs s).map fun n : Nat => (n : Int)) := by
  have := escT_size (s := s) (by omega)
  rw [un_esc (escT s) (bs s) 12000 0 [] (bs_lt s) (escT_reads (by omega)) (by omega)]
  simp
theorem st_escT {s : ByteArray} (hs : s.size ≤ 3000) : stT (escT s) = true := by
  have := escT_size (s := s) (by omega)
  exact st_esc (escT s) (bs s) 12000 0 (bs_lt s) (escT_reads (by omega)) (by omega)

def F5 : Fn1 := fun x => match x with
  | [.str s] => some [(true, .bool true, [])]
  | _ => none
theorem c5 : Ct 5 F5 := contract_of (fun _ => none) on0 k17 fun cargs rv outs h => by
  unfold F5 at h
  split at h <;> first | (cases h; done) | skip
  rename_i s
  cases h
  refine ⟨1, ?_⟩
  rw [tree5, bif_dec]
  split
  · rfl
  · have hs : s.size ≤ 3000 := by omega
    have hz := escT_size (s := s) (by omega)
    have h1 : unOk (escT s) = true := by unfold unOk; rw [un_escT hs]; rfl
    have h2 : unT (escT s) = s := by unfold unT; rw [un_escT hs]; exact bs_back s
    rw [h1, h2, st_escT hs, decide_eq_true (show s.size ≤ 10000 by omega), decide_eq_true (show (escT s).size ≤ 10000 by omega)]
    simp [bif']

end Go.Pv
