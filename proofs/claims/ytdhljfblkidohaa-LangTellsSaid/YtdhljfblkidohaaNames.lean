/- lang.Names: the concepts' names, sorted, each once. -/
import Derived.Test.YtdhljfblkidohaaTwC
import Derived.Sort.OwnSorted
import Derived.Sort.Grow
import Derived.Lib.OwnBridge
import Derived.Deep.AppendLies
namespace Go.Proofs.Ytdhljfblkidohaa
set_option linter.unusedSimpArgs false
set_option linter.unusedVariables false
open Go.RowKit

/-- a text's bytes -/
def bsL (s : ByteArray) : List UInt8 := s.data.toList
def ofL (l : List UInt8) : ByteArray := ⟨l.toArray⟩
theorem ofL_bsL (s : ByteArray) : ofL (bsL s) = s := by cases s; rfl
/-- the names in order, each once -/
def sortedN (l : List ByteArray) : List ByteArray := (Go.Lib.compact ((l.map bsL).mergeSort fun x y => decide (x ≤ y))).map ofL
def namesN (d : Language) : List ByteArray := sortedN (d.concepts.map fun c => c.name)
theorem texts_flat {xs : List Value} {l : List ByteArray} (h : FlatR 1 IsText xs l) : xs = (l.map bsL).map encStr := by
  apply List.ext_getElem?
  intro i
  rw [List.getElem?_map, List.getElem?_map]
  cases hy : l[i]? with
  | none =>
    have : l.length ≤ i := List.getElem?_eq_none_iff.1 hy
    rw [List.getElem?_eq_none (by rw [h.1]; omega)]
    rfl
  | some y =>
    have hi := (List.getElem?_eq_some_iff.1 hy).1
    have h2 := (h.2 i y hy).1
    rw [Nat.mul_one] at h2
    have h3 : ((xs.drop i).take 1)[0]? = some (.string y) := by rw [h2]; rfl
    rw [List.getElem?_take_of_lt (by omega), List.getElem?_drop, Nat.add_zero] at h3
    rw [h3]
    show _ = some (encStr (bsL y))
    have : encStr (bsL y) = .string (ofL (bsL y)) := rfl
    rw [this, ofL_bsL]
theorem flat_texts {l : List (List UInt8)} (h : ∀ y ∈ l, y.length ≤ maxLen) : FlatR 1 IsText (l.map encStr) (l.map ofL) := by
  refine ⟨by simp, fun i y hy => ?_⟩
  rw [List.getElem?_map] at hy
  cases hz : l[i]? with
  | none => rw [hz] at hy; cases hy
  | some z =>
    rw [hz] at hy
    injection hy with hy
    subst hy
    have hi := (List.getElem?_eq_some_iff.1 hz).1
    have e : ((l.map encStr).drop (i * 1)).take 1 = [.string (ofL z)] := by
      rw [Nat.mul_one, List.drop_eq_getElem_cons (by simpa using hi)]
      simp only [List.take_succ_cons, List.take_zero, List.getElem_map]
      rw [(List.getElem?_eq_some_iff.1 hz).2]
      rfl
    rw [e]
    exact ⟨rfl, by have := h z (List.mem_iff_getElem?.2 ⟨i, hz⟩); simpa [ofL, ByteArray.size] using this⟩
theorem compact_mem : ∀ (l : List (List UInt8)) (y : List UInt8), y ∈ Go.Lib.compact l → y ∈ l := by
  intro l y h
  unfold Go.Lib.compact Go.Lib.compactUpTo at h
  rw [List.mem_map] at h
  obtain ⟨j, hj, rfl⟩ := h
  have hj2 : j < l.length := by
    have := (List.mem_filter.1 hj).1
    simpa using this
  show l.toArray[j]! ∈ l
  rw [getElem!_pos _ j (by simpa using hj2)]
  simp
theorem sorted_small {l : List ByteArray} (h : ∀ s ∈ l, s.size ≤ maxLen) : ∀ y ∈ Go.Lib.compact ((l.map bsL).mergeSort fun x y => decide (x ≤ y)), y.length ≤ maxLen := by
  intro y hy
  have h2 := compact_mem _ _ hy
  rw [List.mem_mergeSort, List.mem_map] at h2
  obtain ⟨s, hs, rfl⟩ := h2
  exact h s hs
/-- what the row of names holds, as the sort's contract asks it -/
theorem texts_holds {w : World} {base : Nat} {e : TypeId} {a : Option Addr} {c : Nat} {l : List ByteArray} (h : Own1 w base e 1 IsText (.slice a l.length c) l) (hl : 0 < l.length) :
    ∃ g, a = some ⟨g, 0, none⟩ ∧ base ≤ g ∧ g < w.heap.size ∧ l.length ≤ c ∧ c ≤ maxLen ∧ Go.Sort.Holds encStr w g 0 (l.map bsL).toArray := by
  obtain ⟨xs, h1, h2⟩ := h
  rw [texts_flat h2] at h1
  obtain ⟨g, cap, hv, hb, hg, hn, hm, _, hH⟩ := Go.Lib.holds_of_ownsRow h1 (by intro he; injection he with e1 e2 e3; omega)
  injection hv with e1 e2 e3
  subst e3
  exact ⟨g, e1, hb, hg, hn, hm, hH⟩
theorem sorted_length (l : List ByteArray) : (sortedN l).length = (Go.Lib.compact ((l.map bsL).mergeSort fun x y => decide (x ≤ y))).length := by simp [sortedN]
theorem names_end {w w1 : World} {base g cap nn q : Nat} {e : TypeId} {os : Array Obj} {l : List ByteArray} (hown : Own1 w1 base e 1 IsText (.slice (some ⟨g, 0, none⟩) l.length cap) l) (hsm : ∀ s ∈ l, s.size ≤ maxLen) (hbel : Below w.heap.size w w1) (hb : w.heap.size ≤ base) :
    let ss := (l.map bsL).mergeSort fun x y => decide (x ≤ y)
    let W := Go.Sort.putRow encStr (Go.Sort.ahead (Go.Sort.grow (Go.Sort.putRow encStr (Go.Sort.ahead w1 nn) g 0 ss.toArray) os) q) g 0 (Go.Lib.compact ss ++ List.replicate (l.length - (Go.Lib.compact ss).length) []).toArray
    Own1 W base e 1 IsText (.slice (some ⟨g, 0, none⟩) (Go.Lib.compact ss).length cap) (sortedN l) ∧ Below w.heap.size w W := by
  intro ss W
  obtain ⟨xs, h1, h2⟩ := hown
  rw [texts_flat h2] at h1
  have hl2 : ss.length = l.length := by simp [ss]
  have hl3 : (l.map bsL).length = l.length := by simp
  have hle := Go.Lib.compact_length_le ss
  rcases h1.2 with ⟨h0, _⟩ | ⟨g', cap', cur, hv, hbase, hbl, k1, k2, k3, k4⟩
  · cases h0
  injection hv with e1 e2 e3
  injection e1 with e1
  injection e1 with e1
  subst e1 e3
  have hs := ownsRow_sorted (n := nn) (os := os) (ss := l.map bsL) (ts := ss) (by rw [hl2, hl3]) hbase hbl (by rw [hl3]; exact k1) k2 k3
  rw [hl3] at hs
  have hc := Go.Lib.ownsRow_putRow (q := q) (k := (Go.Lib.compact ss).length) (ys := Go.Lib.compact ss ++ List.replicate (l.length - (Go.Lib.compact ss).length) []) hs (by simp; omega) (by omega)
  rw [List.take_left] at hc
  refine ⟨⟨_, ?_, flat_texts (sorted_small hsm)⟩, Go.Lib.below_putRow (hbel.grown (grownBy_sorted _) hbel.size (fun j hj => by cases hj; omega)) (by omega)⟩
  rw [sorted_length]
  exact hc
end Go.Proofs.Ytdhljfblkidohaa
