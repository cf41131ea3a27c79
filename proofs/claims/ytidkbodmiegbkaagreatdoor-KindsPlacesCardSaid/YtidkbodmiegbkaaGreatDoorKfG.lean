/- Chapter 09: rows of texts; what a sort leaves of one; the free names as texts in order. -/
import Derived.Test.YtidkbodmiegbkaaGreatDoorKdY
import Derived.Test.YtidkbodmiegbkaaGreatDoorKfB
import Derived.Test.YtidkbodmiegbkaaGreatDoorKfC
import Derived.Sort.OwnSorted
import Derived.Sort.Grow
import Derived.Lib.OwnBridge
namespace Go.Proofs.YtidkbodmiegbkaaGreatDoor
set_option linter.unusedSimpArgs false
set_option linter.unusedVariables false
open Go.RowKit

def IsText (x : List Value) (s : ByteArray) : Prop := x = [.string s] ∧ s.size ≤ maxLen
/-- a text's bytes -/
def bsL (s : ByteArray) : List UInt8 := s.data.toList
def ofL (l : List UInt8) : ByteArray := ⟨l.toArray⟩
theorem ofL_bsL (s : ByteArray) : ofL (bsL s) = s := by cases s; rfl
theorem bsL_ofL (s : List UInt8) : bsL (ofL s) = s := rfl
theorem texts_flat {xs : List Value} {l : List ByteArray} (h : FlatR 1 IsText xs l) : xs = (l.map bsL).map encStr := by
  apply List.ext_getElem?
  intro i
  rw [List.getElem?_map, List.getElem?_map]
  cases hy : l[i]? with
  | none =>
    have : l.length ≤ i := List.getElem?_eq_none_iff.1 hy
    rw [List.getElem?_eq_none (by rw [h.1]; omega)]
    rfl
  | some y =>
    have hi := (List.getElem?_eq_some_iff.1 hy).1
    have h2 := (h.2 i y hy).1
    rw [Nat.mul_one] at h2
    have h3 : ((xs.drop i).take 1)[0]? = some (.string y) := by rw [h2]; rfl
    rw [List.getElem?_take_of_lt (by omega), List.getElem?_drop, Nat.add_zero] at h3
    rw [h3]
    show _ = some (encStr (bsL y))
    have : encStr (bsL y) = .string (ofL (bsL y)) := rfl
    rw [this, ofL_bsL]
theorem flat_texts {l : List (List UInt8)} (h : ∀ y ∈ l, y.length ≤ maxLen) : FlatR 1 IsText (l.map encStr) (l.map ofL) := by
  refine ⟨by simp, fun i y hy => ?_⟩
  rw [List.getElem?_map] at hy
  cases hz : l[i]? with
  | none => rw [hz] at hy; cases hy
  | some z =>
    rw [hz] at hy
    injection hy with hy
    subst hy
    have hi := (List.getElem?_eq_some_iff.1 hz).1
    have e : ((l.map encStr).drop (i * 1)).take 1 = [.string (ofL z)] := by
      rw [Nat.mul_one, List.drop_eq_getElem_cons (by simpa using hi)]
      simp only [List.take_succ_cons, List.take_zero, List.getElem_map]
      rw [(List.getElem?_eq_some_iff.1 hz).2]
      rfl
    rw [e]
    exact ⟨rfl, by have := h z (List.mem_iff_getElem?.2 ⟨i, hz⟩); simpa [ofL, ByteArray.size] using this⟩
theorem texts_holds {w : World} {base : Nat} {e : TypeId} {a : Option Addr} {c : Nat} {l : List ByteArray} (h : Own1 w base e 1 IsText (.slice a l.length c) l) (hl : 0 < l.length) :
    ∃ g, a = some ⟨g, 0, none⟩ ∧ base ≤ g ∧ g < w.heap.size ∧ l.length ≤ c ∧ c ≤ maxLen ∧ Go.Sort.Holds encStr w g 0 (l.map bsL).toArray := by
  obtain ⟨xs, h1, h2⟩ := h
  rw [texts_flat h2] at h1
  obtain ⟨g, cap, hv, hb, hg, hn, hm, _, hH⟩ := Go.Lib.holds_of_ownsRow h1 (by intro he; injection he with e1 e2 e3; omega)
  injection hv with e1 e2 e3
  subst e3
  exact ⟨g, e1, hb, hg, hn, hm, hH⟩
/-- a row of texts, sorted -/
theorem sort_end {w w1 : World} {base g cap nn : Nat} {e : TypeId} {os : Array Obj} {l : List ByteArray} (hown : Own1 w1 base e 1 IsText (.slice (some ⟨g, 0, none⟩) l.length cap) l) (hsm : ∀ s ∈ l, s.size ≤ maxLen) (hbel : Below w.heap.size w w1) (hb : w.heap.size ≤ base) :
    let ss := (l.map bsL).mergeSort fun x y => decide (x ≤ y)
    let W := Go.Sort.grow (Go.Sort.putRow encStr (Go.Sort.ahead w1 nn) g 0 ss.toArray) os
    Own1 W base e 1 IsText (.slice (some ⟨g, 0, none⟩) l.length cap) (ss.map ofL) ∧ Below w.heap.size w W := by
  intro ss W
  obtain ⟨xs, h1, h2⟩ := hown
  rw [texts_flat h2] at h1
  have hl2 : ss.length = l.length := by simp [ss]
  have hl3 : (l.map bsL).length = l.length := by simp
  rcases h1.2 with ⟨h0, _⟩ | ⟨g', cap', cur, hv, hbase, hbl, k1, k2, k3, k4⟩
  · cases h0
  injection hv with e1 e2 e3
  injection e1 with e1
  injection e1 with e1
  subst e1 e3
  have hs := ownsRow_sorted (n := nn) (os := os) (ss := l.map bsL) (ts := ss) (by rw [hl2, hl3]) hbase hbl (by rw [hl3]; exact k1) k2 k3
  rw [hl3] at hs
  refine ⟨⟨_, by rw [List.length_map, hl2]; exact hs, flat_texts (fun y hy => ?_)⟩, hbel.grown (grownBy_sorted _) hbel.size (fun j hj => by cases hj; omega)⟩
  rw [List.mem_mergeSort, List.mem_map] at hy
  obtain ⟨s, hs, rfl⟩ := hy
  exact hsm s hs
/-- a name's bytes -/
def bsN (s : List Nat) : List UInt8 := bsL (txt s)
/-- a row of texts is just these names, in order -/
def FreeL (F : List (List Nat)) (L : List ByteArray) : Prop := (L.map bsL).Pairwise (· < ·) ∧ ∀ b, b ∈ L.map bsL ↔ ∃ s ∈ F, b = bsN s
theorem FreeL.same {F : List (List Nat)} {L M : List ByteArray} (h : FreeL F L) (k : FreeL F M) : L = M := by
  have e := asc_same _ _ h.1 k.1 (fun x => (h.2 x).trans (k.2 x).symm)
  have : (L.map bsL).map ofL = (M.map bsL).map ofL := by rw [e]
  simpa [List.map_map, Function.comp_def, ofL_bsL] using this
theorem FreeL.nil : FreeL [] [] := ⟨List.Pairwise.nil, fun b => by simp⟩
theorem bsN_inj {s s' : List Nat} (h : Bytes s) (h' : Bytes s') (e : bsN s = bsN s') : s = s' := keyS_inj h h' (congrArg Lit.string e)
/-- what the program's loop has gathered, sorted -/
theorem gathered {F o : List (List Nat)} (hn : o.Nodup) (hin : ∀ s ∈ o, s ∈ F ∧ NameOk s) (hall : ∀ s, s ∈ F → s ∈ o) : FreeL F ((((o.map txt).map bsL).mergeSort fun x y => decide (x ≤ y)).map ofL) := by
  have e : ((((o.map txt).map bsL).mergeSort fun x y => decide (x ≤ y)).map ofL).map bsL = ((o.map txt).map bsL).mergeSort fun x y => decide (x ≤ y) := by
    rw [List.map_map]
    exact List.map_id'' (fun _ => rfl) _
  have hnd : ((o.map txt).map bsL).Nodup := by
    rw [List.map_map]
    exact List.pairwise_map.2 (hn.imp_of_mem fun {a b} ha hb hab e => hab (bsN_inj (hin a ha).2.1 (hin b hb).2.1 e))
  refine ⟨by rw [e]; exact sort_asc _ hnd, fun b => ?_⟩
  rw [e, List.mem_mergeSort, List.map_map, List.mem_map]
  constructor
  · rintro ⟨s, hs, rfl⟩
    exact ⟨s, (hin s hs).1, rfl⟩
  · rintro ⟨s, hs, rfl⟩
    exact ⟨s, hall s hs, rfl⟩
end Go.Proofs.YtidkbodmiegbkaaGreatDoor
