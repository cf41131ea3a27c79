/- Rows of the call's own that are spoilt: their numbers are written over. -/
import Derived.Test.YtlenenfgedgmhaaDoorPt1
namespace Go.Proofs.YtlenenfgedgmhaaDoor
set_option linter.unusedSimpArgs false
set_option linter.unusedVariables false
open Go.RowKit

/-- a block of at least so many cells -/
def Room (W : World) (b : Nat) (t : TypeId) (n : Nat) : Prop := ∃ cs : Array Value, Blk W b t cs ∧ n ≤ cs.size
section
variable {W : World} {b n : Nat} {t : TypeId}
theorem Room.get (h : Room W b t n) {i : Nat} (hi : i < n) : ∃ u, W.cell? ⟨b, i, none⟩ = some u := by
  obtain ⟨cs, h1, h2⟩ := h
  exact ⟨cs[i], h1.cell (Array.getElem?_eq_getElem (by omega))⟩
theorem Room.froz (h : Room W b t n) (i : Nat) : W.frozen? ⟨b, i, none⟩ = false := by
  obtain ⟨cs, h1, _⟩ := h
  exact h1.frozen i
theorem Room.lt (h : Room W b t n) : b < W.heap.size := by
  obtain ⟨cs, h1, _⟩ := h
  exact h1.lt
theorem Room.set (h : Room W b t n) (b' i : Nat) (u : Value) : Room (W.setCell ⟨b', i, none⟩ u) b t n := by
  obtain ⟨cs, h1, h2⟩ := h
  by_cases e : b = b'
  · subst e
    exact ⟨_, h1.set_ i u, by simpa using h2⟩
  · exact ⟨cs, h1.far (p := ⟨b', i, none⟩) e u, h2⟩
theorem Room.ne {b' n' : Nat} {t' : TypeId} (h : Room W b t n) (h' : Room W b' t' n') (ht : t ≠ t') : b ≠ b' := by
  rintro rfl
  obtain ⟨cs, h1, _⟩ := h
  obtain ⟨cs', h2, _⟩ := h'
  have := h1.symm.trans h2
  injection this with this
  injection this with _ this
  exact ht this
end
/-- nodes whose parts' rows are known -/
structure Spoil (W : World) (B g m : Nat) (ks : List Value) : Prop where
  main : ∃ cs : Array Value, Blk W g 46 cs ∧ m * 4 ≤ cs.size ∧ ∀ (k : Nat) (u : Value), ks[k]? = some u → cs[k * 4 + 3]? = some u
  low : B ≤ g
  len : ks.length = m
  kids : ∀ (k : Nat) (u : Value), ks[k]? = some u → ∃ a n c, u = .slice a n c ∧ n ≤ maxLen ∧ (0 < n → ∃ b, a = some ⟨b, 0, none⟩ ∧ B ≤ b ∧ Room W b 3 n)
section
variable {W : World} {B g m : Nat} {ks : List Value}
theorem Spoil.room (h : Spoil W B g m ks) : Room W g 46 (m * 4) := by
  obtain ⟨cs, h1, h2, _⟩ := h.main
  exact ⟨cs, h1, h2⟩
theorem Spoil.at3 (h : Spoil W B g m ks) {k : Nat} {u : Value} (hk : ks[k]? = some u) : W.cell? ⟨g, k * 4 + 3, none⟩ = some u := by
  obtain ⟨cs, h1, _, h3⟩ := h.main
  exact h1.cell (h3 k u hk)
theorem Spoil.of_EL {c : Nat} {es : List (EN × Value)} (h : EL W B (.slice (some ⟨g, 0, none⟩) m c) es) : Spoil W B g m (es.map (·.2)) := by
  have hm : m = es.length := by obtain ⟨a', c', he⟩ := h.main.form; injection he
  subst hm
  have rowOf : ∀ {e : TypeId} {size : Nat} {α : Type} {R : List Value → α → Prop} {v : Value} {l : List α}, Own1 W B e size R v l → 0 < l.length → ∃ b cap cur, v = .slice (some ⟨b, 0, none⟩) l.length cap ∧ B ≤ b ∧ Blk W b e cur ∧ l.length * size ≤ cur.size ∧ FlatR size R (cur.toList.take (l.length * size)) l := by
    intro e size α R v l ho hl
    obtain ⟨xs, ⟨h1, h2⟩, h3⟩ := ho
    rcases h2 with ⟨_, h0⟩ | ⟨b, cap, cur, rfl, hb, hbk, hnc, _, hcs, ht⟩
    · omega
    · exact ⟨b, cap, cur, rfl, hb, hbk, by rw [hcs]; exact Nat.mul_le_mul_right _ hnc, by rw [ht]; exact h3⟩
  have hlow : B ≤ g := (h.main.block g rfl).1
  refine ⟨?_, hlow, List.length_map _, fun k u hu => ?_⟩
  · rcases Nat.eq_zero_or_pos es.length with h0 | hpos
    · have hnil : es = [] := List.eq_nil_of_length_eq_zero h0
      obtain ⟨xs, ⟨h1, h2⟩, h3⟩ := h.main
      rcases h2 with ⟨h', _⟩ | ⟨b, cap, cur, he, hb, hbk, hnc, _, hcs, ht⟩
      · cases h'
      · injection he with he
        injection he with he
        injection he with he
        subst he
        refine ⟨cur, hbk, by rw [h0]; omega, fun k u hu => ?_⟩
        rw [hnil] at hu
        simp at hu
    · obtain ⟨b, cap, cur, he, _, hbk, hsz, hf⟩ := rowOf h.main hpos
      injection he with he
      injection he with he
      injection he with he
      subst he
      refine ⟨cur, hbk, hsz, fun k u hu => ?_⟩
      rw [List.getElem?_map] at hu
      obtain ⟨p, hp, rfl⟩ := Option.map_eq_some_iff.1 hu
      have hk := (List.getElem?_eq_some_iff.1 hp).1
      have h4 := (hf.2 k p hp).1
      have h5 := congrArg (fun l : List Value => l[3]?) h4
      simp only [List.getElem?_take_of_lt (show 3 < 4 by omega), List.getElem?_drop] at h5
      rw [List.getElem?_take_of_lt (by omega)] at h5
      rw [← Array.getElem?_toList]
      exact h5
  · rw [List.getElem?_map] at hu
    obtain ⟨p, hp, rfl⟩ := Option.map_eq_some_iff.1 hu
    have hkid := h.kids k p hp
    have hr := hkid.read (by omega)
    obtain ⟨a, c', hv⟩ := hkid.form
    rw [hv] at hkid hr ⊢
    have hcap := hr.caps
    refine ⟨a, p.1.kids.length, c', rfl, by omega, fun hpos => ?_⟩
    obtain ⟨b, cap, cur, he, hb, hbk, hsz, _⟩ := rowOf hkid hpos
    injection he with he
    exact ⟨b, he, hb, cur, hbk, by omega⟩
/-- a number written over -/
theorem Spoil.kid (h : Spoil W B g m ks) {b n : Nat} (hb : Room W b 3 n) (i : Nat) (u : Value) : Spoil (W.setCell ⟨b, i, none⟩ u) B g m ks := by
  have hne : g ≠ b := fun e => (hb.ne h.room (by decide)) e.symm
  obtain ⟨cs, h1, h2, h3⟩ := h.main
  refine ⟨⟨cs, h1.far (p := ⟨b, i, none⟩) hne u, h2, h3⟩, h.low, h.len, fun k v hv => ?_⟩
  obtain ⟨a, n', c, e1, e2, e3⟩ := h.kids k v hv
  refine ⟨a, n', c, e1, e2, fun h0 => ?_⟩
  obtain ⟨b', q1, q2, q3⟩ := e3 h0
  exact ⟨b', q1, q2, q3.set b i u⟩
/-- a Kind written over -/
theorem Spoil.kind (h : Spoil W B g m ks) (k : Nat) (u : Value) : Spoil (W.setCell ⟨g, k * 4, none⟩ u) B g m ks := by
  obtain ⟨cs, h1, h2, h3⟩ := h.main
  refine ⟨⟨_, h1.set_ (k * 4) u, by simpa using h2, fun k' v hv => ?_⟩, h.low, h.len, fun k' v hv => ?_⟩
  · rw [Array.getElem?_setIfInBounds, if_neg (by omega)]
    exact h3 k' v hv
  · obtain ⟨a, n', c, e1, e2, e3⟩ := h.kids k' v hv
    refine ⟨a, n', c, e1, e2, fun h0 => ?_⟩
    obtain ⟨b', q1, q2, q3⟩ := e3 h0
    exact ⟨b', q1, q2, q3.set g (k * 4) u⟩
end
end Go.Proofs.YtlenenfgedgmhaaDoor
