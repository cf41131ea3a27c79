/- LangLess: what its walks have in common. -/
import Derived.Test.YtdhljfblkidohaaGreatHealing
import Derived.Test.YtdhljfblkidohaaGreatLessPlain
namespace Go.Proofs.YtdhljfblkidohaaGreat
set_option linter.unusedSimpArgs false
set_option linter.unusedVariables false
open Go.RowKit

/-- what 'less' comes to -/
def LessQ (w : World) (d : Language) (e : Ending) (w' : World) : Prop :=
  ∃ (x' : List Value) (b : Bool) (d' : Language), e = .returned (.tuple #[.agg x'.toArray, .bool b]) ∧ Language.Is w' w'.heap.size x' d' ∧ FreeE d' ∧ (b = true → d'.concepts.length ≤ d.concepts.length) ∧ Below w.heap.size w w'
theorem Own1.caps {α : Type} {w : World} {base size : Nat} {e : TypeId} {R : List Value → α → Prop} {a : Option Addr} {n c : Nat} {l : List α} (h : Own1 w base e size R (.slice a n c) l) : n = l.length ∧ n ≤ c ∧ c ≤ maxLen := by
  obtain ⟨xs, ⟨_, h1⟩, _⟩ := h
  rcases h1 with ⟨h1, h2⟩ | ⟨g, cap, cur, r1, _, _, r3, r4, _⟩
  · injection h1 with e1 e2 e3
    subst e2 e3
    exact ⟨h2.symm, Nat.le_refl _, Nat.zero_le _⟩
  · injection r1 with e1 e2 e3
    subst e2 e3
    exact ⟨rfl, r3, r4⟩
/-- a row's beginning -/
theorem Own1.first {α : Type} {w : World} {base size : Nat} {e : TypeId} {R : List Value → α → Prop} {a : Option Addr} {n c : Nat} {l : List α} (h : Own1 w base e size R (.slice a n c) l) {k : Nat} (hk : k < n) :
    ∃ g, a = some ⟨g, 0, none⟩ ∧ base ≤ g ∧ g < w.heap.size ∧ Own1 w base e size R (.slice (some ⟨g, 0, none⟩) k c) (l.take k) := by
  obtain ⟨xs, ⟨h0, h1⟩, h2⟩ := h
  rcases h1 with ⟨h1, _⟩ | ⟨g, cap, cur, r1, r2, r3, r4, r5, r6, r7⟩
  · injection h1 with _ e2 _
    omega
  · injection r1 with e1 e2 e3
    subst e1 e2 e3
    have hl : (l.take k).length = k := by rw [List.length_take]; omega
    have hlen : xs.length = l.length * size := h0
    have hks : k * size ≤ l.length * size := Nat.mul_le_mul_right _ (by omega)
    refine ⟨g, rfl, r2, (Array.getElem?_eq_some_iff.1 r3).1, xs.take (k * size), ⟨by rw [hl, List.length_take]; omega, .inr ⟨g, c, cur, by rw [hl], r2, r3, by omega, r5, r6, ?_⟩⟩, by rw [hl, List.length_take]; omega, fun i y hy => ?_⟩
    · rw [hl, ← r7, List.take_take, Nat.min_eq_left hks]
    · have hi : i < k := by have := (List.getElem?_eq_some_iff.1 hy).1; omega
      rw [List.getElem?_take_of_lt hi] at hy
      have := h2.2 i y hy
      have e1 : i * size + size ≤ k * size := by calc i * size + size = (i + 1) * size := by rw [Nat.succ_mul]
            _ ≤ k * size := Nat.mul_le_mul_right _ hi
      rw [List.drop_take, List.take_take, Nat.min_eq_left (by omega)]
      exact this
/-- a row's end -/
theorem SlR.last {α : Type} {w : World} {B size : Nat} {R : List Value → α → Prop} {g off n c : Nat} {l : List α} (h : SlR w B size R (.slice (some ⟨g, off, none⟩) n c) l) {k : Nat} (hk : k ≤ n) : SlR w B size R (.slice (some ⟨g, off + k * size, none⟩) (n - k) (c - k)) (l.drop k) := by
  have hc := h.caps
  have hn := h.len
  obtain ⟨a', c', hv, h1, h2, h3⟩ := h
  injection hv with e1 e2 e3
  subst e1 e3
  have hlen : (l.drop k).length = n - k := by rw [List.length_drop]; omega
  refine ⟨_, c - k, by rw [hlen], by omega, by omega, fun hp => ⟨g, off + k * size, rfl, ?_, fun m y hy => ?_⟩⟩
  · obtain ⟨b', off', e, hb, _⟩ := h3 (by omega)
    injection e with e
    injection e with e _
    rw [e]; exact hb
  · obtain ⟨b', off', e, hb, hx⟩ := h3 (by omega)
    injection e with e
    injection e with e e'
    subst e e'
    rw [List.getElem?_drop] at hy
    obtain ⟨x, x1, x2, x3⟩ := hx (k + m) y hy
    refine ⟨x, x1, x2, fun j u hu => ?_⟩
    have := x3 j u hu
    rw [Nat.add_mul, ← Nat.add_assoc] at this
    exact this
theorem wrapI_nat {k : Nat} (h : k < 9223372036854775807) : IntKind.i64.wrap ((k : Int) + 1) = ((k + 1 : Nat) : Int) := by
  simp [IntKind.wrap, IntKind.bits, IntKind.signed]
  omega
theorem fit_less {α : Type} {l : List α} {k b : Nat} (h : Fit l.length b) : Fit (lessN k l).length b := Nat.le_trans (Nat.mul_le_mul_right _ lessN_le) h
theorem SlR.none_ {α : Type} {w : World} {B size : Nat} {R : List Value → α → Prop} {a : Option Addr} {c : Nat} (hc : c ≤ maxLen) : SlR w B size R (.slice a 0 c) ([] : List α) := SlR.nil_ c hc a
theorem stays8 {W : World} {g base : Nat} (hg : g < base) {u0 u1 u2 u3 u4 u5 u6 u7 : Value} : Stays W ((((((((W.setCell ⟨g, 0, none⟩ u0).setCell ⟨g, 1, none⟩ u1).setCell ⟨g, 2, none⟩ u2).setCell ⟨g, 3, none⟩ u3).setCell ⟨g, 4, none⟩ u4).setCell ⟨g, 5, none⟩ u5).setCell ⟨g, 6, none⟩ u6).setCell ⟨g, 7, none⟩ u7) base (fun _ => false) := by
  repeat (refine Stays.trans ?_ (Stays.of_set (p := ⟨g, _, none⟩) hg _))
  exact Stays.refl _ _ _
end Go.Proofs.YtdhljfblkidohaaGreat
