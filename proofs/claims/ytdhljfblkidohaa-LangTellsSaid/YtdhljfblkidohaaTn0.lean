/- The reference's Names, in plain words; and rows of one element type, told apart by their blocks. -/
import Derived.Test.YtdhljfblkidohaaNameOrd
import Derived.Test.YtdhljfblkidohaaTn
namespace Go.Proofs.Ytdhljfblkidohaa
set_option linter.unusedSimpArgs false
set_option linter.unusedVariables false
open Go.RowKit

theorem bsL_ofL (l : List UInt8) : bsL (ofL l) = l := rfl
def namesB (l : List ByteArray) : List ByteArray := ((l.map bsL).foldl insL []).map ofL
theorem insL_length : ∀ (l : List (List UInt8)) (s : List UInt8), (insL l s).length ≤ l.length + 1
  | [], s => by simp [insL]
  | x :: r, s => by
    have := insL_length r s
    unfold insL
    split
    · simp; omega
    · split <;> simp
theorem fold_length : ∀ (l out : List (List UInt8)), (l.foldl insL out).length ≤ out.length + l.length
  | [], out => by simp
  | s :: l, out => by
    have h1 := fold_length l (insL out s)
    have h2 := insL_length out s
    simp only [List.foldl_cons, List.length_cons]
    omega
theorem namesB_length (l : List ByteArray) : (namesB l).length ≤ l.length := by
  have := fold_length (l.map bsL) []
  simpa [namesB] using this
theorem namesB_step (l : List ByteArray) (s : ByteArray) (q : Nat) (hq : q ≤ (namesB l).length) (h1 : ∀ i x, i < q → (namesB l)[i]? = some x → bsL x < bsL s) (h2 : ∀ x, (namesB l)[q]? = some x → ¬ bsL x < bsL s) :
    namesB (l ++ [s]) = if (namesB l)[q]? = some s then namesB l else (namesB l).take q ++ s :: (namesB l).drop q := by
  obtain ⟨F, hF⟩ : ∃ F, (l.map bsL).foldl insL [] = F := ⟨_, rfl⟩
  have e1 : namesB (l ++ [s]) = (insL F (bsL s)).map ofL := by unfold namesB; rw [List.map_append, List.foldl_append, hF]; rfl
  have e2 : namesB l = F.map ofL := by unfold namesB; rw [hF]
  rw [e2] at hq h1 h2 ⊢
  have key := insL_at q F (bsL s) (by simpa using hq) (fun i x hi hx => by have := h1 i (ofL x) hi (by rw [List.getElem?_map, hx]; rfl); exact this) (fun x hx => by have := h2 (ofL x) (by rw [List.getElem?_map, hx]; rfl); exact this)
  rw [e1, key]
  have hc : F[q]? = some (bsL s) ↔ (F.map ofL)[q]? = some s := by
    rw [List.getElem?_map]
    cases F[q]? with
    | none => simp
    | some x =>
      simp only [Option.some.injEq, Option.map_some]
      constructor
      · rintro rfl; exact ofL_bsL s
      · rintro rfl; rfl
  by_cases h : F[q]? = some (bsL s)
  · rw [if_pos h, if_pos (hc.1 h)]
  · rw [if_neg h, if_neg (fun h' => h (hc.2 h'))]
    rw [List.map_append, List.map_cons, List.map_take, List.map_drop, ofL_bsL]
theorem grown_block {α : Type} {w w' : World} {base size : Nat} {b : Option Nat} {e : TypeId} {R : List Value → α → Prop} {v : Value} {l : List α} (h : Own1 w base e size R v l) (hg : w.grownBy w' b) (hb : ∀ g, v.ownBlock = some g → b ≠ some g) : Own1 w' base e size R v l := by
  have hbl := h.block
  obtain ⟨xs, ⟨h0, h1⟩, h2⟩ := h
  refine ⟨xs, ⟨h0, ?_⟩, h2⟩
  rcases h1 with h1 | ⟨k, cap, cur, r1, r2, r3, r4⟩
  · exact .inl h1
  · subst r1
    refine .inr ⟨k, cap, cur, rfl, r2, ?_, r4⟩
    rw [hg.block k (hbl k rfl).2 (fun he => hb k rfl he.symm)]
    exact r3
/-- a row's beginning, as the model's slicing tells it -/
theorem row_first {α : Type} {w : World} {base size g n c : Nat} {e : TypeId} {R : List Value → α → Prop} {l : List α} (h : Own1 w base e size R (.slice (some ⟨g, 0, none⟩) n c) l) {k : Nat} (hk : k ≤ n) : Own1 w base e size R (.slice (some ⟨g, 0, none⟩) k c) (l.take k) := by
  obtain ⟨xs, ⟨h0, h1⟩, h2⟩ := h
  rcases h1 with ⟨h1, _⟩ | ⟨g', cap, cur, r1, r2, r3, r4, r5, r6, r7⟩
  · cases h1
  · injection r1 with e1 e2 e3
    injection e1 with e1
    injection e1 with e1
    subst e1 e2 e3
    have hl : (l.take k).length = k := by rw [List.length_take]; omega
    have hlen : xs.length = l.length * size := h0
    have hks : k * size ≤ l.length * size := Nat.mul_le_mul_right _ (by omega)
    refine ⟨xs.take (k * size), ⟨by rw [hl, List.length_take]; omega, .inr ⟨g, c, cur, by rw [hl], r2, r3, by omega, r5, r6, ?_⟩⟩, by rw [hl, List.length_take]; omega, fun i y hy => ?_⟩
    · rw [hl, ← r7, List.take_take, Nat.min_eq_left hks]
    · have hi : i < k := by have := (List.getElem?_eq_some_iff.1 hy).1; omega
      rw [List.getElem?_take_of_lt hi] at hy
      have := h2.2 i y hy
      have e1 : i * size + size ≤ k * size := by calc i * size + size = (i + 1) * size := by rw [Nat.succ_mul]
            _ ≤ k * size := Nat.mul_le_mul_right _ hi
      rw [List.drop_take, List.take_take, Nat.min_eq_left (by omega)]
      exact this
/-- a row's end -/
theorem row_last {α : Type} {w : World} {B size : Nat} {R : List Value → α → Prop} {g off n c : Nat} {l : List α} (h : SlR w B size R (.slice (some ⟨g, off, none⟩) n c) l) {k : Nat} (hk : k ≤ n) : SlR w B size R (.slice (some ⟨g, off + k * size, none⟩) (n - k) (c - k)) (l.drop k) := by
  have hc := h.caps
  have hn := h.len
  obtain ⟨a', c', hv, h1, h2, h3⟩ := h
  injection hv with e1 e2 e3
  subst e1 e3
  have hlen : (l.drop k).length = n - k := by rw [List.length_drop]; omega
  refine ⟨_, c - k, by rw [hlen], by omega, by omega, fun hp => ⟨g, off + k * size, rfl, ?_, fun m y hy => ?_⟩⟩
  · obtain ⟨b', off', e, hb, _⟩ := h3 (by omega)
    injection e with e
    injection e with e _
    rw [e]; exact hb
  · obtain ⟨b', off', e, hb, hx⟩ := h3 (by omega)
    injection e with e
    injection e with e e'
    subst e e'
    rw [List.getElem?_drop] at hy
    obtain ⟨x, x1, x2, x3⟩ := hx (k + m) y hy
    refine ⟨x, x1, x2, fun j u hu => ?_⟩
    have := x3 j u hu
    rw [Nat.add_mul, ← Nat.add_assoc] at this
    exact this
end Go.Proofs.Ytdhljfblkidohaa
