/- Chapter 09: the range over the free names, in memory. -/
import Derived.Test.YtidkbodmiegbkaaGreatDoorKdM
import Derived.Maps.RangeWalk
namespace Go.Proofs.YtidkbodmiegbkaaGreatDoor
set_option linter.unusedSimpArgs false
set_option linter.unusedVariables false
open Go.RowKit Go.Maps

/-- a range over the free map under way: the names 'o' have come -/
def RngF (w : World) (b r n : Nat) (F o : List (List Nat)) (cnt : Nat) : Prop := ∃ (D : DataW Unit) (left : Lit → Bool), w.ranges Tryz.prog 9 (plainElem Tryz.prog 3) b r n D left cnt ∧ (∀ kl, left kl = true → ∃ s, NameOk s ∧ kl = keyS s ∧ s ∈ F ∧ s ∉ o) ∧ (∀ s, NameOk s → s ∈ F → s ∉ o → left (keyS s) = true) ∧ o.Nodup ∧ ∀ s ∈ o, s ∈ F ∧ NameOk s
theorem RngF.left_eq {w : World} {b r n : Nat} {F o : List (List Nat)} {cnt : Nat} (h : RngF w b r n F o cnt) : w.rangeLeft b r = cnt := let ⟨_, _, h1, _⟩ := h; h1.left_eq
theorem RngF.kept {w w' : World} {b r n : Nat} {F o : List (List Nat)} {cnt : Nat} {row : Option Nat} (h : RngF w b r n F o cnt) (hg : w.grownBy w' row) (hb : some b ≠ row) (hr : some r ≠ row) : RngF w' b r n F o cnt := let ⟨D, l, h1, h2⟩ := h; ⟨D, l, h1.kept hg hb hr, h2⟩
theorem RngF.alloc {w : World} {b r n : Nat} {F o : List (List Nat)} {cnt : Nat} (h : RngF w b r n F o cnt) (ob : Obj) : RngF (w.alloc ob) b r n F o cnt := let ⟨D, l, h1, h2⟩ := h; ⟨D, l, h1.alloc ob, h2⟩
theorem keyS_same {s s' : List Nat} (h : Bytes s) (h' : Bytes s') : (keyS s).sameKey (keyS s') = decide (s = s') := by
  by_cases e : s = s'
  · subst e
    simp [keyS, Lit.sameKey]
  · have : keyS s ≠ keyS s' := fun k => e (keyS_inj h h' k)
    simp only [keyS, ne_eq, Lit.string.injEq] at this
    simp [keyS, Lit.sameKey, e]
    intro k
    exact this (by rw [k])
section
variable {ops : Array Oper} {rest : List Oper} {o : Oper} {a : Act} {Q : Exit → Act → World → Prop} {w : World} {b n r : Nat} {F out : List (List Nat)} {cnt : Nat}
theorem wpList_rangeF (hg : o.guard = none) (m : Operand) (hop : o.op = Op.range 51 m) (h : MapIsF w b n (freeV F)) (hm : a.eval m = .map (some b))
    (hK : ∀ w' cnt, RngF w' b w.heap.size n F [] cnt → w.grownBy w' none → w'.heap.size = w.heap.size + 1 → wpList Tryz.prog ops Q rest (a.put o.dst (.pointer (some ⟨w.heap.size, 0, none⟩))) w') : wpList Tryz.prog ops Q (o :: rest) a w := by
  obtain ⟨D, h1, h2, h3, h4⟩ := h
  refine wpList_range_own w hg m 51 hop 9 3 lawS Tryz.underlying51 _ b n D hm h1 (fun w' r1 r2 r3 => hK w' _ ⟨D, _, r1, fun kl hk => ?_, fun s hs hF _ => ?_, List.nodup_nil, fun s hs => by simp at hs⟩ r2 r3)
  · obtain ⟨s, hs, e⟩ := h4 kl hk
    subst e
    have := (h3 s hs).2
    rw [hk] at this
    have h5 := of_decide_eq_true this.symm
    unfold freeV at h5
    by_cases e : s ∈ F
    · exact ⟨s, hs, rfl, e, by simp⟩
    · rw [if_neg e] at h5; exact absurd rfl h5
  · rw [(h3 s hs).2]
    unfold freeV
    rw [if_pos hF]
    rfl
theorem wpList_nextF (hg : o.guard = none) (it : Operand) (hop : o.op = Op.next it false) (hit : a.eval it = .pointer (some ⟨r, 0, none⟩)) (h : RngF w b r n F out cnt)
    (hDone : (∀ s, NameOk s → s ∈ F → s ∈ out) → wpList Tryz.prog ops Q rest (a.put o.dst (.tuple #[.bool false])) w)
    (hMore : ∀ (s : List Nat) (c : Int) (w' : World) (cnt' : Nat), NameOk s → s ∈ F → s ∉ out → RngF w' b r n F (out ++ [s]) cnt' → cnt' < cnt → w.grownBy w' (some r) → w'.heap.size = w.heap.size → (Instr.entry (.pointer (some ⟨r, 0, none⟩))).run Tryz.prog w' = .ok (.tuple #[.string (txt s), .int .i64 c]) w' → wpList Tryz.prog ops Q rest (a.put o.dst (.tuple #[.bool true, .string (txt s), .int .i64 c])) w') : wpList Tryz.prog ops Q (o :: rest) a w := by
  obtain ⟨D, left, h1, h2, h3, h4, h5⟩ := h
  refine wpList_next_ranges w hg it hop 9 lawS (plainElem Tryz.prog 3) Value.string (Value.int .i64) (fun key kl hk => ?_) (fun v y hv => by obtain ⟨c, rfl, _⟩ := plainElem_int_inv Tryz.underlying3 hv; exact ⟨c, rfl⟩) b r n D left cnt hit h1
    (fun _ hl => hDone fun s hs hF => ?_) (fun x c kl y w' cnt' hkey hlk _ _ hrg hlt hgr hsz hen => ?_)
  · cases key <;> simp [keyOf, Tryz.underlying9, mapKey] at hk
    exact ⟨_, rfl⟩
  · rcases Classical.em (s ∈ out) with e | e
    · exact e
    · have := h3 s hs hF e
      rw [hl] at this
      cases this
  · obtain ⟨s, hs, e, hF, ho⟩ := h2 kl hlk
    subst e
    have hx : x = txt s := by
      simp [keyOf, Tryz.underlying9, mapKey, keyS] at hkey
      apply ByteArray.ext
      first
        | exact hkey.2
        | exact Array.toList_inj.1 hkey.2
        | exact hkey.1
        | exact Array.toList_inj.1 hkey.1
        | (trace_state; fail)
    subst hx
    refine hMore s c w' cnt' hs hF ho ⟨D, _, hrg, fun kl hk => ?_, fun z hz hzF hzo => ?_, ?_, fun z hz => ?_⟩ hlt hgr hsz hen
    · simp only [Bool.and_eq_true, Bool.not_eq_true'] at hk
      obtain ⟨s2, hs2, e2, hF2, ho2⟩ := h2 kl hk.1
      subst e2
      rw [keyS_same hs2.1 hs.1] at hk
      exact ⟨s2, hs2, rfl, hF2, by simp only [List.mem_append, List.mem_singleton, not_or]; exact ⟨ho2, of_decide_eq_false hk.2⟩⟩
    · simp only [List.mem_append, List.mem_singleton, not_or] at hzo
      rw [h3 z hz hzF hzo.1, keyS_same hz.1 hs.1, decide_eq_false hzo.2]
      rfl
    · exact List.nodup_append.2 ⟨h4, by simp, fun a ha b hb => by simp at hb; subst hb; exact fun e => ho (e ▸ ha)⟩
    · rcases List.mem_append.1 hz with hz | hz
      · exact h5 z hz
      · simp at hz; subst hz; exact ⟨hF, hs⟩
end
end Go.Proofs.YtidkbodmiegbkaaGreatDoor
