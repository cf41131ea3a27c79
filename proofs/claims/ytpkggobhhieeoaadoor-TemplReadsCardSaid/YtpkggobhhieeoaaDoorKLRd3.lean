/- - -/
import Derived.Test.YtpkggobhhieeoaaDoorKM7
set_option maxRecDepth 100000
set_option maxHeartbeats 32000000
set_option linter.unusedSimpArgs false
set_option linter.unusedVariables false
namespace Go.Proofs.YtpkggobhhieeoaaDoor
open Go.RowKit
mutual
def Rep (es : List EN) : Tr → Nat → Prop
  | .node k s n ks, g => ∃ is, es[g]? = some ⟨k, s, n, is⟩ ∧ Reps es ks is
def Reps (es : List EN) : List Tr → List Nat → Prop
  | [], is => is = []
  | t :: ts, is => ∃ g is', is = g :: is' ∧ Rep es t g ∧ Reps es ts is'
end
mutual
theorem Rep.app {es : List EN} (es' : List EN) : ∀ {t : Tr} {g : Nat}, Rep es t g → Rep (es ++ es') t g
  | .node k s n ks, g, h => by
    simp only [Rep] at h ⊢
    obtain ⟨is, h1, h2⟩ := h
    exact ⟨is, by rw [List.getElem?_append_left (List.getElem?_eq_some_iff.1 h1).1]; exact h1, Reps.app es' h2⟩
theorem Reps.app {es : List EN} (es' : List EN) : ∀ {ts : List Tr} {is : List Nat}, Reps es ts is → Reps (es ++ es') ts is
  | [], is, h => by simp only [Reps] at h ⊢; exact h
  | t :: ts, is, h => by
    simp only [Reps] at h ⊢
    obtain ⟨g, is', h1, h2, h3⟩ := h
    exact ⟨g, is', h1, h2.app es', Reps.app es' h3⟩
end
section
variable {q : Nat} {a : Option Addr} {c sz : Nat} {l : List Tok} {i : Nat} {bad : Int} {es : List (EN × Value)} {X : World}
def RReads (q : Nat) (a : Option Addr) (c sz : Nat) (l : List Tok) (i : Nat) (es : List (EN × Value)) (X : World) : PR → Ending → World → Prop
  | .ok t j, e, w' => ∃ (g : Nat) (es' : List (EN × Value)), e = .returned (.int .i64 (g : Int)) ∧ Rep ((es ++ es').map (·.1)) t g ∧ Below q X w' ∧ RSt q a c sz l j (-1) (es ++ es') w' ∧ es'.length + i ≤ j
  | .no j, e, w' => ∃ (g : Nat) (es' : List (EN × Value)) (i' : Nat), e = .returned (.int .i64 (g : Int)) ∧ Below q X w' ∧ RSt q a c sz l i' (placeAt l sz j) (es ++ es') w' ∧ es'.length + i ≤ i'
  | .out, _, _ => False
theorem signK_1 (l : List Tok) (i : Nat) : signK l 1 i = if isT l i [111, 114] = true then 28 else 0 := by
  unfold signK signsL orT andT
  simp only [List.find?]
  cases h0 : isT l i [111, 114] with
  | true => simp [h0]
  | false =>
  simp [h0]
theorem r_between_1 (h : RSt q a c sz l i (-1) es X) : Calls Tryd.prog 66 #[.pointer (some ⟨q, 0, none⟩), .int .i64 1] X fun e w' => e = .returned (.int .i64 (signK l 1 i : Int)) ∧ Below q X w' ∧ RSt q a c sz l (if signK l 1 i = 0 then i else i + 1) (-1) es w' := by
  obtain ⟨f0, f1, f2, f3, f4, f5, f6⟩ := h.facts
  have hfew := h.few
  have hle := h.le
  have i5 : (i : Int) ≤ 5000 := by omega
  have i0 : (0 : Int) ≤ (i : Int) := Int.natCast_nonneg _
  have H := zH h
  rw [signK_1]
  have QQ : Hid (Quiet X X) := zH (Quiet.refl X)
  cases h0 : isT l i [111, 114] with
  | true =>
    have hlt : i + 1 ≤ l.length := isT_lt h0
    have HI0 : Hid (∀ Y, Quiet X Y → Calls Tryd.prog 63 #[.pointer (some ⟨q, 0, none⟩), .string ⟨#[111, 114]⟩] Y fun e w' => e = .returned (.bool true) ∧ Quiet Y w') := zH (fun Y hY => r_is [111, 114] (show ∀ n ∈ ([111, 114] : List Nat), n < 256 by decide) true h0 (h.quiet hY))
    simp only [if_true, show ((28 : Nat) = 0) = False by simp]
    clear h0
    clear h hfew hle
    go_enter Tryd.func66, Tryd.ntmps66
    go_wp2_with (first
      | (go_at_call 63; (with_reducible refine (HI0.out _ QQ.out).mono ?_); rintro e w0 ⟨rfl, h1⟩; obtain ⟨nq0, rfl⟩ := h1; clear QQ; have QQ : Hid (Quiet X (X.drewN (nq0))) := zH ⟨_, rfl⟩))
    go_ret
    exact ⟨rfl, (below_drewN (Below.refl q X) _).setCell (p := ⟨q, 1, none⟩) (Nat.le_refl q) _, (H.out.quiet ⟨_, rfl⟩).at_ (by go_num) hlt⟩
  | false =>
  have HI0 : Hid (∀ Y, Quiet X Y → Calls Tryd.prog 63 #[.pointer (some ⟨q, 0, none⟩), .string ⟨#[111, 114]⟩] Y fun e w' => e = .returned (.bool false) ∧ Quiet Y w') := zH (fun Y hY => r_is [111, 114] (show ∀ n ∈ ([111, 114] : List Nat), n < 256 by decide) false h0 (h.quiet hY))
  clear h0
  simp only [Bool.false_eq_true, if_false, if_true]
  clear h hfew hle
  go_enter Tryd.func66, Tryd.ntmps66
  go_wp2_with (first
    | (go_at_call 63; (with_reducible refine (HI0.out _ QQ.out).mono ?_); rintro e w0 ⟨rfl, h1⟩; obtain ⟨nq0, rfl⟩ := h1; clear QQ; have QQ : Hid (Quiet X (X.drewN (nq0))) := zH ⟨_, rfl⟩))
  go_ret
  exact ⟨rfl, QQ.out.below q, H.out.quiet QQ.out⟩
theorem signK_2 (l : List Tok) (i : Nat) : signK l 2 i = if isT l i [97, 110, 100] = true then 27 else 0 := by
  unfold signK signsL orT andT
  simp only [List.find?]
  cases h0 : isT l i [97, 110, 100] with
  | true => simp [h0]
  | false =>
  simp [h0]
theorem r_between_2 (h : RSt q a c sz l i (-1) es X) : Calls Tryd.prog 66 #[.pointer (some ⟨q, 0, none⟩), .int .i64 2] X fun e w' => e = .returned (.int .i64 (signK l 2 i : Int)) ∧ Below q X w' ∧ RSt q a c sz l (if signK l 2 i = 0 then i else i + 1) (-1) es w' := by
  obtain ⟨f0, f1, f2, f3, f4, f5, f6⟩ := h.facts
  have hfew := h.few
  have hle := h.le
  have i5 : (i : Int) ≤ 5000 := by omega
  have i0 : (0 : Int) ≤ (i : Int) := Int.natCast_nonneg _
  have H := zH h
  rw [signK_2]
  have QQ : Hid (Quiet X X) := zH (Quiet.refl X)
  cases h0 : isT l i [97, 110, 100] with
  | true =>
    have hlt : i + 1 ≤ l.length := isT_lt h0
    have HI0 : Hid (∀ Y, Quiet X Y → Calls Tryd.prog 63 #[.pointer (some ⟨q, 0, none⟩), .string ⟨#[97, 110, 100]⟩] Y fun e w' => e = .returned (.bool true) ∧ Quiet Y w') := zH (fun Y hY => r_is [97, 110, 100] (show ∀ n ∈ ([97, 110, 100] : List Nat), n < 256 by decide) true h0 (h.quiet hY))
    simp only [if_true, show ((27 : Nat) = 0) = False by simp]
    clear h0
    clear h hfew hle
    go_enter Tryd.func66, Tryd.ntmps66
    go_wp2_with (first
      | (go_at_call 63; (with_reducible refine (HI0.out _ QQ.out).mono ?_); rintro e w0 ⟨rfl, h1⟩; obtain ⟨nq0, rfl⟩ := h1; clear QQ; have QQ : Hid (Quiet X (X.drewN (nq0))) := zH ⟨_, rfl⟩))
    go_ret
    exact ⟨rfl, (below_drewN (Below.refl q X) _).setCell (p := ⟨q, 1, none⟩) (Nat.le_refl q) _, (H.out.quiet ⟨_, rfl⟩).at_ (by go_num) hlt⟩
  | false =>
  have HI0 : Hid (∀ Y, Quiet X Y → Calls Tryd.prog 63 #[.pointer (some ⟨q, 0, none⟩), .string ⟨#[97, 110, 100]⟩] Y fun e w' => e = .returned (.bool false) ∧ Quiet Y w') := zH (fun Y hY => r_is [97, 110, 100] (show ∀ n ∈ ([97, 110, 100] : List Nat), n < 256 by decide) false h0 (h.quiet hY))
  clear h0
  simp only [Bool.false_eq_true, if_false, if_true]
  clear h hfew hle
  go_enter Tryd.func66, Tryd.ntmps66
  go_wp2_with (first
    | (go_at_call 63; (with_reducible refine (HI0.out _ QQ.out).mono ?_); rintro e w0 ⟨rfl, h1⟩; obtain ⟨nq0, rfl⟩ := h1; clear QQ; have QQ : Hid (Quiet X (X.drewN (nq0))) := zH ⟨_, rfl⟩))
  go_ret
  exact ⟨rfl, QQ.out.below q, H.out.quiet QQ.out⟩
theorem signK_4 (l : List Tok) (i : Nat) : signK l 4 i = if isT l i [61, 61] = true then 23 else if isT l i [33, 61] = true then 24 else if isT l i [60] = true then 25 else if isT l i [60, 61] = true then 26 else 0 := by
  unfold signK signsL orT andT
  simp only [List.find?]
  cases h0 : isT l i [61, 61] with
  | true => simp [h0]
  | false =>
  cases h1 : isT l i [33, 61] with
  | true => simp [h0, h1]
  | false =>
  cases h2 : isT l i [60] with
  | true => simp [h0, h1, h2]
  | false =>
  cases h3 : isT l i [60, 61] with
  | true => simp [h0, h1, h2, h3]
  | false =>
  simp [h0, h1, h2, h3]
theorem r_between_4 (h : RSt q a c sz l i (-1) es X) : Calls Tryd.prog 66 #[.pointer (some ⟨q, 0, none⟩), .int .i64 4] X fun e w' => e = .returned (.int .i64 (signK l 4 i : Int)) ∧ Below q X w' ∧ RSt q a c sz l (if signK l 4 i = 0 then i else i + 1) (-1) es w' := by
  obtain ⟨f0, f1, f2, f3, f4, f5, f6⟩ := h.facts
  have hfew := h.few
  have hle := h.le
  have i5 : (i : Int) ≤ 5000 := by omega
  have i0 : (0 : Int) ≤ (i : Int) := Int.natCast_nonneg _
  have H := zH h
  rw [signK_4]
  have QQ : Hid (Quiet X X) := zH (Quiet.refl X)
  cases h0 : isT l i [61, 61] with
  | true =>
    have hlt : i + 1 ≤ l.length := isT_lt h0
    have HI0 : Hid (∀ Y, Quiet X Y → Calls Tryd.prog 63 #[.pointer (some ⟨q, 0, none⟩), .string ⟨#[61, 61]⟩] Y fun e w' => e = .returned (.bool true) ∧ Quiet Y w') := zH (fun Y hY => r_is [61, 61] (show ∀ n ∈ ([61, 61] : List Nat), n < 256 by decide) true h0 (h.quiet hY))
    simp only [if_true, show ((23 : Nat) = 0) = False by simp]
    clear h0
    clear h hfew hle
    go_enter Tryd.func66, Tryd.ntmps66
    go_wp2_with (first
      | (go_at_call 63; (with_reducible refine (HI0.out _ QQ.out).mono ?_); rintro e w0 ⟨rfl, h1⟩; obtain ⟨nq0, rfl⟩ := h1; clear QQ; have QQ : Hid (Quiet X (X.drewN (nq0))) := zH ⟨_, rfl⟩))
    go_ret
    exact ⟨rfl, (below_drewN (Below.refl q X) _).setCell (p := ⟨q, 1, none⟩) (Nat.le_refl q) _, (H.out.quiet ⟨_, rfl⟩).at_ (by go_num) hlt⟩
  | false =>
  have HI0 : Hid (∀ Y, Quiet X Y → Calls Tryd.prog 63 #[.pointer (some ⟨q, 0, none⟩), .string ⟨#[61, 61]⟩] Y fun e w' => e = .returned (.bool false) ∧ Quiet Y w') := zH (fun Y hY => r_is [61, 61] (show ∀ n ∈ ([61, 61] : List Nat), n < 256 by decide) false h0 (h.quiet hY))
  clear h0
  cases h1 : isT l i [33, 61] with
  | true =>
    have hlt : i + 1 ≤ l.length := isT_lt h1
    have HI1 : Hid (∀ Y, Quiet X Y → Calls Tryd.prog 63 #[.pointer (some ⟨q, 0, none⟩), .string ⟨#[33, 61]⟩] Y fun e w' => e = .returned (.bool true) ∧ Quiet Y w') := zH (fun Y hY => r_is [33, 61] (show ∀ n ∈ ([33, 61] : List Nat), n < 256 by decide) true h1 (h.quiet hY))
    simp only [Bool.false_eq_true, if_true, if_false, show ((24 : Nat) = 0) = False by simp]
    clear h1
    clear h hfew hle
    go_enter Tryd.func66, Tryd.ntmps66
    go_wp2_with (first
      | (go_at_call 63; (with_reducible refine (HI0.out _ QQ.out).mono ?_); rintro e w0 ⟨rfl, h1⟩; obtain ⟨nq0, rfl⟩ := h1; clear QQ; have QQ : Hid (Quiet X (X.drewN (nq0))) := zH ⟨_, rfl⟩)
      | (go_at_call 63; (with_reducible refine (HI1.out _ QQ.out).mono ?_); rintro e w1 ⟨rfl, h1⟩; obtain ⟨nq1, rfl⟩ := h1; clear QQ; have QQ : Hid (Quiet X (X.drewN (nq0 + nq1))) := zH ⟨_, rfl⟩))
    go_ret
    exact ⟨rfl, (below_drewN (Below.refl q X) _).setCell (p := ⟨q, 1, none⟩) (Nat.le_refl q) _, (H.out.quiet ⟨_, rfl⟩).at_ (by go_num) hlt⟩
  | false =>
  have HI1 : Hid (∀ Y, Quiet X Y → Calls Tryd.prog 63 #[.pointer (some ⟨q, 0, none⟩), .string ⟨#[33, 61]⟩] Y fun e w' => e = .returned (.bool false) ∧ Quiet Y w') := zH (fun Y hY => r_is [33, 61] (show ∀ n ∈ ([33, 61] : List Nat), n < 256 by decide) false h1 (h.quiet hY))
  clear h1
  cases h2 : isT l i [60] with
  | true =>
    have hlt : i + 1 ≤ l.length := isT_lt h2
    have HI2 : Hid (∀ Y, Quiet X Y → Calls Tryd.prog 63 #[.pointer (some ⟨q, 0, none⟩), .string ⟨#[60]⟩] Y fun e w' => e = .returned (.bool true) ∧ Quiet Y w') := zH (fun Y hY => r_is [60] (show ∀ n ∈ ([60] : List Nat), n < 256 by decide) true h2 (h.quiet hY))
    simp only [Bool.false_eq_true, if_true, if_false, show ((25 : Nat) = 0) = False by simp]
    clear h2
    clear h hfew hle
    go_enter Tryd.func66, Tryd.ntmps66
    go_wp2_with (first
      | (go_at_call 63; (with_reducible refine (HI0.out _ QQ.out).mono ?_); rintro e w0 ⟨rfl, h1⟩; obtain ⟨nq0, rfl⟩ := h1; clear QQ; have QQ : Hid (Quiet X (X.drewN (nq0))) := zH ⟨_, rfl⟩)
      | (go_at_call 63; (with_reducible refine (HI1.out _ QQ.out).mono ?_); rintro e w1 ⟨rfl, h1⟩; obtain ⟨nq1, rfl⟩ := h1; clear QQ; have QQ : Hid (Quiet X (X.drewN (nq0 + nq1))) := zH ⟨_, rfl⟩)
      | (go_at_call 63; (with_reducible refine (HI2.out _ QQ.out).mono ?_); rintro e w2 ⟨rfl, h1⟩; obtain ⟨nq2, rfl⟩ := h1; clear QQ; have QQ : Hid (Quiet X (X.drewN (nq0 + nq1 + nq2))) := zH ⟨_, rfl⟩))
    go_ret
    exact ⟨rfl, (below_drewN (Below.refl q X) _).setCell (p := ⟨q, 1, none⟩) (Nat.le_refl q) _, (H.out.quiet ⟨_, rfl⟩).at_ (by go_num) hlt⟩
  | false =>
  have HI2 : Hid (∀ Y, Quiet X Y → Calls Tryd.prog 63 #[.pointer (some ⟨q, 0, none⟩), .string ⟨#[60]⟩] Y fun e w' => e = .returned (.bool false) ∧ Quiet Y w') := zH (fun Y hY => r_is [60] (show ∀ n ∈ ([60] : List Nat), n < 256 by decide) false h2 (h.quiet hY))
  clear h2
  cases h3 : isT l i [60, 61] with
  | true =>
    have hlt : i + 1 ≤ l.length := isT_lt h3
    have HI3 : Hid (∀ Y, Quiet X Y → Calls Tryd.prog 63 #[.pointer (some ⟨q, 0, none⟩), .string ⟨#[60, 61]⟩] Y fun e w' => e = .returned (.bool true) ∧ Quiet Y w') := zH (fun Y hY => r_is [60, 61] (show ∀ n ∈ ([60, 61] : List Nat), n < 256 by decide) true h3 (h.quiet hY))
    simp only [Bool.false_eq_true, if_true, if_false, show ((26 : Nat) = 0) = False by simp]
    clear h3
    clear h hfew hle
    go_enter Tryd.func66, Tryd.ntmps66
    go_wp2_with (first
      | (go_at_call 63; (with_reducible refine (HI0.out _ QQ.out).mono ?_); rintro e w0 ⟨rfl, h1⟩; obtain ⟨nq0, rfl⟩ := h1; clear QQ; have QQ : Hid (Quiet X (X.drewN (nq0))) := zH ⟨_, rfl⟩)
      | (go_at_call 63; (with_reducible refine (HI1.out _ QQ.out).mono ?_); rintro e w1 ⟨rfl, h1⟩; obtain ⟨nq1, rfl⟩ := h1; clear QQ; have QQ : Hid (Quiet X (X.drewN (nq0 + nq1))) := zH ⟨_, rfl⟩)
      | (go_at_call 63; (with_reducible refine (HI2.out _ QQ.out).mono ?_); rintro e w2 ⟨rfl, h1⟩; obtain ⟨nq2, rfl⟩ := h1; clear QQ; have QQ : Hid (Quiet X (X.drewN (nq0 + nq1 + nq2))) := zH ⟨_, rfl⟩)
      | (go_at_call 63; (with_reducible refine (HI3.out _ QQ.out).mono ?_); rintro e w3 ⟨rfl, h1⟩; obtain ⟨nq3, rfl⟩ := h1; clear QQ; have QQ : Hid (Quiet X (X.drewN (nq0 + nq1 + nq2 + nq3))) := zH ⟨_, rfl⟩))
    go_ret
    exact ⟨rfl, (below_drewN (Below.refl q X) _).setCell (p := ⟨q, 1, none⟩) (Nat.le_refl q) _, (H.out.quiet ⟨_, rfl⟩).at_ (by go_num) hlt⟩
  | false =>
  have HI3 : Hid (∀ Y, Quiet X Y → Calls Tryd.prog 63 #[.pointer (some ⟨q, 0, none⟩), .string ⟨#[60, 61]⟩] Y fun e w' => e = .returned (.bool false) ∧ Quiet Y w') := zH (fun Y hY => r_is [60, 61] (show ∀ n ∈ ([60, 61] : List Nat), n < 256 by decide) false h3 (h.quiet hY))
  clear h3
  simp only [Bool.false_eq_true, if_false, if_true]
  clear h hfew hle
  go_enter Tryd.func66, Tryd.ntmps66
  go_wp2_with (first
    | (go_at_call 63; (with_reducible refine (HI0.out _ QQ.out).mono ?_); rintro e w0 ⟨rfl, h1⟩; obtain ⟨nq0, rfl⟩ := h1; clear QQ; have QQ : Hid (Quiet X (X.drewN (nq0))) := zH ⟨_, rfl⟩)
    | (go_at_call 63; (with_reducible refine (HI1.out _ QQ.out).mono ?_); rintro e w1 ⟨rfl, h1⟩; obtain ⟨nq1, rfl⟩ := h1; clear QQ; have QQ : Hid (Quiet X (X.drewN (nq0 + nq1))) := zH ⟨_, rfl⟩)
    | (go_at_call 63; (with_reducible refine (HI2.out _ QQ.out).mono ?_); rintro e w2 ⟨rfl, h1⟩; obtain ⟨nq2, rfl⟩ := h1; clear QQ; have QQ : Hid (Quiet X (X.drewN (nq0 + nq1 + nq2))) := zH ⟨_, rfl⟩)
    | (go_at_call 63; (with_reducible refine (HI3.out _ QQ.out).mono ?_); rintro e w3 ⟨rfl, h1⟩; obtain ⟨nq3, rfl⟩ := h1; clear QQ; have QQ : Hid (Quiet X (X.drewN (nq0 + nq1 + nq2 + nq3))) := zH ⟨_, rfl⟩))
  go_ret
  exact ⟨rfl, QQ.out.below q, H.out.quiet QQ.out⟩
theorem signK_5 (l : List Tok) (i : Nat) : signK l 5 i = if isT l i [43] = true then 20 else if isT l i [45] = true then 21 else 0 := by
  unfold signK signsL orT andT
  simp only [List.find?]
  cases h0 : isT l i [43] with
  | true => simp [h0]
  | false =>
  cases h1 : isT l i [45] with
  | true => simp [h0, h1]
  | false =>
  simp [h0, h1]
theorem r_between_5 (h : RSt q a c sz l i (-1) es X) : Calls Tryd.prog 66 #[.pointer (some ⟨q, 0, none⟩), .int .i64 5] X fun e w' => e = .returned (.int .i64 (signK l 5 i : Int)) ∧ Below q X w' ∧ RSt q a c sz l (if signK l 5 i = 0 then i else i + 1) (-1) es w' := by
  obtain ⟨f0, f1, f2, f3, f4, f5, f6⟩ := h.facts
  have hfew := h.few
  have hle := h.le
  have i5 : (i : Int) ≤ 5000 := by omega
  have i0 : (0 : Int) ≤ (i : Int) := Int.natCast_nonneg _
  have H := zH h
  rw [signK_5]
  have QQ : Hid (Quiet X X) := zH (Quiet.refl X)
  cases h0 : isT l i [43] with
  | true =>
    have hlt : i + 1 ≤ l.length := isT_lt h0
    have HI0 : Hid (∀ Y, Quiet X Y → Calls Tryd.prog 63 #[.pointer (some ⟨q, 0, none⟩), .string ⟨#[43]⟩] Y fun e w' => e = .returned (.bool true) ∧ Quiet Y w') := zH (fun Y hY => r_is [43] (show ∀ n ∈ ([43] : List Nat), n < 256 by decide) true h0 (h.quiet hY))
    simp only [if_true, show ((20 : Nat) = 0) = False by simp]
    clear h0
    clear h hfew hle
    go_enter Tryd.func66, Tryd.ntmps66
    go_wp2_with (first
      | (go_at_call 63; (with_reducible refine (HI0.out _ QQ.out).mono ?_); rintro e w0 ⟨rfl, h1⟩; obtain ⟨nq0, rfl⟩ := h1; clear QQ; have QQ : Hid (Quiet X (X.drewN (nq0))) := zH ⟨_, rfl⟩))
    go_ret
    exact ⟨rfl, (below_drewN (Below.refl q X) _).setCell (p := ⟨q, 1, none⟩) (Nat.le_refl q) _, (H.out.quiet ⟨_, rfl⟩).at_ (by go_num) hlt⟩
  | false =>
  have HI0 : Hid (∀ Y, Quiet X Y → Calls Tryd.prog 63 #[.pointer (some ⟨q, 0, none⟩), .string ⟨#[43]⟩] Y fun e w' => e = .returned (.bool false) ∧ Quiet Y w') := zH (fun Y hY => r_is [43] (show ∀ n ∈ ([43] : List Nat), n < 256 by decide) false h0 (h.quiet hY))
  clear h0
  cases h1 : isT l i [45] with
  | true =>
    have hlt : i + 1 ≤ l.length := isT_lt h1
    have HI1 : Hid (∀ Y, Quiet X Y → Calls Tryd.prog 63 #[.pointer (some ⟨q, 0, none⟩), .string ⟨#[45]⟩] Y fun e w' => e = .returned (.bool true) ∧ Quiet Y w') := zH (fun Y hY => r_is [45] (show ∀ n ∈ ([45] : List Nat), n < 256 by decide) true h1 (h.quiet hY))
    simp only [Bool.false_eq_true, if_true, if_false, show ((21 : Nat) = 0) = False by simp]
    clear h1
    clear h hfew hle
    go_enter Tryd.func66, Tryd.ntmps66
    go_wp2_with (first
      | (go_at_call 63; (with_reducible refine (HI0.out _ QQ.out).mono ?_); rintro e w0 ⟨rfl, h1⟩; obtain ⟨nq0, rfl⟩ := h1; clear QQ; have QQ : Hid (Quiet X (X.drewN (nq0))) := zH ⟨_, rfl⟩)
      | (go_at_call 63; (with_reducible refine (HI1.out _ QQ.out).mono ?_); rintro e w1 ⟨rfl, h1⟩; obtain ⟨nq1, rfl⟩ := h1; clear QQ; have QQ : Hid (Quiet X (X.drewN (nq0 + nq1))) := zH ⟨_, rfl⟩))
    go_ret
    exact ⟨rfl, (below_drewN (Below.refl q X) _).setCell (p := ⟨q, 1, none⟩) (Nat.le_refl q) _, (H.out.quiet ⟨_, rfl⟩).at_ (by go_num) hlt⟩
  | false =>
  have HI1 : Hid (∀ Y, Quiet X Y → Calls Tryd.prog 63 #[.pointer (some ⟨q, 0, none⟩), .string ⟨#[45]⟩] Y fun e w' => e = .returned (.bool false) ∧ Quiet Y w') := zH (fun Y hY => r_is [45] (show ∀ n ∈ ([45] : List Nat), n < 256 by decide) false h1 (h.quiet hY))
  clear h1
  simp only [Bool.false_eq_true, if_false, if_true]
  clear h hfew hle
  go_enter Tryd.func66, Tryd.ntmps66
  go_wp2_with (first
    | (go_at_call 63; (with_reducible refine (HI0.out _ QQ.out).mono ?_); rintro e w0 ⟨rfl, h1⟩; obtain ⟨nq0, rfl⟩ := h1; clear QQ; have QQ : Hid (Quiet X (X.drewN (nq0))) := zH ⟨_, rfl⟩)
    | (go_at_call 63; (with_reducible refine (HI1.out _ QQ.out).mono ?_); rintro e w1 ⟨rfl, h1⟩; obtain ⟨nq1, rfl⟩ := h1; clear QQ; have QQ : Hid (Quiet X (X.drewN (nq0 + nq1))) := zH ⟨_, rfl⟩))
  go_ret
  exact ⟨rfl, QQ.out.below q, H.out.quiet QQ.out⟩
theorem signK_6 (l : List Tok) (i : Nat) : signK l 6 i = if isT l i [42] = true then 22 else 0 := by
  unfold signK signsL orT andT
  simp only [List.find?]
  cases h0 : isT l i [42] with
  | true => simp [h0]
  | false =>
  simp [h0]
theorem r_between_6 (h : RSt q a c sz l i (-1) es X) : Calls Tryd.prog 66 #[.pointer (some ⟨q, 0, none⟩), .int .i64 6] X fun e w' => e = .returned (.int .i64 (signK l 6 i : Int)) ∧ Below q X w' ∧ RSt q a c sz l (if signK l 6 i = 0 then i else i + 1) (-1) es w' := by
  obtain ⟨f0, f1, f2, f3, f4, f5, f6⟩ := h.facts
  have hfew := h.few
  have hle := h.le
  have i5 : (i : Int) ≤ 5000 := by omega
  have i0 : (0 : Int) ≤ (i : Int) := Int.natCast_nonneg _
  have H := zH h
  rw [signK_6]
  have QQ : Hid (Quiet X X) := zH (Quiet.refl X)
  cases h0 : isT l i [42] with
  | true =>
    have hlt : i + 1 ≤ l.length := isT_lt h0
    have HI0 : Hid (∀ Y, Quiet X Y → Calls Tryd.prog 63 #[.pointer (some ⟨q, 0, none⟩), .string ⟨#[42]⟩] Y fun e w' => e = .returned (.bool true) ∧ Quiet Y w') := zH (fun Y hY => r_is [42] (show ∀ n ∈ ([42] : List Nat), n < 256 by decide) true h0 (h.quiet hY))
    simp only [if_true, show ((22 : Nat) = 0) = False by simp]
    clear h0
    clear h hfew hle
    go_enter Tryd.func66, Tryd.ntmps66
    go_wp2_with (first
      | (go_at_call 63; (with_reducible refine (HI0.out _ QQ.out).mono ?_); rintro e w0 ⟨rfl, h1⟩; obtain ⟨nq0, rfl⟩ := h1; clear QQ; have QQ : Hid (Quiet X (X.drewN (nq0))) := zH ⟨_, rfl⟩))
    go_ret
    exact ⟨rfl, (below_drewN (Below.refl q X) _).setCell (p := ⟨q, 1, none⟩) (Nat.le_refl q) _, (H.out.quiet ⟨_, rfl⟩).at_ (by go_num) hlt⟩
  | false =>
  have HI0 : Hid (∀ Y, Quiet X Y → Calls Tryd.prog 63 #[.pointer (some ⟨q, 0, none⟩), .string ⟨#[42]⟩] Y fun e w' => e = .returned (.bool false) ∧ Quiet Y w') := zH (fun Y hY => r_is [42] (show ∀ n ∈ ([42] : List Nat), n < 256 by decide) false h0 (h.quiet hY))
  clear h0
  simp only [Bool.false_eq_true, if_false, if_true]
  clear h hfew hle
  go_enter Tryd.func66, Tryd.ntmps66
  go_wp2_with (first
    | (go_at_call 63; (with_reducible refine (HI0.out _ QQ.out).mono ?_); rintro e w0 ⟨rfl, h1⟩; obtain ⟨nq0, rfl⟩ := h1; clear QQ; have QQ : Hid (Quiet X (X.drewN (nq0))) := zH ⟨_, rfl⟩))
  go_ret
  exact ⟨rfl, QQ.out.below q, H.out.quiet QQ.out⟩
end
end Go.Proofs.YtpkggobhhieeoaaDoor
