/- The reference's reader: level at a fault, at 'not', at what stands behind. -/
import Derived.Test.YtlenenfgedgmhaaDoorRd4
namespace Go.Proofs.YtlenenfgedgmhaaDoor
set_option linter.unusedSimpArgs false
set_option linter.unusedVariables false
open Go.RowKit

section
variable {q : Nat} {a : Option Addr} {c sz : Nat} {l : List Tok} {i : Nat} {bad : Int} {es : List (EN × Value)} {X : World}
set_option maxRecDepth 100000 in
set_option maxHeartbeats 8000000 in
theorem r_level_bad (n : Int) (hbad : 0 ≤ bad) (h : RSt q a c sz l i bad es X) : Calls Tryd.prog 27 #[.pointer (some ⟨q, 0, none⟩), .int .i64 n] X fun e w' => e = .returned (.int .i64 0) ∧ w' = X := by
  obtain ⟨f0, f1, f2, f3, f4, f5, f6⟩ := h.facts
  have d0 : decide (0 ≤ bad) = true := by simpa using hbad
  clear h f4 f5
  go_enter Tryd.func27, Tryd.ntmps27
  go_wp2_with fail
  go_ret
  exact ⟨rfl, rfl⟩
/-- reading that is told, passed on -/
theorem RReads.back {X' : World} {i' : Nat} {r : PR} {e : Ending} {w' : World} (hb : Below q X X') (hi : i ≤ i') (h : RReads q a c sz l i' es X' r e w') : RReads q a c sz l i es X r e w' := by
  cases r with
  | ok t j => obtain ⟨g, es', h1, h2, h3, h4, h5⟩ := h; exact ⟨g, es', h1, h2, hb.trans h3, h4, by omega⟩
  | no j => obtain ⟨g, es', i2, h1, h3, h4, h5⟩ := h; exact ⟨g, es', i2, h1, hb.trans h3, h4, by omega⟩
  | out => exact h
set_option maxRecDepth 100000 in
set_option maxHeartbeats 8000000 in
theorem r_seven (f : Nat) (HP : RLevel q a c sz l 53 [] (fun i => pL l (f + 1) 7 i)) : RLevel q a c sz l 27 [.int .i64 7] (fun i => pL l (f + 1) 7 i) := by
  intro i es X h hes hr
  simp only at hr ⊢
  obtain ⟨f0, f1, f2, f3, f4, f5, f6⟩ := h.facts
  obtain ⟨r, hrr⟩ : ∃ r, pL l (f + 1) 7 i = r := ⟨_, rfl⟩
  have HC : Hid (Calls Tryd.prog 53 #[.pointer (some ⟨q, 0, none⟩)] X (RReads q a c sz l i es X r)) := Lib.hid (by rw [← hrr]; exact HP i es X h hes hr)
  rw [hrr] at hr ⊢
  clear h hes hrr HP f4 f5
  show Calls _ _ #[.pointer (some ⟨q, 0, none⟩), .int .i64 7] _ _
  cases r with
  | out => exact absurd rfl hr
  | no j =>
    clear hr
    go_enter Tryd.func27, Tryd.ntmps27
    go_wp2_with (first
      | (go_at_call 53; refine HC.out.mono ?_; rintro e w1 ⟨g, es', i2, rfl, h1⟩; have S1 := Lib.hid h1; clear h1))
    go_ret
    exact ⟨g, es', i2, rfl, S1.out⟩
  | ok t j =>
    clear hr
    go_enter Tryd.func27, Tryd.ntmps27
    go_wp2_with (first
      | (go_at_call 53; refine HC.out.mono ?_; rintro e w1 ⟨g, es', rfl, h1⟩; have S1 := Lib.hid h1; clear h1))
    go_ret
    exact ⟨g, es', rfl, S1.out⟩
set_option maxRecDepth 100000 in
set_option maxHeartbeats 8000000 in
theorem r_three (f : Nat) (HN : RLevel q a c sz l 27 [.int .i64 3] (fun i => pL l f 3 i)) (HC4 : RLevel q a c sz l 27 [.int .i64 4] (fun i => pL l f 4 i)) : RLevel q a c sz l 27 [.int .i64 3] (fun i => pL l (f + 1) 3 i) := by
  intro i es X h hes hr
  have hr0 : pL l (f + 1) 3 i = if isT l i notT then (pL l f 3 (i + 1)).bind fun k j => .ok (.node 29 [] 0 [k]) j else pL l f 4 i := by rw [pL]; rfl
  simp only at hr ⊢
  rw [hr0] at hr ⊢
  clear hr0
  obtain ⟨f0, f1, f2, f3, f4, f5, f6⟩ := h.facts
  have hle := h.le
  have hfew := h.few
  have i5 : (i : Int) ≤ 5000 := by omega
  have i0 : (0 : Int) ≤ (i : Int) := Int.natCast_nonneg _
  have H := Lib.hid h
  have HES := Lib.hid hes
  have HFW := Lib.hid hfew
  obtain ⟨b, hb⟩ : ∃ b, isT l i notT = b := ⟨_, rfl⟩
  have hnx : (txt notT) = ⟨#[110, 111, 116]⟩ := by decide
  have HX : Hid (Calls Tryd.prog 51 #[.pointer (some ⟨q, 0, none⟩), .string ⟨#[110, 111, 116]⟩] X fun e w' => e = .returned (.bool b) ∧ Quiet X w') := Lib.hid (by rw [← hnx]; exact r_is notT (show ∀ n ∈ notT, n < 256 by decide) b hb h)
  show Calls _ _ #[.pointer (some ⟨q, 0, none⟩), .int .i64 3] _ _
  cases b with
  | false =>
    rw [hb, if_neg (by simp)] at hr ⊢
    obtain ⟨r, hrr⟩ : ∃ r, pL l f 4 i = r := ⟨_, rfl⟩
    have HC1 : Hid (∀ n, Calls Tryd.prog 27 #[.pointer (some ⟨q, 0, none⟩), .int .i64 4] (X.drewN n) (RReads q a c sz l i es (X.drewN n) r)) := Lib.hid (fun n => by rw [← hrr]; exact HC4 i es (X.drewN n) (h.quiet ⟨n, rfl⟩) hes hr)
    rw [hrr] at hr ⊢
    clear HN HC4 h hb hle hfew hrr hnx hes f4 f5
    cases r with
    | out => exact absurd rfl hr
    | no j =>
      clear hr
      go_enter Tryd.func27, Tryd.ntmps27
      go_wp2_with (first
        | (go_at_call 51; (with_reducible refine HX.out.mono ?_); rintro e w1 ⟨rfl, nq, rfl⟩)
        | (go_at_call 27; refine (HC1.out _).mono ?_; rintro e w2 ⟨g, es', i2, rfl, h1⟩; have S1 := Lib.hid h1; clear h1))
      go_ret
      exact RReads.back (below_drewN (Below.refl q X) _) (Nat.le_refl _) (r := .no j) ⟨g, es', i2, rfl, S1.out⟩
    | ok t j =>
      clear hr
      go_enter Tryd.func27, Tryd.ntmps27
      go_wp2_with (first
        | (go_at_call 51; (with_reducible refine HX.out.mono ?_); rintro e w1 ⟨rfl, nq, rfl⟩)
        | (go_at_call 27; refine (HC1.out _).mono ?_; rintro e w2 ⟨g, es', rfl, h1⟩; have S1 := Lib.hid h1; clear h1))
      go_ret
      exact RReads.back (below_drewN (Below.refl q X) _) (Nat.le_refl _) (r := .ok t j) ⟨g, es', rfl, S1.out⟩
  | true =>
    rw [hb, if_pos rfl] at hr ⊢
    obtain ⟨r, hrr⟩ : ∃ r, pL l f 3 (i + 1) = r := ⟨_, rfl⟩
    have hlt : i + 1 ≤ l.length := isT_lt hb
    have hne : r ≠ .out := fun e => hr (by rw [hrr, e]; rfl)
    have ST := Lib.hid (fun n => (show Below q X ((X.drewN n).setCell ⟨q, 1, none⟩ (.int .i64 ((i : Int) + 1))) ∧ RSt q a c sz l (i + 1) (-1) es ((X.drewN n).setCell ⟨q, 1, none⟩ (.int .i64 ((i : Int) + 1))) from ⟨(below_drewN (Below.refl q X) n).setCell (p := ⟨q, 1, none⟩) (Nat.le_refl q) _, (h.quiet ⟨n, rfl⟩).at_ (by go_num) hlt⟩))
    have HC1 : Hid (∀ n, Calls Tryd.prog 27 #[.pointer (some ⟨q, 0, none⟩), .int .i64 3] ((X.drewN n).setCell ⟨q, 1, none⟩ (.int .i64 ((i : Int) + 1))) (RReads q a c sz l (i + 1) es ((X.drewN n).setCell ⟨q, 1, none⟩ (.int .i64 ((i : Int) + 1))) r)) := Lib.hid (fun n => by have hq := (ST.out n).2; rw [← hrr]; exact HN (i + 1) es _ hq (by omega) (by show pL l f 3 (i + 1) ≠ .out; rw [hrr]; exact hne))
    rw [hrr]
    clear HN HC4 h hb hle hfew hrr hr hlt hnx hes f5
    cases r with
    | out => exact absurd rfl hne
    | no j =>
      clear hne
      go_enter Tryd.func27, Tryd.ntmps27
      go_wp2_with (first
        | (go_at_call 51; (with_reducible refine HX.out.mono ?_); rintro e w1 ⟨rfl, nq, rfl⟩)
        | (go_at_call 27; refine (HC1.out _).mono ?_; rintro e w2 ⟨g, es2, i2, rfl, h1⟩; have S1 := Lib.hid h1; clear h1)
        | (go_at_call 52; (refine (r_add 29 [] 0 [g] _ _ _ (ints1 w2 g) (by simp) (by have := S1.out.2.1.le; have := S1.out.2.2; have := HES.out; have := HFW.out; simp only [List.length_append]; omega) (S1.out.2.1.keep ((Below.refl _ _).alloc (Nat.le_refl _) _))).mono ?_); rintro e w4 ⟨rfl, h2, kv, h3⟩; have S4 := Lib.hid (And.intro h2 h3); clear h2 h3))
      go_ret
      refine ⟨_, es2 ++ [(⟨29, [], 0, [g]⟩, kv)], i2, rfl, ((ST.out _).1.trans S1.out.1).trans ((((Below.refl _ _).alloc (Nat.le_refl _) _).mono (Nat.le_of_lt S1.out.2.1.lt)).trans S4.out.1), ?_, ?_⟩
      · have := S4.out.2; simpa only [List.append_assoc] using this
      · have := S1.out.2.2; simp only [List.length_append, List.length_cons, List.length_nil]; omega
    | ok t j =>
      clear hne
      go_enter Tryd.func27, Tryd.ntmps27
      go_wp2_with (first
        | (go_at_call 51; (with_reducible refine HX.out.mono ?_); rintro e w1 ⟨rfl, nq, rfl⟩)
        | (go_at_call 27; refine (HC1.out _).mono ?_; rintro e w2 ⟨g, es2, rfl, hrp, h1⟩; have S1 := Lib.hid h1; have RP := Lib.hid hrp; clear h1 hrp)
        | (go_at_call 52; (refine (r_add 29 [] 0 [g] _ _ _ (ints1 w2 g) (by simp) (by have := S1.out.2.1.le; have := S1.out.2.2; have := HES.out; have := HFW.out; simp only [List.length_append]; omega) (S1.out.2.1.keep ((Below.refl _ _).alloc (Nat.le_refl _) _))).mono ?_); rintro e w4 ⟨rfl, h2, kv, h3⟩; have S4 := Lib.hid (And.intro h2 h3); clear h2 h3))
      go_ret
      refine ⟨(es ++ es2).length, es2 ++ [(⟨29, [], 0, [g]⟩, kv)], by simp, ?_, ((ST.out _).1.trans S1.out.1).trans ((((Below.refl _ _).alloc (Nat.le_refl _) _).mono (Nat.le_of_lt S1.out.2.1.lt)).trans S4.out.1), ?_, ?_⟩
      · have e2 : (es ++ (es2 ++ [((⟨29, [], 0, [g]⟩ : EN), kv)])).map (·.1) = (es ++ es2).map (·.1) ++ [⟨29, [], 0, [g]⟩] := by simp [List.append_assoc]
        rw [e2]
        have p2 := RP.out.app [⟨29, [], 0, [g]⟩]
        simp only [Rep, Reps]
        exact ⟨[g], by rw [List.getElem?_append_right (by simp)]; simp, g, [], rfl, p2, rfl⟩
      · have := S4.out.2; simpa only [List.append_assoc] using this
      · have := S1.out.2.2; simp only [List.length_append, List.length_cons, List.length_nil]; omega
end
end Go.Proofs.YtlenenfgedgmhaaDoor
