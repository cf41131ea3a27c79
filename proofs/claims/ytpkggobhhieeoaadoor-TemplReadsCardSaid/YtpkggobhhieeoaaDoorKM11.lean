/- - - - -/
import Derived.Test.YtpkggobhhieeoaaDoorKLRd4
import Derived.Test.YtpkggobhhieeoaaDoorKM10
import Derived.Test.YtpkggobhhieeoaaDoorKM8
import Derived.Test.YtpkggobhhieeoaaDoorKM9
set_option maxRecDepth 100000
set_option maxHeartbeats 32000000
set_option linter.unusedSimpArgs false
set_option linter.unusedVariables false
namespace Go.Proofs.YtpkggobhhieeoaaDoor
open Go.RowKit
section
variable {q : Nat} {a : Option Addr} {c sz : Nat} {l : List Tok} {i : Nat} {bad : Int} {es : List (EN × Value)} {X : World}
theorem r_level_bad (n : Int) (hbad : 0 ≤ bad) (h : RSt q a c sz l i bad es X) : Calls Tryd.prog 46 #[.pointer (some ⟨q, 0, none⟩), .int .i64 n] X fun e w' => e = .returned (.int .i64 0) ∧ w' = X := by
  obtain ⟨f0, f1, f2, f3, f4, f5, f6⟩ := h.facts
  have d0 : decide (0 ≤ bad) = true := by simpa using hbad
  clear h f4 f5
  go_enter Tryd.func46, Tryd.ntmps46
  go_wp2_with fail
  go_ret
  exact ⟨rfl, rfl⟩
theorem RReads.back {X' : World} {i' : Nat} {r : PR} {e : Ending} {w' : World} (hb : Below q X X') (hi : i ≤ i') (h : RReads q a c sz l i' es X' r e w') : RReads q a c sz l i es X r e w' := by
  cases r with
  | ok t j => obtain ⟨g, es', h1, h2, h3, h4, h5⟩ := h; exact ⟨g, es', h1, h2, hb.trans h3, h4, by omega⟩
  | no j => obtain ⟨g, es', i2, h1, h3, h4, h5⟩ := h; exact ⟨g, es', i2, h1, hb.trans h3, h4, by omega⟩
  | out => exact h
theorem r_seven (f : Nat) (HP : RLevel q a c sz l 65 [] (fun i => pL l (f + 1) 7 i)) : RLevel q a c sz l 46 [.int .i64 7] (fun i => pL l (f + 1) 7 i) := by
  intro i es X h hes hr
  simp only at hr ⊢
  obtain ⟨f0, f1, f2, f3, f4, f5, f6⟩ := h.facts
  obtain ⟨r, hrr⟩ : ∃ r, pL l (f + 1) 7 i = r := ⟨_, rfl⟩
  have HC : Hid (Calls Tryd.prog 65 #[.pointer (some ⟨q, 0, none⟩)] X (RReads q a c sz l i es X r)) := zH (by rw [← hrr]; exact HP i es X h hes hr)
  rw [hrr] at hr ⊢
  clear h hes hrr HP f4 f5
  show Calls _ _ #[.pointer (some ⟨q, 0, none⟩), .int .i64 7] _ _
  cases r with
  | out => exact absurd rfl hr
  | no j =>
    clear hr
    go_enter Tryd.func46, Tryd.ntmps46
    go_wp2_with (first
      | (go_at_call 65; refine HC.out.mono ?_; rintro e w1 ⟨g, es', i2, rfl, h1⟩; have S1 := zH h1; clear h1))
    go_ret
    exact ⟨g, es', i2, rfl, S1.out⟩
  | ok t j =>
    clear hr
    go_enter Tryd.func46, Tryd.ntmps46
    go_wp2_with (first
      | (go_at_call 65; refine HC.out.mono ?_; rintro e w1 ⟨g, es', rfl, h1⟩; have S1 := zH h1; clear h1))
    go_ret
    exact ⟨g, es', rfl, S1.out⟩
theorem r_three (f : Nat) (HN : RLevel q a c sz l 46 [.int .i64 3] (fun i => pL l f 3 i)) (HC4 : RLevel q a c sz l 46 [.int .i64 4] (fun i => pL l f 4 i)) : RLevel q a c sz l 46 [.int .i64 3] (fun i => pL l (f + 1) 3 i) := by
  intro i es X h hes hr
  have hr0 : pL l (f + 1) 3 i = if isT l i notT then (pL l f 3 (i + 1)).bind fun k j => .ok (.node 29 [] 0 [k]) j else pL l f 4 i := by rw [pL]; rfl
  simp only at hr ⊢
  rw [hr0] at hr ⊢
  clear hr0
  obtain ⟨f0, f1, f2, f3, f4, f5, f6⟩ := h.facts
  have hle := h.le
  have hfew := h.few
  have i5 : (i : Int) ≤ 5000 := by omega
  have i0 : (0 : Int) ≤ (i : Int) := Int.natCast_nonneg _
  have H := zH h
  have HES := zH hes
  have HFW := zH hfew
  obtain ⟨b, hb⟩ : ∃ b, isT l i notT = b := ⟨_, rfl⟩
  have hnx : (txt notT) = ⟨#[110, 111, 116]⟩ := by decide
  have HX : Hid (Calls Tryd.prog 63 #[.pointer (some ⟨q, 0, none⟩), .string ⟨#[110, 111, 116]⟩] X fun e w' => e = .returned (.bool b) ∧ Quiet X w') := zH (by rw [← hnx]; exact r_is notT (show ∀ n ∈ notT, n < 256 by decide) b hb h)
  show Calls _ _ #[.pointer (some ⟨q, 0, none⟩), .int .i64 3] _ _
  cases b with
  | false =>
    rw [hb, if_neg (by simp)] at hr ⊢
    obtain ⟨r, hrr⟩ : ∃ r, pL l f 4 i = r := ⟨_, rfl⟩
    have HC1 : Hid (∀ n, Calls Tryd.prog 46 #[.pointer (some ⟨q, 0, none⟩), .int .i64 4] (X.drewN n) (RReads q a c sz l i es (X.drewN n) r)) := zH (fun n => by rw [← hrr]; exact HC4 i es (X.drewN n) (h.quiet ⟨n, rfl⟩) hes hr)
    rw [hrr] at hr ⊢
    clear HN HC4 h hb hle hfew hrr hnx hes f4 f5
    cases r with
    | out => exact absurd rfl hr
    | no j =>
      clear hr
      go_enter Tryd.func46, Tryd.ntmps46
      go_wp2_with (first
        | (go_at_call 63; (with_reducible refine HX.out.mono ?_); rintro e w1 ⟨rfl, nq, rfl⟩)
        | (go_at_call 46; refine (HC1.out _).mono ?_; rintro e w2 ⟨g, es', i2, rfl, h1⟩; have S1 := zH h1; clear h1))
      go_ret
      exact RReads.back (below_drewN (Below.refl q X) _) zL (r := .no j) ⟨g, es', i2, rfl, S1.out⟩
    | ok t j =>
      clear hr
      go_enter Tryd.func46, Tryd.ntmps46
      go_wp2_with (first
        | (go_at_call 63; (with_reducible refine HX.out.mono ?_); rintro e w1 ⟨rfl, nq, rfl⟩)
        | (go_at_call 46; refine (HC1.out _).mono ?_; rintro e w2 ⟨g, es', rfl, h1⟩; have S1 := zH h1; clear h1))
      go_ret
      exact RReads.back (below_drewN (Below.refl q X) _) zL (r := .ok t j) ⟨g, es', rfl, S1.out⟩
  | true =>
    rw [hb, if_pos rfl] at hr ⊢
    obtain ⟨r, hrr⟩ : ∃ r, pL l f 3 (i + 1) = r := ⟨_, rfl⟩
    have hlt : i + 1 ≤ l.length := isT_lt hb
    have hne : r ≠ .out := fun e => hr (by rw [hrr, e]; rfl)
    have ST := zH (fun n => (show Below q X ((X.drewN n).setCell ⟨q, 1, none⟩ (.int .i64 ((i : Int) + 1))) ∧ RSt q a c sz l (i + 1) (-1) es ((X.drewN n).setCell ⟨q, 1, none⟩ (.int .i64 ((i : Int) + 1))) from ⟨(below_drewN (Below.refl q X) n).setCell (p := ⟨q, 1, none⟩) (Nat.le_refl q) _, (h.quiet ⟨n, rfl⟩).at_ (by go_num) hlt⟩))
    have HC1 : Hid (∀ n, Calls Tryd.prog 46 #[.pointer (some ⟨q, 0, none⟩), .int .i64 3] ((X.drewN n).setCell ⟨q, 1, none⟩ (.int .i64 ((i : Int) + 1))) (RReads q a c sz l (i + 1) es ((X.drewN n).setCell ⟨q, 1, none⟩ (.int .i64 ((i : Int) + 1))) r)) := zH (fun n => by have hq := (ST.out n).2; rw [← hrr]; exact HN (i + 1) es _ hq (by omega) (by show pL l f 3 (i + 1) ≠ .out; rw [hrr]; exact hne))
    rw [hrr]
    clear HN HC4 h hb hle hfew hrr hr hlt hnx hes f5
    cases r with
    | out => exact absurd rfl hne
    | no j =>
      clear hne
      go_enter Tryd.func46, Tryd.ntmps46
      go_wp2_with (first
        | (go_at_call 63; (with_reducible refine HX.out.mono ?_); rintro e w1 ⟨rfl, nq, rfl⟩)
        | (go_at_call 46; refine (HC1.out _).mono ?_; rintro e w2 ⟨g, es2, i2, rfl, h1⟩; have S1 := zH h1; clear h1)
        | (go_at_call 64; (refine (r_add 29 [] 0 [g] _ _ _ (ints1 w2 g) (by simp) (by have := S1.out.2.1.le; have := S1.out.2.2; have := HES.out; have := HFW.out; simp only [List.length_append]; omega) (S1.out.2.1.keep (zB.alloc zL _))).mono ?_); rintro e w4 ⟨rfl, h2, kv, h3⟩; have S4 := zH (And.intro h2 h3); clear h2 h3))
      go_ret
      refine ⟨_, es2 ++ [(⟨29, [], 0, [g]⟩, kv)], i2, rfl, ((ST.out _).1.trans S1.out.1).trans (((zB.alloc zL _).mono (Nat.le_of_lt S1.out.2.1.lt)).trans S4.out.1), ?_, ?_⟩
      · have := S4.out.2; simpa only [List.append_assoc] using this
      · have := S1.out.2.2; simp only [List.length_append, List.length_cons, List.length_nil]; omega
    | ok t j =>
      clear hne
      go_enter Tryd.func46, Tryd.ntmps46
      go_wp2_with (first
        | (go_at_call 63; (with_reducible refine HX.out.mono ?_); rintro e w1 ⟨rfl, nq, rfl⟩)
        | (go_at_call 46; refine (HC1.out _).mono ?_; rintro e w2 ⟨g, es2, rfl, hrp, h1⟩; have S1 := zH h1; have RP := zH hrp; clear h1 hrp)
        | (go_at_call 64; (refine (r_add 29 [] 0 [g] _ _ _ (ints1 w2 g) (by simp) (by have := S1.out.2.1.le; have := S1.out.2.2; have := HES.out; have := HFW.out; simp only [List.length_append]; omega) (S1.out.2.1.keep (zB.alloc zL _))).mono ?_); rintro e w4 ⟨rfl, h2, kv, h3⟩; have S4 := zH (And.intro h2 h3); clear h2 h3))
      go_ret
      refine ⟨(es ++ es2).length, es2 ++ [(⟨29, [], 0, [g]⟩, kv)], by simp, ?_, ((ST.out _).1.trans S1.out.1).trans (((zB.alloc zL _).mono (Nat.le_of_lt S1.out.2.1.lt)).trans S4.out.1), ?_, ?_⟩
      · have e2 : (es ++ (es2 ++ [((⟨29, [], 0, [g]⟩ : EN), kv)])).map (·.1) = (es ++ es2).map (·.1) ++ [⟨29, [], 0, [g]⟩] := by simp [List.append_assoc]
        rw [e2]
        have p2 := RP.out.app [⟨29, [], 0, [g]⟩]
        simp only [Rep, Reps]
        exact ⟨[g], by rw [List.getElem?_append_right (by simp)]; simp, g, [], rfl, p2, rfl⟩
      · have := S4.out.2; simpa only [List.append_assoc] using this
      · have := S1.out.2.2; simp only [List.length_append, List.length_cons, List.length_nil]; omega
end
end Go.Proofs.YtpkggobhhieeoaaDoor
namespace Go.Proofs.YtpkggobhhieeoaaDoor
open Go.RowKit
theorem Reps.snoc {es : List EN} : ∀ {ts : List Tr} {gs : List Nat} {t : Tr} {g : Nat}, Reps es ts gs → Rep es t g → Reps es (ts ++ [t]) (gs ++ [g])
  | [], gs, t, g, h, ht => by
    simp only [Reps] at h
    subst h
    simp only [List.nil_append, Reps]
    exact ⟨g, [], rfl, ht, rfl⟩
  | u :: us, gs, t, g, h, ht => by
    simp only [Reps] at h
    obtain ⟨g0, gs0, rfl, h1, h2⟩ := h
    simp only [List.cons_append, Reps]
    exact ⟨g0, gs0 ++ [g], rfl, h1, Reps.snoc h2 ht⟩
def UW (q : Nat) (a : Option Addr) (c sz : Nat) (l : List Tok) (i : Nat) (es : List (EN × Value)) (X : World) (r : PR) (gs : List Nat) (K : List Tr → Nat → PR) (w : World) : Prop :=
  Below q X w ∧ ∃ (es1 : List (EN × Value)) (i1 : Nat), es1.length + i + 1 ≤ i1 ∧
    ((∃ ts, Reps ((es ++ es1).map (·.1)) ts gs ∧ RSt q a c sz l i1 (-1) (es ++ es1) w ∧ K ts i1 = r) ∨
     (∃ jj, r = .no jj ∧ RSt q a c sz l i1 (placeAt l sz jj) (es ++ es1) w))
def kMust (l : List Tok) (T : List Nat) (K : List Tr → Nat → PR) : List Tr → Nat → PR := fun ts j => want l j T (K ts (j + 1))
def kName (l : List Tok) (K : List Nat → List Tr → Nat → PR) : List Tr → Nat → PR := fun ts j => nameAt l j fun s => K s ts (j + 1)
def kLev (l : List Tok) (f : Nat) (K : List Tr → Nat → PR) : List Tr → Nat → PR := fun ts j => (pL l f 1 j).bind fun t j' => K (ts ++ [t]) j'
def kEnd (k : Nat) (s : List Nat) (v : Int) : List Tr → Nat → PR := fun ts j => .ok (.node k s v ts) j
def kOne : List Tr → Nat → PR := fun ts j => match ts with | [t] => .ok t j | _ => .out
section
variable {q : Nat} {a : Option Addr} {c sz : Nat} {l : List Tok} {i : Nat} {es : List (EN × Value)} {X w : World} {r : PR} {gs : List Nat} {K : List Tr → Nat → PR}
theorem UW.start {j : Nat} (hj : i + 1 ≤ j) (hb : Below q X w) (h : RSt q a c sz l j (-1) es w) (hk : K [] j = r) : UW q a c sz l i es X r [] K w :=
  ⟨hb, [], j, by simp; omega, .inl ⟨[], by simp [Reps], by rw [List.append_nil]; exact h, hk⟩⟩
theorem UW.lt (h : UW q a c sz l i es X r gs K w) : q < w.heap.size := by
  obtain ⟨_, es1, i1, _, h | h⟩ := h
  · obtain ⟨_, _, h, _⟩ := h; exact h.lt
  · obtain ⟨_, _, h⟩ := h; exact h.lt
theorem UW.keep {w2 : World} (h : UW q a c sz l i es X r gs K w) (hb : Below w.heap.size w w2) : UW q a c sz l i es X r gs K w2 := by
  have hlt := h.lt
  obtain ⟨h0, es1, i1, hl, h⟩ := h
  refine ⟨h0.trans (hb.mono (Nat.le_of_lt hlt)), es1, i1, hl, ?_⟩
  rcases h with ⟨ts, h1, h2, h3⟩ | ⟨jj, h1, h2⟩
  · exact .inl ⟨ts, h1, h2.keep hb, h3⟩
  · exact .inr ⟨jj, h1, h2.keep hb⟩
theorem UW.quiet {w2 : World} (h : UW q a c sz l i es X r gs K w) (hq : Quiet w w2) : UW q a c sz l i es X r gs K w2 := h.keep (hq.below _)
theorem u_must (T : List Nat) (hT : Bytes T) (h : UW q a c sz l i es X r gs (kMust l T K) w) : Calls Tryd.prog 96 #[.pointer (some ⟨q, 0, none⟩), .string (txt T)] w fun e w' => e = .returned (.tuple #[]) ∧ UW q a c sz l i es X r gs K w' := by
  obtain ⟨h0, es1, i1, hl, h⟩ := h
  rcases h with ⟨ts, h1, h2, h3⟩ | ⟨jj, h1, h2⟩
  · unfold kMust want at h3
    try dsimp only at h3
    cases hb : isT l i1 T with
    | true =>
      rw [hb, if_pos rfl] at h3
      exact (r_must_yes T hT hb h2).mono fun e w' ⟨he, h4, h5⟩ => ⟨he, h0.trans h4, es1, i1 + 1, by omega, .inl ⟨ts, h1, h5, h3⟩⟩
    | false =>
      rw [hb, if_neg (by simp)] at h3
      exact (r_must_no T hT hb h2).mono fun e w' ⟨he, h4, h5⟩ => ⟨he, h0.trans h4, es1, i1, hl, .inr ⟨i1, h3.symm, h5⟩⟩
  · exact (r_must_bad T (h2.placeAt_nn jj) h2).mono fun e w' ⟨he, h4⟩ => ⟨he, h0.trans (h4.below q), es1, i1, hl, .inr ⟨jj, h1, h2.quiet h4⟩⟩
theorem u_name {K : List Nat → List Tr → Nat → PR} (h : UW q a c sz l i es X r gs (kName l K) w) : Calls Tryd.prog 86 #[.pointer (some ⟨q, 0, none⟩)] w fun e w' => ∃ s, e = .returned (.string (txt s)) ∧ UW q a c sz l i es X r gs (K s) w' := by
  obtain ⟨h0, es1, i1, hl, h⟩ := h
  rcases h with ⟨ts, h1, h2, h3⟩ | ⟨jj, h1, h2⟩
  · unfold kName nameAt at h3
    try dsimp only at h3
    by_cases hn : ∃ tk, l[i1]? = some tk ∧ tk.kind = 3
    · obtain ⟨tk, htk, hkd⟩ := hn
      rw [htk] at h3
      simp only at h3
      rw [if_pos hkd] at h3
      exact (r_name_yes htk hkd h2).mono fun e w' ⟨he, h4, h5⟩ => ⟨tk.text, he, h0.trans h4, es1, i1 + 1, by omega, .inl ⟨ts, h1, h5, h3⟩⟩
    · have hno : PR.no i1 = r := by
        rw [← h3]
        cases htk : l[i1]? with
        | none => rfl
        | some tk => exact (if_neg fun e => hn ⟨tk, htk, e⟩).symm
      exact (r_name_no (fun t ht e => hn ⟨t, ht, e⟩) h2).mono fun e w' ⟨he, h4, h5⟩ => ⟨[], he, h0.trans h4, es1, i1, hl, .inr ⟨i1, hno.symm, h5⟩⟩
  · exact (r_name_bad (h2.placeAt_nn jj) h2).mono fun e w' ⟨he, h4⟩ => ⟨[], he, h0.trans (h4.below q), es1, i1, hl, .inr ⟨jj, h1, h2.quiet h4⟩⟩
theorem u_level (f : Nat) (HO : RLevel q a c sz l 46 [.int .i64 1] (fun i => pL l f 1 i)) (hes : es.length ≤ i) (hr : r ≠ .out) (h : UW q a c sz l i es X r gs (kLev l f K) w) :
    Calls Tryd.prog 46 #[.pointer (some ⟨q, 0, none⟩), .int .i64 1] w fun e w' => ∃ g : Nat, e = .returned (.int .i64 (g : Int)) ∧ UW q a c sz l i es X r (gs ++ [g]) K w' := by
  obtain ⟨h0, es1, i1, hl, h⟩ := h
  rcases h with ⟨ts, h1, h2, h3⟩ | ⟨jj, h1, h2⟩
  · unfold kLev at h3
    try dsimp only at h3
    have hne : pL l f 1 i1 ≠ .out := fun e => hr (by rw [← h3, e]; rfl)
    refine (show Calls Tryd.prog 46 #[.pointer (some ⟨q, 0, none⟩), .int .i64 1] w _ from HO i1 (es ++ es1) w h2 (by rw [List.length_append]; omega) hne).mono fun e w' hR => ?_
    simp only at hR
    cases hp : pL l f 1 i1 with
    | out => exact absurd hp hne
    | ok t j =>
      rw [hp] at hR h3
      obtain ⟨g, es2, he, k1, k2, k3, k4⟩ := hR
      refine ⟨g, he, h0.trans k2, es1 ++ es2, j, by rw [List.length_append]; omega, .inl ⟨ts ++ [t], ?_, by rw [← List.append_assoc]; exact k3, h3⟩⟩
      rw [← List.append_assoc]
      refine Reps.snoc ?_ k1
      rw [List.map_append]
      exact h1.app _
    | no j =>
      rw [hp] at hR h3
      obtain ⟨g, es2, i2, he, k2, k3, k4⟩ := hR
      exact ⟨g, he, h0.trans k2, es1 ++ es2, i2, by rw [List.length_append]; omega, .inr ⟨j, h3.symm, by rw [← List.append_assoc]; exact k3⟩⟩
  · exact (r_level_bad 1 (h2.placeAt_nn jj) h2).mono fun e w' ⟨he, h4⟩ => ⟨0, he, by subst h4; exact h0, es1, i1, hl, .inr ⟨jj, h1, by subst h4; exact h2⟩⟩
theorem u_add (k : Nat) (s : List Nat) (v : Int) (ka : Option Addr) (kn kc : Nat) {w2 : World} (hw : Below w.heap.size w w2) (hks : SlR w2 w2.heap.size 1 IsNat (.slice ka kn kc) gs) (h3 : gs.length ≤ 3) (hes : es.length ≤ i) (h : UW q a c sz l i es X r gs (kEnd k s v) w) :
    Calls Tryd.prog 64 #[.pointer (some ⟨q, 0, none⟩), .int .i64 (k : Int), .string (txt s), .int .i64 v, .slice ka kn kc] w2 fun e w' => ∃ g : Nat, e = .returned (.int .i64 (g : Int)) ∧ RReads q a c sz l i es X r (.returned (.int .i64 (g : Int))) w' := by
  obtain ⟨h0, es1, i1, hl, h⟩ := h.keep hw
  have hfin : ∀ (bd : Int), RSt q a c sz l i1 bd (es ++ es1) w2 → (es ++ es1).length ≤ 5000 := fun bd h => by
    have := h.le
    have := h.few
    rw [List.length_append]
    omega
  rcases h with ⟨ts, h1, h2, rfl⟩ | ⟨jj, rfl, h2⟩
  · unfold kEnd
    refine (r_add k s v gs ka kn kc hks h3 (hfin _ h2) h2).mono ?_
    rintro e w' ⟨rfl, h4, kv, h5⟩
    refine ⟨_, rfl, (es ++ es1).length, es1 ++ [(⟨k, s, v, gs⟩, kv)], rfl, ?_, h0.trans h4, by rw [← List.append_assoc]; exact h5, by rw [List.length_append]; simp; omega⟩
    rw [← List.append_assoc, List.map_append]
    simp only [Rep]
    refine ⟨gs, ?_, h1.app _⟩
    rw [List.getElem?_append_right (by simp)]
    simp
  · refine (r_add k s v gs ka kn kc hks h3 (hfin _ h2) h2).mono ?_
    rintro e w' ⟨rfl, h4, kv, h5⟩
    exact ⟨_, rfl, (es ++ es1).length, es1 ++ [(⟨k, s, v, gs⟩, kv)], i1, rfl, h0.trans h4, by rw [← List.append_assoc]; exact h5, by rw [List.length_append]; simp; omega⟩
theorem u_done {g : Nat} (h : UW q a c sz l i es X r [g] kOne w) : RReads q a c sz l i es X r (.returned (.int .i64 (g : Int))) w := by
  obtain ⟨h0, es1, i1, hl, h⟩ := h
  rcases h with ⟨ts, h1, h2, h3⟩ | ⟨jj, rfl, h2⟩
  · unfold kOne at h3
    rcases ts with _ | ⟨t, _ | ⟨t2, ts⟩⟩
    · simp only [Reps] at h1
      cases h1
    · simp only at h3
      subst h3
      simp only [Reps] at h1
      obtain ⟨g', is', e1, k1, k2⟩ := h1
      injection e1 with e1 e2
      subst e1
      exact ⟨_, es1, rfl, k1, h0, h2, by omega⟩
    · simp only [Reps] at h1
      obtain ⟨g', is', e1, k1, g2, is2, e2, _⟩ := h1
      subst e2
      simp at e1
  · exact ⟨_, es1, i1, rfl, h0, h2, by omega⟩
theorem u_stop {e : Ending} (he : ∃ g : Nat, e = .returned (.int .i64 (g : Int))) (hb : Below q X w) {i1 j : Nat} (hi : i ≤ i1) (h : RSt q a c sz l i1 (placeAt l sz j) es w) : RReads q a c sz l i es X (.no j) e w := by
  obtain ⟨g, rfl⟩ := he
  exact ⟨g, [], i1, rfl, hb, by rw [List.append_nil]; exact h, by simpa using hi⟩
end
end Go.Proofs.YtpkggobhhieeoaaDoor
namespace Go.Proofs.YtpkggobhhieeoaaDoor
open Go.RowKit
def numV (l : List Nat) : Value := match intN l with
  | some v => .tuple #[.int .i64 v, .bool (decide (0 ≤ v))]
  | none => .tuple #[.int .i64 0, .bool false]
theorem ref_number (s : ByteArray) (hs : s.size ≤ 281474976710656) (w : World) : Calls Tryd.prog 81 #[.string s] w fun e w' => e = .returned (numV (bs s)) ∧ Below w.heap.size w w' := by
  have RI := zH (fun W => ref_int s hs W)
  clear hs
  unfold numV
  cases hi : intN (bs s) with
  | none =>
    rw [hi] at RI
    clear hi
    have RI' : Hid (∀ W, Calls Tryd.prog 95 #[.string s] W fun e w' => e = .returned (.tuple #[.int .i64 0, .int .i64 2]) ∧ Below W.heap.size W w') := RI
    clear RI
    go_enter Tryd.func81, Tryd.ntmps81
    go_wp2_with (first | (go_at_call 95; refine (RI'.out _).mono ?_; rintro e w1 ⟨rfl, b1⟩))
    go_ret2
    exact ⟨rfl, b1⟩
  | some v =>
    rw [hi] at RI
    have RI' : Hid (∀ W, Calls Tryd.prog 95 #[.string s] W fun e w' => e = .returned (.tuple #[.int .i64 v, .int .i64 0]) ∧ Below W.heap.size W w') := RI
    clear RI
    obtain ⟨v1, v2, _⟩ := intN_some hi
    clear hi
    simp only
    by_cases hv : 0 ≤ v
    · have hd : decide (0 ≤ v) = true := decide_eq_true hv
      rw [hd]
      go_enter Tryd.func81, Tryd.ntmps81
      go_wp2_with (first | (go_at_call 95; refine (RI'.out _).mono ?_; rintro e w1 ⟨rfl, b1⟩))
      go_ret2
      exact ⟨rfl, b1⟩
    · have hd : decide (0 ≤ v) = false := decide_eq_false hv
      rw [hd]
      go_enter Tryd.func81, Tryd.ntmps81
      go_wp2_with (first | (go_at_call 95; refine (RI'.out _).mono ?_; rintro e w1 ⟨rfl, b1⟩))
      go_ret2
      exact ⟨rfl, b1⟩
def IsTxt (x : List Value) (m : List Nat) : Prop := x = [.string (txt m)] ∧ Bytes m ∧ m.length ≤ maxLen
theorem in_any {l : List (List Nat)} {v : Value} (s : ByteArray) (w w0 : World) (h : SlR w0 w0.heap.size 1 IsTxt v l) (hw : Below w0.heap.size w0 w) :
    Calls Tryd.prog 83 #[v, .string s] w fun e w' => e = .returned (.bool (decide (bs s ∈ l))) ∧ Quiet w w' := by
  obtain ⟨a, c, rfl⟩ : ∃ a c, v = .slice a l.length c := by obtain ⟨a, c, h, _⟩ := h.form; exact ⟨a, c, h⟩
  have hn : l.length ≤ 9223372036854775807 := by have := h.caps; unfold maxLen at this; omega
  obtain ⟨n, hlen⟩ : ∃ n, l.length = n := ⟨_, rfl⟩
  rw [hlen] at h hn ⊢
  have Hlen := zH hlen
  have Hs := zH h
  have Hw := zH hw
  clear h hlen hw
  go_enter Tryd.func83, Tryd.ntmps83
  go_wp2_with fail
  go_loopw [5] (fun j wr => ∃ k : Nat, k ≤ n ∧ j = .int .i64 k ∧ Hid (¬ bs s ∈ l.take k) ∧ Quiet w wr) (fun j _ => n - (intOf j).toNat)
  case atStart => exact ⟨0, by omega, rfl, by simp [Hid], Quiet.refl _⟩
  case round =>
    obtain ⟨k, hk, rfl, hin, hq⟩ := hrel
    have b1 : (0 : Int) ≤ (k : Int) := Int.natCast_nonneg _
    by_cases hlt : k < n
    · obtain ⟨y, hd⟩ := get_some Hlen.out hlt
      have hw1 := Hw.out.trans ((hq.below w.heap.size).mono Hw.out.size)
      obtain ⟨b, off, x, rfl, hbB, hxl, ⟨rfl, hyb, _⟩, hx⟩ := (Hs.out.below hw1).at_ hd
      have h0 := hx 0 _ rfl
      simp only [Nat.mul_one, Nat.add_zero] at h0
      have hkl := (List.getElem?_eq_some_iff.1 hd).1
      by_cases hcd : txt y = s
      · subst hcd
        have hv : decide (bs (txt y) ∈ l) = true := by rw [bs_txt hyb]; simp; exact List.mem_iff_getElem?.2 ⟨k, hd⟩
        have Hv := zH hv
        clear hv hd hkl hx hxl hw1
        go_wp2_with fail
        go_ret
        exact ⟨by rw [Hv.out]; rfl, hq⟩
      · have e1 : ((txt y).toList == s.toList) = false := by simpa [toList_inj] using hcd
        have hnot : ¬ bs s ∈ l.take (k + 1) := by
          rw [List.take_succ_eq_append_getElem hkl, (List.getElem?_eq_some_iff.1 hd).2]
          intro hx
          rcases List.mem_append.1 hx with hx | hx
          · exact hin.out hx
          · simp at hx; exact hcd (by rw [← hx, txt_bs])
        have Hnot := zH hnot
        clear hnot hd hkl hx hxl hw1 hcd
        go_wp2_with fail
        go_roundw
        case rel => exact ⟨k + 1, by omega, by go_num, Hnot.out, hq⟩
        case measure => simp [intOf]; omega
    · have hdec : decide (k < n) = false := by simp; omega
      have hv : decide (bs s ∈ l) = false := by
        have := hin.out
        rw [List.take_of_length_le (by rw [Hlen.out]; omega)] at this
        simpa using this
      have Hv := zH hv
      clear hv
      go_wp2_with fail
      go_ret
      exact ⟨by rw [Hv.out]; rfl, hq⟩
def textsV (l : List (List Nat)) : List Value := l.map fun m => Value.string (txt m)
theorem texts_read {w : World} {g : Nat} {t : TypeId} (l : List (List Nat)) (hl : ∀ m ∈ l, Bytes m ∧ m.length ≤ 8) (hm : l.length ≤ 100) (hb : Blk w g t (textsV l).toArray) (n c : Nat) (hn : n = l.length) (hc : c = l.length) :
    SlR w w.heap.size 1 IsTxt (.slice (some ⟨g, 0, none⟩) n c) l := by
  subst hn hc
  refine ⟨some ⟨g, 0, none⟩, l.length, rfl, Nat.le_refl _, by unfold maxLen; omega, fun _ => ⟨g, 0, rfl, hb.lt, fun i m hm => ?_⟩⟩
  have h8 := hl m (List.mem_iff_getElem?.2 ⟨i, hm⟩)
  refine ⟨[.string (txt m)], rfl, ⟨rfl, h8.1, by unfold maxLen; omega⟩, fun j u hu => ?_⟩
  rcases j with _ | j
  · simp at hu
    subst hu
    have : (textsV l).toArray[i]? = some (Value.string (txt m)) := by simp [textsV, hm]
    have := hb.cell this
    simpa using this
  · simp at hu
theorem marks_made (w : World) : Calls Tryd.prog 82 #[] w fun e w' => e = .returned (.slice (some ⟨w.heap.size, 0, none⟩) 16 16) ∧ w' = w.alloc (.cells (textsV marksL).toArray 9) := by
  go_enter Tryd.func82, Tryd.ntmps82
  go_wp2_with fail
  go_ret
  exact ⟨rfl, rfl⟩
theorem words_made (w : World) : Calls Tryd.prog 84 #[] w fun e w' => e = .returned (.slice (some ⟨w.heap.size, 0, none⟩) 22 22) ∧ w' = w.alloc (.cells (textsV wordsL).toArray 9) := by
  go_enter Tryd.func84, Tryd.ntmps84
  go_wp2_with fail
  go_ret
  exact ⟨rfl, rfl⟩
theorem marks_read (w : World) : SlR (w.alloc (.cells (textsV marksL).toArray 9)) (w.alloc (.cells (textsV marksL).toArray 9)).heap.size 1 IsTxt (.slice (some ⟨w.heap.size, 0, none⟩) 16 16) marksL :=
  texts_read marksL (by unfold Bytes; decide) (by decide) (Blk.new w _ _) 16 16 rfl rfl
theorem words_read (w : World) : SlR (w.alloc (.cells (textsV wordsL).toArray 9)) (w.alloc (.cells (textsV wordsL).toArray 9)).heap.size 1 IsTxt (.slice (some ⟨w.heap.size, 0, none⟩) 22 22) wordsL :=
  texts_read wordsL (by unfold Bytes; decide) (by decide) (Blk.new w _ _) 22 22 rfl rfl
theorem ref_more (c : Nat) (hc : c < 256) (w : World) : Calls Tryd.prog 62 #[.int .u8 (c : Int)] w fun e w' => e = .returned (.bool (furtherN c)) ∧ Below w.heap.size w w' := by
  have hx : bs (⟨#[97]⟩ ++ txt [c]) = [97, c] := by rw [bs_append, bs_txt (fun x hx => by simp at hx; omega)]; rfl
  have hr : rightN [97, c] = furtherN c := by
    have e1 : letterN 97 = true := by decide
    have e2 : furtherN 97 = true := by decide
    simp [rightN, e1, e2]
  have RR := zH (fun W => ref_right (⟨#[97]⟩ ++ txt [c]) (by rw [← bs_len, hx]; unfold maxLen; simp) W)
  rw [hx, hr] at RR
  have hcv := run_text_of_row (P := Tryd.prog) 50 9 5 Tryd.underlying50 Tryd.underlying5 Tryd.underlying9 (own_bytes (w := w) (base := w.heap.size) (l := [c]) (xs := [.int .u8 (c : Int)]) rfl zL rfl (fun x hx => by simp at hx; omega) (by unfold maxLen; simp) 1 1 rfl rfl)
  clear hx hr
  go_enter Tryd.func62, Tryd.ntmps62
  go_wp2_with (first | (go_at_call 42; refine (RR.out _).mono ?_; rintro e w1 ⟨rfl, q1⟩))
  go_ret
  exact ⟨rfl, (zB.alloc zL _).trans (q1.below _)⟩
theorem begins_of (l : List Nat) : beginsN l = ((match intN l with | some v => decide (0 ≤ v) | none => false) || (rightN l || marksL.any (fun m => l.isPrefixOf m))) := by
  unfold beginsN isNumber
  cases intN l with
  | none => simp [Bool.or_assoc]
  | some v => by_cases h : 0 ≤ v <;> simp [h, Bool.or_assoc]
theorem any_here {l : List (List Nat)} {p : List Nat → Bool} {k : Nat} {m : List Nat} (h : l[k]? = some m) (hp : p m = true) : l.any p = true := List.any_eq_true.2 ⟨m, List.mem_iff_getElem?.2 ⟨k, h⟩, hp⟩
theorem any_none {l : List (List Nat)} {p : List Nat → Bool} (h : ∀ i m, i < l.length → l[i]? = some m → p m = false) : l.any p = false := by
  rw [List.any_eq_false]
  intro m hm
  obtain ⟨i, hi⟩ := List.mem_iff_getElem?.1 hm
  rw [h i m (List.getElem?_eq_some_iff.1 hi).1 hi]
  simp
theorem ref_begins (s : ByteArray) (hs : s.size ≤ 4096) (w : World) : Calls Tryd.prog 60 #[.string s] w fun e w' => e = .returned (.bool (beginsN (bs s))) ∧ Below w.heap.size w w' := by
  have RN := zH (fun W => ref_number s (by omega) W)
  have RR := zH (fun W => ref_right s (by unfold maxLen; omega) W)
  have MM := zH (fun W => marks_made W)
  have hbe := begins_of (bs s)
  unfold numV at RN
  obtain ⟨v, b, hv, hb⟩ : ∃ (v : Int) (b : Bool), (match intN (bs s) with | some v => Value.tuple #[.int .i64 v, .bool (decide (0 ≤ v))] | none => .tuple #[.int .i64 0, .bool false]) = .tuple #[.int .i64 v, .bool b] ∧ (match intN (bs s) with | some v => decide (0 ≤ v) | none => false) = b := by
    cases intN (bs s) with
    | none => exact ⟨0, false, rfl, rfl⟩
    | some v => exact ⟨v, _, rfl, rfl⟩
  rw [hv] at RN
  rw [hb] at hbe
  clear hv hb
  obtain ⟨r, hr⟩ : ∃ r, rightN (bs s) = r := ⟨_, rfl⟩
  rw [hr] at RR hbe
  clear hr
  cases b with
  | true =>
    rw [Bool.true_or] at hbe
    rw [hbe]
    clear hbe
    go_enter Tryd.func60, Tryd.ntmps60
    go_wp2_with (first | (go_at_call 81; refine (RN.out _).mono ?_; rintro e w1 ⟨rfl, b1⟩))
    go_ret
    exact ⟨rfl, b1⟩
  | false =>
    rw [Bool.false_or] at hbe
    cases r with
    | true =>
      rw [Bool.true_or] at hbe
      rw [hbe]
      clear hbe
      go_enter Tryd.func60, Tryd.ntmps60
      go_wp2_with (first
        | (go_at_call 81; refine (RN.out _).mono ?_; rintro e w1 ⟨rfl, b1⟩)
        | (go_at_call 42; refine (RR.out _).mono ?_; rintro e w2 ⟨rfl, q2⟩))
      go_ret
      exact ⟨rfl, b1.trans (q2.below _)⟩
    | false =>
      rw [Bool.false_or] at hbe
      have HB := zH hbe
      clear hbe
      obtain ⟨n, hn⟩ : ∃ n, s.size = n := ⟨_, rfl⟩
      have Hn := zH hn
      rw [hn] at hs
      have hn' : (s.size : Int) = (n : Int) := by rw [hn]
      clear hn
      go_enter Tryd.func60, Tryd.ntmps60
      go_wp2_with (first
        | (go_at_call 81; refine (RN.out _).mono ?_; rintro e w1 ⟨rfl, b1⟩)
        | (go_at_call 42
           refine (RR.out _).mono ?_
           rintro e w2 ⟨rfl, q2⟩
           have B2 : Hid (Below w.heap.size w w2) := zH (b1.trans (q2.below _))
           clear b1 q2)
        | (go_at_call 82
           refine (MM.out _).mono ?_
           rintro e w3 ⟨rfl, h3⟩
           have M3 : Hid (w3 = w2.alloc (.cells (textsV marksL).toArray 9)) := zH h3
           clear h3))
      have B3 : Hid (Below w.heap.size w w3) := zH (by rw [M3.out]; exact B2.out.alloc B2.out.size _)
      have S3 : Hid (SlR w3 w3.heap.size 1 IsTxt (.slice (some ⟨w2.heap.size, 0, none⟩) 16 16) marksL) := zH (by rw [M3.out]; exact marks_read w2)
      go_loopw [6] (fun j wr => ∃ k : Nat, k ≤ 16 ∧ j = .int .i64 k ∧ Hid (∀ i m, i < k → marksL[i]? = some m → (bs s).isPrefixOf m = false) ∧ Quiet w3 wr) (fun j _ => 16 - (intOf j).toNat)
      case atStart => exact ⟨0, by omega, rfl, fun i m h => by omega, Quiet.refl _⟩
      case round =>
        obtain ⟨k, hk, rfl, hin, hq⟩ := hrel
        have c1 : (0 : Int) ≤ (k : Int) := Int.natCast_nonneg _
        by_cases hlt : k < 16
        · obtain ⟨m, hm, _, hml, _⟩ := marks_index k hlt wr
          obtain ⟨b, off, x, hsome, hbB, hxl, ⟨rfl, hmb, _⟩, hx⟩ := (S3.out.below (hq.below _)).at_ hm
          injection hsome with hsome
          injection hsome with e1 e2
          subst e1 e2
          have h0 := hx 0 _ rfl
          simp only [Nat.mul_one, Nat.add_zero, Nat.zero_add] at h0
          have hmz : ((txt m).size : Int) = (m.length : Int) := by rw [txt_size]
          have hpre := prefix_take (bs s) m
          rw [bs_len, Hn.out] at hpre
          by_cases hle : n ≤ m.length
          · have hd1 : decide ((n : Int) ≤ (m.length : Int)) = true := by simp; omega
            have hex : bs ((txt m).extract 0 n) = m.take n := by rw [bs_extract, List.drop_zero, bs_txt hmb]
            by_cases heq : m.take n = bs s
            · have hv := any_here (p := fun m => (bs s).isPrefixOf m) hm (by show (bs s).isPrefixOf m = true; rw [hpre]; exact decide_eq_true ⟨hle, heq⟩)
              have hx2 : (txt m).extract 0 n = s := bs_inj (hex.trans heq)
              have HV := zH hv
              clear hv hm hx hxl hpre hex heq hmb
              go_wp2_with fail
              go_ret
              exact ⟨by rw [HB.out, HV.out]; rfl, B3.out.trans ((hq.below _).mono B3.out.size)⟩
            · have hv : ∀ i m, i < k + 1 → marksL[i]? = some m → (bs s).isPrefixOf m = false := so_far1 hm (by rw [hpre]; exact decide_eq_false (fun h => heq h.2)) hin.out
              have HV := zH hv
              have hx2 : ¬ ((txt m).extract 0 n).toList = s.toList := fun e => heq (by rw [← hex, (toList_inj _ _).1 e])
              have hx3 : (((txt m).extract 0 n).toList == s.toList) = false := by rw [beq_eq_false_iff_ne]; exact hx2
              clear hv hm hx hxl hpre hex heq hmb hin
              go_wp2_with fail
              go_roundw
              case rel => exact ⟨k + 1, by omega, by go_num, HV.out, hq⟩
              case measure => simp [intOf]; omega
          · have hd1 : decide ((n : Int) ≤ (m.length : Int)) = false := by simp; omega
            have hv : ∀ i m, i < k + 1 → marksL[i]? = some m → (bs s).isPrefixOf m = false := so_far1 hm (by rw [hpre]; exact decide_eq_false (fun h => hle h.1)) hin.out
            have HV := zH hv
            clear hv hm hx hxl hpre hmb hin
            go_wp2_with fail
            go_roundw
            case rel => exact ⟨k + 1, by omega, by go_num, HV.out, hq⟩
            case measure => simp [intOf]; omega
        · have hk16 : k = 16 := by omega
          subst hk16
          have hdec : decide (((16 : Nat) : Int) < 16) = false := by decide
          have hv : marksL.any (fun m => (bs s).isPrefixOf m) = false := any_none (fun i m h1 h2 => hin.out i m h1 h2)
          have HV := zH hv
          clear hv hin
          go_wp2_with fail
          go_ret
          exact ⟨by rw [HB.out, HV.out]; rfl, B3.out.trans ((hq.below _).mono B3.out.size)⟩
def wholeV (l : List Nat) : Value := match wholeN l with
  | some (k, t, v) => .tuple #[.agg #[.int .i64 (k : Int), .string (txt t), .int .i64 v, .int .i64 0], .bool true]
  | none => .tuple #[.agg #[.int .i64 5, .string (txt l), .int .i64 0, .int .i64 0], .bool false]
theorem ref_whole (s : ByteArray) (hs : s.size ≤ 4096) (w : World) : Calls Tryd.prog 61 #[.string s] w fun e w' => e = .returned (wholeV (bs s)) ∧ Below w.heap.size w w' := by
  have RN := zH (fun W => ref_number s (by omega) W)
  have RR := zH (fun W => ref_right s (by unfold maxLen; omega) W)
  have MM := zH (fun W => marks_made W)
  have WW := zH (fun W => words_made W)
  have tok1 : True := trivial
  have tok2 : True := trivial
  clear hs
  by_cases h1 : ∃ v, isNumber (bs s) = some v
  · obtain ⟨v, hv⟩ := h1
    have hW : wholeV (bs s) = .tuple #[.agg #[.int .i64 1, .string ⟨#[]⟩, .int .i64 v, .int .i64 0], .bool true] := by
      unfold wholeV wholeN
      rw [hv]
      rfl
    have hN : numV (bs s) = .tuple #[.int .i64 v, .bool true] := by
      unfold numV
      unfold isNumber at hv
      cases hi : intN (bs s) with
      | none => rw [hi] at hv; simp at hv
      | some u =>
        rw [hi] at hv
        simp only at hv
        by_cases h0 : 0 ≤ u
        · rw [if_pos h0] at hv; injection hv with hv; subst hv; simp [h0]
        · rw [if_neg h0] at hv; cases hv
    rw [hN] at RN
    rw [hW]
    clear hv hW hN
    go_enter Tryd.func61, Tryd.ntmps61
    go_wp2_with (first
        | (go_at_call 81
           refine (RN.out _).mono ?_
           rintro e w1 ⟨rfl, q1⟩
           have T1 : Hid (TokSt w w1 #[.int .i64 0, .string ⟨#[]⟩, .int .i64 0, .int .i64 0]) := zH ((TokSt.new w #[.int .i64 0, .string ⟨#[]⟩, .int .i64 0, .int .i64 0]).call q1)
           have t0 := T1.out.2.cell (i := 0) rfl
           have f0 := T1.out.2.frozen 0
           have t1 := T1.out.2.cell (i := 1) rfl
           have f1 := T1.out.2.frozen 1
           have t2 := T1.out.2.cell (i := 2) rfl
           have f2 := T1.out.2.frozen 2
           have t3 := T1.out.2.cell (i := 3) rfl
           have f3 := T1.out.2.frozen 3
           clear q1))
    refine bodyPost_ret (v := .tuple #[.agg #[.int .i64 1, .string ⟨#[]⟩, .int .i64 v, .int .i64 0], .bool true]) (by simp [results, Tryd.results61, go_sem, t0, t1, t2, t3]) rfl ⟨rfl, ?_⟩
    exact ((((T1.out.set 0 _).set 1 _).set 2 _).set 3 _).1.mono zL
  have hno : isNumber (bs s) = none := by
    cases hi : isNumber (bs s) with
    | none => rfl
    | some v => exact absurd ⟨v, hi⟩ h1
  obtain ⟨v, hN⟩ : ∃ v, numV (bs s) = .tuple #[.int .i64 v, .bool false] := by
    unfold numV
    unfold isNumber at hno
    cases hi : intN (bs s) with
    | none => exact ⟨0, rfl⟩
    | some u =>
      rw [hi] at hno
      simp only at hno
      by_cases h0 : 0 ≤ u
      · rw [if_pos h0] at hno; cases hno
      · exact ⟨u, by simp [h0]⟩
  rw [hN] at RN
  clear hN h1
  by_cases h2 : bs s ∈ wordsL
  · have hW : wholeV (bs s) = .tuple #[.agg #[.int .i64 4, .string s, .int .i64 0, .int .i64 0], .bool true] := by
      unfold wholeV wholeN
      rw [hno]
      simp only
      rw [if_pos h2]
      simp [txt_bs]
    have WB : Hid (decide (bs s ∈ wordsL) = true) := zH (decide_eq_true h2)
    rw [hW]
    clear hW hno h2
    go_enter Tryd.func61, Tryd.ntmps61
    go_wp2_with (first
        | (go_at_call 81
           refine (RN.out _).mono ?_
           rintro e w1 ⟨rfl, q1⟩
           have T1 : Hid (TokSt w w1 #[.int .i64 0, .string ⟨#[]⟩, .int .i64 0, .int .i64 0]) := zH ((TokSt.new w #[.int .i64 0, .string ⟨#[]⟩, .int .i64 0, .int .i64 0]).call q1)
           have t0 := T1.out.2.cell (i := 0) rfl
           have f0 := T1.out.2.frozen 0
           have t1 := T1.out.2.cell (i := 1) rfl
           have f1 := T1.out.2.frozen 1
           have t2 := T1.out.2.cell (i := 2) rfl
           have f2 := T1.out.2.frozen 2
           have t3 := T1.out.2.cell (i := 3) rfl
           have f3 := T1.out.2.frozen 3
           clear q1)
        | (go_at_call 84
           refine (WW.out _).mono ?_
           rintro e w2 ⟨rfl, h2⟩
           have T2 : Hid (TokSt w w2 #[.int .i64 0, .string ⟨#[]⟩, .int .i64 0, .int .i64 0]) := zH (by rw [h2]; exact T1.out.alloc _)
           clear t0 t1 t2 t3 f0 f1 f2 f3
           have t0 := T2.out.2.cell (i := 0) rfl
           have f0 := T2.out.2.frozen 0
           have t1 := T2.out.2.cell (i := 1) rfl
           have f1 := T2.out.2.frozen 1
           have t2 := T2.out.2.cell (i := 2) rfl
           have f2 := T2.out.2.frozen 2
           have t3 := T2.out.2.cell (i := 3) rfl
           have f3 := T2.out.2.frozen 3
           have S2 : Hid (SlR w2 w2.heap.size 1 IsTxt (.slice (some ⟨w1.heap.size, 0, none⟩) 22 22) wordsL) := zH (by rw [h2]; exact words_read w1)
           clear h2)
        | (go_at_call 83
           have _t := tok1
           refine (in_any s _ _ S2.out zB).mono ?_
           rw [WB.out]
           rintro e w3 ⟨rfl, q3⟩
           have T3 : Hid (TokSt w w3 #[.int .i64 0, .string ⟨#[]⟩, .int .i64 0, .int .i64 0]) := zH (T2.out.quiet q3)
           clear t0 t1 t2 t3 f0 f1 f2 f3
           have t0 := T3.out.2.cell (i := 0) rfl
           have f0 := T3.out.2.frozen 0
           have t1 := T3.out.2.cell (i := 1) rfl
           have f1 := T3.out.2.frozen 1
           have t2 := T3.out.2.cell (i := 2) rfl
           have f2 := T3.out.2.frozen 2
           have t3 := T3.out.2.cell (i := 3) rfl
           have f3 := T3.out.2.frozen 3
           clear q3 tok1 _t))
    refine bodyPost_ret (v := .tuple #[.agg #[.int .i64 4, .string s, .int .i64 0, .int .i64 0], .bool true]) (by simp [results, Tryd.results61, go_sem, t0, t1, t2, t3]) rfl ⟨rfl, ?_⟩
    exact ((((T3.out.set 0 _).set 1 _).set 2 _).set 3 _).1.mono zL
  have WB : Hid (decide (bs s ∈ wordsL) = false) := zH (decide_eq_false h2)
  by_cases h3 : rightN (bs s) = true
  · have hW : wholeV (bs s) = .tuple #[.agg #[.int .i64 3, .string s, .int .i64 0, .int .i64 0], .bool true] := by
      unfold wholeV wholeN
      rw [hno]
      simp only
      rw [if_neg h2, if_pos h3]
      simp [txt_bs]
    rw [h3] at RR
    rw [hW]
    clear hW hno h2 h3
    go_enter Tryd.func61, Tryd.ntmps61
    go_wp2_with (first
        | (go_at_call 81
           refine (RN.out _).mono ?_
           rintro e w1 ⟨rfl, q1⟩
           have T1 : Hid (TokSt w w1 #[.int .i64 0, .string ⟨#[]⟩, .int .i64 0, .int .i64 0]) := zH ((TokSt.new w #[.int .i64 0, .string ⟨#[]⟩, .int .i64 0, .int .i64 0]).call q1)
           have t0 := T1.out.2.cell (i := 0) rfl
           have f0 := T1.out.2.frozen 0
           have t1 := T1.out.2.cell (i := 1) rfl
           have f1 := T1.out.2.frozen 1
           have t2 := T1.out.2.cell (i := 2) rfl
           have f2 := T1.out.2.frozen 2
           have t3 := T1.out.2.cell (i := 3) rfl
           have f3 := T1.out.2.frozen 3
           clear q1)
        | (go_at_call 84
           refine (WW.out _).mono ?_
           rintro e w2 ⟨rfl, h2⟩
           have T2 : Hid (TokSt w w2 #[.int .i64 0, .string ⟨#[]⟩, .int .i64 0, .int .i64 0]) := zH (by rw [h2]; exact T1.out.alloc _)
           clear t0 t1 t2 t3 f0 f1 f2 f3
           have t0 := T2.out.2.cell (i := 0) rfl
           have f0 := T2.out.2.frozen 0
           have t1 := T2.out.2.cell (i := 1) rfl
           have f1 := T2.out.2.frozen 1
           have t2 := T2.out.2.cell (i := 2) rfl
           have f2 := T2.out.2.frozen 2
           have t3 := T2.out.2.cell (i := 3) rfl
           have f3 := T2.out.2.frozen 3
           have S2 : Hid (SlR w2 w2.heap.size 1 IsTxt (.slice (some ⟨w1.heap.size, 0, none⟩) 22 22) wordsL) := zH (by rw [h2]; exact words_read w1)
           clear h2)
        | (go_at_call 83
           have _t := tok1
           refine (in_any s _ _ S2.out zB).mono ?_
           rw [WB.out]
           rintro e w3 ⟨rfl, q3⟩
           have T3 : Hid (TokSt w w3 #[.int .i64 0, .string ⟨#[]⟩, .int .i64 0, .int .i64 0]) := zH (T2.out.quiet q3)
           clear t0 t1 t2 t3 f0 f1 f2 f3
           have t0 := T3.out.2.cell (i := 0) rfl
           have f0 := T3.out.2.frozen 0
           have t1 := T3.out.2.cell (i := 1) rfl
           have f1 := T3.out.2.frozen 1
           have t2 := T3.out.2.cell (i := 2) rfl
           have f2 := T3.out.2.frozen 2
           have t3 := T3.out.2.cell (i := 3) rfl
           have f3 := T3.out.2.frozen 3
           clear q3 tok1 _t)
        | (go_at_call 42
           refine (RR.out _).mono ?_
           rintro e w4 ⟨rfl, q4⟩
           have T4 : Hid (TokSt w w4 #[.int .i64 0, .string ⟨#[]⟩, .int .i64 0, .int .i64 0]) := zH ((T3.out).quiet q4)
           clear t0 t1 t2 t3 f0 f1 f2 f3
           have t0 := T4.out.2.cell (i := 0) rfl
           have f0 := T4.out.2.frozen 0
           have t1 := T4.out.2.cell (i := 1) rfl
           have f1 := T4.out.2.frozen 1
           have t2 := T4.out.2.cell (i := 2) rfl
           have f2 := T4.out.2.frozen 2
           have t3 := T4.out.2.cell (i := 3) rfl
           have f3 := T4.out.2.frozen 3
           clear q4))
    refine bodyPost_ret (v := .tuple #[.agg #[.int .i64 3, .string s, .int .i64 0, .int .i64 0], .bool true]) (by simp [results, Tryd.results61, go_sem, t0, t1, t2, t3]) rfl ⟨rfl, ?_⟩
    exact ((((T4.out.set 0 _).set 1 _).set 2 _).set 3 _).1.mono zL
  have h3' : rightN (bs s) = false := by simpa using h3
  rw [h3'] at RR
  by_cases h4 : bs s ∈ marksL
  · have hW : wholeV (bs s) = .tuple #[.agg #[.int .i64 5, .string s, .int .i64 0, .int .i64 0], .bool true] := by
      unfold wholeV wholeN
      rw [hno]
      simp only
      rw [if_neg h2, if_neg h3, if_pos h4]
      simp [txt_bs]
    have MB : Hid (decide (bs s ∈ marksL) = true) := zH (decide_eq_true h4)
    rw [hW]
    clear hW hno h2 h3 h3' h4
    go_enter Tryd.func61, Tryd.ntmps61
    go_wp2_with (first
        | (go_at_call 81
           refine (RN.out _).mono ?_
           rintro e w1 ⟨rfl, q1⟩
           have T1 : Hid (TokSt w w1 #[.int .i64 0, .string ⟨#[]⟩, .int .i64 0, .int .i64 0]) := zH ((TokSt.new w #[.int .i64 0, .string ⟨#[]⟩, .int .i64 0, .int .i64 0]).call q1)
           have t0 := T1.out.2.cell (i := 0) rfl
           have f0 := T1.out.2.frozen 0
           have t1 := T1.out.2.cell (i := 1) rfl
           have f1 := T1.out.2.frozen 1
           have t2 := T1.out.2.cell (i := 2) rfl
           have f2 := T1.out.2.frozen 2
           have t3 := T1.out.2.cell (i := 3) rfl
           have f3 := T1.out.2.frozen 3
           clear q1)
        | (go_at_call 84
           refine (WW.out _).mono ?_
           rintro e w2 ⟨rfl, h2⟩
           have T2 : Hid (TokSt w w2 #[.int .i64 0, .string ⟨#[]⟩, .int .i64 0, .int .i64 0]) := zH (by rw [h2]; exact T1.out.alloc _)
           clear t0 t1 t2 t3 f0 f1 f2 f3
           have t0 := T2.out.2.cell (i := 0) rfl
           have f0 := T2.out.2.frozen 0
           have t1 := T2.out.2.cell (i := 1) rfl
           have f1 := T2.out.2.frozen 1
           have t2 := T2.out.2.cell (i := 2) rfl
           have f2 := T2.out.2.frozen 2
           have t3 := T2.out.2.cell (i := 3) rfl
           have f3 := T2.out.2.frozen 3
           have S2 : Hid (SlR w2 w2.heap.size 1 IsTxt (.slice (some ⟨w1.heap.size, 0, none⟩) 22 22) wordsL) := zH (by rw [h2]; exact words_read w1)
           clear h2)
        | (go_at_call 83
           have _t := tok1
           refine (in_any s _ _ S2.out zB).mono ?_
           rw [WB.out]
           rintro e w3 ⟨rfl, q3⟩
           have T3 : Hid (TokSt w w3 #[.int .i64 0, .string ⟨#[]⟩, .int .i64 0, .int .i64 0]) := zH (T2.out.quiet q3)
           clear t0 t1 t2 t3 f0 f1 f2 f3
           have t0 := T3.out.2.cell (i := 0) rfl
           have f0 := T3.out.2.frozen 0
           have t1 := T3.out.2.cell (i := 1) rfl
           have f1 := T3.out.2.frozen 1
           have t2 := T3.out.2.cell (i := 2) rfl
           have f2 := T3.out.2.frozen 2
           have t3 := T3.out.2.cell (i := 3) rfl
           have f3 := T3.out.2.frozen 3
           clear q3 tok1 _t)
        | (go_at_call 42
           refine (RR.out _).mono ?_
           rintro e w4 ⟨rfl, q4⟩
           have T4 : Hid (TokSt w w4 #[.int .i64 0, .string ⟨#[]⟩, .int .i64 0, .int .i64 0]) := zH ((T3.out).quiet q4)
           clear t0 t1 t2 t3 f0 f1 f2 f3
           have t0 := T4.out.2.cell (i := 0) rfl
           have f0 := T4.out.2.frozen 0
           have t1 := T4.out.2.cell (i := 1) rfl
           have f1 := T4.out.2.frozen 1
           have t2 := T4.out.2.cell (i := 2) rfl
           have f2 := T4.out.2.frozen 2
           have t3 := T4.out.2.cell (i := 3) rfl
           have f3 := T4.out.2.frozen 3
           clear q4)
        | (go_at_call 82
           refine (MM.out _).mono ?_
           rintro e w5 ⟨rfl, h5⟩
           have T5 : Hid (TokSt w w5 #[.int .i64 0, .string ⟨#[]⟩, .int .i64 0, .int .i64 0]) := zH (by rw [h5]; exact T4.out.alloc _)
           clear t0 t1 t2 t3 f0 f1 f2 f3
           have t0 := T5.out.2.cell (i := 0) rfl
           have f0 := T5.out.2.frozen 0
           have t1 := T5.out.2.cell (i := 1) rfl
           have f1 := T5.out.2.frozen 1
           have t2 := T5.out.2.cell (i := 2) rfl
           have f2 := T5.out.2.frozen 2
           have t3 := T5.out.2.cell (i := 3) rfl
           have f3 := T5.out.2.frozen 3
           have S5 : Hid (SlR w5 w5.heap.size 1 IsTxt (.slice (some ⟨w4.heap.size, 0, none⟩) 16 16) marksL) := zH (by rw [h5]; exact marks_read w4)
           clear h5)
        | (go_at_call 83
           have _t := tok2
           refine (in_any s _ _ S5.out zB).mono ?_
           rw [MB.out]
           rintro e w6 ⟨rfl, q6⟩
           have T6 : Hid (TokSt w w6 #[.int .i64 0, .string ⟨#[]⟩, .int .i64 0, .int .i64 0]) := zH (T5.out.quiet q6)
           clear t0 t1 t2 t3 f0 f1 f2 f3
           have t0 := T6.out.2.cell (i := 0) rfl
           have f0 := T6.out.2.frozen 0
           have t1 := T6.out.2.cell (i := 1) rfl
           have f1 := T6.out.2.frozen 1
           have t2 := T6.out.2.cell (i := 2) rfl
           have f2 := T6.out.2.frozen 2
           have t3 := T6.out.2.cell (i := 3) rfl
           have f3 := T6.out.2.frozen 3
           clear q6 tok2 _t))
    refine bodyPost_ret (v := .tuple #[.agg #[.int .i64 5, .string s, .int .i64 0, .int .i64 0], .bool true]) (by simp [results, Tryd.results61, go_sem, t0, t1, t2, t3]) rfl ⟨rfl, ?_⟩
    exact ((((T6.out.set 0 _).set 1 _).set 2 _).set 3 _).1.mono zL
  · have hW : wholeV (bs s) = .tuple #[.agg #[.int .i64 5, .string s, .int .i64 0, .int .i64 0], .bool false] := by
      unfold wholeV wholeN
      rw [hno]
      simp only
      rw [if_neg h2, if_neg h3, if_neg h4]
      simp [txt_bs]
    have MB : Hid (decide (bs s ∈ marksL) = false) := zH (decide_eq_false h4)
    rw [hW]
    clear hW hno h2 h3 h3' h4
    go_enter Tryd.func61, Tryd.ntmps61
    go_wp2_with (first
        | (go_at_call 81
           refine (RN.out _).mono ?_
           rintro e w1 ⟨rfl, q1⟩
           have T1 : Hid (TokSt w w1 #[.int .i64 0, .string ⟨#[]⟩, .int .i64 0, .int .i64 0]) := zH ((TokSt.new w #[.int .i64 0, .string ⟨#[]⟩, .int .i64 0, .int .i64 0]).call q1)
           have t0 := T1.out.2.cell (i := 0) rfl
           have f0 := T1.out.2.frozen 0
           have t1 := T1.out.2.cell (i := 1) rfl
           have f1 := T1.out.2.frozen 1
           have t2 := T1.out.2.cell (i := 2) rfl
           have f2 := T1.out.2.frozen 2
           have t3 := T1.out.2.cell (i := 3) rfl
           have f3 := T1.out.2.frozen 3
           clear q1)
        | (go_at_call 84
           refine (WW.out _).mono ?_
           rintro e w2 ⟨rfl, h2⟩
           have T2 : Hid (TokSt w w2 #[.int .i64 0, .string ⟨#[]⟩, .int .i64 0, .int .i64 0]) := zH (by rw [h2]; exact T1.out.alloc _)
           clear t0 t1 t2 t3 f0 f1 f2 f3
           have t0 := T2.out.2.cell (i := 0) rfl
           have f0 := T2.out.2.frozen 0
           have t1 := T2.out.2.cell (i := 1) rfl
           have f1 := T2.out.2.frozen 1
           have t2 := T2.out.2.cell (i := 2) rfl
           have f2 := T2.out.2.frozen 2
           have t3 := T2.out.2.cell (i := 3) rfl
           have f3 := T2.out.2.frozen 3
           have S2 : Hid (SlR w2 w2.heap.size 1 IsTxt (.slice (some ⟨w1.heap.size, 0, none⟩) 22 22) wordsL) := zH (by rw [h2]; exact words_read w1)
           clear h2)
        | (go_at_call 83
           have _t := tok1
           refine (in_any s _ _ S2.out zB).mono ?_
           rw [WB.out]
           rintro e w3 ⟨rfl, q3⟩
           have T3 : Hid (TokSt w w3 #[.int .i64 0, .string ⟨#[]⟩, .int .i64 0, .int .i64 0]) := zH (T2.out.quiet q3)
           clear t0 t1 t2 t3 f0 f1 f2 f3
           have t0 := T3.out.2.cell (i := 0) rfl
           have f0 := T3.out.2.frozen 0
           have t1 := T3.out.2.cell (i := 1) rfl
           have f1 := T3.out.2.frozen 1
           have t2 := T3.out.2.cell (i := 2) rfl
           have f2 := T3.out.2.frozen 2
           have t3 := T3.out.2.cell (i := 3) rfl
           have f3 := T3.out.2.frozen 3
           clear q3 tok1 _t)
        | (go_at_call 42
           refine (RR.out _).mono ?_
           rintro e w4 ⟨rfl, q4⟩
           have T4 : Hid (TokSt w w4 #[.int .i64 0, .string ⟨#[]⟩, .int .i64 0, .int .i64 0]) := zH ((T3.out).quiet q4)
           clear t0 t1 t2 t3 f0 f1 f2 f3
           have t0 := T4.out.2.cell (i := 0) rfl
           have f0 := T4.out.2.frozen 0
           have t1 := T4.out.2.cell (i := 1) rfl
           have f1 := T4.out.2.frozen 1
           have t2 := T4.out.2.cell (i := 2) rfl
           have f2 := T4.out.2.frozen 2
           have t3 := T4.out.2.cell (i := 3) rfl
           have f3 := T4.out.2.frozen 3
           clear q4)
        | (go_at_call 82
           refine (MM.out _).mono ?_
           rintro e w5 ⟨rfl, h5⟩
           have T5 : Hid (TokSt w w5 #[.int .i64 0, .string ⟨#[]⟩, .int .i64 0, .int .i64 0]) := zH (by rw [h5]; exact T4.out.alloc _)
           clear t0 t1 t2 t3 f0 f1 f2 f3
           have t0 := T5.out.2.cell (i := 0) rfl
           have f0 := T5.out.2.frozen 0
           have t1 := T5.out.2.cell (i := 1) rfl
           have f1 := T5.out.2.frozen 1
           have t2 := T5.out.2.cell (i := 2) rfl
           have f2 := T5.out.2.frozen 2
           have t3 := T5.out.2.cell (i := 3) rfl
           have f3 := T5.out.2.frozen 3
           have S5 : Hid (SlR w5 w5.heap.size 1 IsTxt (.slice (some ⟨w4.heap.size, 0, none⟩) 16 16) marksL) := zH (by rw [h5]; exact marks_read w4)
           clear h5)
        | (go_at_call 83
           have _t := tok2
           refine (in_any s _ _ S5.out zB).mono ?_
           rw [MB.out]
           rintro e w6 ⟨rfl, q6⟩
           have T6 : Hid (TokSt w w6 #[.int .i64 0, .string ⟨#[]⟩, .int .i64 0, .int .i64 0]) := zH (T5.out.quiet q6)
           clear t0 t1 t2 t3 f0 f1 f2 f3
           have t0 := T6.out.2.cell (i := 0) rfl
           have f0 := T6.out.2.frozen 0
           have t1 := T6.out.2.cell (i := 1) rfl
           have f1 := T6.out.2.frozen 1
           have t2 := T6.out.2.cell (i := 2) rfl
           have f2 := T6.out.2.frozen 2
           have t3 := T6.out.2.cell (i := 3) rfl
           have f3 := T6.out.2.frozen 3
           clear q6 tok2 _t))
    refine bodyPost_ret (v := .tuple #[.agg #[.int .i64 5, .string s, .int .i64 0, .int .i64 0], .bool false]) (by simp [results, Tryd.results61, go_sem, t0, t1, t2, t3]) rfl ⟨rfl, ?_⟩
    exact ((((T6.out.set 0 _).set 1 _).set 2 _).set 3 _).1.mono zL
end Go.Proofs.YtpkggobhhieeoaaDoor
