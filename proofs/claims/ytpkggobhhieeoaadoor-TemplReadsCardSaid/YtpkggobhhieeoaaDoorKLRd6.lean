/- - -/
import Derived.Test.YtpkggobhhieeoaaDoorKM8
import Derived.Test.YtpkggobhhieeoaaDoorKLRScan
set_option maxRecDepth 100000
set_option maxHeartbeats 32000000
set_option linter.unusedSimpArgs false
set_option linter.unusedVariables false
namespace Go.Proofs.YtpkggobhhieeoaaDoor
open Go.RowKit
theorem signK_7 (l : List Tok) (i : Nat) : signK l 7 i = if isT l i [46] = true then 8 else if isT l i [35] = true then 9 else if isT l i [45, 62] = true then 10 else if isT l i [94] = true then 11 else if isT l i [63] = true then 12 else if isT l i [33, 33] = true then 13 else 0 := by
  unfold signK signsL orT andT
  simp only [List.find?]
  cases h0 : isT l i [46] with
  | true => simp [h0]
  | false =>
  cases h1 : isT l i [35] with
  | true => simp [h0, h1]
  | false =>
  cases h2 : isT l i [45, 62] with
  | true => simp [h0, h1, h2]
  | false =>
  cases h3 : isT l i [94] with
  | true => simp [h0, h1, h2, h3]
  | false =>
  cases h4 : isT l i [63] with
  | true => simp [h0, h1, h2, h3, h4]
  | false =>
  cases h5 : isT l i [33, 33] with
  | true => simp [h0, h1, h2, h3, h4, h5]
  | false =>
  simp [h0, h1, h2, h3, h4, h5]
section
variable {q : Nat} {a : Option Addr} {c sz : Nat} {l : List Tok} {i : Nat} {bad : Int} {es : List (EN × Value)} {X : World}
def PostS (q : Nat) (a : Option Addr) (c sz : Nat) (l : List Tok) (i : Nat) (es : List (EN × Value)) (X : World) (r : PR) (gk g : Nat) (wr : World) : Prop :=
  (∃ (t : Tr) (j : Nat) (es1 : List (EN × Value)), Rep ((es ++ es1).map (·.1)) t g ∧ Below q X wr ∧ RSt q a c sz l j (-1) (es ++ es1) wr ∧ es1.length + i ≤ j ∧ pQ l gk t j = r) ∨
  (∃ (jj i1 : Nat) (es1 : List (EN × Value)), r = .no jj ∧ Below q X wr ∧ RSt q a c sz l i1 (placeAt l sz jj) (es ++ es1) wr ∧ es1.length + i ≤ i1)
theorem rep1 {es es1 : List (EN × Value)} {t : Tr} {g k : Nat} {s : List Nat} {kv : Value} (h : Rep ((es ++ es1).map (·.1)) t g) : Rep ((es ++ (es1 ++ [((⟨k, s, 0, [g]⟩ : EN), kv)])).map (·.1)) (.node k s 0 [t]) (es.length + es1.length) := by
  have e2 : (es ++ (es1 ++ [((⟨k, s, 0, [g]⟩ : EN), kv)])).map (·.1) = (es ++ es1).map (·.1) ++ [⟨k, s, 0, [g]⟩] := by simp [List.append_assoc]
  have e3 : es.length + es1.length = (es ++ es1).length := by simp
  rw [e2, e3]
  have p2 := h.app [⟨k, s, 0, [g]⟩]
  simp only [Rep, Reps]
  exact ⟨[g], by rw [List.getElem?_append_right (by simp)]; simp, g, [], rfl, p2, rfl⟩
theorem ints1' (w : World) (g0 : Nat) (hg : g0 = w.heap.size) (g : Nat) : SlR (w.alloc (.cells #[.int .i64 (g : Int)] 3)) (w.alloc (.cells #[.int .i64 (g : Int)] 3)).heap.size 1 IsNat (.slice (some ⟨g0, 0, none⟩) 1 1) [g] := by
  subst hg
  exact ints1 w g
theorem r_post (f : Nat) (HP : RLevel q a c sz l 85 [] (fun i => pP l f i)) : RLevel q a c sz l 65 [] (fun i => pL l (f + 1) 7 i) := by
  intro i es X h hes hr
  have hr0 : pL l (f + 1) 7 i = (pP l f i).bind fun t j => pQ l f t j := by rw [pL]; rfl
  simp only at hr ⊢
  rw [hr0] at hr ⊢
  obtain ⟨r, hrr⟩ : ∃ r, ((pP l f i).bind fun t j => pQ l f t j) = r := ⟨_, rfl⟩
  rw [hrr] at hr ⊢
  have HES := zH hes
  have HNE := zH hr
  have LQ := zH h.lt
  have HF : Hid (∀ r1, pP l f i = r1 → r1 ≠ .out → Calls Tryd.prog 85 #[.pointer (some ⟨q, 0, none⟩)] X (fun e w' => ∃ g : Nat, e = .returned (.int .i64 (g : Int)) ∧ PostS q a c sz l i es X r f g w')) := zH (fun r1 e1 hne => by
    refine (show Calls Tryd.prog 85 #[.pointer (some ⟨q, 0, none⟩)] X (RReads q a c sz l i es X r1) by rw [← e1]; exact HP i es X h hes (by show pP l f i ≠ .out; rw [e1]; exact hne)).mono fun e w' hR => ?_
    rw [e1] at hrr
    cases r1 with
    | out => exact absurd rfl hne
    | ok t j =>
      obtain ⟨g, es1, he, h1, h2, h3, h4⟩ := hR
      exact ⟨g, he, .inl ⟨t, j, es1, h1, h2, h3, h4, hrr⟩⟩
    | no j =>
      obtain ⟨g, es1, i1, he, h2, h3, h4⟩ := hR
      exact ⟨g, he, .inr ⟨j, i1, es1, hrr.symm, h2, h3, h4⟩⟩)
  have HF1 := zH (HF.out _ rfl (fun e => hr (by rw [← hrr, e]; rfl)))
  clear HP h hes hr hr0 hrr HF
  show Calls _ _ #[.pointer (some ⟨q, 0, none⟩)] _ _
  go_enter Tryd.func65, Tryd.ntmps65
  go_wp2_with (first
    | (go_at_call 85; (with_reducible refine HF1.out.mono ?_); rintro e w1 ⟨g1, rfl, h1⟩; have S1 := zH h1; clear h1))
  clear HF1
  go_loopg [3, 4, 5, 13, 16, 19, 22, 25, 28] f (fun gk v _ _ _ _ _ _ _ _ wr => ∃ g : Nat, gk ≤ f ∧ v = .int .i64 (g : Int) ∧ Hid (PostS q a c sz l i es X r gk g wr))
  case atStart => exact ⟨g1, Nat.le_refl _, rfl, S1⟩
  case round =>
    clear S1
    obtain ⟨g, hgk, rfl, hS⟩ := hrel
    rcases hS.out with ⟨t, j, es1, hrep, hbl, hst, hle, hpr⟩ | ⟨jj, i1, es1, rfl, hbl, hst, hle⟩
    · have hj := hst.le
      have hfew := hst.few
      obtain ⟨f0, f1, f2, f3, f4, f5, f6⟩ := hst.facts
      have j5 : (j : Int) ≤ 5000 := by omega
      have j0 : (0 : Int) ≤ (j : Int) := Int.natCast_nonneg _
      have ST := zH hst
      have BL := zH hbl
      have RP := zH hrep
      have LE := zH hle
      have LJ := zH (And.intro hj hfew)
      clear hS hst hbl hrep hle hj hfew f5
      cases gk with
      | zero =>
        exfalso
        rw [pQ] at hpr
        exact HNE.out hpr.symm
      | succ f1' =>
      rw [pQ, signK_7] at hpr
      have QQ : Hid (Quiet wr wr) := zH (Quiet.refl wr)
      cases h0 : isT l j [46] with
      | true =>
        have hlt : j + 1 ≤ l.length := isT_lt h0
        have HI0 : Hid (∀ Y, Quiet wr Y → Calls Tryd.prog 63 #[.pointer (some ⟨q, 0, none⟩), .string ⟨#[46]⟩] Y fun e w' => e = .returned (.bool true) ∧ Quiet Y w') := zH (fun Y hY => r_is [46] (show ∀ n ∈ ([46] : List Nat), n < 256 by decide) true h0 (ST.out.quiet hY))
        rw [h0] at hpr
        simp only [if_true, show ((8 : Nat) = 0) = False by simp, show ((8 : Nat) = 11) = False by simp] at hpr
        have SS := zH (fun m => (show Below q wr ((wr.drewN m).setCell ⟨q, 1, none⟩ (.int .i64 ((j : Int) + 1))) ∧ RSt q a c sz l (j + 1) (-1) (es ++ es1) ((wr.drewN m).setCell ⟨q, 1, none⟩ (.int .i64 ((j : Int) + 1))) from ⟨(below_drewN (Below.refl q wr) m).setCell (p := ⟨q, 1, none⟩) (Nat.le_refl q) _, (ST.out.quiet ⟨m, rfl⟩).at_ (by go_num) hlt⟩))
        clear h0
        unfold nameAt at hpr
        have LTT := zH hlt
        clear hlt
        by_cases hnm : ∃ tk, l[j + 1]? = some tk ∧ tk.kind = 3
        · obtain ⟨tk, htk, hkd⟩ := hnm
          rw [htk] at hpr
          simp only at hpr
          rw [if_pos hkd] at hpr
          have HR1 := zH hpr
          have HN := zH (fun Y (hY : RSt q a c sz l (j + 1) (-1) (es ++ es1) Y) => r_name_yes htk hkd hY)
          have LEX : Hid (j + 1 ≤ j + 2) := zH (Nat.le_succ _)
          clear hpr htk hkd
          go_wp2_with (first
            | (go_at_call 63; (with_reducible refine (HI0.out _ QQ.out).mono ?_); rintro e w0 ⟨rfl, h1⟩; obtain ⟨nq0, rfl⟩ := h1; clear QQ; have QQ : Hid (Quiet wr (wr.drewN (nq0))) := zH ⟨_, rfl⟩)
            | (go_at_call 86; have SX := zH (SS.out (nq0)); (refine (HN.out _ SX.out.2).mono ?_); rintro e w8 ⟨rfl, h2, h3⟩; have S8 := zH (And.intro (SX.out.1.trans h2) h3); clear h2 h3)
            | (go_at_call 64; (refine (r_add 8 tk.text 0 [g] _ _ _ (ints1 _ g) (by simp) (by have := S8.out.2.le; have := LJ.out; have := LE.out; have := HES.out; simp only [List.length_append]; omega) (S8.out.2.keep (zB.alloc zL _))).mono ?_); rintro e w9 ⟨rfl, h2, kv, h3⟩; have S9 := zH (And.intro h2 h3); clear h2 h3))
          go_roundg f1'
          case measure => omega
          case rel => exact ⟨es.length + es1.length, by omega, by simp, zH (.inl ⟨_, (j + 2), es1 ++ [(⟨8, tk.text, 0, [g]⟩, kv)], rep1 RP.out, (BL.out.trans S8.out.1).trans (((zB.alloc zL _).mono (Nat.le_of_lt S8.out.2.lt)).trans S9.out.1), (by have := S9.out.2; simpa only [List.append_assoc] using this), (by have := LE.out; have := LEX.out; simp only [List.length_append, List.length_cons, List.length_nil]; omega), HR1.out⟩)⟩
        · have hno : r = .no (j + 1) := by
            rw [← hpr]
            cases htk : l[j + 1]? with
            | none => rfl
            | some tk => exact if_neg fun e => hnm ⟨tk, htk, e⟩
          subst hno
          have HN := zH (fun Y (hY : RSt q a c sz l (j + 1) (-1) (es ++ es1) Y) => r_name_no (fun t ht e => hnm ⟨t, ht, e⟩) hY)
          have LEX : Hid (j + 1 ≤ j + 1) := zH zL
          clear hpr hnm
          go_wp2_with (first
            | (go_at_call 63; (with_reducible refine (HI0.out _ QQ.out).mono ?_); rintro e w0 ⟨rfl, h1⟩; obtain ⟨nq0, rfl⟩ := h1; clear QQ; have QQ : Hid (Quiet wr (wr.drewN (nq0))) := zH ⟨_, rfl⟩)
            | (go_at_call 86; have SX := zH (SS.out (nq0)); (refine (HN.out _ SX.out.2).mono ?_); rintro e w8 ⟨rfl, h2, h3⟩; have S8 := zH (And.intro (SX.out.1.trans h2) h3); clear h2 h3)
            | (go_at_call 64; (refine (r_add 8 [] 0 [g] _ _ _ (ints1 _ g) (by simp) (by have := S8.out.2.le; have := LJ.out; have := LE.out; have := HES.out; simp only [List.length_append]; omega) (S8.out.2.keep (zB.alloc zL _))).mono ?_); rintro e w9 ⟨rfl, h2, kv, h3⟩; have S9 := zH (And.intro h2 h3); clear h2 h3))
          go_roundg f1'
          case measure => omega
          case rel => exact ⟨es.length + es1.length, by omega, by simp, zH (.inr ⟨(j + 1), (j + 1), es1 ++ [(⟨8, [], 0, [g]⟩, kv)], rfl, (BL.out.trans S8.out.1).trans (((zB.alloc zL _).mono (Nat.le_of_lt S8.out.2.lt)).trans S9.out.1), (by have := S9.out.2; simpa only [List.append_assoc] using this), (by have := LE.out; have := LEX.out; simp only [List.length_append, List.length_cons, List.length_nil]; omega)⟩)⟩
      | false =>
      have HI0 : Hid (∀ Y, Quiet wr Y → Calls Tryd.prog 63 #[.pointer (some ⟨q, 0, none⟩), .string ⟨#[46]⟩] Y fun e w' => e = .returned (.bool false) ∧ Quiet Y w') := zH (fun Y hY => r_is [46] (show ∀ n ∈ ([46] : List Nat), n < 256 by decide) false h0 (ST.out.quiet hY))
      rw [h0] at hpr
      clear h0
      cases h1 : isT l j [35] with
      | true =>
        have hlt : j + 1 ≤ l.length := isT_lt h1
        have HI1 : Hid (∀ Y, Quiet wr Y → Calls Tryd.prog 63 #[.pointer (some ⟨q, 0, none⟩), .string ⟨#[35]⟩] Y fun e w' => e = .returned (.bool true) ∧ Quiet Y w') := zH (fun Y hY => r_is [35] (show ∀ n ∈ ([35] : List Nat), n < 256 by decide) true h1 (ST.out.quiet hY))
        rw [h1] at hpr
        simp only [Bool.false_eq_true, if_true, if_false, show ((9 : Nat) = 0) = False by simp, show ((9 : Nat) = 11) = False by simp] at hpr
        have SS := zH (fun m => (show Below q wr ((wr.drewN m).setCell ⟨q, 1, none⟩ (.int .i64 ((j : Int) + 1))) ∧ RSt q a c sz l (j + 1) (-1) (es ++ es1) ((wr.drewN m).setCell ⟨q, 1, none⟩ (.int .i64 ((j : Int) + 1))) from ⟨(below_drewN (Below.refl q wr) m).setCell (p := ⟨q, 1, none⟩) (Nat.le_refl q) _, (ST.out.quiet ⟨m, rfl⟩).at_ (by go_num) hlt⟩))
        clear h1
        unfold nameAt at hpr
        have LTT := zH hlt
        clear hlt
        by_cases hnm : ∃ tk, l[j + 1]? = some tk ∧ tk.kind = 3
        · obtain ⟨tk, htk, hkd⟩ := hnm
          rw [htk] at hpr
          simp only at hpr
          rw [if_pos hkd] at hpr
          have HR1 := zH hpr
          have HN := zH (fun Y (hY : RSt q a c sz l (j + 1) (-1) (es ++ es1) Y) => r_name_yes htk hkd hY)
          have LEX : Hid (j + 1 ≤ j + 2) := zH (Nat.le_succ _)
          clear hpr htk hkd
          go_wp2_with (first
            | (go_at_call 63; (with_reducible refine (HI0.out _ QQ.out).mono ?_); rintro e w0 ⟨rfl, h1⟩; obtain ⟨nq0, rfl⟩ := h1; clear QQ; have QQ : Hid (Quiet wr (wr.drewN (nq0))) := zH ⟨_, rfl⟩)
            | (go_at_call 63; (with_reducible refine (HI1.out _ QQ.out).mono ?_); rintro e w1 ⟨rfl, h1⟩; obtain ⟨nq1, rfl⟩ := h1; clear QQ; have QQ : Hid (Quiet wr (wr.drewN (nq0 + nq1))) := zH ⟨_, rfl⟩)
            | (go_at_call 86; have SX := zH (SS.out (nq0 + nq1)); (refine (HN.out _ SX.out.2).mono ?_); rintro e w8 ⟨rfl, h2, h3⟩; have S8 := zH (And.intro (SX.out.1.trans h2) h3); clear h2 h3)
            | (go_at_call 64; (refine (r_add 9 tk.text 0 [g] _ _ _ (ints1 _ g) (by simp) (by have := S8.out.2.le; have := LJ.out; have := LE.out; have := HES.out; simp only [List.length_append]; omega) (S8.out.2.keep (zB.alloc zL _))).mono ?_); rintro e w9 ⟨rfl, h2, kv, h3⟩; have S9 := zH (And.intro h2 h3); clear h2 h3))
          go_roundg f1'
          case measure => omega
          case rel => exact ⟨es.length + es1.length, by omega, by simp, zH (.inl ⟨_, (j + 2), es1 ++ [(⟨9, tk.text, 0, [g]⟩, kv)], rep1 RP.out, (BL.out.trans S8.out.1).trans (((zB.alloc zL _).mono (Nat.le_of_lt S8.out.2.lt)).trans S9.out.1), (by have := S9.out.2; simpa only [List.append_assoc] using this), (by have := LE.out; have := LEX.out; simp only [List.length_append, List.length_cons, List.length_nil]; omega), HR1.out⟩)⟩
        · have hno : r = .no (j + 1) := by
            rw [← hpr]
            cases htk : l[j + 1]? with
            | none => rfl
            | some tk => exact if_neg fun e => hnm ⟨tk, htk, e⟩
          subst hno
          have HN := zH (fun Y (hY : RSt q a c sz l (j + 1) (-1) (es ++ es1) Y) => r_name_no (fun t ht e => hnm ⟨t, ht, e⟩) hY)
          have LEX : Hid (j + 1 ≤ j + 1) := zH zL
          clear hpr hnm
          go_wp2_with (first
            | (go_at_call 63; (with_reducible refine (HI0.out _ QQ.out).mono ?_); rintro e w0 ⟨rfl, h1⟩; obtain ⟨nq0, rfl⟩ := h1; clear QQ; have QQ : Hid (Quiet wr (wr.drewN (nq0))) := zH ⟨_, rfl⟩)
            | (go_at_call 63; (with_reducible refine (HI1.out _ QQ.out).mono ?_); rintro e w1 ⟨rfl, h1⟩; obtain ⟨nq1, rfl⟩ := h1; clear QQ; have QQ : Hid (Quiet wr (wr.drewN (nq0 + nq1))) := zH ⟨_, rfl⟩)
            | (go_at_call 86; have SX := zH (SS.out (nq0 + nq1)); (refine (HN.out _ SX.out.2).mono ?_); rintro e w8 ⟨rfl, h2, h3⟩; have S8 := zH (And.intro (SX.out.1.trans h2) h3); clear h2 h3)
            | (go_at_call 64; (refine (r_add 9 [] 0 [g] _ _ _ (ints1 _ g) (by simp) (by have := S8.out.2.le; have := LJ.out; have := LE.out; have := HES.out; simp only [List.length_append]; omega) (S8.out.2.keep (zB.alloc zL _))).mono ?_); rintro e w9 ⟨rfl, h2, kv, h3⟩; have S9 := zH (And.intro h2 h3); clear h2 h3))
          go_roundg f1'
          case measure => omega
          case rel => exact ⟨es.length + es1.length, by omega, by simp, zH (.inr ⟨(j + 1), (j + 1), es1 ++ [(⟨9, [], 0, [g]⟩, kv)], rfl, (BL.out.trans S8.out.1).trans (((zB.alloc zL _).mono (Nat.le_of_lt S8.out.2.lt)).trans S9.out.1), (by have := S9.out.2; simpa only [List.append_assoc] using this), (by have := LE.out; have := LEX.out; simp only [List.length_append, List.length_cons, List.length_nil]; omega)⟩)⟩
      | false =>
      have HI1 : Hid (∀ Y, Quiet wr Y → Calls Tryd.prog 63 #[.pointer (some ⟨q, 0, none⟩), .string ⟨#[35]⟩] Y fun e w' => e = .returned (.bool false) ∧ Quiet Y w') := zH (fun Y hY => r_is [35] (show ∀ n ∈ ([35] : List Nat), n < 256 by decide) false h1 (ST.out.quiet hY))
      rw [h1] at hpr
      clear h1
      cases h2 : isT l j [45, 62] with
      | true =>
        have hlt : j + 1 ≤ l.length := isT_lt h2
        have HI2 : Hid (∀ Y, Quiet wr Y → Calls Tryd.prog 63 #[.pointer (some ⟨q, 0, none⟩), .string ⟨#[45, 62]⟩] Y fun e w' => e = .returned (.bool true) ∧ Quiet Y w') := zH (fun Y hY => r_is [45, 62] (show ∀ n ∈ ([45, 62] : List Nat), n < 256 by decide) true h2 (ST.out.quiet hY))
        rw [h2] at hpr
        simp only [Bool.false_eq_true, if_true, if_false, show ((10 : Nat) = 0) = False by simp, show ((10 : Nat) = 11) = False by simp] at hpr
        have SS := zH (fun m => (show Below q wr ((wr.drewN m).setCell ⟨q, 1, none⟩ (.int .i64 ((j : Int) + 1))) ∧ RSt q a c sz l (j + 1) (-1) (es ++ es1) ((wr.drewN m).setCell ⟨q, 1, none⟩ (.int .i64 ((j : Int) + 1))) from ⟨(below_drewN (Below.refl q wr) m).setCell (p := ⟨q, 1, none⟩) (Nat.le_refl q) _, (ST.out.quiet ⟨m, rfl⟩).at_ (by go_num) hlt⟩))
        clear h2
        unfold nameAt at hpr
        have LTT := zH hlt
        clear hlt
        by_cases hnm : ∃ tk, l[j + 1]? = some tk ∧ tk.kind = 3
        · obtain ⟨tk, htk, hkd⟩ := hnm
          rw [htk] at hpr
          simp only at hpr
          rw [if_pos hkd] at hpr
          have HR1 := zH hpr
          have HN := zH (fun Y (hY : RSt q a c sz l (j + 1) (-1) (es ++ es1) Y) => r_name_yes htk hkd hY)
          have LEX : Hid (j + 1 ≤ j + 2) := zH (Nat.le_succ _)
          clear hpr htk hkd
          go_wp2_with (first
            | (go_at_call 63; (with_reducible refine (HI0.out _ QQ.out).mono ?_); rintro e w0 ⟨rfl, h1⟩; obtain ⟨nq0, rfl⟩ := h1; clear QQ; have QQ : Hid (Quiet wr (wr.drewN (nq0))) := zH ⟨_, rfl⟩)
            | (go_at_call 63; (with_reducible refine (HI1.out _ QQ.out).mono ?_); rintro e w1 ⟨rfl, h1⟩; obtain ⟨nq1, rfl⟩ := h1; clear QQ; have QQ : Hid (Quiet wr (wr.drewN (nq0 + nq1))) := zH ⟨_, rfl⟩)
            | (go_at_call 63; (with_reducible refine (HI2.out _ QQ.out).mono ?_); rintro e w2 ⟨rfl, h1⟩; obtain ⟨nq2, rfl⟩ := h1; clear QQ; have QQ : Hid (Quiet wr (wr.drewN (nq0 + nq1 + nq2))) := zH ⟨_, rfl⟩)
            | (go_at_call 86; have SX := zH (SS.out (nq0 + nq1 + nq2)); (refine (HN.out _ SX.out.2).mono ?_); rintro e w8 ⟨rfl, h2, h3⟩; have S8 := zH (And.intro (SX.out.1.trans h2) h3); clear h2 h3)
            | (go_at_call 64; (refine (r_add 10 tk.text 0 [g] _ _ _ (ints1 _ g) (by simp) (by have := S8.out.2.le; have := LJ.out; have := LE.out; have := HES.out; simp only [List.length_append]; omega) (S8.out.2.keep (zB.alloc zL _))).mono ?_); rintro e w9 ⟨rfl, h2, kv, h3⟩; have S9 := zH (And.intro h2 h3); clear h2 h3))
          go_roundg f1'
          case measure => omega
          case rel => exact ⟨es.length + es1.length, by omega, by simp, zH (.inl ⟨_, (j + 2), es1 ++ [(⟨10, tk.text, 0, [g]⟩, kv)], rep1 RP.out, (BL.out.trans S8.out.1).trans (((zB.alloc zL _).mono (Nat.le_of_lt S8.out.2.lt)).trans S9.out.1), (by have := S9.out.2; simpa only [List.append_assoc] using this), (by have := LE.out; have := LEX.out; simp only [List.length_append, List.length_cons, List.length_nil]; omega), HR1.out⟩)⟩
        · have hno : r = .no (j + 1) := by
            rw [← hpr]
            cases htk : l[j + 1]? with
            | none => rfl
            | some tk => exact if_neg fun e => hnm ⟨tk, htk, e⟩
          subst hno
          have HN := zH (fun Y (hY : RSt q a c sz l (j + 1) (-1) (es ++ es1) Y) => r_name_no (fun t ht e => hnm ⟨t, ht, e⟩) hY)
          have LEX : Hid (j + 1 ≤ j + 1) := zH zL
          clear hpr hnm
          go_wp2_with (first
            | (go_at_call 63; (with_reducible refine (HI0.out _ QQ.out).mono ?_); rintro e w0 ⟨rfl, h1⟩; obtain ⟨nq0, rfl⟩ := h1; clear QQ; have QQ : Hid (Quiet wr (wr.drewN (nq0))) := zH ⟨_, rfl⟩)
            | (go_at_call 63; (with_reducible refine (HI1.out _ QQ.out).mono ?_); rintro e w1 ⟨rfl, h1⟩; obtain ⟨nq1, rfl⟩ := h1; clear QQ; have QQ : Hid (Quiet wr (wr.drewN (nq0 + nq1))) := zH ⟨_, rfl⟩)
            | (go_at_call 63; (with_reducible refine (HI2.out _ QQ.out).mono ?_); rintro e w2 ⟨rfl, h1⟩; obtain ⟨nq2, rfl⟩ := h1; clear QQ; have QQ : Hid (Quiet wr (wr.drewN (nq0 + nq1 + nq2))) := zH ⟨_, rfl⟩)
            | (go_at_call 86; have SX := zH (SS.out (nq0 + nq1 + nq2)); (refine (HN.out _ SX.out.2).mono ?_); rintro e w8 ⟨rfl, h2, h3⟩; have S8 := zH (And.intro (SX.out.1.trans h2) h3); clear h2 h3)
            | (go_at_call 64; (refine (r_add 10 [] 0 [g] _ _ _ (ints1 _ g) (by simp) (by have := S8.out.2.le; have := LJ.out; have := LE.out; have := HES.out; simp only [List.length_append]; omega) (S8.out.2.keep (zB.alloc zL _))).mono ?_); rintro e w9 ⟨rfl, h2, kv, h3⟩; have S9 := zH (And.intro h2 h3); clear h2 h3))
          go_roundg f1'
          case measure => omega
          case rel => exact ⟨es.length + es1.length, by omega, by simp, zH (.inr ⟨(j + 1), (j + 1), es1 ++ [(⟨10, [], 0, [g]⟩, kv)], rfl, (BL.out.trans S8.out.1).trans (((zB.alloc zL _).mono (Nat.le_of_lt S8.out.2.lt)).trans S9.out.1), (by have := S9.out.2; simpa only [List.append_assoc] using this), (by have := LE.out; have := LEX.out; simp only [List.length_append, List.length_cons, List.length_nil]; omega)⟩)⟩
      | false =>
      have HI2 : Hid (∀ Y, Quiet wr Y → Calls Tryd.prog 63 #[.pointer (some ⟨q, 0, none⟩), .string ⟨#[45, 62]⟩] Y fun e w' => e = .returned (.bool false) ∧ Quiet Y w') := zH (fun Y hY => r_is [45, 62] (show ∀ n ∈ ([45, 62] : List Nat), n < 256 by decide) false h2 (ST.out.quiet hY))
      rw [h2] at hpr
      clear h2
      cases h3 : isT l j [94] with
      | true =>
        have hlt : j + 1 ≤ l.length := isT_lt h3
        have HI3 : Hid (∀ Y, Quiet wr Y → Calls Tryd.prog 63 #[.pointer (some ⟨q, 0, none⟩), .string ⟨#[94]⟩] Y fun e w' => e = .returned (.bool true) ∧ Quiet Y w') := zH (fun Y hY => r_is [94] (show ∀ n ∈ ([94] : List Nat), n < 256 by decide) true h3 (ST.out.quiet hY))
        rw [h3] at hpr
        simp only [Bool.false_eq_true, if_true, if_false, show ((11 : Nat) = 0) = False by simp, show ((11 : Nat) = 11) = True by simp] at hpr
        have SS := zH (fun m => (show Below q wr ((wr.drewN m).setCell ⟨q, 1, none⟩ (.int .i64 ((j : Int) + 1))) ∧ RSt q a c sz l (j + 1) (-1) (es ++ es1) ((wr.drewN m).setCell ⟨q, 1, none⟩ (.int .i64 ((j : Int) + 1))) from ⟨(below_drewN (Below.refl q wr) m).setCell (p := ⟨q, 1, none⟩) (Nat.le_refl q) _, (ST.out.quiet ⟨m, rfl⟩).at_ (by go_num) hlt⟩))
        clear h3
        have HR1 := zH hpr
        have LEX : Hid (j + 1 ≤ j + 1) := zH zL
        have LTT := zH hlt
        clear hpr hlt
        go_wp2_with (first
          | (go_at_call 63; (with_reducible refine (HI0.out _ QQ.out).mono ?_); rintro e w0 ⟨rfl, h1⟩; obtain ⟨nq0, rfl⟩ := h1; clear QQ; have QQ : Hid (Quiet wr (wr.drewN (nq0))) := zH ⟨_, rfl⟩)
          | (go_at_call 63; (with_reducible refine (HI1.out _ QQ.out).mono ?_); rintro e w1 ⟨rfl, h1⟩; obtain ⟨nq1, rfl⟩ := h1; clear QQ; have QQ : Hid (Quiet wr (wr.drewN (nq0 + nq1))) := zH ⟨_, rfl⟩)
          | (go_at_call 63; (with_reducible refine (HI2.out _ QQ.out).mono ?_); rintro e w2 ⟨rfl, h1⟩; obtain ⟨nq2, rfl⟩ := h1; clear QQ; have QQ : Hid (Quiet wr (wr.drewN (nq0 + nq1 + nq2))) := zH ⟨_, rfl⟩)
          | (go_at_call 63; (with_reducible refine (HI3.out _ QQ.out).mono ?_); rintro e w3 ⟨rfl, h1⟩; obtain ⟨nq3, rfl⟩ := h1; clear QQ; have QQ : Hid (Quiet wr (wr.drewN (nq0 + nq1 + nq2 + nq3))) := zH ⟨_, rfl⟩)
          | (go_at_call 64; have SX := zH (SS.out (nq0 + nq1 + nq2 + nq3)); (refine (r_add 11 [] 0 [g] _ _ _ (ints1' ((wr.drewN (nq0 + nq1 + nq2 + nq3)).setCell ⟨q, 1, none⟩ (.int .i64 ((j : Int) + 1))) wr.heap.size (by rw [World.size_setCell]; rfl) g) (by simp) (by have := LTT.out; have := LJ.out; have := LE.out; have := HES.out; simp only [List.length_append]; omega) (SX.out.2.keep (zB.alloc zL _))).mono ?_); rintro e w9 ⟨rfl, h2, kv, h3⟩; have S9 := zH (And.intro h2 h3); clear h2 h3))
        go_roundg f1'
        case measure => omega
        case rel => exact ⟨es.length + es1.length, by omega, by simp, zH (.inl ⟨_, (j + 1), es1 ++ [(⟨11, [], 0, [g]⟩, kv)], rep1 RP.out, (BL.out.trans SX.out.1).trans (((zB.alloc zL _).mono (Nat.le_of_lt SX.out.2.lt)).trans S9.out.1), (by have := S9.out.2; simpa only [List.append_assoc] using this), (by have := LE.out; have := LEX.out; simp only [List.length_append, List.length_cons, List.length_nil]; omega), HR1.out⟩)⟩
      | false =>
      have HI3 : Hid (∀ Y, Quiet wr Y → Calls Tryd.prog 63 #[.pointer (some ⟨q, 0, none⟩), .string ⟨#[94]⟩] Y fun e w' => e = .returned (.bool false) ∧ Quiet Y w') := zH (fun Y hY => r_is [94] (show ∀ n ∈ ([94] : List Nat), n < 256 by decide) false h3 (ST.out.quiet hY))
      rw [h3] at hpr
      clear h3
      cases h4 : isT l j [63] with
      | true =>
        have hlt : j + 1 ≤ l.length := isT_lt h4
        have HI4 : Hid (∀ Y, Quiet wr Y → Calls Tryd.prog 63 #[.pointer (some ⟨q, 0, none⟩), .string ⟨#[63]⟩] Y fun e w' => e = .returned (.bool true) ∧ Quiet Y w') := zH (fun Y hY => r_is [63] (show ∀ n ∈ ([63] : List Nat), n < 256 by decide) true h4 (ST.out.quiet hY))
        rw [h4] at hpr
        simp only [Bool.false_eq_true, if_true, if_false, show ((12 : Nat) = 0) = False by simp, show ((12 : Nat) = 11) = False by simp] at hpr
        have SS := zH (fun m => (show Below q wr ((wr.drewN m).setCell ⟨q, 1, none⟩ (.int .i64 ((j : Int) + 1))) ∧ RSt q a c sz l (j + 1) (-1) (es ++ es1) ((wr.drewN m).setCell ⟨q, 1, none⟩ (.int .i64 ((j : Int) + 1))) from ⟨(below_drewN (Below.refl q wr) m).setCell (p := ⟨q, 1, none⟩) (Nat.le_refl q) _, (ST.out.quiet ⟨m, rfl⟩).at_ (by go_num) hlt⟩))
        clear h4
        unfold nameAt at hpr
        have LTT := zH hlt
        clear hlt
        by_cases hnm : ∃ tk, l[j + 1]? = some tk ∧ tk.kind = 3
        · obtain ⟨tk, htk, hkd⟩ := hnm
          rw [htk] at hpr
          simp only at hpr
          rw [if_pos hkd] at hpr
          have HR1 := zH hpr
          have HN := zH (fun Y (hY : RSt q a c sz l (j + 1) (-1) (es ++ es1) Y) => r_name_yes htk hkd hY)
          have LEX : Hid (j + 1 ≤ j + 2) := zH (Nat.le_succ _)
          clear hpr htk hkd
          go_wp2_with (first
            | (go_at_call 63; (with_reducible refine (HI0.out _ QQ.out).mono ?_); rintro e w0 ⟨rfl, h1⟩; obtain ⟨nq0, rfl⟩ := h1; clear QQ; have QQ : Hid (Quiet wr (wr.drewN (nq0))) := zH ⟨_, rfl⟩)
            | (go_at_call 63; (with_reducible refine (HI1.out _ QQ.out).mono ?_); rintro e w1 ⟨rfl, h1⟩; obtain ⟨nq1, rfl⟩ := h1; clear QQ; have QQ : Hid (Quiet wr (wr.drewN (nq0 + nq1))) := zH ⟨_, rfl⟩)
            | (go_at_call 63; (with_reducible refine (HI2.out _ QQ.out).mono ?_); rintro e w2 ⟨rfl, h1⟩; obtain ⟨nq2, rfl⟩ := h1; clear QQ; have QQ : Hid (Quiet wr (wr.drewN (nq0 + nq1 + nq2))) := zH ⟨_, rfl⟩)
            | (go_at_call 63; (with_reducible refine (HI3.out _ QQ.out).mono ?_); rintro e w3 ⟨rfl, h1⟩; obtain ⟨nq3, rfl⟩ := h1; clear QQ; have QQ : Hid (Quiet wr (wr.drewN (nq0 + nq1 + nq2 + nq3))) := zH ⟨_, rfl⟩)
            | (go_at_call 63; (with_reducible refine (HI4.out _ QQ.out).mono ?_); rintro e w4 ⟨rfl, h1⟩; obtain ⟨nq4, rfl⟩ := h1; clear QQ; have QQ : Hid (Quiet wr (wr.drewN (nq0 + nq1 + nq2 + nq3 + nq4))) := zH ⟨_, rfl⟩)
            | (go_at_call 86; have SX := zH (SS.out (nq0 + nq1 + nq2 + nq3 + nq4)); (refine (HN.out _ SX.out.2).mono ?_); rintro e w8 ⟨rfl, h2, h3⟩; have S8 := zH (And.intro (SX.out.1.trans h2) h3); clear h2 h3)
            | (go_at_call 64; (refine (r_add 12 tk.text 0 [g] _ _ _ (ints1 _ g) (by simp) (by have := S8.out.2.le; have := LJ.out; have := LE.out; have := HES.out; simp only [List.length_append]; omega) (S8.out.2.keep (zB.alloc zL _))).mono ?_); rintro e w9 ⟨rfl, h2, kv, h3⟩; have S9 := zH (And.intro h2 h3); clear h2 h3))
          go_roundg f1'
          case measure => omega
          case rel => exact ⟨es.length + es1.length, by omega, by simp, zH (.inl ⟨_, (j + 2), es1 ++ [(⟨12, tk.text, 0, [g]⟩, kv)], rep1 RP.out, (BL.out.trans S8.out.1).trans (((zB.alloc zL _).mono (Nat.le_of_lt S8.out.2.lt)).trans S9.out.1), (by have := S9.out.2; simpa only [List.append_assoc] using this), (by have := LE.out; have := LEX.out; simp only [List.length_append, List.length_cons, List.length_nil]; omega), HR1.out⟩)⟩
        · have hno : r = .no (j + 1) := by
            rw [← hpr]
            cases htk : l[j + 1]? with
            | none => rfl
            | some tk => exact if_neg fun e => hnm ⟨tk, htk, e⟩
          subst hno
          have HN := zH (fun Y (hY : RSt q a c sz l (j + 1) (-1) (es ++ es1) Y) => r_name_no (fun t ht e => hnm ⟨t, ht, e⟩) hY)
          have LEX : Hid (j + 1 ≤ j + 1) := zH zL
          clear hpr hnm
          go_wp2_with (first
            | (go_at_call 63; (with_reducible refine (HI0.out _ QQ.out).mono ?_); rintro e w0 ⟨rfl, h1⟩; obtain ⟨nq0, rfl⟩ := h1; clear QQ; have QQ : Hid (Quiet wr (wr.drewN (nq0))) := zH ⟨_, rfl⟩)
            | (go_at_call 63; (with_reducible refine (HI1.out _ QQ.out).mono ?_); rintro e w1 ⟨rfl, h1⟩; obtain ⟨nq1, rfl⟩ := h1; clear QQ; have QQ : Hid (Quiet wr (wr.drewN (nq0 + nq1))) := zH ⟨_, rfl⟩)
            | (go_at_call 63; (with_reducible refine (HI2.out _ QQ.out).mono ?_); rintro e w2 ⟨rfl, h1⟩; obtain ⟨nq2, rfl⟩ := h1; clear QQ; have QQ : Hid (Quiet wr (wr.drewN (nq0 + nq1 + nq2))) := zH ⟨_, rfl⟩)
            | (go_at_call 63; (with_reducible refine (HI3.out _ QQ.out).mono ?_); rintro e w3 ⟨rfl, h1⟩; obtain ⟨nq3, rfl⟩ := h1; clear QQ; have QQ : Hid (Quiet wr (wr.drewN (nq0 + nq1 + nq2 + nq3))) := zH ⟨_, rfl⟩)
            | (go_at_call 63; (with_reducible refine (HI4.out _ QQ.out).mono ?_); rintro e w4 ⟨rfl, h1⟩; obtain ⟨nq4, rfl⟩ := h1; clear QQ; have QQ : Hid (Quiet wr (wr.drewN (nq0 + nq1 + nq2 + nq3 + nq4))) := zH ⟨_, rfl⟩)
            | (go_at_call 86; have SX := zH (SS.out (nq0 + nq1 + nq2 + nq3 + nq4)); (refine (HN.out _ SX.out.2).mono ?_); rintro e w8 ⟨rfl, h2, h3⟩; have S8 := zH (And.intro (SX.out.1.trans h2) h3); clear h2 h3)
            | (go_at_call 64; (refine (r_add 12 [] 0 [g] _ _ _ (ints1 _ g) (by simp) (by have := S8.out.2.le; have := LJ.out; have := LE.out; have := HES.out; simp only [List.length_append]; omega) (S8.out.2.keep (zB.alloc zL _))).mono ?_); rintro e w9 ⟨rfl, h2, kv, h3⟩; have S9 := zH (And.intro h2 h3); clear h2 h3))
          go_roundg f1'
          case measure => omega
          case rel => exact ⟨es.length + es1.length, by omega, by simp, zH (.inr ⟨(j + 1), (j + 1), es1 ++ [(⟨12, [], 0, [g]⟩, kv)], rfl, (BL.out.trans S8.out.1).trans (((zB.alloc zL _).mono (Nat.le_of_lt S8.out.2.lt)).trans S9.out.1), (by have := S9.out.2; simpa only [List.append_assoc] using this), (by have := LE.out; have := LEX.out; simp only [List.length_append, List.length_cons, List.length_nil]; omega)⟩)⟩
      | false =>
      have HI4 : Hid (∀ Y, Quiet wr Y → Calls Tryd.prog 63 #[.pointer (some ⟨q, 0, none⟩), .string ⟨#[63]⟩] Y fun e w' => e = .returned (.bool false) ∧ Quiet Y w') := zH (fun Y hY => r_is [63] (show ∀ n ∈ ([63] : List Nat), n < 256 by decide) false h4 (ST.out.quiet hY))
      rw [h4] at hpr
      clear h4
      cases h5 : isT l j [33, 33] with
      | true =>
        have hlt : j + 1 ≤ l.length := isT_lt h5
        have HI5 : Hid (∀ Y, Quiet wr Y → Calls Tryd.prog 63 #[.pointer (some ⟨q, 0, none⟩), .string ⟨#[33, 33]⟩] Y fun e w' => e = .returned (.bool true) ∧ Quiet Y w') := zH (fun Y hY => r_is [33, 33] (show ∀ n ∈ ([33, 33] : List Nat), n < 256 by decide) true h5 (ST.out.quiet hY))
        rw [h5] at hpr
        simp only [Bool.false_eq_true, if_true, if_false, show ((13 : Nat) = 0) = False by simp, show ((13 : Nat) = 11) = False by simp] at hpr
        have SS := zH (fun m => (show Below q wr ((wr.drewN m).setCell ⟨q, 1, none⟩ (.int .i64 ((j : Int) + 1))) ∧ RSt q a c sz l (j + 1) (-1) (es ++ es1) ((wr.drewN m).setCell ⟨q, 1, none⟩ (.int .i64 ((j : Int) + 1))) from ⟨(below_drewN (Below.refl q wr) m).setCell (p := ⟨q, 1, none⟩) (Nat.le_refl q) _, (ST.out.quiet ⟨m, rfl⟩).at_ (by go_num) hlt⟩))
        clear h5
        unfold nameAt at hpr
        have LTT := zH hlt
        clear hlt
        by_cases hnm : ∃ tk, l[j + 1]? = some tk ∧ tk.kind = 3
        · obtain ⟨tk, htk, hkd⟩ := hnm
          rw [htk] at hpr
          simp only at hpr
          rw [if_pos hkd] at hpr
          have HR1 := zH hpr
          have HN := zH (fun Y (hY : RSt q a c sz l (j + 1) (-1) (es ++ es1) Y) => r_name_yes htk hkd hY)
          have LEX : Hid (j + 1 ≤ j + 2) := zH (Nat.le_succ _)
          clear hpr htk hkd
          go_wp2_with (first
            | (go_at_call 63; (with_reducible refine (HI0.out _ QQ.out).mono ?_); rintro e w0 ⟨rfl, h1⟩; obtain ⟨nq0, rfl⟩ := h1; clear QQ; have QQ : Hid (Quiet wr (wr.drewN (nq0))) := zH ⟨_, rfl⟩)
            | (go_at_call 63; (with_reducible refine (HI1.out _ QQ.out).mono ?_); rintro e w1 ⟨rfl, h1⟩; obtain ⟨nq1, rfl⟩ := h1; clear QQ; have QQ : Hid (Quiet wr (wr.drewN (nq0 + nq1))) := zH ⟨_, rfl⟩)
            | (go_at_call 63; (with_reducible refine (HI2.out _ QQ.out).mono ?_); rintro e w2 ⟨rfl, h1⟩; obtain ⟨nq2, rfl⟩ := h1; clear QQ; have QQ : Hid (Quiet wr (wr.drewN (nq0 + nq1 + nq2))) := zH ⟨_, rfl⟩)
            | (go_at_call 63; (with_reducible refine (HI3.out _ QQ.out).mono ?_); rintro e w3 ⟨rfl, h1⟩; obtain ⟨nq3, rfl⟩ := h1; clear QQ; have QQ : Hid (Quiet wr (wr.drewN (nq0 + nq1 + nq2 + nq3))) := zH ⟨_, rfl⟩)
            | (go_at_call 63; (with_reducible refine (HI4.out _ QQ.out).mono ?_); rintro e w4 ⟨rfl, h1⟩; obtain ⟨nq4, rfl⟩ := h1; clear QQ; have QQ : Hid (Quiet wr (wr.drewN (nq0 + nq1 + nq2 + nq3 + nq4))) := zH ⟨_, rfl⟩)
            | (go_at_call 63; (with_reducible refine (HI5.out _ QQ.out).mono ?_); rintro e w5 ⟨rfl, h1⟩; obtain ⟨nq5, rfl⟩ := h1; clear QQ; have QQ : Hid (Quiet wr (wr.drewN (nq0 + nq1 + nq2 + nq3 + nq4 + nq5))) := zH ⟨_, rfl⟩)
            | (go_at_call 86; have SX := zH (SS.out (nq0 + nq1 + nq2 + nq3 + nq4 + nq5)); (refine (HN.out _ SX.out.2).mono ?_); rintro e w8 ⟨rfl, h2, h3⟩; have S8 := zH (And.intro (SX.out.1.trans h2) h3); clear h2 h3)
            | (go_at_call 64; (refine (r_add 13 tk.text 0 [g] _ _ _ (ints1 _ g) (by simp) (by have := S8.out.2.le; have := LJ.out; have := LE.out; have := HES.out; simp only [List.length_append]; omega) (S8.out.2.keep (zB.alloc zL _))).mono ?_); rintro e w9 ⟨rfl, h2, kv, h3⟩; have S9 := zH (And.intro h2 h3); clear h2 h3))
          go_roundg f1'
          case measure => omega
          case rel => exact ⟨es.length + es1.length, by omega, by simp, zH (.inl ⟨_, (j + 2), es1 ++ [(⟨13, tk.text, 0, [g]⟩, kv)], rep1 RP.out, (BL.out.trans S8.out.1).trans (((zB.alloc zL _).mono (Nat.le_of_lt S8.out.2.lt)).trans S9.out.1), (by have := S9.out.2; simpa only [List.append_assoc] using this), (by have := LE.out; have := LEX.out; simp only [List.length_append, List.length_cons, List.length_nil]; omega), HR1.out⟩)⟩
        · have hno : r = .no (j + 1) := by
            rw [← hpr]
            cases htk : l[j + 1]? with
            | none => rfl
            | some tk => exact if_neg fun e => hnm ⟨tk, htk, e⟩
          subst hno
          have HN := zH (fun Y (hY : RSt q a c sz l (j + 1) (-1) (es ++ es1) Y) => r_name_no (fun t ht e => hnm ⟨t, ht, e⟩) hY)
          have LEX : Hid (j + 1 ≤ j + 1) := zH zL
          clear hpr hnm
          go_wp2_with (first
            | (go_at_call 63; (with_reducible refine (HI0.out _ QQ.out).mono ?_); rintro e w0 ⟨rfl, h1⟩; obtain ⟨nq0, rfl⟩ := h1; clear QQ; have QQ : Hid (Quiet wr (wr.drewN (nq0))) := zH ⟨_, rfl⟩)
            | (go_at_call 63; (with_reducible refine (HI1.out _ QQ.out).mono ?_); rintro e w1 ⟨rfl, h1⟩; obtain ⟨nq1, rfl⟩ := h1; clear QQ; have QQ : Hid (Quiet wr (wr.drewN (nq0 + nq1))) := zH ⟨_, rfl⟩)
            | (go_at_call 63; (with_reducible refine (HI2.out _ QQ.out).mono ?_); rintro e w2 ⟨rfl, h1⟩; obtain ⟨nq2, rfl⟩ := h1; clear QQ; have QQ : Hid (Quiet wr (wr.drewN (nq0 + nq1 + nq2))) := zH ⟨_, rfl⟩)
            | (go_at_call 63; (with_reducible refine (HI3.out _ QQ.out).mono ?_); rintro e w3 ⟨rfl, h1⟩; obtain ⟨nq3, rfl⟩ := h1; clear QQ; have QQ : Hid (Quiet wr (wr.drewN (nq0 + nq1 + nq2 + nq3))) := zH ⟨_, rfl⟩)
            | (go_at_call 63; (with_reducible refine (HI4.out _ QQ.out).mono ?_); rintro e w4 ⟨rfl, h1⟩; obtain ⟨nq4, rfl⟩ := h1; clear QQ; have QQ : Hid (Quiet wr (wr.drewN (nq0 + nq1 + nq2 + nq3 + nq4))) := zH ⟨_, rfl⟩)
            | (go_at_call 63; (with_reducible refine (HI5.out _ QQ.out).mono ?_); rintro e w5 ⟨rfl, h1⟩; obtain ⟨nq5, rfl⟩ := h1; clear QQ; have QQ : Hid (Quiet wr (wr.drewN (nq0 + nq1 + nq2 + nq3 + nq4 + nq5))) := zH ⟨_, rfl⟩)
            | (go_at_call 86; have SX := zH (SS.out (nq0 + nq1 + nq2 + nq3 + nq4 + nq5)); (refine (HN.out _ SX.out.2).mono ?_); rintro e w8 ⟨rfl, h2, h3⟩; have S8 := zH (And.intro (SX.out.1.trans h2) h3); clear h2 h3)
            | (go_at_call 64; (refine (r_add 13 [] 0 [g] _ _ _ (ints1 _ g) (by simp) (by have := S8.out.2.le; have := LJ.out; have := LE.out; have := HES.out; simp only [List.length_append]; omega) (S8.out.2.keep (zB.alloc zL _))).mono ?_); rintro e w9 ⟨rfl, h2, kv, h3⟩; have S9 := zH (And.intro h2 h3); clear h2 h3))
          go_roundg f1'
          case measure => omega
          case rel => exact ⟨es.length + es1.length, by omega, by simp, zH (.inr ⟨(j + 1), (j + 1), es1 ++ [(⟨13, [], 0, [g]⟩, kv)], rfl, (BL.out.trans S8.out.1).trans (((zB.alloc zL _).mono (Nat.le_of_lt S8.out.2.lt)).trans S9.out.1), (by have := S9.out.2; simpa only [List.append_assoc] using this), (by have := LE.out; have := LEX.out; simp only [List.length_append, List.length_cons, List.length_nil]; omega)⟩)⟩
      | false =>
      have HI5 : Hid (∀ Y, Quiet wr Y → Calls Tryd.prog 63 #[.pointer (some ⟨q, 0, none⟩), .string ⟨#[33, 33]⟩] Y fun e w' => e = .returned (.bool false) ∧ Quiet Y w') := zH (fun Y hY => r_is [33, 33] (show ∀ n ∈ ([33, 33] : List Nat), n < 256 by decide) false h5 (ST.out.quiet hY))
      rw [h5] at hpr
      clear h5
      simp only [Bool.false_eq_true, if_false, if_true] at hpr
      subst hpr
      go_wp2_with (first
        | (go_at_call 63; (with_reducible refine (HI0.out _ QQ.out).mono ?_); rintro e w0 ⟨rfl, h1⟩; obtain ⟨nq0, rfl⟩ := h1; clear QQ; have QQ : Hid (Quiet wr (wr.drewN (nq0))) := zH ⟨_, rfl⟩)
        | (go_at_call 63; (with_reducible refine (HI1.out _ QQ.out).mono ?_); rintro e w1 ⟨rfl, h1⟩; obtain ⟨nq1, rfl⟩ := h1; clear QQ; have QQ : Hid (Quiet wr (wr.drewN (nq0 + nq1))) := zH ⟨_, rfl⟩)
        | (go_at_call 63; (with_reducible refine (HI2.out _ QQ.out).mono ?_); rintro e w2 ⟨rfl, h1⟩; obtain ⟨nq2, rfl⟩ := h1; clear QQ; have QQ : Hid (Quiet wr (wr.drewN (nq0 + nq1 + nq2))) := zH ⟨_, rfl⟩)
        | (go_at_call 63; (with_reducible refine (HI3.out _ QQ.out).mono ?_); rintro e w3 ⟨rfl, h1⟩; obtain ⟨nq3, rfl⟩ := h1; clear QQ; have QQ : Hid (Quiet wr (wr.drewN (nq0 + nq1 + nq2 + nq3))) := zH ⟨_, rfl⟩)
        | (go_at_call 63; (with_reducible refine (HI4.out _ QQ.out).mono ?_); rintro e w4 ⟨rfl, h1⟩; obtain ⟨nq4, rfl⟩ := h1; clear QQ; have QQ : Hid (Quiet wr (wr.drewN (nq0 + nq1 + nq2 + nq3 + nq4))) := zH ⟨_, rfl⟩)
        | (go_at_call 63; (with_reducible refine (HI5.out _ QQ.out).mono ?_); rintro e w5 ⟨rfl, h1⟩; obtain ⟨nq5, rfl⟩ := h1; clear QQ; have QQ : Hid (Quiet wr (wr.drewN (nq0 + nq1 + nq2 + nq3 + nq4 + nq5))) := zH ⟨_, rfl⟩))
      go_ret
      exact ⟨g, es1, rfl, RP.out, BL.out.trans (QQ.out.below q), ST.out.quiet QQ.out, LE.out⟩
    · obtain ⟨f0, f1, f2, f3, f4, f5, f6⟩ := hst.facts
      have hnn := hst.placeAt_nn jj
      obtain ⟨pv, hpv⟩ : ∃ z, placeAt l sz jj = z := ⟨_, rfl⟩
      rw [hpv] at f3 hnn
      have d0 : decide (pv < 0) = false := by simp; omega
      have ST := zH hst
      have BL := zH hbl
      have LE := zH hle
      clear hS hst hbl hle f4 f5 hpv
      go_wp2_with fail
      go_ret
      exact ⟨g, es1, i1, rfl, BL.out, ST.out, LE.out⟩
end
end Go.Proofs.YtpkggobhhieeoaaDoor
