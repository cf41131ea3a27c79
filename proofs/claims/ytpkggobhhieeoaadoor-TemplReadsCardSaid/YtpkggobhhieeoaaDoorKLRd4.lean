/- - -/
import Derived.Test.YtpkggobhhieeoaaDoorKM10
import Derived.Test.YtpkggobhhieeoaaDoorKLRd3
set_option maxRecDepth 100000
set_option maxHeartbeats 32000000
set_option linter.unusedSimpArgs false
set_option linter.unusedVariables false
namespace Go.Proofs.YtpkggobhhieeoaaDoor
open Go.RowKit
theorem ints1 (w : World) (g1 : Nat) : SlR (w.alloc (.cells #[.int .i64 (g1 : Int)] 3)) (w.alloc (.cells #[.int .i64 (g1 : Int)] 3)).heap.size 1 IsNat (.slice (some ⟨w.heap.size, 0, none⟩) 1 1) [g1] := by
  have h : Own1 (w.alloc (.cells #[.int .i64 (g1 : Int)] 3)) 0 3 1 IsNat (.slice (some ⟨w.heap.size, 0, none⟩) 1 1) [g1] := by
    refine ⟨[.int .i64 (g1 : Int)], ⟨rfl, .inr ⟨w.heap.size, 1, _, rfl, Nat.zero_le _, Blk.new w 3 #[.int .i64 (g1 : Int)], Nat.le_refl _, by unfold maxLen; simp, by simp, by simp⟩⟩, rfl, fun i y hy => ?_⟩
    rcases i with _ | i
    · injection hy with hy; subst hy; rfl
    · simp at hy
  exact h.read (by omega)
theorem ints2 (w : World) (g1 g2 : Nat) : SlR (w.alloc (.cells #[.int .i64 (g1 : Int), .int .i64 (g2 : Int)] 3)) (w.alloc (.cells #[.int .i64 (g1 : Int), .int .i64 (g2 : Int)] 3)).heap.size 1 IsNat (.slice (some ⟨w.heap.size, 0, none⟩) 2 2) [g1, g2] := by
  have h : Own1 (w.alloc (.cells #[.int .i64 (g1 : Int), .int .i64 (g2 : Int)] 3)) 0 3 1 IsNat (.slice (some ⟨w.heap.size, 0, none⟩) 2 2) [g1, g2] := by
    refine ⟨[.int .i64 (g1 : Int), .int .i64 (g2 : Int)], ⟨rfl, .inr ⟨w.heap.size, 2, _, rfl, Nat.zero_le _, Blk.new w 3 #[.int .i64 (g1 : Int), .int .i64 (g2 : Int)], Nat.le_refl _, by unfold maxLen; simp, by simp, by simp⟩⟩, rfl, fun i y hy => ?_⟩
    rcases i with _ | _ | i
    · injection hy with hy; subst hy; rfl
    · injection hy with hy; subst hy; rfl
    · simp at hy
  exact h.read (by omega)
theorem ints3 (w : World) (g1 g2 g3 : Nat) : SlR (w.alloc (.cells #[.int .i64 (g1 : Int), .int .i64 (g2 : Int), .int .i64 (g3 : Int)] 3)) (w.alloc (.cells #[.int .i64 (g1 : Int), .int .i64 (g2 : Int), .int .i64 (g3 : Int)] 3)).heap.size 1 IsNat (.slice (some ⟨w.heap.size, 0, none⟩) 3 3) [g1, g2, g3] := by
  have h : Own1 (w.alloc (.cells #[.int .i64 (g1 : Int), .int .i64 (g2 : Int), .int .i64 (g3 : Int)] 3)) 0 3 1 IsNat (.slice (some ⟨w.heap.size, 0, none⟩) 3 3) [g1, g2, g3] := by
    refine ⟨[.int .i64 (g1 : Int), .int .i64 (g2 : Int), .int .i64 (g3 : Int)], ⟨rfl, .inr ⟨w.heap.size, 3, _, rfl, Nat.zero_le _, Blk.new w 3 #[.int .i64 (g1 : Int), .int .i64 (g2 : Int), .int .i64 (g3 : Int)], Nat.le_refl _, by unfold maxLen; simp, by simp, by simp⟩⟩, rfl, fun i y hy => ?_⟩
    rcases i with _ | _ | _ | i
    · injection hy with hy; subst hy; rfl
    · injection hy with hy; subst hy; rfl
    · injection hy with hy; subst hy; rfl
    · simp at hy
  exact h.read (by omega)
section
variable {q : Nat} {a : Option Addr} {c sz : Nat} {l : List Tok} {i : Nat} {bad : Int} {es : List (EN × Value)} {X : World}
def RLevel (q : Nat) (a : Option Addr) (c sz : Nat) (l : List Tok) (fn : FuncId) (args : List Value) (rd : Nat → PR) : Prop :=
  ∀ (i : Nat) (es : List (EN × Value)) (X : World), RSt q a c sz l i (-1) es X → es.length ≤ i → rd i ≠ .out → Calls Tryd.prog fn ((Value.pointer (some ⟨q, 0, none⟩)) :: args).toArray X (RReads q a c sz l i es X (rd i))
def RowS (q : Nat) (a : Option Addr) (c sz : Nat) (l : List Tok) (i : Nat) (es : List (EN × Value)) (X : World) (n : Nat) (r : PR) (gk g : Nat) (wr : World) : Prop :=
  (∃ (t : Tr) (j : Nat) (es1 : List (EN × Value)), Rep ((es ++ es1).map (·.1)) t g ∧ Below q X wr ∧ RSt q a c sz l j (-1) (es ++ es1) wr ∧ es1.length + i ≤ j ∧ pR l gk n t j = r) ∨
  (∃ (jj i1 : Nat) (es1 : List (EN × Value)), r = .no jj ∧ Below q X wr ∧ RSt q a c sz l i1 (placeAt l sz jj) (es ++ es1) wr ∧ es1.length + i ≤ i1)
theorem r_row_1 (f : Nat) (HB : ∀ f', f' ≤ f → RLevel q a c sz l 46 [.int .i64 2] (fun i => pL l f' 2 i)) : RLevel q a c sz l 46 [.int .i64 1] (fun i => pL l (f + 1) 1 i) := by
  intro i es X h hes hr
  have hr0 : pL l (f + 1) 1 i = rowR l f 1 i := pL_row l f 1 i (by omega) (by omega)
  simp only at hr ⊢
  rw [hr0] at hr ⊢
  obtain ⟨r, hrr⟩ : ∃ r, rowR l f 1 i = r := ⟨_, rfl⟩
  rw [hrr] at hr ⊢
  unfold rowR at hrr
  obtain ⟨f0, f1, f2, f3, f4, f5, f6⟩ := h.facts
  have H := zH h
  have HES := zH hes
  have HNE := zH hr
  have HC : Hid (∀ (f' : Nat) (j : Nat) (es : List (EN × Value)) (Y : World) (r' : PR), f' ≤ f → RSt q a c sz l j (-1) es Y → es.length ≤ j → pL l f' 2 j = r' → r' ≠ .out → Calls Tryd.prog 46 #[.pointer (some ⟨q, 0, none⟩), .int .i64 2] Y (RReads q a c sz l j es Y r')) := zH (fun f' j es Y r' hf hY he e hne => by rw [← e]; exact HB f' hf j es Y hY he (by show pL l f' 2 j ≠ .out; rw [e]; exact hne))
  have HF : Hid (∀ r1, pL l f 2 i = r1 → r1 ≠ .out → Calls Tryd.prog 46 #[.pointer (some ⟨q, 0, none⟩), .int .i64 2] X (fun e w' => ∃ g : Nat, e = .returned (.int .i64 (g : Int)) ∧ RowS q a c sz l i es X 1 r f g w')) := zH (fun r1 e1 hne => by
    refine (HC.out f i es X r1 zL h hes e1 hne).mono fun e w' hR => ?_
    rw [e1] at hrr
    cases r1 with
    | out => exact absurd rfl hne
    | ok t j =>
      obtain ⟨g, es1, he, h1, h2, h3, h4⟩ := hR
      exact ⟨g, he, .inl ⟨t, j, es1, h1, h2, h3, h4, hrr⟩⟩
    | no j =>
      obtain ⟨g, es1, i1, he, h2, h3, h4⟩ := hR
      exact ⟨g, he, .inr ⟨j, i1, es1, hrr.symm, h2, h3, h4⟩⟩)
  have HF1 := zH (HF.out _ rfl (fun e => hr (by rw [← hrr, e]; rfl)))
  clear HB h hes hr hr0 hrr HF f4 f5
  show Calls _ _ #[.pointer (some ⟨q, 0, none⟩), .int .i64 1] _ _
  go_enter Tryd.func46, Tryd.ntmps46
  go_wp2_with (first
    | (go_at_call 46; (with_reducible refine HF1.out.mono ?_); rintro e w1 ⟨g1, rfl, h1⟩; have S1 := zH h1; clear h1))
  clear f0 f1 f2 f3 f6 HF1
  go_loopg [6, 7, 8] f (fun gk v _ _ wr => ∃ g : Nat, gk ≤ f ∧ v = .int .i64 (g : Int) ∧ Hid (RowS q a c sz l i es X 1 r gk g wr))
  case atStart => exact ⟨g1, Nat.le_refl _, rfl, S1⟩
  case round =>
    clear S1
    obtain ⟨g, hgk, rfl, hS⟩ := hrel
    rcases hS.out with ⟨t, j, es1, hrep, hbl, hst, hle, hpr⟩ | ⟨jj, i1, es1, rfl, hbl, hst, hle⟩
    · have hj := hst.le
      have hfew := hst.few
      obtain ⟨f0, f1, f2, f3, f4, f5, f6⟩ := hst.facts
      have ST := zH hst
      have BL := zH hbl
      have RP := zH hrep
      have LE := zH hle
      have LJ := zH (And.intro hj hfew)
      clear hS hst hbl hrep hle hj hfew f4 f5
      cases gk with
      | zero =>
        exfalso
        rw [pR] at hpr
        exact HNE.out hpr.symm
      | succ f1' =>
      rw [pR] at hpr
      have hbt := r_between_1 ST.out
      obtain ⟨kk, hkk⟩ : ∃ z, signK l 1 j = z := ⟨_, rfl⟩
      have HJ : Hid (kk ≠ 0 → j + 1 ≤ l.length) := zH (fun h => signK_lt (by rw [hkk]; exact h))
      rw [hkk] at hbt hpr
      clear hkk
      by_cases hk0 : kk = 0
      · subst hk0
        rw [if_pos rfl] at hpr hbt
        subst hpr
        have HBT := zH hbt
        clear hbt
        go_wp2_with (first
          | (go_at_call 66; (refine HBT.out.mono ?_); rintro e w2 ⟨rfl, h2, h3⟩; have S2 := zH (And.intro h2 h3); clear h2 h3))
        go_ret
        exact ⟨g, es1, rfl, RP.out, BL.out.trans S2.out.1, S2.out.2, LE.out⟩
      · rw [if_neg hk0] at hpr hbt
        have d0 : ((kk : Int) == 0) = false := by simp; omega
        have HBT := zH hbt
        have HJ1 := zH (HJ.out hk0)
        clear hbt hk0
        cases hb : pL l f1' 2 (j + 1) with
        | out => rw [hb] at hpr; exact absurd hpr.symm HNE.out
        | no j2 =>
          rw [hb] at hpr
          have hr1 : PR.no j2 = r := hpr
          subst hr1
          have HL := zH (fun Y (hY : RSt q a c sz l (j + 1) (-1) (es ++ es1) Y) => HC.out f1' (j + 1) (es ++ es1) Y (.no j2) (by omega) hY (by rw [List.length_append]; have := HES.out; have := LE.out; omega) hb (by simp))
          clear hb hpr
          go_wp2_with (first
            | (go_at_call 66; (refine HBT.out.mono ?_); rintro e w2 ⟨rfl, h2, h3⟩; have S2 := zH (And.intro h2 h3); clear h2 h3)
            | (go_at_call 46; (refine (HL.out _ S2.out.2).mono ?_); rintro e w3 ⟨g2, es2, i2, rfl, h2, h3, h4⟩; have S3 := zH (And.intro h2 (And.intro h3 h4)); clear h2 h3 h4)
            | (go_at_call 64; (refine (r_add kk [] 0 [g, g2] _ _ _ (ints2 w3 g g2) (by simp) (by have := S3.out.2.1.le; have := S3.out.2.2; have := LJ.out; have := LE.out; have := HES.out; simp only [List.length_append]; omega) (S3.out.2.1.keep (zB.alloc zL _))).mono ?_); rintro e w4 ⟨rfl, h2, kv, h3⟩; have S4 := zH (And.intro h2 h3); clear h2 h3))
          have B4 : Hid (Below q X w4) := zH (((BL.out.trans S2.out.1).trans S3.out.1).trans (((zB.alloc zL _).mono (Nat.le_of_lt S3.out.2.1.lt)).trans S4.out.1))
          have N4 : Hid (RSt q a c sz l i2 (placeAt l sz j2) (es ++ (es1 ++ (es2 ++ [(⟨kk, [], 0, [g, g2]⟩, kv)]))) w4) := zH (by have := S4.out.2; simpa only [List.append_assoc] using this)
          have L4 : Hid ((es1 ++ (es2 ++ [((⟨kk, [], 0, [g, g2]⟩ : EN), kv)])).length + i ≤ i2) := zH (by have := S3.out.2.2; have := LE.out; simp only [List.length_append, List.length_cons, List.length_nil]; omega)
          go_roundg f1'
          case measure => omega
          case rel => exact ⟨_, by omega, rfl, zH (.inr ⟨j2, i2, _, rfl, B4.out, N4.out, L4.out⟩)⟩
        | ok t2 j2 =>
          rw [hb] at hpr
          have hr1 : (if 1 = 4 then PR.ok (.node kk [] 0 [t, t2]) j2 else pR l f1' 1 (.node kk [] 0 [t, t2]) j2) = r := hpr
          have HR1 := zH hr1
          have HL := zH (fun Y (hY : RSt q a c sz l (j + 1) (-1) (es ++ es1) Y) => HC.out f1' (j + 1) (es ++ es1) Y (.ok t2 j2) (by omega) hY (by rw [List.length_append]; have := HES.out; have := LE.out; omega) hb (by simp))
          clear hb hpr hr1
          go_wp2_with (first
            | (go_at_call 66; (refine HBT.out.mono ?_); rintro e w2 ⟨rfl, h2, h3⟩; have S2 := zH (And.intro h2 h3); clear h2 h3)
            | (go_at_call 46; (refine (HL.out _ S2.out.2).mono ?_); rintro e w3 ⟨g2, es2, rfl, hr2, h2, h3, h4⟩; have S3 := zH (And.intro h2 (And.intro h3 h4)); have RP2 := zH hr2; clear h2 h3 h4 hr2)
            | (go_at_call 64; (refine (r_add kk [] 0 [g, g2] _ _ _ (ints2 w3 g g2) (by simp) (by have := S3.out.2.1.le; have := S3.out.2.2; have := LJ.out; have := LE.out; have := HES.out; simp only [List.length_append]; omega) (S3.out.2.1.keep (zB.alloc zL _))).mono ?_); rintro e w4 ⟨rfl, h2, kv, h3⟩; have S4 := zH (And.intro h2 h3); clear h2 h3))
          have B4 : Hid (Below q X w4) := zH (((BL.out.trans S2.out.1).trans S3.out.1).trans (((zB.alloc zL _).mono (Nat.le_of_lt S3.out.2.1.lt)).trans S4.out.1))
          have N4 : Hid (RSt q a c sz l j2 (-1) (es ++ (es1 ++ (es2 ++ [(⟨kk, [], 0, [g, g2]⟩, kv)]))) w4) := zH (by have := S4.out.2; simpa only [List.append_assoc] using this)
          have L4 : Hid ((es1 ++ (es2 ++ [((⟨kk, [], 0, [g, g2]⟩ : EN), kv)])).length + i ≤ j2) := zH (by have := S3.out.2.2; have := LE.out; simp only [List.length_append, List.length_cons, List.length_nil]; omega)
          have R4 : Hid (Rep ((es ++ (es1 ++ (es2 ++ [((⟨kk, [], 0, [g, g2]⟩ : EN), kv)]))).map (·.1)) (.node kk [] 0 [t, t2]) (es.length + (es1.length + es2.length))) := zH (by
            have e3 : es.length + (es1.length + es2.length) = (es ++ es1 ++ es2).length := by simp only [List.length_append]; omega
            rw [e3]
            have e1 : (es ++ (es1 ++ (es2 ++ [((⟨kk, [], 0, [g, g2]⟩ : EN), kv)]))).map (·.1) = (es ++ es1).map (·.1) ++ (es2.map (·.1) ++ [⟨kk, [], 0, [g, g2]⟩]) := by simp [List.append_assoc]
            have e2 : (es ++ (es1 ++ (es2 ++ [((⟨kk, [], 0, [g, g2]⟩ : EN), kv)]))).map (·.1) = (es ++ es1 ++ es2).map (·.1) ++ [⟨kk, [], 0, [g, g2]⟩] := by simp [List.append_assoc]
            have p1 := RP.out.app (es2.map (·.1) ++ [⟨kk, [], 0, [g, g2]⟩])
            have p2 := RP2.out.app [⟨kk, [], 0, [g, g2]⟩]
            rw [← e1] at p1
            rw [← e2] at p2
            simp only [Rep, Reps]
            exact ⟨[g, g2], by rw [e2, List.getElem?_append_right (by simp)]; simp, g, [g2], rfl, p1, g2, [], rfl, p2, rfl⟩)
          go_roundg f1'
          case measure => omega
          case rel => exact ⟨_, by omega, rfl, zH (.inl ⟨_, j2, _, R4.out, B4.out, N4.out, L4.out, HR1.out⟩)⟩
    · obtain ⟨f0, f1, f2, f3, f4, f5, f6⟩ := hst.facts
      have hnn := hst.placeAt_nn jj
      obtain ⟨pv, hpv⟩ : ∃ z, placeAt l sz jj = z := ⟨_, rfl⟩
      rw [hpv] at f3 hnn
      have d0 : decide (pv < 0) = false := by simp; omega
      have ST := zH hst
      have BL := zH hbl
      have LE := zH hle
      clear hS hst hbl hle f4 f5 hpv
      go_wp2_with fail
      go_ret
      exact ⟨g, es1, i1, rfl, BL.out, ST.out, LE.out⟩
theorem r_row_2 (f : Nat) (HB : ∀ f', f' ≤ f → RLevel q a c sz l 46 [.int .i64 3] (fun i => pL l f' 3 i)) : RLevel q a c sz l 46 [.int .i64 2] (fun i => pL l (f + 1) 2 i) := by
  intro i es X h hes hr
  have hr0 : pL l (f + 1) 2 i = rowR l f 2 i := pL_row l f 2 i (by omega) (by omega)
  simp only at hr ⊢
  rw [hr0] at hr ⊢
  obtain ⟨r, hrr⟩ : ∃ r, rowR l f 2 i = r := ⟨_, rfl⟩
  rw [hrr] at hr ⊢
  unfold rowR at hrr
  obtain ⟨f0, f1, f2, f3, f4, f5, f6⟩ := h.facts
  have H := zH h
  have HES := zH hes
  have HNE := zH hr
  have HC : Hid (∀ (f' : Nat) (j : Nat) (es : List (EN × Value)) (Y : World) (r' : PR), f' ≤ f → RSt q a c sz l j (-1) es Y → es.length ≤ j → pL l f' 3 j = r' → r' ≠ .out → Calls Tryd.prog 46 #[.pointer (some ⟨q, 0, none⟩), .int .i64 3] Y (RReads q a c sz l j es Y r')) := zH (fun f' j es Y r' hf hY he e hne => by rw [← e]; exact HB f' hf j es Y hY he (by show pL l f' 3 j ≠ .out; rw [e]; exact hne))
  have HF : Hid (∀ r1, pL l f 3 i = r1 → r1 ≠ .out → Calls Tryd.prog 46 #[.pointer (some ⟨q, 0, none⟩), .int .i64 3] X (fun e w' => ∃ g : Nat, e = .returned (.int .i64 (g : Int)) ∧ RowS q a c sz l i es X 2 r f g w')) := zH (fun r1 e1 hne => by
    refine (HC.out f i es X r1 zL h hes e1 hne).mono fun e w' hR => ?_
    rw [e1] at hrr
    cases r1 with
    | out => exact absurd rfl hne
    | ok t j =>
      obtain ⟨g, es1, he, h1, h2, h3, h4⟩ := hR
      exact ⟨g, he, .inl ⟨t, j, es1, h1, h2, h3, h4, hrr⟩⟩
    | no j =>
      obtain ⟨g, es1, i1, he, h2, h3, h4⟩ := hR
      exact ⟨g, he, .inr ⟨j, i1, es1, hrr.symm, h2, h3, h4⟩⟩)
  have HF1 := zH (HF.out _ rfl (fun e => hr (by rw [← hrr, e]; rfl)))
  clear HB h hes hr hr0 hrr HF f4 f5
  show Calls _ _ #[.pointer (some ⟨q, 0, none⟩), .int .i64 2] _ _
  go_enter Tryd.func46, Tryd.ntmps46
  go_wp2_with (first
    | (go_at_call 46; (with_reducible refine HF1.out.mono ?_); rintro e w1 ⟨g1, rfl, h1⟩; have S1 := zH h1; clear h1))
  clear f0 f1 f2 f3 f6 HF1
  go_loopg [6, 7, 8] f (fun gk v _ _ wr => ∃ g : Nat, gk ≤ f ∧ v = .int .i64 (g : Int) ∧ Hid (RowS q a c sz l i es X 2 r gk g wr))
  case atStart => exact ⟨g1, Nat.le_refl _, rfl, S1⟩
  case round =>
    clear S1
    obtain ⟨g, hgk, rfl, hS⟩ := hrel
    rcases hS.out with ⟨t, j, es1, hrep, hbl, hst, hle, hpr⟩ | ⟨jj, i1, es1, rfl, hbl, hst, hle⟩
    · have hj := hst.le
      have hfew := hst.few
      obtain ⟨f0, f1, f2, f3, f4, f5, f6⟩ := hst.facts
      have ST := zH hst
      have BL := zH hbl
      have RP := zH hrep
      have LE := zH hle
      have LJ := zH (And.intro hj hfew)
      clear hS hst hbl hrep hle hj hfew f4 f5
      cases gk with
      | zero =>
        exfalso
        rw [pR] at hpr
        exact HNE.out hpr.symm
      | succ f1' =>
      rw [pR] at hpr
      have hbt := r_between_2 ST.out
      obtain ⟨kk, hkk⟩ : ∃ z, signK l 2 j = z := ⟨_, rfl⟩
      have HJ : Hid (kk ≠ 0 → j + 1 ≤ l.length) := zH (fun h => signK_lt (by rw [hkk]; exact h))
      rw [hkk] at hbt hpr
      clear hkk
      by_cases hk0 : kk = 0
      · subst hk0
        rw [if_pos rfl] at hpr hbt
        subst hpr
        have HBT := zH hbt
        clear hbt
        go_wp2_with (first
          | (go_at_call 66; (refine HBT.out.mono ?_); rintro e w2 ⟨rfl, h2, h3⟩; have S2 := zH (And.intro h2 h3); clear h2 h3))
        go_ret
        exact ⟨g, es1, rfl, RP.out, BL.out.trans S2.out.1, S2.out.2, LE.out⟩
      · rw [if_neg hk0] at hpr hbt
        have d0 : ((kk : Int) == 0) = false := by simp; omega
        have HBT := zH hbt
        have HJ1 := zH (HJ.out hk0)
        clear hbt hk0
        cases hb : pL l f1' 3 (j + 1) with
        | out => rw [hb] at hpr; exact absurd hpr.symm HNE.out
        | no j2 =>
          rw [hb] at hpr
          have hr1 : PR.no j2 = r := hpr
          subst hr1
          have HL := zH (fun Y (hY : RSt q a c sz l (j + 1) (-1) (es ++ es1) Y) => HC.out f1' (j + 1) (es ++ es1) Y (.no j2) (by omega) hY (by rw [List.length_append]; have := HES.out; have := LE.out; omega) hb (by simp))
          clear hb hpr
          go_wp2_with (first
            | (go_at_call 66; (refine HBT.out.mono ?_); rintro e w2 ⟨rfl, h2, h3⟩; have S2 := zH (And.intro h2 h3); clear h2 h3)
            | (go_at_call 46; (refine (HL.out _ S2.out.2).mono ?_); rintro e w3 ⟨g2, es2, i2, rfl, h2, h3, h4⟩; have S3 := zH (And.intro h2 (And.intro h3 h4)); clear h2 h3 h4)
            | (go_at_call 64; (refine (r_add kk [] 0 [g, g2] _ _ _ (ints2 w3 g g2) (by simp) (by have := S3.out.2.1.le; have := S3.out.2.2; have := LJ.out; have := LE.out; have := HES.out; simp only [List.length_append]; omega) (S3.out.2.1.keep (zB.alloc zL _))).mono ?_); rintro e w4 ⟨rfl, h2, kv, h3⟩; have S4 := zH (And.intro h2 h3); clear h2 h3))
          have B4 : Hid (Below q X w4) := zH (((BL.out.trans S2.out.1).trans S3.out.1).trans (((zB.alloc zL _).mono (Nat.le_of_lt S3.out.2.1.lt)).trans S4.out.1))
          have N4 : Hid (RSt q a c sz l i2 (placeAt l sz j2) (es ++ (es1 ++ (es2 ++ [(⟨kk, [], 0, [g, g2]⟩, kv)]))) w4) := zH (by have := S4.out.2; simpa only [List.append_assoc] using this)
          have L4 : Hid ((es1 ++ (es2 ++ [((⟨kk, [], 0, [g, g2]⟩ : EN), kv)])).length + i ≤ i2) := zH (by have := S3.out.2.2; have := LE.out; simp only [List.length_append, List.length_cons, List.length_nil]; omega)
          go_roundg f1'
          case measure => omega
          case rel => exact ⟨_, by omega, rfl, zH (.inr ⟨j2, i2, _, rfl, B4.out, N4.out, L4.out⟩)⟩
        | ok t2 j2 =>
          rw [hb] at hpr
          have hr1 : (if 2 = 4 then PR.ok (.node kk [] 0 [t, t2]) j2 else pR l f1' 2 (.node kk [] 0 [t, t2]) j2) = r := hpr
          have HR1 := zH hr1
          have HL := zH (fun Y (hY : RSt q a c sz l (j + 1) (-1) (es ++ es1) Y) => HC.out f1' (j + 1) (es ++ es1) Y (.ok t2 j2) (by omega) hY (by rw [List.length_append]; have := HES.out; have := LE.out; omega) hb (by simp))
          clear hb hpr hr1
          go_wp2_with (first
            | (go_at_call 66; (refine HBT.out.mono ?_); rintro e w2 ⟨rfl, h2, h3⟩; have S2 := zH (And.intro h2 h3); clear h2 h3)
            | (go_at_call 46; (refine (HL.out _ S2.out.2).mono ?_); rintro e w3 ⟨g2, es2, rfl, hr2, h2, h3, h4⟩; have S3 := zH (And.intro h2 (And.intro h3 h4)); have RP2 := zH hr2; clear h2 h3 h4 hr2)
            | (go_at_call 64; (refine (r_add kk [] 0 [g, g2] _ _ _ (ints2 w3 g g2) (by simp) (by have := S3.out.2.1.le; have := S3.out.2.2; have := LJ.out; have := LE.out; have := HES.out; simp only [List.length_append]; omega) (S3.out.2.1.keep (zB.alloc zL _))).mono ?_); rintro e w4 ⟨rfl, h2, kv, h3⟩; have S4 := zH (And.intro h2 h3); clear h2 h3))
          have B4 : Hid (Below q X w4) := zH (((BL.out.trans S2.out.1).trans S3.out.1).trans (((zB.alloc zL _).mono (Nat.le_of_lt S3.out.2.1.lt)).trans S4.out.1))
          have N4 : Hid (RSt q a c sz l j2 (-1) (es ++ (es1 ++ (es2 ++ [(⟨kk, [], 0, [g, g2]⟩, kv)]))) w4) := zH (by have := S4.out.2; simpa only [List.append_assoc] using this)
          have L4 : Hid ((es1 ++ (es2 ++ [((⟨kk, [], 0, [g, g2]⟩ : EN), kv)])).length + i ≤ j2) := zH (by have := S3.out.2.2; have := LE.out; simp only [List.length_append, List.length_cons, List.length_nil]; omega)
          have R4 : Hid (Rep ((es ++ (es1 ++ (es2 ++ [((⟨kk, [], 0, [g, g2]⟩ : EN), kv)]))).map (·.1)) (.node kk [] 0 [t, t2]) (es.length + (es1.length + es2.length))) := zH (by
            have e3 : es.length + (es1.length + es2.length) = (es ++ es1 ++ es2).length := by simp only [List.length_append]; omega
            rw [e3]
            have e1 : (es ++ (es1 ++ (es2 ++ [((⟨kk, [], 0, [g, g2]⟩ : EN), kv)]))).map (·.1) = (es ++ es1).map (·.1) ++ (es2.map (·.1) ++ [⟨kk, [], 0, [g, g2]⟩]) := by simp [List.append_assoc]
            have e2 : (es ++ (es1 ++ (es2 ++ [((⟨kk, [], 0, [g, g2]⟩ : EN), kv)]))).map (·.1) = (es ++ es1 ++ es2).map (·.1) ++ [⟨kk, [], 0, [g, g2]⟩] := by simp [List.append_assoc]
            have p1 := RP.out.app (es2.map (·.1) ++ [⟨kk, [], 0, [g, g2]⟩])
            have p2 := RP2.out.app [⟨kk, [], 0, [g, g2]⟩]
            rw [← e1] at p1
            rw [← e2] at p2
            simp only [Rep, Reps]
            exact ⟨[g, g2], by rw [e2, List.getElem?_append_right (by simp)]; simp, g, [g2], rfl, p1, g2, [], rfl, p2, rfl⟩)
          go_roundg f1'
          case measure => omega
          case rel => exact ⟨_, by omega, rfl, zH (.inl ⟨_, j2, _, R4.out, B4.out, N4.out, L4.out, HR1.out⟩)⟩
    · obtain ⟨f0, f1, f2, f3, f4, f5, f6⟩ := hst.facts
      have hnn := hst.placeAt_nn jj
      obtain ⟨pv, hpv⟩ : ∃ z, placeAt l sz jj = z := ⟨_, rfl⟩
      rw [hpv] at f3 hnn
      have d0 : decide (pv < 0) = false := by simp; omega
      have ST := zH hst
      have BL := zH hbl
      have LE := zH hle
      clear hS hst hbl hle f4 f5 hpv
      go_wp2_with fail
      go_ret
      exact ⟨g, es1, i1, rfl, BL.out, ST.out, LE.out⟩
theorem r_row_4 (f : Nat) (HB : ∀ f', f' ≤ f → RLevel q a c sz l 46 [.int .i64 5] (fun i => pL l f' 5 i)) : RLevel q a c sz l 46 [.int .i64 4] (fun i => pL l (f + 1) 4 i) := by
  intro i es X h hes hr
  have hr0 : pL l (f + 1) 4 i = rowR l f 4 i := pL_row l f 4 i (by omega) (by omega)
  simp only at hr ⊢
  rw [hr0] at hr ⊢
  obtain ⟨r, hrr⟩ : ∃ r, rowR l f 4 i = r := ⟨_, rfl⟩
  rw [hrr] at hr ⊢
  unfold rowR at hrr
  obtain ⟨f0, f1, f2, f3, f4, f5, f6⟩ := h.facts
  have H := zH h
  have HES := zH hes
  have HNE := zH hr
  have HC : Hid (∀ (f' : Nat) (j : Nat) (es : List (EN × Value)) (Y : World) (r' : PR), f' ≤ f → RSt q a c sz l j (-1) es Y → es.length ≤ j → pL l f' 5 j = r' → r' ≠ .out → Calls Tryd.prog 46 #[.pointer (some ⟨q, 0, none⟩), .int .i64 5] Y (RReads q a c sz l j es Y r')) := zH (fun f' j es Y r' hf hY he e hne => by rw [← e]; exact HB f' hf j es Y hY he (by show pL l f' 5 j ≠ .out; rw [e]; exact hne))
  have HF : Hid (∀ r1, pL l f 5 i = r1 → r1 ≠ .out → Calls Tryd.prog 46 #[.pointer (some ⟨q, 0, none⟩), .int .i64 5] X (fun e w' => ∃ g : Nat, e = .returned (.int .i64 (g : Int)) ∧ RowS q a c sz l i es X 4 r f g w')) := zH (fun r1 e1 hne => by
    refine (HC.out f i es X r1 zL h hes e1 hne).mono fun e w' hR => ?_
    rw [e1] at hrr
    cases r1 with
    | out => exact absurd rfl hne
    | ok t j =>
      obtain ⟨g, es1, he, h1, h2, h3, h4⟩ := hR
      exact ⟨g, he, .inl ⟨t, j, es1, h1, h2, h3, h4, hrr⟩⟩
    | no j =>
      obtain ⟨g, es1, i1, he, h2, h3, h4⟩ := hR
      exact ⟨g, he, .inr ⟨j, i1, es1, hrr.symm, h2, h3, h4⟩⟩)
  have HF1 := zH (HF.out _ rfl (fun e => hr (by rw [← hrr, e]; rfl)))
  clear HB h hes hr hr0 hrr HF f4 f5
  show Calls _ _ #[.pointer (some ⟨q, 0, none⟩), .int .i64 4] _ _
  go_enter Tryd.func46, Tryd.ntmps46
  go_wp2_with (first
    | (go_at_call 46; (with_reducible refine HF1.out.mono ?_); rintro e w1 ⟨g1, rfl, h1⟩; have S1 := zH h1; clear h1))
  clear f0 f1 f2 f3 f6 HF1
  go_loopg [6, 7, 8] f (fun gk v _ _ wr => ∃ g : Nat, gk ≤ f ∧ v = .int .i64 (g : Int) ∧ Hid (RowS q a c sz l i es X 4 r gk g wr))
  case atStart => exact ⟨g1, Nat.le_refl _, rfl, S1⟩
  case round =>
    clear S1
    obtain ⟨g, hgk, rfl, hS⟩ := hrel
    rcases hS.out with ⟨t, j, es1, hrep, hbl, hst, hle, hpr⟩ | ⟨jj, i1, es1, rfl, hbl, hst, hle⟩
    · have hj := hst.le
      have hfew := hst.few
      obtain ⟨f0, f1, f2, f3, f4, f5, f6⟩ := hst.facts
      have ST := zH hst
      have BL := zH hbl
      have RP := zH hrep
      have LE := zH hle
      have LJ := zH (And.intro hj hfew)
      clear hS hst hbl hrep hle hj hfew f4 f5
      cases gk with
      | zero =>
        exfalso
        rw [pR] at hpr
        exact HNE.out hpr.symm
      | succ f1' =>
      rw [pR] at hpr
      have hbt := r_between_4 ST.out
      obtain ⟨kk, hkk⟩ : ∃ z, signK l 4 j = z := ⟨_, rfl⟩
      have HJ : Hid (kk ≠ 0 → j + 1 ≤ l.length) := zH (fun h => signK_lt (by rw [hkk]; exact h))
      rw [hkk] at hbt hpr
      clear hkk
      by_cases hk0 : kk = 0
      · subst hk0
        rw [if_pos rfl] at hpr hbt
        subst hpr
        have HBT := zH hbt
        clear hbt
        go_wp2_with (first
          | (go_at_call 66; (refine HBT.out.mono ?_); rintro e w2 ⟨rfl, h2, h3⟩; have S2 := zH (And.intro h2 h3); clear h2 h3))
        go_ret
        exact ⟨g, es1, rfl, RP.out, BL.out.trans S2.out.1, S2.out.2, LE.out⟩
      · rw [if_neg hk0] at hpr hbt
        have d0 : ((kk : Int) == 0) = false := by simp; omega
        have HBT := zH hbt
        have HJ1 := zH (HJ.out hk0)
        clear hbt hk0
        cases hb : pL l f1' 5 (j + 1) with
        | out => rw [hb] at hpr; exact absurd hpr.symm HNE.out
        | no j2 =>
          rw [hb] at hpr
          have hr1 : PR.no j2 = r := hpr
          subst hr1
          have HL := zH (fun Y (hY : RSt q a c sz l (j + 1) (-1) (es ++ es1) Y) => HC.out f1' (j + 1) (es ++ es1) Y (.no j2) (by omega) hY (by rw [List.length_append]; have := HES.out; have := LE.out; omega) hb (by simp))
          clear hb hpr
          go_wp2_with (first
            | (go_at_call 66; (refine HBT.out.mono ?_); rintro e w2 ⟨rfl, h2, h3⟩; have S2 := zH (And.intro h2 h3); clear h2 h3)
            | (go_at_call 46; (refine (HL.out _ S2.out.2).mono ?_); rintro e w3 ⟨g2, es2, i2, rfl, h2, h3, h4⟩; have S3 := zH (And.intro h2 (And.intro h3 h4)); clear h2 h3 h4)
            | (go_at_call 64; (refine (r_add kk [] 0 [g, g2] _ _ _ (ints2 w3 g g2) (by simp) (by have := S3.out.2.1.le; have := S3.out.2.2; have := LJ.out; have := LE.out; have := HES.out; simp only [List.length_append]; omega) (S3.out.2.1.keep (zB.alloc zL _))).mono ?_); rintro e w4 ⟨rfl, h2, kv, h3⟩; have S4 := zH (And.intro h2 h3); clear h2 h3))
          have B4 : Hid (Below q X w4) := zH (((BL.out.trans S2.out.1).trans S3.out.1).trans (((zB.alloc zL _).mono (Nat.le_of_lt S3.out.2.1.lt)).trans S4.out.1))
          have N4 : Hid (RSt q a c sz l i2 (placeAt l sz j2) (es ++ (es1 ++ (es2 ++ [(⟨kk, [], 0, [g, g2]⟩, kv)]))) w4) := zH (by have := S4.out.2; simpa only [List.append_assoc] using this)
          have L4 : Hid ((es1 ++ (es2 ++ [((⟨kk, [], 0, [g, g2]⟩ : EN), kv)])).length + i ≤ i2) := zH (by have := S3.out.2.2; have := LE.out; simp only [List.length_append, List.length_cons, List.length_nil]; omega)
          go_ret
          exact ⟨_, _, i2, rfl, B4.out, N4.out, L4.out⟩
        | ok t2 j2 =>
          rw [hb] at hpr
          have hr1 : (if 4 = 4 then PR.ok (.node kk [] 0 [t, t2]) j2 else pR l f1' 4 (.node kk [] 0 [t, t2]) j2) = r := hpr
          have HR1 := zH hr1
          have HL := zH (fun Y (hY : RSt q a c sz l (j + 1) (-1) (es ++ es1) Y) => HC.out f1' (j + 1) (es ++ es1) Y (.ok t2 j2) (by omega) hY (by rw [List.length_append]; have := HES.out; have := LE.out; omega) hb (by simp))
          clear hb hpr hr1
          go_wp2_with (first
            | (go_at_call 66; (refine HBT.out.mono ?_); rintro e w2 ⟨rfl, h2, h3⟩; have S2 := zH (And.intro h2 h3); clear h2 h3)
            | (go_at_call 46; (refine (HL.out _ S2.out.2).mono ?_); rintro e w3 ⟨g2, es2, rfl, hr2, h2, h3, h4⟩; have S3 := zH (And.intro h2 (And.intro h3 h4)); have RP2 := zH hr2; clear h2 h3 h4 hr2)
            | (go_at_call 64; (refine (r_add kk [] 0 [g, g2] _ _ _ (ints2 w3 g g2) (by simp) (by have := S3.out.2.1.le; have := S3.out.2.2; have := LJ.out; have := LE.out; have := HES.out; simp only [List.length_append]; omega) (S3.out.2.1.keep (zB.alloc zL _))).mono ?_); rintro e w4 ⟨rfl, h2, kv, h3⟩; have S4 := zH (And.intro h2 h3); clear h2 h3))
          have B4 : Hid (Below q X w4) := zH (((BL.out.trans S2.out.1).trans S3.out.1).trans (((zB.alloc zL _).mono (Nat.le_of_lt S3.out.2.1.lt)).trans S4.out.1))
          have N4 : Hid (RSt q a c sz l j2 (-1) (es ++ (es1 ++ (es2 ++ [(⟨kk, [], 0, [g, g2]⟩, kv)]))) w4) := zH (by have := S4.out.2; simpa only [List.append_assoc] using this)
          have L4 : Hid ((es1 ++ (es2 ++ [((⟨kk, [], 0, [g, g2]⟩ : EN), kv)])).length + i ≤ j2) := zH (by have := S3.out.2.2; have := LE.out; simp only [List.length_append, List.length_cons, List.length_nil]; omega)
          have R4 : Hid (Rep ((es ++ (es1 ++ (es2 ++ [((⟨kk, [], 0, [g, g2]⟩ : EN), kv)]))).map (·.1)) (.node kk [] 0 [t, t2]) (es.length + (es1.length + es2.length))) := zH (by
            have e3 : es.length + (es1.length + es2.length) = (es ++ es1 ++ es2).length := by simp only [List.length_append]; omega
            rw [e3]
            have e1 : (es ++ (es1 ++ (es2 ++ [((⟨kk, [], 0, [g, g2]⟩ : EN), kv)]))).map (·.1) = (es ++ es1).map (·.1) ++ (es2.map (·.1) ++ [⟨kk, [], 0, [g, g2]⟩]) := by simp [List.append_assoc]
            have e2 : (es ++ (es1 ++ (es2 ++ [((⟨kk, [], 0, [g, g2]⟩ : EN), kv)]))).map (·.1) = (es ++ es1 ++ es2).map (·.1) ++ [⟨kk, [], 0, [g, g2]⟩] := by simp [List.append_assoc]
            have p1 := RP.out.app (es2.map (·.1) ++ [⟨kk, [], 0, [g, g2]⟩])
            have p2 := RP2.out.app [⟨kk, [], 0, [g, g2]⟩]
            rw [← e1] at p1
            rw [← e2] at p2
            simp only [Rep, Reps]
            exact ⟨[g, g2], by rw [e2, List.getElem?_append_right (by simp)]; simp, g, [g2], rfl, p1, g2, [], rfl, p2, rfl⟩)
          have hr1 := HR1.out
          simp only [if_true] at hr1
          subst hr1
          go_ret
          exact ⟨_, _, rfl, R4.out, B4.out, N4.out, L4.out⟩
    · obtain ⟨f0, f1, f2, f3, f4, f5, f6⟩ := hst.facts
      have hnn := hst.placeAt_nn jj
      obtain ⟨pv, hpv⟩ : ∃ z, placeAt l sz jj = z := ⟨_, rfl⟩
      rw [hpv] at f3 hnn
      have d0 : decide (pv < 0) = false := by simp; omega
      have ST := zH hst
      have BL := zH hbl
      have LE := zH hle
      clear hS hst hbl hle f4 f5 hpv
      go_wp2_with fail
      go_ret
      exact ⟨g, es1, i1, rfl, BL.out, ST.out, LE.out⟩
theorem r_row_5 (f : Nat) (HB : ∀ f', f' ≤ f → RLevel q a c sz l 46 [.int .i64 6] (fun i => pL l f' 6 i)) : RLevel q a c sz l 46 [.int .i64 5] (fun i => pL l (f + 1) 5 i) := by
  intro i es X h hes hr
  have hr0 : pL l (f + 1) 5 i = rowR l f 5 i := pL_row l f 5 i (by omega) (by omega)
  simp only at hr ⊢
  rw [hr0] at hr ⊢
  obtain ⟨r, hrr⟩ : ∃ r, rowR l f 5 i = r := ⟨_, rfl⟩
  rw [hrr] at hr ⊢
  unfold rowR at hrr
  obtain ⟨f0, f1, f2, f3, f4, f5, f6⟩ := h.facts
  have H := zH h
  have HES := zH hes
  have HNE := zH hr
  have HC : Hid (∀ (f' : Nat) (j : Nat) (es : List (EN × Value)) (Y : World) (r' : PR), f' ≤ f → RSt q a c sz l j (-1) es Y → es.length ≤ j → pL l f' 6 j = r' → r' ≠ .out → Calls Tryd.prog 46 #[.pointer (some ⟨q, 0, none⟩), .int .i64 6] Y (RReads q a c sz l j es Y r')) := zH (fun f' j es Y r' hf hY he e hne => by rw [← e]; exact HB f' hf j es Y hY he (by show pL l f' 6 j ≠ .out; rw [e]; exact hne))
  have HF : Hid (∀ r1, pL l f 6 i = r1 → r1 ≠ .out → Calls Tryd.prog 46 #[.pointer (some ⟨q, 0, none⟩), .int .i64 6] X (fun e w' => ∃ g : Nat, e = .returned (.int .i64 (g : Int)) ∧ RowS q a c sz l i es X 5 r f g w')) := zH (fun r1 e1 hne => by
    refine (HC.out f i es X r1 zL h hes e1 hne).mono fun e w' hR => ?_
    rw [e1] at hrr
    cases r1 with
    | out => exact absurd rfl hne
    | ok t j =>
      obtain ⟨g, es1, he, h1, h2, h3, h4⟩ := hR
      exact ⟨g, he, .inl ⟨t, j, es1, h1, h2, h3, h4, hrr⟩⟩
    | no j =>
      obtain ⟨g, es1, i1, he, h2, h3, h4⟩ := hR
      exact ⟨g, he, .inr ⟨j, i1, es1, hrr.symm, h2, h3, h4⟩⟩)
  have HF1 := zH (HF.out _ rfl (fun e => hr (by rw [← hrr, e]; rfl)))
  clear HB h hes hr hr0 hrr HF f4 f5
  show Calls _ _ #[.pointer (some ⟨q, 0, none⟩), .int .i64 5] _ _
  go_enter Tryd.func46, Tryd.ntmps46
  go_wp2_with (first
    | (go_at_call 46; (with_reducible refine HF1.out.mono ?_); rintro e w1 ⟨g1, rfl, h1⟩; have S1 := zH h1; clear h1))
  clear f0 f1 f2 f3 f6 HF1
  go_loopg [6, 7, 8] f (fun gk v _ _ wr => ∃ g : Nat, gk ≤ f ∧ v = .int .i64 (g : Int) ∧ Hid (RowS q a c sz l i es X 5 r gk g wr))
  case atStart => exact ⟨g1, Nat.le_refl _, rfl, S1⟩
  case round =>
    clear S1
    obtain ⟨g, hgk, rfl, hS⟩ := hrel
    rcases hS.out with ⟨t, j, es1, hrep, hbl, hst, hle, hpr⟩ | ⟨jj, i1, es1, rfl, hbl, hst, hle⟩
    · have hj := hst.le
      have hfew := hst.few
      obtain ⟨f0, f1, f2, f3, f4, f5, f6⟩ := hst.facts
      have ST := zH hst
      have BL := zH hbl
      have RP := zH hrep
      have LE := zH hle
      have LJ := zH (And.intro hj hfew)
      clear hS hst hbl hrep hle hj hfew f4 f5
      cases gk with
      | zero =>
        exfalso
        rw [pR] at hpr
        exact HNE.out hpr.symm
      | succ f1' =>
      rw [pR] at hpr
      have hbt := r_between_5 ST.out
      obtain ⟨kk, hkk⟩ : ∃ z, signK l 5 j = z := ⟨_, rfl⟩
      have HJ : Hid (kk ≠ 0 → j + 1 ≤ l.length) := zH (fun h => signK_lt (by rw [hkk]; exact h))
      rw [hkk] at hbt hpr
      clear hkk
      by_cases hk0 : kk = 0
      · subst hk0
        rw [if_pos rfl] at hpr hbt
        subst hpr
        have HBT := zH hbt
        clear hbt
        go_wp2_with (first
          | (go_at_call 66; (refine HBT.out.mono ?_); rintro e w2 ⟨rfl, h2, h3⟩; have S2 := zH (And.intro h2 h3); clear h2 h3))
        go_ret
        exact ⟨g, es1, rfl, RP.out, BL.out.trans S2.out.1, S2.out.2, LE.out⟩
      · rw [if_neg hk0] at hpr hbt
        have d0 : ((kk : Int) == 0) = false := by simp; omega
        have HBT := zH hbt
        have HJ1 := zH (HJ.out hk0)
        clear hbt hk0
        cases hb : pL l f1' 6 (j + 1) with
        | out => rw [hb] at hpr; exact absurd hpr.symm HNE.out
        | no j2 =>
          rw [hb] at hpr
          have hr1 : PR.no j2 = r := hpr
          subst hr1
          have HL := zH (fun Y (hY : RSt q a c sz l (j + 1) (-1) (es ++ es1) Y) => HC.out f1' (j + 1) (es ++ es1) Y (.no j2) (by omega) hY (by rw [List.length_append]; have := HES.out; have := LE.out; omega) hb (by simp))
          clear hb hpr
          go_wp2_with (first
            | (go_at_call 66; (refine HBT.out.mono ?_); rintro e w2 ⟨rfl, h2, h3⟩; have S2 := zH (And.intro h2 h3); clear h2 h3)
            | (go_at_call 46; (refine (HL.out _ S2.out.2).mono ?_); rintro e w3 ⟨g2, es2, i2, rfl, h2, h3, h4⟩; have S3 := zH (And.intro h2 (And.intro h3 h4)); clear h2 h3 h4)
            | (go_at_call 64; (refine (r_add kk [] 0 [g, g2] _ _ _ (ints2 w3 g g2) (by simp) (by have := S3.out.2.1.le; have := S3.out.2.2; have := LJ.out; have := LE.out; have := HES.out; simp only [List.length_append]; omega) (S3.out.2.1.keep (zB.alloc zL _))).mono ?_); rintro e w4 ⟨rfl, h2, kv, h3⟩; have S4 := zH (And.intro h2 h3); clear h2 h3))
          have B4 : Hid (Below q X w4) := zH (((BL.out.trans S2.out.1).trans S3.out.1).trans (((zB.alloc zL _).mono (Nat.le_of_lt S3.out.2.1.lt)).trans S4.out.1))
          have N4 : Hid (RSt q a c sz l i2 (placeAt l sz j2) (es ++ (es1 ++ (es2 ++ [(⟨kk, [], 0, [g, g2]⟩, kv)]))) w4) := zH (by have := S4.out.2; simpa only [List.append_assoc] using this)
          have L4 : Hid ((es1 ++ (es2 ++ [((⟨kk, [], 0, [g, g2]⟩ : EN), kv)])).length + i ≤ i2) := zH (by have := S3.out.2.2; have := LE.out; simp only [List.length_append, List.length_cons, List.length_nil]; omega)
          go_roundg f1'
          case measure => omega
          case rel => exact ⟨_, by omega, rfl, zH (.inr ⟨j2, i2, _, rfl, B4.out, N4.out, L4.out⟩)⟩
        | ok t2 j2 =>
          rw [hb] at hpr
          have hr1 : (if 5 = 4 then PR.ok (.node kk [] 0 [t, t2]) j2 else pR l f1' 5 (.node kk [] 0 [t, t2]) j2) = r := hpr
          have HR1 := zH hr1
          have HL := zH (fun Y (hY : RSt q a c sz l (j + 1) (-1) (es ++ es1) Y) => HC.out f1' (j + 1) (es ++ es1) Y (.ok t2 j2) (by omega) hY (by rw [List.length_append]; have := HES.out; have := LE.out; omega) hb (by simp))
          clear hb hpr hr1
          go_wp2_with (first
            | (go_at_call 66; (refine HBT.out.mono ?_); rintro e w2 ⟨rfl, h2, h3⟩; have S2 := zH (And.intro h2 h3); clear h2 h3)
            | (go_at_call 46; (refine (HL.out _ S2.out.2).mono ?_); rintro e w3 ⟨g2, es2, rfl, hr2, h2, h3, h4⟩; have S3 := zH (And.intro h2 (And.intro h3 h4)); have RP2 := zH hr2; clear h2 h3 h4 hr2)
            | (go_at_call 64; (refine (r_add kk [] 0 [g, g2] _ _ _ (ints2 w3 g g2) (by simp) (by have := S3.out.2.1.le; have := S3.out.2.2; have := LJ.out; have := LE.out; have := HES.out; simp only [List.length_append]; omega) (S3.out.2.1.keep (zB.alloc zL _))).mono ?_); rintro e w4 ⟨rfl, h2, kv, h3⟩; have S4 := zH (And.intro h2 h3); clear h2 h3))
          have B4 : Hid (Below q X w4) := zH (((BL.out.trans S2.out.1).trans S3.out.1).trans (((zB.alloc zL _).mono (Nat.le_of_lt S3.out.2.1.lt)).trans S4.out.1))
          have N4 : Hid (RSt q a c sz l j2 (-1) (es ++ (es1 ++ (es2 ++ [(⟨kk, [], 0, [g, g2]⟩, kv)]))) w4) := zH (by have := S4.out.2; simpa only [List.append_assoc] using this)
          have L4 : Hid ((es1 ++ (es2 ++ [((⟨kk, [], 0, [g, g2]⟩ : EN), kv)])).length + i ≤ j2) := zH (by have := S3.out.2.2; have := LE.out; simp only [List.length_append, List.length_cons, List.length_nil]; omega)
          have R4 : Hid (Rep ((es ++ (es1 ++ (es2 ++ [((⟨kk, [], 0, [g, g2]⟩ : EN), kv)]))).map (·.1)) (.node kk [] 0 [t, t2]) (es.length + (es1.length + es2.length))) := zH (by
            have e3 : es.length + (es1.length + es2.length) = (es ++ es1 ++ es2).length := by simp only [List.length_append]; omega
            rw [e3]
            have e1 : (es ++ (es1 ++ (es2 ++ [((⟨kk, [], 0, [g, g2]⟩ : EN), kv)]))).map (·.1) = (es ++ es1).map (·.1) ++ (es2.map (·.1) ++ [⟨kk, [], 0, [g, g2]⟩]) := by simp [List.append_assoc]
            have e2 : (es ++ (es1 ++ (es2 ++ [((⟨kk, [], 0, [g, g2]⟩ : EN), kv)]))).map (·.1) = (es ++ es1 ++ es2).map (·.1) ++ [⟨kk, [], 0, [g, g2]⟩] := by simp [List.append_assoc]
            have p1 := RP.out.app (es2.map (·.1) ++ [⟨kk, [], 0, [g, g2]⟩])
            have p2 := RP2.out.app [⟨kk, [], 0, [g, g2]⟩]
            rw [← e1] at p1
            rw [← e2] at p2
            simp only [Rep, Reps]
            exact ⟨[g, g2], by rw [e2, List.getElem?_append_right (by simp)]; simp, g, [g2], rfl, p1, g2, [], rfl, p2, rfl⟩)
          go_roundg f1'
          case measure => omega
          case rel => exact ⟨_, by omega, rfl, zH (.inl ⟨_, j2, _, R4.out, B4.out, N4.out, L4.out, HR1.out⟩)⟩
    · obtain ⟨f0, f1, f2, f3, f4, f5, f6⟩ := hst.facts
      have hnn := hst.placeAt_nn jj
      obtain ⟨pv, hpv⟩ : ∃ z, placeAt l sz jj = z := ⟨_, rfl⟩
      rw [hpv] at f3 hnn
      have d0 : decide (pv < 0) = false := by simp; omega
      have ST := zH hst
      have BL := zH hbl
      have LE := zH hle
      clear hS hst hbl hle f4 f5 hpv
      go_wp2_with fail
      go_ret
      exact ⟨g, es1, i1, rfl, BL.out, ST.out, LE.out⟩
theorem r_row_6 (f : Nat) (HB : ∀ f', f' ≤ f → RLevel q a c sz l 46 [.int .i64 7] (fun i => pL l f' 7 i)) : RLevel q a c sz l 46 [.int .i64 6] (fun i => pL l (f + 1) 6 i) := by
  intro i es X h hes hr
  have hr0 : pL l (f + 1) 6 i = rowR l f 6 i := pL_row l f 6 i (by omega) (by omega)
  simp only at hr ⊢
  rw [hr0] at hr ⊢
  obtain ⟨r, hrr⟩ : ∃ r, rowR l f 6 i = r := ⟨_, rfl⟩
  rw [hrr] at hr ⊢
  unfold rowR at hrr
  obtain ⟨f0, f1, f2, f3, f4, f5, f6⟩ := h.facts
  have H := zH h
  have HES := zH hes
  have HNE := zH hr
  have HC : Hid (∀ (f' : Nat) (j : Nat) (es : List (EN × Value)) (Y : World) (r' : PR), f' ≤ f → RSt q a c sz l j (-1) es Y → es.length ≤ j → pL l f' 7 j = r' → r' ≠ .out → Calls Tryd.prog 46 #[.pointer (some ⟨q, 0, none⟩), .int .i64 7] Y (RReads q a c sz l j es Y r')) := zH (fun f' j es Y r' hf hY he e hne => by rw [← e]; exact HB f' hf j es Y hY he (by show pL l f' 7 j ≠ .out; rw [e]; exact hne))
  have HF : Hid (∀ r1, pL l f 7 i = r1 → r1 ≠ .out → Calls Tryd.prog 46 #[.pointer (some ⟨q, 0, none⟩), .int .i64 7] X (fun e w' => ∃ g : Nat, e = .returned (.int .i64 (g : Int)) ∧ RowS q a c sz l i es X 6 r f g w')) := zH (fun r1 e1 hne => by
    refine (HC.out f i es X r1 zL h hes e1 hne).mono fun e w' hR => ?_
    rw [e1] at hrr
    cases r1 with
    | out => exact absurd rfl hne
    | ok t j =>
      obtain ⟨g, es1, he, h1, h2, h3, h4⟩ := hR
      exact ⟨g, he, .inl ⟨t, j, es1, h1, h2, h3, h4, hrr⟩⟩
    | no j =>
      obtain ⟨g, es1, i1, he, h2, h3, h4⟩ := hR
      exact ⟨g, he, .inr ⟨j, i1, es1, hrr.symm, h2, h3, h4⟩⟩)
  have HF1 := zH (HF.out _ rfl (fun e => hr (by rw [← hrr, e]; rfl)))
  clear HB h hes hr hr0 hrr HF f4 f5
  show Calls _ _ #[.pointer (some ⟨q, 0, none⟩), .int .i64 6] _ _
  go_enter Tryd.func46, Tryd.ntmps46
  go_wp2_with (first
    | (go_at_call 46; (with_reducible refine HF1.out.mono ?_); rintro e w1 ⟨g1, rfl, h1⟩; have S1 := zH h1; clear h1))
  clear f0 f1 f2 f3 f6 HF1
  go_loopg [6, 7, 8] f (fun gk v _ _ wr => ∃ g : Nat, gk ≤ f ∧ v = .int .i64 (g : Int) ∧ Hid (RowS q a c sz l i es X 6 r gk g wr))
  case atStart => exact ⟨g1, Nat.le_refl _, rfl, S1⟩
  case round =>
    clear S1
    obtain ⟨g, hgk, rfl, hS⟩ := hrel
    rcases hS.out with ⟨t, j, es1, hrep, hbl, hst, hle, hpr⟩ | ⟨jj, i1, es1, rfl, hbl, hst, hle⟩
    · have hj := hst.le
      have hfew := hst.few
      obtain ⟨f0, f1, f2, f3, f4, f5, f6⟩ := hst.facts
      have ST := zH hst
      have BL := zH hbl
      have RP := zH hrep
      have LE := zH hle
      have LJ := zH (And.intro hj hfew)
      clear hS hst hbl hrep hle hj hfew f4 f5
      cases gk with
      | zero =>
        exfalso
        rw [pR] at hpr
        exact HNE.out hpr.symm
      | succ f1' =>
      rw [pR] at hpr
      have hbt := r_between_6 ST.out
      obtain ⟨kk, hkk⟩ : ∃ z, signK l 6 j = z := ⟨_, rfl⟩
      have HJ : Hid (kk ≠ 0 → j + 1 ≤ l.length) := zH (fun h => signK_lt (by rw [hkk]; exact h))
      rw [hkk] at hbt hpr
      clear hkk
      by_cases hk0 : kk = 0
      · subst hk0
        rw [if_pos rfl] at hpr hbt
        subst hpr
        have HBT := zH hbt
        clear hbt
        go_wp2_with (first
          | (go_at_call 66; (refine HBT.out.mono ?_); rintro e w2 ⟨rfl, h2, h3⟩; have S2 := zH (And.intro h2 h3); clear h2 h3))
        go_ret
        exact ⟨g, es1, rfl, RP.out, BL.out.trans S2.out.1, S2.out.2, LE.out⟩
      · rw [if_neg hk0] at hpr hbt
        have d0 : ((kk : Int) == 0) = false := by simp; omega
        have HBT := zH hbt
        have HJ1 := zH (HJ.out hk0)
        clear hbt hk0
        cases hb : pL l f1' 7 (j + 1) with
        | out => rw [hb] at hpr; exact absurd hpr.symm HNE.out
        | no j2 =>
          rw [hb] at hpr
          have hr1 : PR.no j2 = r := hpr
          subst hr1
          have HL := zH (fun Y (hY : RSt q a c sz l (j + 1) (-1) (es ++ es1) Y) => HC.out f1' (j + 1) (es ++ es1) Y (.no j2) (by omega) hY (by rw [List.length_append]; have := HES.out; have := LE.out; omega) hb (by simp))
          clear hb hpr
          go_wp2_with (first
            | (go_at_call 66; (refine HBT.out.mono ?_); rintro e w2 ⟨rfl, h2, h3⟩; have S2 := zH (And.intro h2 h3); clear h2 h3)
            | (go_at_call 46; (refine (HL.out _ S2.out.2).mono ?_); rintro e w3 ⟨g2, es2, i2, rfl, h2, h3, h4⟩; have S3 := zH (And.intro h2 (And.intro h3 h4)); clear h2 h3 h4)
            | (go_at_call 64; (refine (r_add kk [] 0 [g, g2] _ _ _ (ints2 w3 g g2) (by simp) (by have := S3.out.2.1.le; have := S3.out.2.2; have := LJ.out; have := LE.out; have := HES.out; simp only [List.length_append]; omega) (S3.out.2.1.keep (zB.alloc zL _))).mono ?_); rintro e w4 ⟨rfl, h2, kv, h3⟩; have S4 := zH (And.intro h2 h3); clear h2 h3))
          have B4 : Hid (Below q X w4) := zH (((BL.out.trans S2.out.1).trans S3.out.1).trans (((zB.alloc zL _).mono (Nat.le_of_lt S3.out.2.1.lt)).trans S4.out.1))
          have N4 : Hid (RSt q a c sz l i2 (placeAt l sz j2) (es ++ (es1 ++ (es2 ++ [(⟨kk, [], 0, [g, g2]⟩, kv)]))) w4) := zH (by have := S4.out.2; simpa only [List.append_assoc] using this)
          have L4 : Hid ((es1 ++ (es2 ++ [((⟨kk, [], 0, [g, g2]⟩ : EN), kv)])).length + i ≤ i2) := zH (by have := S3.out.2.2; have := LE.out; simp only [List.length_append, List.length_cons, List.length_nil]; omega)
          go_roundg f1'
          case measure => omega
          case rel => exact ⟨_, by omega, rfl, zH (.inr ⟨j2, i2, _, rfl, B4.out, N4.out, L4.out⟩)⟩
        | ok t2 j2 =>
          rw [hb] at hpr
          have hr1 : (if 6 = 4 then PR.ok (.node kk [] 0 [t, t2]) j2 else pR l f1' 6 (.node kk [] 0 [t, t2]) j2) = r := hpr
          have HR1 := zH hr1
          have HL := zH (fun Y (hY : RSt q a c sz l (j + 1) (-1) (es ++ es1) Y) => HC.out f1' (j + 1) (es ++ es1) Y (.ok t2 j2) (by omega) hY (by rw [List.length_append]; have := HES.out; have := LE.out; omega) hb (by simp))
          clear hb hpr hr1
          go_wp2_with (first
            | (go_at_call 66; (refine HBT.out.mono ?_); rintro e w2 ⟨rfl, h2, h3⟩; have S2 := zH (And.intro h2 h3); clear h2 h3)
            | (go_at_call 46; (refine (HL.out _ S2.out.2).mono ?_); rintro e w3 ⟨g2, es2, rfl, hr2, h2, h3, h4⟩; have S3 := zH (And.intro h2 (And.intro h3 h4)); have RP2 := zH hr2; clear h2 h3 h4 hr2)
            | (go_at_call 64; (refine (r_add kk [] 0 [g, g2] _ _ _ (ints2 w3 g g2) (by simp) (by have := S3.out.2.1.le; have := S3.out.2.2; have := LJ.out; have := LE.out; have := HES.out; simp only [List.length_append]; omega) (S3.out.2.1.keep (zB.alloc zL _))).mono ?_); rintro e w4 ⟨rfl, h2, kv, h3⟩; have S4 := zH (And.intro h2 h3); clear h2 h3))
          have B4 : Hid (Below q X w4) := zH (((BL.out.trans S2.out.1).trans S3.out.1).trans (((zB.alloc zL _).mono (Nat.le_of_lt S3.out.2.1.lt)).trans S4.out.1))
          have N4 : Hid (RSt q a c sz l j2 (-1) (es ++ (es1 ++ (es2 ++ [(⟨kk, [], 0, [g, g2]⟩, kv)]))) w4) := zH (by have := S4.out.2; simpa only [List.append_assoc] using this)
          have L4 : Hid ((es1 ++ (es2 ++ [((⟨kk, [], 0, [g, g2]⟩ : EN), kv)])).length + i ≤ j2) := zH (by have := S3.out.2.2; have := LE.out; simp only [List.length_append, List.length_cons, List.length_nil]; omega)
          have R4 : Hid (Rep ((es ++ (es1 ++ (es2 ++ [((⟨kk, [], 0, [g, g2]⟩ : EN), kv)]))).map (·.1)) (.node kk [] 0 [t, t2]) (es.length + (es1.length + es2.length))) := zH (by
            have e3 : es.length + (es1.length + es2.length) = (es ++ es1 ++ es2).length := by simp only [List.length_append]; omega
            rw [e3]
            have e1 : (es ++ (es1 ++ (es2 ++ [((⟨kk, [], 0, [g, g2]⟩ : EN), kv)]))).map (·.1) = (es ++ es1).map (·.1) ++ (es2.map (·.1) ++ [⟨kk, [], 0, [g, g2]⟩]) := by simp [List.append_assoc]
            have e2 : (es ++ (es1 ++ (es2 ++ [((⟨kk, [], 0, [g, g2]⟩ : EN), kv)]))).map (·.1) = (es ++ es1 ++ es2).map (·.1) ++ [⟨kk, [], 0, [g, g2]⟩] := by simp [List.append_assoc]
            have p1 := RP.out.app (es2.map (·.1) ++ [⟨kk, [], 0, [g, g2]⟩])
            have p2 := RP2.out.app [⟨kk, [], 0, [g, g2]⟩]
            rw [← e1] at p1
            rw [← e2] at p2
            simp only [Rep, Reps]
            exact ⟨[g, g2], by rw [e2, List.getElem?_append_right (by simp)]; simp, g, [g2], rfl, p1, g2, [], rfl, p2, rfl⟩)
          go_roundg f1'
          case measure => omega
          case rel => exact ⟨_, by omega, rfl, zH (.inl ⟨_, j2, _, R4.out, B4.out, N4.out, L4.out, HR1.out⟩)⟩
    · obtain ⟨f0, f1, f2, f3, f4, f5, f6⟩ := hst.facts
      have hnn := hst.placeAt_nn jj
      obtain ⟨pv, hpv⟩ : ∃ z, placeAt l sz jj = z := ⟨_, rfl⟩
      rw [hpv] at f3 hnn
      have d0 : decide (pv < 0) = false := by simp; omega
      have ST := zH hst
      have BL := zH hbl
      have LE := zH hle
      clear hS hst hbl hle f4 f5 hpv
      go_wp2_with fail
      go_ret
      exact ⟨g, es1, i1, rfl, BL.out, ST.out, LE.out⟩
end
end Go.Proofs.YtpkggobhhieeoaaDoor
