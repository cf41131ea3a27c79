/- The closures of lang.Check: what is wrong with one element of each list. -/
import Derived.Test.YtdhljfblkidohaaGreatSide
import Derived.Test.YtdhljfblkidohaaGreatConcept
import Derived.Test.YtdhljfblkidohaaGreatSmallChk
import Derived.Deep.RegionHeld3
namespace Go.Proofs.YtdhljfblkidohaaGreat
set_option linter.unusedSimpArgs false
set_option linter.unusedVariables false
open Go.RowKit

set_option maxRecDepth 100000 in
set_option maxHeartbeats 4000000 in
theorem ck_use (l : Language) (q i : Nat) (s : ByteArray) (a : Option Addr) (n c : Nat) (w0 W : World) (hs : SlR w0 w0.heap.size 1 IsText (.slice a n c) l.uses) (hw : Below w0.heap.size w0 W) (hi : i < n) (ho : s.size ≤ maxLen)
    (q0 : W.cell? ⟨q, 0, none⟩ = some (.string l.name)) (q2 : W.cell? ⟨q, 2, none⟩ = some (.slice a n c)) :
    Calls Tryz.prog 20 #[.int .i64 (i : Int), .string s, .pointer (some ⟨q, 0, none⟩)] W (ConPost (useE l i s) W) := by
  have hcap : i ≤ c := by have := hs.caps; omega
  have hn := hs.len
  have H := Lib.hid (fun W' (h : Below w0.heap.size w0 W') => contains_text s W' w0 (hs.take (i := i) (by omega)) h)
  have HW := Lib.hid hw
  obtain ⟨z, hz⟩ : ∃ z, l.name = z := ⟨_, rfl⟩
  rw [hz] at q0
  rcases hR : okName s with _ | _
  · have hv : useE l i s = (0, 2) := by unfold useE; rw [if_pos hR]
    rw [hv]; clear hv
    have RR := Lib.hid (fun W => right_of s ho false hR W)
    clear hs hw hR hz hn
    go_enter Tryz.func20, Tryz.ntmps20
    go_wp2_with (go_at_call 18; with_reducible refine (RR.out _).mono ?_; rintro e w1 ⟨rfl, q1⟩)
    go_ret2
    exact ⟨⟨_, rfl, fun _ => rfl⟩, q1.below _⟩
  have RR := Lib.hid (fun W => right_of s ho true hR W)
  by_cases hsn : s = z
  · have hv : useE l i s = (0, 40) := by unfold useE; rw [if_neg (by rw [hR]; simp), if_pos (by rw [hz]; exact hsn)]
    rw [hv]; clear hv
    subst hsn
    clear hs hw hR hz hn
    go_enter Tryz.func20, Tryz.ntmps20
    go_wp2_with (first
      | (go_at_call 18
         with_reducible refine (RR.out _).mono ?_
         rintro e w1 ⟨rfl, q1⟩
         obtain ⟨g1, _⟩ := bcell (q1.below W.heap.size)
         have lq := cell_lt q0
         simp only at lq)
      | (go_at_call 21
         with_reducible refine (twice_yes _).mono ?_
         rintro e w2 ⟨rfl, rfl⟩))
    go_ret2
    exact ⟨⟨_, rfl, fun _ => rfl⟩, q1.below _⟩
  have ne1 : (s.toList == z.toList) = false := by simpa [toList_inj] using hsn
  rcases hc : (l.uses.take i).any (fun x => decide (x = s)) with _ | _
  · have hv : useE l i s = (0, 0) := by unfold useE; rw [if_neg (by rw [hR]; simp), if_neg (by rw [hz]; exact hsn), if_neg (by rw [hc]; simp)]
    rw [hv]; clear hv
    rw [hc] at H
    clear hs hw hR hz hn hsn hc
    go_enter Tryz.func20, Tryz.ntmps20
    go_wp2_with (first
      | (go_at_call 18
         with_reducible refine (RR.out _).mono ?_
         rintro e w1 ⟨rfl, q1⟩
         obtain ⟨g1, _⟩ := bcell (q1.below W.heap.size)
         have lq := cell_lt q0
         simp only at lq)
      | (go_at_call 22
         with_reducible refine (H.out _ (HW.out.trans (q1.below _))).mono ?_
         rintro e w2 ⟨rfl, q2'⟩)
      | (go_at_call 21
         with_reducible refine (twice_no _).mono ?_
         rintro e w3 ⟨rfl, rfl⟩))
    go_ret2
    exact ⟨⟨_, rfl, fun h => absurd rfl h⟩, (q1.trans q2').below _⟩
  · have hv : useE l i s = (0, 40) := by unfold useE; rw [if_neg (by rw [hR]; simp), if_neg (by rw [hz]; exact hsn), if_pos hc]
    rw [hv]; clear hv
    rw [hc] at H
    clear hs hw hR hz hn hsn hc
    go_enter Tryz.func20, Tryz.ntmps20
    go_wp2_with (first
      | (go_at_call 18
         with_reducible refine (RR.out _).mono ?_
         rintro e w1 ⟨rfl, q1⟩
         obtain ⟨g1, _⟩ := bcell (q1.below W.heap.size)
         have lq := cell_lt q0
         simp only at lq)
      | (go_at_call 22
         with_reducible refine (H.out _ (HW.out.trans (q1.below _))).mono ?_
         rintro e w2 ⟨rfl, q2'⟩)
      | (go_at_call 21
         with_reducible refine (twice_yes _).mono ?_
         rintro e w3 ⟨rfl, rfl⟩))
    go_ret2
    exact ⟨⟨_, rfl, fun _ => rfl⟩, (q1.trans q2').below _⟩

set_option maxRecDepth 100000 in
set_option maxHeartbeats 4000000 in
theorem ck_concept (l : Language) (q i : Nat) (y : Concept) (x : List Value) (a : Option Addr) (n c : Nat) (w0 W : World) (hs : SlR w0 w0.heap.size 6 (Concept.Is w0 w0.heap.size) (.slice a n c) l.concepts) (hw : Below w0.heap.size w0 W) (hi : i < n) (hx : Concept.Is w0 w0.heap.size x y)
    (q3 : W.cell? ⟨q, 3, none⟩ = some (.slice a n c)) :
    Calls Tryz.prog 24 #[.int .i64 (i : Int), .agg x.toArray, .pointer (some ⟨q, 0, none⟩)] W (ConPost (conceptE l.concepts i y) W) := by
  have hcap : i ≤ c := by have := hs.caps; omega
  have hn := hs.len
  have lq : q < W.heap.size := cell_lt q3
  have H := Lib.hid (fun W' (h : Below w0.heap.size w0 W') => concept_any W' w0 (hs.take (i := i) (by omega)) hx h)
  have HW := Lib.hid hw
  obtain ⟨v1, v2, v3, rfl, s1, s2, s3, _⟩ := hx
  obtain ⟨a1, n1, c1, rfl⟩ := s1.form'
  obtain ⟨a2, n2, c2, rfl⟩ := s2.form'
  obtain ⟨a3, n3, c3, rfl⟩ := s3.form'
  clear s1 s2 s3 hs hn hw
  unfold conceptE
  go_enter Tryz.func24, Tryz.ntmps24
  go_wp2_with fail
  generalize hW1 : World.alloc W _ = W1
  have KB : Blk W1 W.heap.size 47 #[.string y.name, .string y.super, .bool y.abs, .slice a1 n1 c1, .slice a2 n2 c2, .slice a3 n3 c3] := by rw [← hW1]; exact Blk.new W _ _
  have hB1 : Below W.heap.size W W1 := by rw [← hW1]; exact (Below.refl _ _).alloc (Nat.le_refl _) _
  clear hW1
  have c3' : W1.cell? ⟨q, 3, none⟩ = some (.slice a n c) := (hB1.cell lq).trans q3
  have k0 : W1.cell? ⟨W.heap.size, 0, none⟩ = some (.string y.name) := KB.cell rfl
  have k1' : W1.cell? ⟨W.heap.size, 1, none⟩ = some (.string y.super) := KB.cell rfl
  have k2 : W1.cell? ⟨W.heap.size, 2, none⟩ = some (.bool y.abs) := KB.cell rfl
  have k3 : W1.cell? ⟨W.heap.size, 3, none⟩ = some (.slice a1 n1 c1) := KB.cell rfl
  have k4 : W1.cell? ⟨W.heap.size, 4, none⟩ = some (.slice a2 n2 c2) := KB.cell rfl
  have k5 : W1.cell? ⟨W.heap.size, 5, none⟩ = some (.slice a3 n3 c3) := KB.cell rfl
  have B1 := Lib.hid hB1
  have l1W : W.heap.size < W1.heap.size := KB.lt
  clear hB1 KB
  have lq2 : q < W1.drew.heap.size := Nat.lt_of_lt_of_le lq B1.out.size
  have lw2 : W.heap.size < W1.drew.heap.size := l1W
  go_region_held3 (fun w' => w'.cell? ⟨q, 3, none⟩ = some (.slice a n c) ∧ w'.cell? ⟨W.heap.size, 0, none⟩ = some (.string y.name) ∧ w'.cell? ⟨W.heap.size, 1, none⟩ = some (.string y.super) ∧ w'.cell? ⟨W.heap.size, 2, none⟩ = some (.bool y.abs) ∧ w'.cell? ⟨W.heap.size, 3, none⟩ = some (.slice a1 n1 c1) ∧ w'.cell? ⟨W.heap.size, 4, none⟩ = some (.slice a2 n2 c2) ∧ w'.cell? ⟨W.heap.size, 5, none⟩ = some (.slice a3 n3 c3))
    (first
      | (have _b := b1; exact ⟨(b1.cell (p := ⟨q, 3, none⟩) lq2).trans c3', (b1.cell (p := ⟨W.heap.size, 0, none⟩) lw2).trans k0, (b1.cell (p := ⟨W.heap.size, 1, none⟩) lw2).trans k1', (b1.cell (p := ⟨W.heap.size, 2, none⟩) lw2).trans k2, (b1.cell (p := ⟨W.heap.size, 3, none⟩) lw2).trans k3, (b1.cell (p := ⟨W.heap.size, 4, none⟩) lw2).trans k4, (b1.cell (p := ⟨W.heap.size, 5, none⟩) lw2).trans k5⟩)
      | exact ⟨c3', k0, k1', k2, k3, k4, k5⟩
      | go_keep
      | fail)
    (first
      | (go_at_call 25; refine (H.out _ (HW.out.trans (B1.out.mono HW.out.size)).drew).mono ?_; rintro e w1 ⟨⟨p, rfl, hp⟩, b1⟩)
      | fail)
  go_wp2_with fail
  go_ret2
  exact ⟨⟨p, rfl, hp⟩, B1.out.drew.trans (b1.mono (show W.heap.size ≤ W1.heap.size from B1.out.size))⟩

set_option maxRecDepth 100000 in
set_option maxHeartbeats 4000000 in
theorem ck_rule (l : Language) (q i : Nat) (y : Rule) (x : List Value) (a : Option Addr) (n c : Nat) (w0 W : World) (hs : SlR w0 w0.heap.size 4 Rule.Is (.slice a n c) l.rules) (hw : Below w0.heap.size w0 W) (hi : i < n) (hx : Rule.Is x y)
    (q4 : W.cell? ⟨q, 4, none⟩ = some (.slice a n c)) :
    Calls Tryz.prog 27 #[.int .i64 (i : Int), .agg x.toArray, .pointer (some ⟨q, 0, none⟩)] W (ConPost (ruleE l.rules i y) W) := by
  have hmf : ∀ (fn : Fn) (first cap : Array Value) (w : World), (Instr.makeFunc fn first cap).run Tryz.prog w = .ok (.func fn first cap) w := fun _ _ _ _ => rfl
  have hcap : i ≤ c := by have := hs.caps; omega
  have hn := hs.len
  have lq : q < W.heap.size := cell_lt q4
  have HS := Lib.hid hs
  have HN := Lib.hid hn
  have HW := Lib.hid hw
  obtain ⟨rfl, o1, o2, o3⟩ := hx
  obtain ⟨yc, yn, ys, ye⟩ := y
  simp only [Rule.cells] at o1 o2 o3 ⊢
  clear hs hn hw
  have hr : ruleE l.rules i ⟨yc, yn, ys, ye⟩ = if okName yc = false ∨ okName yn = false then (0, 2) else if (l.rules.take i).any (fun x => decide (x.concept = yc) && decide (x.name = yn) && decide (x.scope = ys)) then (0, 40) else if 4096 < ye.size then (0, 3) else (0, 0) := rfl
  have HR := Lib.hid hr
  clear hr

  rcases hR : okName yc with _ | _
  · have hv : ruleE l.rules i ⟨yc, yn, ys, ye⟩ = (0, 2) := by rw [HR.out, if_pos (.inl hR)]
    rw [hv]; clear hv
    have RR := Lib.hid (fun W => right_of yc o1 false hR W)
    clear hR
    go_enter Tryz.func27, Tryz.ntmps27
    go_wp2_with (first
      | (go_at_call 18
         with_reducible refine (RR.out _).mono ?_
         rintro e w1 ⟨rfl, q1⟩
         have K1 : Hid (Kept W W.heap.size 49 #[.string yc, .string yn, .bool ys, .string ye] w1) := Lib.hid ((Kept.new W _ _).step (q1.below _))
         obtain ⟨g1, _⟩ := bcell (q1.below (W.heap.size + 1))
         have lq1 : q < W.heap.size + 1 := by omega
         have B1 : Hid (Below W.heap.size W w1) := Lib.hid K1.out.low))
    go_ret2
    exact ⟨⟨_, rfl, fun _ => rfl⟩, B1.out⟩
  have RR := Lib.hid (fun W => right_of yc o1 true hR W)
  rcases hR2 : okName yn with _ | _
  · have hv : ruleE l.rules i ⟨yc, yn, ys, ye⟩ = (0, 2) := by rw [HR.out, if_pos (.inr hR2)]
    rw [hv]; clear hv
    have RC := Lib.hid (fun W => right_of yn o2 false hR2 W)
    clear hR hR2
    go_enter Tryz.func27, Tryz.ntmps27
    go_wp2_with (first
      | (go_at_call 18
         with_reducible refine (RR.out _).mono ?_
         rintro e w1 ⟨rfl, q1⟩
         have K1 : Hid (Kept W W.heap.size 49 #[.string yc, .string yn, .bool ys, .string ye] w1) := Lib.hid ((Kept.new W _ _).step (q1.below _))
         obtain ⟨g1, _⟩ := bcell (q1.below (W.heap.size + 1))
         have lq1 : q < W.heap.size + 1 := by omega
         have B1 : Hid (Below W.heap.size W w1) := Lib.hid K1.out.low)
      | (go_at_call 18
         with_reducible refine (RC.out _).mono ?_
         rintro e w2 ⟨rfl, q2⟩
         have K2 : Hid (Kept W W.heap.size 49 #[.string yc, .string yn, .bool ys, .string ye] w2) := Lib.hid (K1.out.step (q2.below _))
         obtain ⟨g2, _⟩ := bcell (q2.below (W.heap.size + 1))
         have B2 : Hid (Below W.heap.size W w2) := Lib.hid K2.out.low))
    go_ret2
    exact ⟨⟨_, rfl, fun _ => rfl⟩, B2.out⟩
  have RC := Lib.hid (fun W => right_of yn o2 true hR2 W)
  rcases hD : (l.rules.take i).any (fun x => decide (x.concept = yc) && decide (x.name = yn) && decide (x.scope = ys)) with _ | _
  rotate_left
  · have hv : ruleE l.rules i ⟨yc, yn, ys, ye⟩ = (0, 40) := by rw [HR.out, if_neg (by rw [hR, hR2]; simp), if_pos hD]
    rw [hv]; clear hv
    have HD := Lib.hid hD
    clear hR hR2 hD
    go_enter Tryz.func27, Tryz.ntmps27
    go_wp2_with (first
      | (go_at_call 18
         with_reducible refine (RR.out _).mono ?_
         rintro e w1 ⟨rfl, q1⟩
         have K1 : Hid (Kept W W.heap.size 49 #[.string yc, .string yn, .bool ys, .string ye] w1) := Lib.hid ((Kept.new W _ _).step (q1.below _))
         obtain ⟨g1, _⟩ := bcell (q1.below (W.heap.size + 1))
         have lq1 : q < W.heap.size + 1 := by omega
         have B1 : Hid (Below W.heap.size W w1) := Lib.hid K1.out.low)
      | (go_at_call 18
         with_reducible refine (RC.out _).mono ?_
         rintro e w2 ⟨rfl, q2⟩
         have K2 : Hid (Kept W W.heap.size 49 #[.string yc, .string yn, .bool ys, .string ye] w2) := Lib.hid (K1.out.step (q2.below _))
         obtain ⟨g2, _⟩ := bcell (q2.below (W.heap.size + 1))
         have B2 : Hid (Below W.heap.size W w2) := Lib.hid K2.out.low)
      | (go_at_call 28
         with_reducible refine (dup_Rule w0 _ W.heap.size ⟨yc, yn, ys, ye⟩ i HS.out (HW.out.trans (K2.out.low.mono HW.out.size)) (K2.out.blk.cell (i := 0) rfl) (K2.out.blk.cell (i := 1) rfl) (K2.out.blk.cell (i := 2) rfl) (by rw [← HN.out]; omega) _ HD.out).mono ?_
         rintro e w3 ⟨rfl, b3⟩
         have K3 : Hid (Kept W W.heap.size 49 #[.string yc, .string yn, .bool ys, .string ye] w3) := Lib.hid (K2.out.step b3)
         obtain ⟨g3, _⟩ := bcell (b3.mono K2.out.blk.lt)
         have B3 : Hid (Below W.heap.size W w3) := Lib.hid K3.out.low)
      | (go_at_call 21
         with_reducible refine (twice_yes _).mono ?_
         rintro e w4 ⟨rfl, rfl⟩))
    go_ret2
    exact ⟨⟨_, rfl, fun _ => rfl⟩, B3.out⟩
  have HD := Lib.hid hD
  by_cases h4 : 4096 < ye.size
  · have hv : ruleE l.rules i ⟨yc, yn, ys, ye⟩ = (0, 3) := by rw [HR.out, if_neg (by rw [hR, hR2]; simp), if_neg (by rw [hD]; simp), if_pos h4]
    rw [hv]; clear hv
    have d4 : decide (4096 < (ye.size : Int)) = true := by simp; omega
    clear hR hR2 hD
    go_enter Tryz.func27, Tryz.ntmps27
    go_wp2_with (first
      | (go_at_call 18
         with_reducible refine (RR.out _).mono ?_
         rintro e w1 ⟨rfl, q1⟩
         have K1 : Hid (Kept W W.heap.size 49 #[.string yc, .string yn, .bool ys, .string ye] w1) := Lib.hid ((Kept.new W _ _).step (q1.below _))
         obtain ⟨g1, _⟩ := bcell (q1.below (W.heap.size + 1))
         have lq1 : q < W.heap.size + 1 := by omega
         have B1 : Hid (Below W.heap.size W w1) := Lib.hid K1.out.low)
      | (go_at_call 18
         with_reducible refine (RC.out _).mono ?_
         rintro e w2 ⟨rfl, q2⟩
         have K2 : Hid (Kept W W.heap.size 49 #[.string yc, .string yn, .bool ys, .string ye] w2) := Lib.hid (K1.out.step (q2.below _))
         obtain ⟨g2, _⟩ := bcell (q2.below (W.heap.size + 1))
         have B2 : Hid (Below W.heap.size W w2) := Lib.hid K2.out.low)
      | (go_at_call 28
         with_reducible refine (dup_Rule w0 _ W.heap.size ⟨yc, yn, ys, ye⟩ i HS.out (HW.out.trans (K2.out.low.mono HW.out.size)) (K2.out.blk.cell (i := 0) rfl) (K2.out.blk.cell (i := 1) rfl) (K2.out.blk.cell (i := 2) rfl) (by rw [← HN.out]; omega) _ HD.out).mono ?_
         rintro e w3 ⟨rfl, b3⟩
         have K3 : Hid (Kept W W.heap.size 49 #[.string yc, .string yn, .bool ys, .string ye] w3) := Lib.hid (K2.out.step b3)
         obtain ⟨g3, _⟩ := bcell (b3.mono K2.out.blk.lt)
         have B3 : Hid (Below W.heap.size W w3) := Lib.hid K3.out.low)
      | (go_at_call 21
         with_reducible refine (twice_no _).mono ?_
         rintro e w4 ⟨rfl, rfl⟩))
    go_ret2
    exact ⟨⟨_, rfl, fun _ => rfl⟩, B3.out⟩
  · have hv : ruleE l.rules i ⟨yc, yn, ys, ye⟩ = (0, 0) := by rw [HR.out, if_neg (by rw [hR, hR2]; simp), if_neg (by rw [hD]; simp), if_neg h4]
    rw [hv]; clear hv
    have d4 : decide (4096 < (ye.size : Int)) = false := by simp; omega
    clear hR hR2 hD
    go_enter Tryz.func27, Tryz.ntmps27
    go_wp2_with (first
      | (go_at_call 18
         with_reducible refine (RR.out _).mono ?_
         rintro e w1 ⟨rfl, q1⟩
         have K1 : Hid (Kept W W.heap.size 49 #[.string yc, .string yn, .bool ys, .string ye] w1) := Lib.hid ((Kept.new W _ _).step (q1.below _))
         obtain ⟨g1, _⟩ := bcell (q1.below (W.heap.size + 1))
         have lq1 : q < W.heap.size + 1 := by omega
         have B1 : Hid (Below W.heap.size W w1) := Lib.hid K1.out.low)
      | (go_at_call 18
         with_reducible refine (RC.out _).mono ?_
         rintro e w2 ⟨rfl, q2⟩
         have K2 : Hid (Kept W W.heap.size 49 #[.string yc, .string yn, .bool ys, .string ye] w2) := Lib.hid (K1.out.step (q2.below _))
         obtain ⟨g2, _⟩ := bcell (q2.below (W.heap.size + 1))
         have B2 : Hid (Below W.heap.size W w2) := Lib.hid K2.out.low)
      | (go_at_call 28
         with_reducible refine (dup_Rule w0 _ W.heap.size ⟨yc, yn, ys, ye⟩ i HS.out (HW.out.trans (K2.out.low.mono HW.out.size)) (K2.out.blk.cell (i := 0) rfl) (K2.out.blk.cell (i := 1) rfl) (K2.out.blk.cell (i := 2) rfl) (by rw [← HN.out]; omega) _ HD.out).mono ?_
         rintro e w3 ⟨rfl, b3⟩
         have K3 : Hid (Kept W W.heap.size 49 #[.string yc, .string yn, .bool ys, .string ye] w3) := Lib.hid (K2.out.step b3)
         obtain ⟨g3, _⟩ := bcell (b3.mono K2.out.blk.lt)
         have B3 : Hid (Below W.heap.size W w3) := Lib.hid K3.out.low)
      | (go_at_call 21
         with_reducible refine (twice_no _).mono ?_
         rintro e w4 ⟨rfl, rfl⟩))
    go_ret2
    exact ⟨⟨_, rfl, fun h => absurd rfl h⟩, B3.out⟩

set_option maxRecDepth 100000 in
set_option maxHeartbeats 4000000 in
theorem ck_equation (i : Nat) (y : Equation) (x : List Value) (w0 W : World) (hw : Below w0.heap.size w0 W) (hx : Equation.Is w0 w0.heap.size x y) :
    Calls Tryz.prog 31 #[.int .i64 (i : Int), .agg x.toArray] W (ConPost (equationE i y) W) := by
  have HW := Lib.hid hw
  obtain ⟨yc, yl, yr⟩ := y
  obtain ⟨v1, v2, rfl, s1, s2, _, _, o1⟩ := hx
  simp only at s1 s2 o1
  have S1 := Lib.hid (fun W' (h : Below w0.heap.size w0 W') => side_any W' w0 s1 h)
  have S2 := Lib.hid (fun W' (h : Below w0.heap.size w0 W') => side_any W' w0 s2 h)
  obtain ⟨a1, n1, c1, rfl⟩ := s1.form'
  obtain ⟨a2, n2, c2, rfl⟩ := s2.form'
  have hr : equationE i ⟨yc, yl, yr⟩ = if okName yc = false then (0, 2) else if sideE yl ≠ 0 then (1, sideE yl) else if sideE yr ≠ 0 then (2, sideE yr) else (0, 0) := rfl
  have HR := Lib.hid hr
  clear hr s1 s2 hw
  rcases hR : okName yc with _ | _
  · have hv : equationE i ⟨yc, yl, yr⟩ = (0, 2) := by rw [HR.out, if_pos hR]
    rw [hv]; clear hv
    have RR := Lib.hid (fun W => right_of yc o1 false hR W)
    clear hR
    go_enter Tryz.func31, Tryz.ntmps31
    go_wp2_with (first
      | (go_at_call 18
         with_reducible refine (RR.out _).mono ?_
         rintro e w1 ⟨rfl, q1⟩
         have K1 : Hid (Kept W W.heap.size 52 #[.string yc, .slice a1 n1 c1, .slice a2 n2 c2] w1) := Lib.hid ((Kept.new W _ _).step (q1.below _))
         obtain ⟨g1, _⟩ := bcell (q1.below (W.heap.size + 1))
         have B1 : Hid (Below W.heap.size W w1) := Lib.hid K1.out.low))
    go_ret2
    exact ⟨⟨_, rfl, fun _ => rfl⟩, B1.out⟩
  have RR := Lib.hid (fun W => right_of yc o1 true hR W)
  obtain ⟨e1, he1⟩ : ∃ e, sideE yl = e := ⟨_, rfl⟩
  obtain ⟨e2, he2⟩ : ∃ e, sideE yr = e := ⟨_, rfl⟩
  rw [he1, he2] at HR
  rw [he1] at S1
  rw [he2] at S2
  by_cases h1 : e1 = 0
  · subst h1
    have hv : (equationE i ⟨yc, yl, yr⟩).2 = e2 ∧ (e2 ≠ 0 → (equationE i ⟨yc, yl, yr⟩).1 = 2) := by
      rw [HR.out, if_neg (by rw [hR]; simp), if_neg (by simp)]
      by_cases h2 : e2 = 0
      · subst h2; simp
      · rw [if_pos h2]; simp
    have HV := Lib.hid hv
    clear hv hR he1 he2
    go_enter Tryz.func31, Tryz.ntmps31
    go_wp2_with (first
      | (go_at_call 18
         with_reducible refine (RR.out _).mono ?_
         rintro e w1 ⟨rfl, q1⟩
         have K1 : Hid (Kept W W.heap.size 52 #[.string yc, .slice a1 n1 c1, .slice a2 n2 c2] w1) := Lib.hid ((Kept.new W _ _).step (q1.below _))
         obtain ⟨g1, _⟩ := bcell (q1.below (W.heap.size + 1))
         have B1 : Hid (Below W.heap.size W w1) := Lib.hid K1.out.low)
      | (go_at_call 32
         with_reducible refine (S1.out _ (HW.out.trans (B1.out.mono HW.out.size))).mono ?_
         rintro e w2 ⟨rfl, b2⟩
         have K2 : Hid (Kept W W.heap.size 52 #[.string yc, .slice a1 n1 c1, .slice a2 n2 c2] w2) := Lib.hid (K1.out.step b2)
         obtain ⟨g2, _⟩ := bcell (b2.mono K1.out.blk.lt)
         have B2 : Hid (Below W.heap.size W w2) := Lib.hid K2.out.low)
      | (go_at_call 32
         with_reducible refine (S2.out _ (HW.out.trans (B2.out.mono HW.out.size))).mono ?_
         rintro e w3 ⟨rfl, b3⟩
         have B3 : Hid (Below W.heap.size W w3) := Lib.hid (K2.out.step b3).low))
    go_ret2
    exact ⟨⟨_, by rw [HV.out.1]; rfl, fun h => by rw [HV.out.2 (by rw [← HV.out.1]; exact h)]; rfl⟩, B3.out⟩
  · have hv : equationE i ⟨yc, yl, yr⟩ = (1, e1) := by rw [HR.out, if_neg (by rw [hR]; simp), if_pos h1]
    rw [hv]; clear hv
    have n1' : ¬ (e1 : Int) = 0 := by omega
    have n1b : ((e1 : Int) != 0) = true := by simpa using n1'
    clear hR he1 he2
    go_enter Tryz.func31, Tryz.ntmps31
    go_wp2_with (first
      | (go_at_call 18
         with_reducible refine (RR.out _).mono ?_
         rintro e w1 ⟨rfl, q1⟩
         have K1 : Hid (Kept W W.heap.size 52 #[.string yc, .slice a1 n1 c1, .slice a2 n2 c2] w1) := Lib.hid ((Kept.new W _ _).step (q1.below _))
         obtain ⟨g1, _⟩ := bcell (q1.below (W.heap.size + 1))
         have B1 : Hid (Below W.heap.size W w1) := Lib.hid K1.out.low)
      | (go_at_call 32
         with_reducible refine (S1.out _ (HW.out.trans (B1.out.mono HW.out.size))).mono ?_
         rintro e w2 ⟨rfl, b2⟩
         have K2 : Hid (Kept W W.heap.size 52 #[.string yc, .slice a1 n1 c1, .slice a2 n2 c2] w2) := Lib.hid (K1.out.step b2)
         obtain ⟨g2, _⟩ := bcell (b2.mono K1.out.blk.lt)
         have B2 : Hid (Below W.heap.size W w2) := Lib.hid K2.out.low))
    go_ret2
    exact ⟨⟨_, rfl, fun _ => rfl⟩, B2.out⟩

set_option maxRecDepth 100000 in
set_option maxHeartbeats 4000000 in
theorem ck_Editor (l : Language) (q i : Nat) (y : Editor) (x : List Value) (a : Option Addr) (n c : Nat) (w0 W : World) (hs : SlR w0 w0.heap.size 2 (Editor.Is w0 w0.heap.size) (.slice a n c) l.editors) (hw : Below w0.heap.size w0 W) (hi : i < n) (hx : Editor.Is w0 w0.heap.size x y)
    (qc : W.cell? ⟨q, 6, none⟩ = some (.slice a n c)) :
    Calls Tryz.prog 34 #[.int .i64 (i : Int), .agg x.toArray, .pointer (some ⟨q, 0, none⟩)] W (ConPost (editorE l.editors i y) W) := by
  have hmf : ∀ (fn : Fn) (first cap : Array Value) (w : World), (Instr.makeFunc fn first cap).run Tryz.prog w = .ok (.func fn first cap) w := fun _ _ _ _ => rfl
  have hcap : i ≤ c := by have := hs.caps; omega
  have hn := hs.len
  have lq : q < W.heap.size := cell_lt qc
  have HS := Lib.hid hs
  have HN := Lib.hid hn
  have HW := Lib.hid hw
  obtain ⟨yc, yl⟩ := y
  obtain ⟨v1, rfl, s1, _, o1⟩ := hx
  simp only at s1 o1
  obtain ⟨n1, hl1⟩ : ∃ n, yl.length = n := ⟨_, rfl⟩
  obtain ⟨a1, c1, rfl⟩ : ∃ a c, v1 = .slice a n1 c := by obtain ⟨a, c, h, _⟩ := s1.form; exact ⟨a, c, by rw [h, hl1]⟩
  have HRow : Hid (∀ W1, Below w0.heap.size w0 W1 → W1.cell? ⟨W.heap.size, 1, none⟩ = some (.slice a1 n1 c1) → Calls Tryz.prog 37 #[.string yc, .bool ((l.editors.take i).any (fun x => decide (x.concept = yc))), .int .i64 (n1 : Int), .func (.func 38) #[] #[.pointer (some ⟨W.heap.size, 0, none⟩)], .int .i64 6] W1 (ConPost (editorE l.editors i ⟨yc, yl⟩) W1)) := by
    intro W1 h1 hq
    exact row_any yl yc _ n1 6 38 #[.pointer (some ⟨W.heap.size, 0, none⟩)] W1 o1 hl1 (fun args w => by go_simp) (fun k cc W2 hd h2 => (rowat_Editor W2 W.heap.size k cc ((h2.cell (cell_lt hq)).trans hq) ((s1.below (h1.trans (h2.mono h1.size))).more (Nat.le_trans h1.size h2.size)) hd).mono fun _ _ ⟨h, hq⟩ => ⟨h, hq.below _⟩)
  clear hs hn hw s1 hl1
  go_enter Tryz.func34, Tryz.ntmps34
  go_wp2_with (first
    | (go_at_call 35
       with_reducible refine (dup_Editor w0 _ W.heap.size yc i HS.out (HW.out.alloc HW.out.size _) ((Blk.new W _ _).cell (i := 0) rfl) (by rw [← HN.out]; omega) _ rfl).mono ?_
       rintro e w1 ⟨rfl, b1⟩
       have K1 : Hid (Kept W W.heap.size 55 #[.string yc, .slice a1 n1 c1] w1) := Lib.hid ((Kept.new W _ _).step b1)
       obtain ⟨g1, _⟩ := bcell (b1.mono (show W.heap.size + 1 ≤ _ by simp))
       have B1 : Hid (Below W.heap.size W w1) := Lib.hid K1.out.low)
    | (go_at_call 37
       with_reducible refine (HRow.out _ (HW.out.trans (B1.out.mono HW.out.size)) (K1.out.blk.cell (i := 1) rfl)).mono ?_
       rintro e w2 ⟨⟨p, rfl, hp⟩, b2⟩
       have B2 : Hid (Below W.heap.size W w2) := Lib.hid (K1.out.step b2).low))
  go_ret2
  exact ⟨⟨p, rfl, hp⟩, B2.out⟩

set_option maxRecDepth 100000 in
set_option maxHeartbeats 4000000 in
theorem ck_Template (l : Language) (q i : Nat) (y : Template) (x : List Value) (a : Option Addr) (n c : Nat) (w0 W : World) (hs : SlR w0 w0.heap.size 2 (Template.Is w0 w0.heap.size) (.slice a n c) l.templates) (hw : Below w0.heap.size w0 W) (hi : i < n) (hx : Template.Is w0 w0.heap.size x y)
    (qc : W.cell? ⟨q, 7, none⟩ = some (.slice a n c)) :
    Calls Tryz.prog 40 #[.int .i64 (i : Int), .agg x.toArray, .pointer (some ⟨q, 0, none⟩)] W (ConPost (templateE l.templates i y) W) := by
  have hmf : ∀ (fn : Fn) (first cap : Array Value) (w : World), (Instr.makeFunc fn first cap).run Tryz.prog w = .ok (.func fn first cap) w := fun _ _ _ _ => rfl
  have hcap : i ≤ c := by have := hs.caps; omega
  have hn := hs.len
  have lq : q < W.heap.size := cell_lt qc
  have HS := Lib.hid hs
  have HN := Lib.hid hn
  have HW := Lib.hid hw
  obtain ⟨yc, yl⟩ := y
  obtain ⟨v1, rfl, s1, _, o1⟩ := hx
  simp only at s1 o1
  obtain ⟨n1, hl1⟩ : ∃ n, yl.length = n := ⟨_, rfl⟩
  obtain ⟨a1, c1, rfl⟩ : ∃ a c, v1 = .slice a n1 c := by obtain ⟨a, c, h, _⟩ := s1.form; exact ⟨a, c, by rw [h, hl1]⟩
  have HRow : Hid (∀ W1, Below w0.heap.size w0 W1 → W1.cell? ⟨W.heap.size, 1, none⟩ = some (.slice a1 n1 c1) → Calls Tryz.prog 37 #[.string yc, .bool ((l.templates.take i).any (fun x => decide (x.concept = yc))), .int .i64 (n1 : Int), .func (.func 43) #[] #[.pointer (some ⟨W.heap.size, 0, none⟩)], .int .i64 5] W1 (ConPost (templateE l.templates i ⟨yc, yl⟩) W1)) := by
    intro W1 h1 hq
    exact row_any yl yc _ n1 5 43 #[.pointer (some ⟨W.heap.size, 0, none⟩)] W1 o1 hl1 (fun args w => by go_simp) (fun k cc W2 hd h2 => (rowat_Template W2 W.heap.size k cc ((h2.cell (cell_lt hq)).trans hq) ((s1.below (h1.trans (h2.mono h1.size))).more (Nat.le_trans h1.size h2.size)) hd).mono fun _ _ ⟨h, hq⟩ => ⟨h, hq.below _⟩)
  clear hs hn hw s1 hl1
  go_enter Tryz.func40, Tryz.ntmps40
  go_wp2_with (first
    | (go_at_call 41
       with_reducible refine (dup_Template w0 _ W.heap.size yc i HS.out (HW.out.alloc HW.out.size _) ((Blk.new W _ _).cell (i := 0) rfl) (by rw [← HN.out]; omega) _ rfl).mono ?_
       rintro e w1 ⟨rfl, b1⟩
       have K1 : Hid (Kept W W.heap.size 58 #[.string yc, .slice a1 n1 c1] w1) := Lib.hid ((Kept.new W _ _).step b1)
       obtain ⟨g1, _⟩ := bcell (b1.mono (show W.heap.size + 1 ≤ _ by simp))
       have B1 : Hid (Below W.heap.size W w1) := Lib.hid K1.out.low)
    | (go_at_call 37
       with_reducible refine (HRow.out _ (HW.out.trans (B1.out.mono HW.out.size)) (K1.out.blk.cell (i := 1) rfl)).mono ?_
       rintro e w2 ⟨⟨p, rfl, hp⟩, b2⟩
       have B2 : Hid (Below W.heap.size W w2) := Lib.hid (K1.out.step b2).low))
  go_ret2
  exact ⟨⟨p, rfl, hp⟩, B2.out⟩

end Go.Proofs.YtdhljfblkidohaaGreat
