import Derived.Test.YtdhljfblkidohaaGreatEqB
import Derived.Test.YtdhljfblkidohaaGreatProg
import Derived.Deep.QuietTactic
import Derived.BigQuiet
namespace Go.Proofs.YtdhljfblkidohaaGreat
set_option linter.unusedSimpArgs false
set_option linter.unusedVariables false
open Go.RowKit

set_option maxHeartbeats 1000000 in
theorem same_Side {x x' : List Value} {d d' : Side} (w w0 : World) (h : Side.Is w0 w0.heap.size x d) (h' : Side.Is w0 w0.heap.size x' d') (hw : Below w0.heap.size w0 w) :
    Calls Tryz.prog 54 #[.agg x.toArray, .agg x'.toArray] w fun e w' => e = .returned (.bool (decide (d = d'))) ∧ Below w.heap.size w w' := by
  obtain ⟨av3, rfl, ah3, _⟩ := h
  obtain ⟨bv3, rfl, bh3, _⟩ := h'
  have C3 := Lib.hid (fun W hW => (equal_int W w0 ah3 bh3 hW).mono fun e w' hh => (⟨hh.1, hh.2.below _⟩ : _ ∧ Below W.heap.size W w'))
  obtain ⟨aa3, an3, ac3, rfl⟩ := ah3.form'
  obtain ⟨ba3, bn3, bc3, rfl⟩ := bh3.form'
  clear ah3 bh3
  obtain ⟨p0, p1, p2, p3⟩ := d
  obtain ⟨q0, q1, q2, q3⟩ := d'
  dsimp only at *
  by_cases e0 : p0 = q0
  rotate_left
  · have hv : decide ((⟨p0, p1, p2, p3⟩ : Side) = ⟨q0, q1, q2, q3⟩) = false := by simp [e0]
    rw [hv]; clear hv
    have e' : (p0 == q0) = false := by simpa using e0
    clear e0
    go_enter Tryz.func54, Tryz.ntmps54
    go_wp2_with fail
    go_ret
    exact ⟨rfl, ((Below.refl _ _).alloc (Nat.le_refl _) _).alloc (below2 (Nat.le_refl _)) _⟩
  subst e0
  by_cases e1 : p1 = q1
  rotate_left
  · have hv : decide ((⟨p0, p1, p2, p3⟩ : Side) = ⟨p0, q1, q2, q3⟩) = false := by simp [e1]
    rw [hv]; clear hv
    have e' : (p1.toList == q1.toList) = false := by simpa [toList_inj] using e1
    clear e1
    go_enter Tryz.func54, Tryz.ntmps54
    go_wp2_with fail
    go_ret
    exact ⟨rfl, ((Below.refl _ _).alloc (Nat.le_refl _) _).alloc (below2 (Nat.le_refl _)) _⟩
  subst e1
  by_cases e2 : p2 = q2
  rotate_left
  · have hv : decide ((⟨p0, p1, p2, p3⟩ : Side) = ⟨p0, p1, q2, q3⟩) = false := by simp [e2]
    rw [hv]; clear hv
    have e' : (p2 == q2) = false := by simpa using e2
    clear e2
    go_enter Tryz.func54, Tryz.ntmps54
    go_wp2_with fail
    go_ret
    exact ⟨rfl, ((Below.refl _ _).alloc (Nat.le_refl _) _).alloc (below2 (Nat.le_refl _)) _⟩
  subst e2
  by_cases e3 : p3 = q3
  rotate_left
  · have hv : decide ((⟨p0, p1, p2, p3⟩ : Side) = ⟨p0, p1, p2, q3⟩) = false := by simp [e3]
    rw [hv]; clear hv
    have E3 : Hid (decide (p3 = q3) = false) := by show _ = _; simpa using e3
    clear e3
    go_enter Tryz.func54, Tryz.ntmps54
    go_wp2_with fail
    with_reducible refine (C3.out _ ((hw.alloc hw.size _).alloc (below2 hw.size) _)).mono ?_
    rintro e w1 ⟨rfl, hb1⟩
    rw [E3.out]
    have hB1 : Below w0.heap.size w0 w1 := ((hw.alloc hw.size _).alloc (below2 hw.size) _).trans (hb1.mono (below3 hw.size))
    have hL1 : Below w.heap.size w w1 := (((Below.refl _ _).alloc (Nat.le_refl _) _).alloc (below2 (Nat.le_refl _)) _).trans (hb1.mono (below3 (Nat.le_refl _)))
    go_wp2_with fail
    go_ret
    exact ⟨rfl, hL1⟩
  have E3 : Hid (decide (p3 = q3) = true) := by show _ = _; simpa using e3
  have X3 := Lib.hid e3
  clear e3
  have hv : decide ((⟨p0, p1, p2, p3⟩ : Side) = ⟨p0, p1, p2, q3⟩) = true := by simp [X3.out]
  rw [hv]; clear hv
  go_enter Tryz.func54, Tryz.ntmps54
  go_wp2_with fail
  with_reducible refine (C3.out _ ((hw.alloc hw.size _).alloc (below2 hw.size) _)).mono ?_
  rintro e w1 ⟨rfl, hb1⟩
  rw [E3.out]
  have hB1 : Below w0.heap.size w0 w1 := ((hw.alloc hw.size _).alloc (below2 hw.size) _).trans (hb1.mono (below3 hw.size))
  have hL1 : Below w.heap.size w w1 := (((Below.refl _ _).alloc (Nat.le_refl _) _).alloc (below2 (Nat.le_refl _)) _).trans (hb1.mono (below3 (Nat.le_refl _)))
  go_wp2_with fail
  go_ret
  exact ⟨rfl, hL1⟩

theorem eqf_Side {l m : List Side} {v v' : Value} (w w0 : World) (hs : SlR w0 w0.heap.size 4 (Side.Is w0 w0.heap.size) v l) (ht : SlR w0 w0.heap.size 4 (Side.Is w0 w0.heap.size) v' m) (hw : Below w0.heap.size w0 w) :
    Calls Tryz.prog 53 #[v, v', .func (.func 54) #[] #[]] w fun e w' => e = .returned (.bool (decide (l = m))) ∧ Below w.heap.size w w' := by
  rw [← eqBy_eq]
  exact equalFunc_Side 54 #[] w w0 (fun a b => decide (a = b)) hs ht hw Side.Is.shape Side.Is.shape (fun args w => by go_simp) (fun x x' y y' W hx hx' hW => same_Side W w0 hx hx' hW)

set_option maxHeartbeats 1000000 in
theorem same_Concept {x x' : List Value} {d d' : Concept} (w w0 : World) (h : Concept.Is w0 w0.heap.size x d) (h' : Concept.Is w0 w0.heap.size x' d') (hw : Below w0.heap.size w0 w) :
    Calls Tryz.prog 49 #[.agg x.toArray, .agg x'.toArray] w fun e w' => e = .returned (.bool (decide (d = d'))) ∧ Below w.heap.size w w' := by
  obtain ⟨av3, av4, av5, rfl, ah3, ah4, ah5, _⟩ := h
  obtain ⟨bv3, bv4, bv5, rfl, bh3, bh4, bh5, _⟩ := h'
  have C3 := Lib.hid (fun W hW => (equal_PropDef W w0 ah3 bh3 hW).mono fun e w' hh => (⟨hh.1, hh.2.below _⟩ : _ ∧ Below W.heap.size W w'))
  obtain ⟨aa3, an3, ac3, rfl⟩ := ah3.form'
  obtain ⟨ba3, bn3, bc3, rfl⟩ := bh3.form'
  have C4 := Lib.hid (fun W hW => (equal_KidDef W w0 ah4 bh4 hW).mono fun e w' hh => (⟨hh.1, hh.2.below _⟩ : _ ∧ Below W.heap.size W w'))
  obtain ⟨aa4, an4, ac4, rfl⟩ := ah4.form'
  obtain ⟨ba4, bn4, bc4, rfl⟩ := bh4.form'
  have C5 := Lib.hid (fun W hW => (equal_RefDef W w0 ah5 bh5 hW).mono fun e w' hh => (⟨hh.1, hh.2.below _⟩ : _ ∧ Below W.heap.size W w'))
  obtain ⟨aa5, an5, ac5, rfl⟩ := ah5.form'
  obtain ⟨ba5, bn5, bc5, rfl⟩ := bh5.form'
  clear ah3 bh3 ah4 bh4 ah5 bh5
  obtain ⟨p0, p1, p2, p3, p4, p5⟩ := d
  obtain ⟨q0, q1, q2, q3, q4, q5⟩ := d'
  dsimp only at *
  by_cases e0 : p0 = q0
  rotate_left
  · have hv : decide ((⟨p0, p1, p2, p3, p4, p5⟩ : Concept) = ⟨q0, q1, q2, q3, q4, q5⟩) = false := by simp [e0]
    rw [hv]; clear hv
    have e' : (p0.toList == q0.toList) = false := by simpa [toList_inj] using e0
    clear e0
    go_enter Tryz.func49, Tryz.ntmps49
    go_wp2_with fail
    go_ret
    exact ⟨rfl, ((Below.refl _ _).alloc (Nat.le_refl _) _).alloc (below2 (Nat.le_refl _)) _⟩
  subst e0
  by_cases e1 : p1 = q1
  rotate_left
  · have hv : decide ((⟨p0, p1, p2, p3, p4, p5⟩ : Concept) = ⟨p0, q1, q2, q3, q4, q5⟩) = false := by simp [e1]
    rw [hv]; clear hv
    have e' : (p1.toList == q1.toList) = false := by simpa [toList_inj] using e1
    clear e1
    go_enter Tryz.func49, Tryz.ntmps49
    go_wp2_with fail
    go_ret
    exact ⟨rfl, ((Below.refl _ _).alloc (Nat.le_refl _) _).alloc (below2 (Nat.le_refl _)) _⟩
  subst e1
  by_cases e2 : p2 = q2
  rotate_left
  · have hv : decide ((⟨p0, p1, p2, p3, p4, p5⟩ : Concept) = ⟨p0, p1, q2, q3, q4, q5⟩) = false := by simp [e2]
    rw [hv]; clear hv
    have e' : (p2 == q2) = false := by simpa using e2
    clear e2
    go_enter Tryz.func49, Tryz.ntmps49
    go_wp2_with fail
    go_ret
    exact ⟨rfl, ((Below.refl _ _).alloc (Nat.le_refl _) _).alloc (below2 (Nat.le_refl _)) _⟩
  subst e2
  by_cases e3 : p3 = q3
  rotate_left
  · have hv : decide ((⟨p0, p1, p2, p3, p4, p5⟩ : Concept) = ⟨p0, p1, p2, q3, q4, q5⟩) = false := by simp [e3]
    rw [hv]; clear hv
    have E3 : Hid (decide (p3 = q3) = false) := by show _ = _; simpa using e3
    clear e3
    go_enter Tryz.func49, Tryz.ntmps49
    go_wp2_with fail
    with_reducible refine (C3.out _ ((hw.alloc hw.size _).alloc (below2 hw.size) _)).mono ?_
    rintro e w1 ⟨rfl, hb1⟩
    rw [E3.out]
    have hB1 : Below w0.heap.size w0 w1 := ((hw.alloc hw.size _).alloc (below2 hw.size) _).trans (hb1.mono (below3 hw.size))
    have hL1 : Below w.heap.size w w1 := (((Below.refl _ _).alloc (Nat.le_refl _) _).alloc (below2 (Nat.le_refl _)) _).trans (hb1.mono (below3 (Nat.le_refl _)))
    go_wp2_with fail
    go_ret
    exact ⟨rfl, hL1⟩
  have E3 : Hid (decide (p3 = q3) = true) := by show _ = _; simpa using e3
  have X3 := Lib.hid e3
  clear e3
  by_cases e4 : p4 = q4
  rotate_left
  · have hv : decide ((⟨p0, p1, p2, p3, p4, p5⟩ : Concept) = ⟨p0, p1, p2, q3, q4, q5⟩) = false := by simp [e4]
    rw [hv]; clear hv
    have E4 : Hid (decide (p4 = q4) = false) := by show _ = _; simpa using e4
    clear e4
    go_enter Tryz.func49, Tryz.ntmps49
    go_wp2_with fail
    with_reducible refine (C3.out _ ((hw.alloc hw.size _).alloc (below2 hw.size) _)).mono ?_
    rintro e w1 ⟨rfl, hb1⟩
    rw [E3.out]
    have hB1 : Below w0.heap.size w0 w1 := ((hw.alloc hw.size _).alloc (below2 hw.size) _).trans (hb1.mono (below3 hw.size))
    have hL1 : Below w.heap.size w w1 := (((Below.refl _ _).alloc (Nat.le_refl _) _).alloc (below2 (Nat.le_refl _)) _).trans (hb1.mono (below3 (Nat.le_refl _)))
    have hM1 := hb1
    simp only [World.size_alloc] at hM1
    obtain ⟨hc1, _⟩ := bcell hM1
    go_wp2_with fail
    with_reducible refine (C4.out _ hB1).mono ?_
    rintro e w2 ⟨rfl, hb2⟩
    rw [E4.out]
    have hB2 : Below w0.heap.size w0 w2 := hB1.trans (hb2.mono hB1.size)
    have hL2 : Below w.heap.size w w2 := hL1.trans (hb2.mono hL1.size)
    go_wp2_with fail
    go_ret
    exact ⟨rfl, hL2⟩
  have E4 : Hid (decide (p4 = q4) = true) := by show _ = _; simpa using e4
  have X4 := Lib.hid e4
  clear e4
  by_cases e5 : p5 = q5
  rotate_left
  · have hv : decide ((⟨p0, p1, p2, p3, p4, p5⟩ : Concept) = ⟨p0, p1, p2, q3, q4, q5⟩) = false := by simp [e5]
    rw [hv]; clear hv
    have E5 : Hid (decide (p5 = q5) = false) := by show _ = _; simpa using e5
    clear e5
    go_enter Tryz.func49, Tryz.ntmps49
    go_wp2_with fail
    with_reducible refine (C3.out _ ((hw.alloc hw.size _).alloc (below2 hw.size) _)).mono ?_
    rintro e w1 ⟨rfl, hb1⟩
    rw [E3.out]
    have hB1 : Below w0.heap.size w0 w1 := ((hw.alloc hw.size _).alloc (below2 hw.size) _).trans (hb1.mono (below3 hw.size))
    have hL1 : Below w.heap.size w w1 := (((Below.refl _ _).alloc (Nat.le_refl _) _).alloc (below2 (Nat.le_refl _)) _).trans (hb1.mono (below3 (Nat.le_refl _)))
    have hM1 := hb1
    simp only [World.size_alloc] at hM1
    obtain ⟨hc1, _⟩ := bcell hM1
    go_wp2_with fail
    with_reducible refine (C4.out _ hB1).mono ?_
    rintro e w2 ⟨rfl, hb2⟩
    rw [E4.out]
    have hB2 : Below w0.heap.size w0 w2 := hB1.trans (hb2.mono hB1.size)
    have hL2 : Below w.heap.size w w2 := hL1.trans (hb2.mono hL1.size)
    have hM2 := hM1.trans (hb2.mono (by have := hM1.size; simpa only [World.size_alloc] using this))
    obtain ⟨hc2, _⟩ := bcell hM2
    go_wp2_with fail
    with_reducible refine (C5.out _ hB2).mono ?_
    rintro e w3 ⟨rfl, hb3⟩
    rw [E5.out]
    have hB3 : Below w0.heap.size w0 w3 := hB2.trans (hb3.mono hB2.size)
    have hL3 : Below w.heap.size w w3 := hL2.trans (hb3.mono hL2.size)
    go_wp2_with fail
    go_ret
    exact ⟨rfl, hL3⟩
  have E5 : Hid (decide (p5 = q5) = true) := by show _ = _; simpa using e5
  have X5 := Lib.hid e5
  clear e5
  have hv : decide ((⟨p0, p1, p2, p3, p4, p5⟩ : Concept) = ⟨p0, p1, p2, q3, q4, q5⟩) = true := by simp [X3.out, X4.out, X5.out]
  rw [hv]; clear hv
  go_enter Tryz.func49, Tryz.ntmps49
  go_wp2_with fail
  with_reducible refine (C3.out _ ((hw.alloc hw.size _).alloc (below2 hw.size) _)).mono ?_
  rintro e w1 ⟨rfl, hb1⟩
  rw [E3.out]
  have hB1 : Below w0.heap.size w0 w1 := ((hw.alloc hw.size _).alloc (below2 hw.size) _).trans (hb1.mono (below3 hw.size))
  have hL1 : Below w.heap.size w w1 := (((Below.refl _ _).alloc (Nat.le_refl _) _).alloc (below2 (Nat.le_refl _)) _).trans (hb1.mono (below3 (Nat.le_refl _)))
  have hM1 := hb1
  simp only [World.size_alloc] at hM1
  obtain ⟨hc1, _⟩ := bcell hM1
  go_wp2_with fail
  with_reducible refine (C4.out _ hB1).mono ?_
  rintro e w2 ⟨rfl, hb2⟩
  rw [E4.out]
  have hB2 : Below w0.heap.size w0 w2 := hB1.trans (hb2.mono hB1.size)
  have hL2 : Below w.heap.size w w2 := hL1.trans (hb2.mono hL1.size)
  have hM2 := hM1.trans (hb2.mono (by have := hM1.size; simpa only [World.size_alloc] using this))
  obtain ⟨hc2, _⟩ := bcell hM2
  go_wp2_with fail
  with_reducible refine (C5.out _ hB2).mono ?_
  rintro e w3 ⟨rfl, hb3⟩
  rw [E5.out]
  have hB3 : Below w0.heap.size w0 w3 := hB2.trans (hb3.mono hB2.size)
  have hL3 : Below w.heap.size w w3 := hL2.trans (hb3.mono hL2.size)
  go_wp2_with fail
  go_ret
  exact ⟨rfl, hL3⟩

theorem eqf_Concept {l m : List Concept} {v v' : Value} (w w0 : World) (hs : SlR w0 w0.heap.size 6 (Concept.Is w0 w0.heap.size) v l) (ht : SlR w0 w0.heap.size 6 (Concept.Is w0 w0.heap.size) v' m) (hw : Below w0.heap.size w0 w) :
    Calls Tryz.prog 48 #[v, v', .func (.func 49) #[] #[]] w fun e w' => e = .returned (.bool (decide (l = m))) ∧ Below w.heap.size w w' := by
  rw [← eqBy_eq]
  exact equalFunc_Concept 49 #[] w w0 (fun a b => decide (a = b)) hs ht hw Concept.Is.shape Concept.Is.shape (fun args w => by go_simp) (fun x x' y y' W hx hx' hW => same_Concept W w0 hx hx' hW)

set_option maxHeartbeats 1000000 in
theorem same_Equation {x x' : List Value} {d d' : Equation} (w w0 : World) (h : Equation.Is w0 w0.heap.size x d) (h' : Equation.Is w0 w0.heap.size x' d') (hw : Below w0.heap.size w0 w) :
    Calls Tryz.prog 52 #[.agg x.toArray, .agg x'.toArray] w fun e w' => e = .returned (.bool (decide (d = d'))) ∧ Below w.heap.size w w' := by
  obtain ⟨av1, av2, rfl, ah1, ah2, _⟩ := h
  obtain ⟨bv1, bv2, rfl, bh1, bh2, _⟩ := h'
  have C1 := Lib.hid (fun W hW => eqf_Side W w0 ah1 bh1 hW)
  obtain ⟨aa1, an1, ac1, rfl⟩ := ah1.form'
  obtain ⟨ba1, bn1, bc1, rfl⟩ := bh1.form'
  have C2 := Lib.hid (fun W hW => eqf_Side W w0 ah2 bh2 hW)
  obtain ⟨aa2, an2, ac2, rfl⟩ := ah2.form'
  obtain ⟨ba2, bn2, bc2, rfl⟩ := bh2.form'
  clear ah1 bh1 ah2 bh2
  obtain ⟨p0, p1, p2⟩ := d
  obtain ⟨q0, q1, q2⟩ := d'
  dsimp only at *
  by_cases e0 : p0 = q0
  rotate_left
  · have hv : decide ((⟨p0, p1, p2⟩ : Equation) = ⟨q0, q1, q2⟩) = false := by simp [e0]
    rw [hv]; clear hv
    have e' : (p0.toList == q0.toList) = false := by simpa [toList_inj] using e0
    clear e0
    go_enter Tryz.func52, Tryz.ntmps52
    go_wp2_with fail
    go_ret
    exact ⟨rfl, ((Below.refl _ _).alloc (Nat.le_refl _) _).alloc (below2 (Nat.le_refl _)) _⟩
  subst e0
  by_cases e1 : p1 = q1
  rotate_left
  · have hv : decide ((⟨p0, p1, p2⟩ : Equation) = ⟨p0, q1, q2⟩) = false := by simp [e1]
    rw [hv]; clear hv
    have E1 : Hid (decide (p1 = q1) = false) := by show _ = _; simpa using e1
    clear e1
    go_enter Tryz.func52, Tryz.ntmps52
    go_wp2_with fail
    with_reducible refine (C1.out _ ((hw.alloc hw.size _).alloc (below2 hw.size) _)).mono ?_
    rintro e w1 ⟨rfl, hb1⟩
    rw [E1.out]
    have hB1 : Below w0.heap.size w0 w1 := ((hw.alloc hw.size _).alloc (below2 hw.size) _).trans (hb1.mono (below3 hw.size))
    have hL1 : Below w.heap.size w w1 := (((Below.refl _ _).alloc (Nat.le_refl _) _).alloc (below2 (Nat.le_refl _)) _).trans (hb1.mono (below3 (Nat.le_refl _)))
    go_wp2_with fail
    go_ret
    exact ⟨rfl, hL1⟩
  have E1 : Hid (decide (p1 = q1) = true) := by show _ = _; simpa using e1
  have X1 := Lib.hid e1
  clear e1
  by_cases e2 : p2 = q2
  rotate_left
  · have hv : decide ((⟨p0, p1, p2⟩ : Equation) = ⟨p0, q1, q2⟩) = false := by simp [e2]
    rw [hv]; clear hv
    have E2 : Hid (decide (p2 = q2) = false) := by show _ = _; simpa using e2
    clear e2
    go_enter Tryz.func52, Tryz.ntmps52
    go_wp2_with fail
    with_reducible refine (C1.out _ ((hw.alloc hw.size _).alloc (below2 hw.size) _)).mono ?_
    rintro e w1 ⟨rfl, hb1⟩
    rw [E1.out]
    have hB1 : Below w0.heap.size w0 w1 := ((hw.alloc hw.size _).alloc (below2 hw.size) _).trans (hb1.mono (below3 hw.size))
    have hL1 : Below w.heap.size w w1 := (((Below.refl _ _).alloc (Nat.le_refl _) _).alloc (below2 (Nat.le_refl _)) _).trans (hb1.mono (below3 (Nat.le_refl _)))
    have hM1 := hb1
    simp only [World.size_alloc] at hM1
    obtain ⟨hc1, _⟩ := bcell hM1
    go_wp2_with fail
    with_reducible refine (C2.out _ hB1).mono ?_
    rintro e w2 ⟨rfl, hb2⟩
    rw [E2.out]
    have hB2 : Below w0.heap.size w0 w2 := hB1.trans (hb2.mono hB1.size)
    have hL2 : Below w.heap.size w w2 := hL1.trans (hb2.mono hL1.size)
    go_wp2_with fail
    go_ret
    exact ⟨rfl, hL2⟩
  have E2 : Hid (decide (p2 = q2) = true) := by show _ = _; simpa using e2
  have X2 := Lib.hid e2
  clear e2
  have hv : decide ((⟨p0, p1, p2⟩ : Equation) = ⟨p0, q1, q2⟩) = true := by simp [X1.out, X2.out]
  rw [hv]; clear hv
  go_enter Tryz.func52, Tryz.ntmps52
  go_wp2_with fail
  with_reducible refine (C1.out _ ((hw.alloc hw.size _).alloc (below2 hw.size) _)).mono ?_
  rintro e w1 ⟨rfl, hb1⟩
  rw [E1.out]
  have hB1 : Below w0.heap.size w0 w1 := ((hw.alloc hw.size _).alloc (below2 hw.size) _).trans (hb1.mono (below3 hw.size))
  have hL1 : Below w.heap.size w w1 := (((Below.refl _ _).alloc (Nat.le_refl _) _).alloc (below2 (Nat.le_refl _)) _).trans (hb1.mono (below3 (Nat.le_refl _)))
  have hM1 := hb1
  simp only [World.size_alloc] at hM1
  obtain ⟨hc1, _⟩ := bcell hM1
  go_wp2_with fail
  with_reducible refine (C2.out _ hB1).mono ?_
  rintro e w2 ⟨rfl, hb2⟩
  rw [E2.out]
  have hB2 : Below w0.heap.size w0 w2 := hB1.trans (hb2.mono hB1.size)
  have hL2 : Below w.heap.size w w2 := hL1.trans (hb2.mono hL1.size)
  go_wp2_with fail
  go_ret
  exact ⟨rfl, hL2⟩

theorem eqf_Equation {l m : List Equation} {v v' : Value} (w w0 : World) (hs : SlR w0 w0.heap.size 3 (Equation.Is w0 w0.heap.size) v l) (ht : SlR w0 w0.heap.size 3 (Equation.Is w0 w0.heap.size) v' m) (hw : Below w0.heap.size w0 w) :
    Calls Tryz.prog 51 #[v, v', .func (.func 52) #[] #[]] w fun e w' => e = .returned (.bool (decide (l = m))) ∧ Below w.heap.size w w' := by
  rw [← eqBy_eq]
  exact equalFunc_Equation 52 #[] w w0 (fun a b => decide (a = b)) hs ht hw Equation.Is.shape Equation.Is.shape (fun args w => by go_simp) (fun x x' y y' W hx hx' hW => same_Equation W w0 hx hx' hW)

set_option maxHeartbeats 1000000 in
theorem same_Editor {x x' : List Value} {d d' : Editor} (w w0 : World) (h : Editor.Is w0 w0.heap.size x d) (h' : Editor.Is w0 w0.heap.size x' d') (hw : Below w0.heap.size w0 w) :
    Calls Tryz.prog 56 #[.agg x.toArray, .agg x'.toArray] w fun e w' => e = .returned (.bool (decide (d = d'))) ∧ Below w.heap.size w w' := by
  obtain ⟨av1, rfl, ah1, _⟩ := h
  obtain ⟨bv1, rfl, bh1, _⟩ := h'
  have C1 := Lib.hid (fun W hW => (equal_Cell W w0 ah1 bh1 hW).mono fun e w' hh => (⟨hh.1, hh.2.below _⟩ : _ ∧ Below W.heap.size W w'))
  obtain ⟨aa1, an1, ac1, rfl⟩ := ah1.form'
  obtain ⟨ba1, bn1, bc1, rfl⟩ := bh1.form'
  clear ah1 bh1
  obtain ⟨p0, p1⟩ := d
  obtain ⟨q0, q1⟩ := d'
  dsimp only at *
  by_cases e0 : p0 = q0
  rotate_left
  · have hv : decide ((⟨p0, p1⟩ : Editor) = ⟨q0, q1⟩) = false := by simp [e0]
    rw [hv]; clear hv
    have e' : (p0.toList == q0.toList) = false := by simpa [toList_inj] using e0
    clear e0
    go_enter Tryz.func56, Tryz.ntmps56
    go_wp2_with fail
    go_ret
    exact ⟨rfl, ((Below.refl _ _).alloc (Nat.le_refl _) _).alloc (below2 (Nat.le_refl _)) _⟩
  subst e0
  by_cases e1 : p1 = q1
  rotate_left
  · have hv : decide ((⟨p0, p1⟩ : Editor) = ⟨p0, q1⟩) = false := by simp [e1]
    rw [hv]; clear hv
    have E1 : Hid (decide (p1 = q1) = false) := by show _ = _; simpa using e1
    clear e1
    go_enter Tryz.func56, Tryz.ntmps56
    go_wp2_with fail
    with_reducible refine (C1.out _ ((hw.alloc hw.size _).alloc (below2 hw.size) _)).mono ?_
    rintro e w1 ⟨rfl, hb1⟩
    rw [E1.out]
    have hB1 : Below w0.heap.size w0 w1 := ((hw.alloc hw.size _).alloc (below2 hw.size) _).trans (hb1.mono (below3 hw.size))
    have hL1 : Below w.heap.size w w1 := (((Below.refl _ _).alloc (Nat.le_refl _) _).alloc (below2 (Nat.le_refl _)) _).trans (hb1.mono (below3 (Nat.le_refl _)))
    go_wp2_with fail
    go_ret
    exact ⟨rfl, hL1⟩
  have E1 : Hid (decide (p1 = q1) = true) := by show _ = _; simpa using e1
  have X1 := Lib.hid e1
  clear e1
  have hv : decide ((⟨p0, p1⟩ : Editor) = ⟨p0, q1⟩) = true := by simp [X1.out]
  rw [hv]; clear hv
  go_enter Tryz.func56, Tryz.ntmps56
  go_wp2_with fail
  with_reducible refine (C1.out _ ((hw.alloc hw.size _).alloc (below2 hw.size) _)).mono ?_
  rintro e w1 ⟨rfl, hb1⟩
  rw [E1.out]
  have hB1 : Below w0.heap.size w0 w1 := ((hw.alloc hw.size _).alloc (below2 hw.size) _).trans (hb1.mono (below3 hw.size))
  have hL1 : Below w.heap.size w w1 := (((Below.refl _ _).alloc (Nat.le_refl _) _).alloc (below2 (Nat.le_refl _)) _).trans (hb1.mono (below3 (Nat.le_refl _)))
  go_wp2_with fail
  go_ret
  exact ⟨rfl, hL1⟩

theorem eqf_Editor {l m : List Editor} {v v' : Value} (w w0 : World) (hs : SlR w0 w0.heap.size 2 (Editor.Is w0 w0.heap.size) v l) (ht : SlR w0 w0.heap.size 2 (Editor.Is w0 w0.heap.size) v' m) (hw : Below w0.heap.size w0 w) :
    Calls Tryz.prog 55 #[v, v', .func (.func 56) #[] #[]] w fun e w' => e = .returned (.bool (decide (l = m))) ∧ Below w.heap.size w w' := by
  rw [← eqBy_eq]
  exact equalFunc_Editor 56 #[] w w0 (fun a b => decide (a = b)) hs ht hw Editor.Is.shape Editor.Is.shape (fun args w => by go_simp) (fun x x' y y' W hx hx' hW => same_Editor W w0 hx hx' hW)

set_option maxHeartbeats 1000000 in
theorem same_Template {x x' : List Value} {d d' : Template} (w w0 : World) (h : Template.Is w0 w0.heap.size x d) (h' : Template.Is w0 w0.heap.size x' d') (hw : Below w0.heap.size w0 w) :
    Calls Tryz.prog 59 #[.agg x.toArray, .agg x'.toArray] w fun e w' => e = .returned (.bool (decide (d = d'))) ∧ Below w.heap.size w w' := by
  obtain ⟨av1, rfl, ah1, _⟩ := h
  obtain ⟨bv1, rfl, bh1, _⟩ := h'
  have C1 := Lib.hid (fun W hW => (equal_Piece W w0 ah1 bh1 hW).mono fun e w' hh => (⟨hh.1, hh.2.below _⟩ : _ ∧ Below W.heap.size W w'))
  obtain ⟨aa1, an1, ac1, rfl⟩ := ah1.form'
  obtain ⟨ba1, bn1, bc1, rfl⟩ := bh1.form'
  clear ah1 bh1
  obtain ⟨p0, p1⟩ := d
  obtain ⟨q0, q1⟩ := d'
  dsimp only at *
  by_cases e0 : p0 = q0
  rotate_left
  · have hv : decide ((⟨p0, p1⟩ : Template) = ⟨q0, q1⟩) = false := by simp [e0]
    rw [hv]; clear hv
    have e' : (p0.toList == q0.toList) = false := by simpa [toList_inj] using e0
    clear e0
    go_enter Tryz.func59, Tryz.ntmps59
    go_wp2_with fail
    go_ret
    exact ⟨rfl, ((Below.refl _ _).alloc (Nat.le_refl _) _).alloc (below2 (Nat.le_refl _)) _⟩
  subst e0
  by_cases e1 : p1 = q1
  rotate_left
  · have hv : decide ((⟨p0, p1⟩ : Template) = ⟨p0, q1⟩) = false := by simp [e1]
    rw [hv]; clear hv
    have E1 : Hid (decide (p1 = q1) = false) := by show _ = _; simpa using e1
    clear e1
    go_enter Tryz.func59, Tryz.ntmps59
    go_wp2_with fail
    with_reducible refine (C1.out _ ((hw.alloc hw.size _).alloc (below2 hw.size) _)).mono ?_
    rintro e w1 ⟨rfl, hb1⟩
    rw [E1.out]
    have hB1 : Below w0.heap.size w0 w1 := ((hw.alloc hw.size _).alloc (below2 hw.size) _).trans (hb1.mono (below3 hw.size))
    have hL1 : Below w.heap.size w w1 := (((Below.refl _ _).alloc (Nat.le_refl _) _).alloc (below2 (Nat.le_refl _)) _).trans (hb1.mono (below3 (Nat.le_refl _)))
    go_wp2_with fail
    go_ret
    exact ⟨rfl, hL1⟩
  have E1 : Hid (decide (p1 = q1) = true) := by show _ = _; simpa using e1
  have X1 := Lib.hid e1
  clear e1
  have hv : decide ((⟨p0, p1⟩ : Template) = ⟨p0, q1⟩) = true := by simp [X1.out]
  rw [hv]; clear hv
  go_enter Tryz.func59, Tryz.ntmps59
  go_wp2_with fail
  with_reducible refine (C1.out _ ((hw.alloc hw.size _).alloc (below2 hw.size) _)).mono ?_
  rintro e w1 ⟨rfl, hb1⟩
  rw [E1.out]
  have hB1 : Below w0.heap.size w0 w1 := ((hw.alloc hw.size _).alloc (below2 hw.size) _).trans (hb1.mono (below3 hw.size))
  have hL1 : Below w.heap.size w w1 := (((Below.refl _ _).alloc (Nat.le_refl _) _).alloc (below2 (Nat.le_refl _)) _).trans (hb1.mono (below3 (Nat.le_refl _)))
  go_wp2_with fail
  go_ret
  exact ⟨rfl, hL1⟩

theorem eqf_Template {l m : List Template} {v v' : Value} (w w0 : World) (hs : SlR w0 w0.heap.size 2 (Template.Is w0 w0.heap.size) v l) (ht : SlR w0 w0.heap.size 2 (Template.Is w0 w0.heap.size) v' m) (hw : Below w0.heap.size w0 w) :
    Calls Tryz.prog 58 #[v, v', .func (.func 59) #[] #[]] w fun e w' => e = .returned (.bool (decide (l = m))) ∧ Below w.heap.size w w' := by
  rw [← eqBy_eq]
  exact equalFunc_Template 59 #[] w w0 (fun a b => decide (a = b)) hs ht hw Template.Is.shape Template.Is.shape (fun args w => by go_simp) (fun x x' y y' W hx hx' hW => same_Template W w0 hx hx' hW)

set_option maxHeartbeats 1000000 in
theorem same_Language {x x' : List Value} {d d' : Language} (w w0 : World) (h : Language.Is w0 w0.heap.size x d) (h' : Language.Is w0 w0.heap.size x' d') (hw : Below w0.heap.size w0 w) :
    Calls Tryz.prog 13 #[.agg x.toArray, .agg x'.toArray] w fun e w' => e = .returned (.bool (decide (d = d'))) ∧ Below w.heap.size w w' := by
  obtain ⟨av2, av3, av4, av5, av6, av7, rfl, ah2, ah3, ah4, ah5, ah6, ah7, _⟩ := h
  obtain ⟨bv2, bv3, bv4, bv5, bv6, bv7, rfl, bh2, bh3, bh4, bh5, bh6, bh7, _⟩ := h'
  have C2 := Lib.hid (fun W hW => (equal_text W w0 ah2 bh2 hW).mono fun e w' hh => (⟨hh.1, hh.2.below _⟩ : _ ∧ Below W.heap.size W w'))
  obtain ⟨aa2, an2, ac2, rfl⟩ := ah2.form'
  obtain ⟨ba2, bn2, bc2, rfl⟩ := bh2.form'
  have C3 := Lib.hid (fun W hW => eqf_Concept W w0 ah3 bh3 hW)
  obtain ⟨aa3, an3, ac3, rfl⟩ := ah3.form'
  obtain ⟨ba3, bn3, bc3, rfl⟩ := bh3.form'
  have C4 := Lib.hid (fun W hW => (equal_Rule W w0 ah4 bh4 hW).mono fun e w' hh => (⟨hh.1, hh.2.below _⟩ : _ ∧ Below W.heap.size W w'))
  obtain ⟨aa4, an4, ac4, rfl⟩ := ah4.form'
  obtain ⟨ba4, bn4, bc4, rfl⟩ := bh4.form'
  have C5 := Lib.hid (fun W hW => eqf_Equation W w0 ah5 bh5 hW)
  obtain ⟨aa5, an5, ac5, rfl⟩ := ah5.form'
  obtain ⟨ba5, bn5, bc5, rfl⟩ := bh5.form'
  have C6 := Lib.hid (fun W hW => eqf_Editor W w0 ah6 bh6 hW)
  obtain ⟨aa6, an6, ac6, rfl⟩ := ah6.form'
  obtain ⟨ba6, bn6, bc6, rfl⟩ := bh6.form'
  have C7 := Lib.hid (fun W hW => eqf_Template W w0 ah7 bh7 hW)
  obtain ⟨aa7, an7, ac7, rfl⟩ := ah7.form'
  obtain ⟨ba7, bn7, bc7, rfl⟩ := bh7.form'
  clear ah2 bh2 ah3 bh3 ah4 bh4 ah5 bh5 ah6 bh6 ah7 bh7
  obtain ⟨p0, p1, p2, p3, p4, p5, p6, p7⟩ := d
  obtain ⟨q0, q1, q2, q3, q4, q5, q6, q7⟩ := d'
  dsimp only at *
  by_cases e0 : p0 = q0
  rotate_left
  · have hv : decide ((⟨p0, p1, p2, p3, p4, p5, p6, p7⟩ : Language) = ⟨q0, q1, q2, q3, q4, q5, q6, q7⟩) = false := by simp [e0]
    rw [hv]; clear hv
    have e' : (p0.toList == q0.toList) = false := by simpa [toList_inj] using e0
    clear e0
    go_enter Tryz.func13, Tryz.ntmps13
    go_wp2_with fail
    go_ret
    exact ⟨rfl, ((Below.refl _ _).alloc (Nat.le_refl _) _).alloc (below2 (Nat.le_refl _)) _⟩
  subst e0
  by_cases e1 : p1 = q1
  rotate_left
  · have hv : decide ((⟨p0, p1, p2, p3, p4, p5, p6, p7⟩ : Language) = ⟨p0, q1, q2, q3, q4, q5, q6, q7⟩) = false := by simp [e1]
    rw [hv]; clear hv
    have e' : (p1 == q1) = false := by simpa using e1
    clear e1
    go_enter Tryz.func13, Tryz.ntmps13
    go_wp2_with fail
    go_ret
    exact ⟨rfl, ((Below.refl _ _).alloc (Nat.le_refl _) _).alloc (below2 (Nat.le_refl _)) _⟩
  subst e1
  by_cases e2 : p2 = q2
  rotate_left
  · have hv : decide ((⟨p0, p1, p2, p3, p4, p5, p6, p7⟩ : Language) = ⟨p0, p1, q2, q3, q4, q5, q6, q7⟩) = false := by simp [e2]
    rw [hv]; clear hv
    have E2 : Hid (decide (p2 = q2) = false) := by show _ = _; simpa using e2
    clear e2
    go_enter Tryz.func13, Tryz.ntmps13
    go_wp2_with fail
    with_reducible refine (C2.out _ ((hw.alloc hw.size _).alloc (below2 hw.size) _)).mono ?_
    rintro e w1 ⟨rfl, hb1⟩
    rw [E2.out]
    have hB1 : Below w0.heap.size w0 w1 := ((hw.alloc hw.size _).alloc (below2 hw.size) _).trans (hb1.mono (below3 hw.size))
    have hL1 : Below w.heap.size w w1 := (((Below.refl _ _).alloc (Nat.le_refl _) _).alloc (below2 (Nat.le_refl _)) _).trans (hb1.mono (below3 (Nat.le_refl _)))
    go_wp2_with fail
    go_ret
    exact ⟨rfl, hL1⟩
  have E2 : Hid (decide (p2 = q2) = true) := by show _ = _; simpa using e2
  have X2 := Lib.hid e2
  clear e2
  by_cases e3 : p3 = q3
  rotate_left
  · have hv : decide ((⟨p0, p1, p2, p3, p4, p5, p6, p7⟩ : Language) = ⟨p0, p1, q2, q3, q4, q5, q6, q7⟩) = false := by simp [e3]
    rw [hv]; clear hv
    have E3 : Hid (decide (p3 = q3) = false) := by show _ = _; simpa using e3
    clear e3
    go_enter Tryz.func13, Tryz.ntmps13
    go_wp2_with fail
    with_reducible refine (C2.out _ ((hw.alloc hw.size _).alloc (below2 hw.size) _)).mono ?_
    rintro e w1 ⟨rfl, hb1⟩
    rw [E2.out]
    have hB1 : Below w0.heap.size w0 w1 := ((hw.alloc hw.size _).alloc (below2 hw.size) _).trans (hb1.mono (below3 hw.size))
    have hL1 : Below w.heap.size w w1 := (((Below.refl _ _).alloc (Nat.le_refl _) _).alloc (below2 (Nat.le_refl _)) _).trans (hb1.mono (below3 (Nat.le_refl _)))
    have hM1 := hb1
    simp only [World.size_alloc] at hM1
    obtain ⟨hc1, _⟩ := bcell hM1
    go_wp2_with fail
    with_reducible refine (C3.out _ hB1).mono ?_
    rintro e w2 ⟨rfl, hb2⟩
    rw [E3.out]
    have hB2 : Below w0.heap.size w0 w2 := hB1.trans (hb2.mono hB1.size)
    have hL2 : Below w.heap.size w w2 := hL1.trans (hb2.mono hL1.size)
    go_wp2_with fail
    go_ret
    exact ⟨rfl, hL2⟩
  have E3 : Hid (decide (p3 = q3) = true) := by show _ = _; simpa using e3
  have X3 := Lib.hid e3
  clear e3
  by_cases e4 : p4 = q4
  rotate_left
  · have hv : decide ((⟨p0, p1, p2, p3, p4, p5, p6, p7⟩ : Language) = ⟨p0, p1, q2, q3, q4, q5, q6, q7⟩) = false := by simp [e4]
    rw [hv]; clear hv
    have E4 : Hid (decide (p4 = q4) = false) := by show _ = _; simpa using e4
    clear e4
    go_enter Tryz.func13, Tryz.ntmps13
    go_wp2_with fail
    with_reducible refine (C2.out _ ((hw.alloc hw.size _).alloc (below2 hw.size) _)).mono ?_
    rintro e w1 ⟨rfl, hb1⟩
    rw [E2.out]
    have hB1 : Below w0.heap.size w0 w1 := ((hw.alloc hw.size _).alloc (below2 hw.size) _).trans (hb1.mono (below3 hw.size))
    have hL1 : Below w.heap.size w w1 := (((Below.refl _ _).alloc (Nat.le_refl _) _).alloc (below2 (Nat.le_refl _)) _).trans (hb1.mono (below3 (Nat.le_refl _)))
    have hM1 := hb1
    simp only [World.size_alloc] at hM1
    obtain ⟨hc1, _⟩ := bcell hM1
    go_wp2_with fail
    with_reducible refine (C3.out _ hB1).mono ?_
    rintro e w2 ⟨rfl, hb2⟩
    rw [E3.out]
    have hB2 : Below w0.heap.size w0 w2 := hB1.trans (hb2.mono hB1.size)
    have hL2 : Below w.heap.size w w2 := hL1.trans (hb2.mono hL1.size)
    have hM2 := hM1.trans (hb2.mono (by have := hM1.size; simpa only [World.size_alloc] using this))
    obtain ⟨hc2, _⟩ := bcell hM2
    go_wp2_with fail
    with_reducible refine (C4.out _ hB2).mono ?_
    rintro e w3 ⟨rfl, hb3⟩
    rw [E4.out]
    have hB3 : Below w0.heap.size w0 w3 := hB2.trans (hb3.mono hB2.size)
    have hL3 : Below w.heap.size w w3 := hL2.trans (hb3.mono hL2.size)
    go_wp2_with fail
    go_ret
    exact ⟨rfl, hL3⟩
  have E4 : Hid (decide (p4 = q4) = true) := by show _ = _; simpa using e4
  have X4 := Lib.hid e4
  clear e4
  by_cases e5 : p5 = q5
  rotate_left
  · have hv : decide ((⟨p0, p1, p2, p3, p4, p5, p6, p7⟩ : Language) = ⟨p0, p1, q2, q3, q4, q5, q6, q7⟩) = false := by simp [e5]
    rw [hv]; clear hv
    have E5 : Hid (decide (p5 = q5) = false) := by show _ = _; simpa using e5
    clear e5
    go_enter Tryz.func13, Tryz.ntmps13
    go_wp2_with fail
    with_reducible refine (C2.out _ ((hw.alloc hw.size _).alloc (below2 hw.size) _)).mono ?_
    rintro e w1 ⟨rfl, hb1⟩
    rw [E2.out]
    have hB1 : Below w0.heap.size w0 w1 := ((hw.alloc hw.size _).alloc (below2 hw.size) _).trans (hb1.mono (below3 hw.size))
    have hL1 : Below w.heap.size w w1 := (((Below.refl _ _).alloc (Nat.le_refl _) _).alloc (below2 (Nat.le_refl _)) _).trans (hb1.mono (below3 (Nat.le_refl _)))
    have hM1 := hb1
    simp only [World.size_alloc] at hM1
    obtain ⟨hc1, _⟩ := bcell hM1
    go_wp2_with fail
    with_reducible refine (C3.out _ hB1).mono ?_
    rintro e w2 ⟨rfl, hb2⟩
    rw [E3.out]
    have hB2 : Below w0.heap.size w0 w2 := hB1.trans (hb2.mono hB1.size)
    have hL2 : Below w.heap.size w w2 := hL1.trans (hb2.mono hL1.size)
    have hM2 := hM1.trans (hb2.mono (by have := hM1.size; simpa only [World.size_alloc] using this))
    obtain ⟨hc2, _⟩ := bcell hM2
    go_wp2_with fail
    with_reducible refine (C4.out _ hB2).mono ?_
    rintro e w3 ⟨rfl, hb3⟩
    rw [E4.out]
    have hB3 : Below w0.heap.size w0 w3 := hB2.trans (hb3.mono hB2.size)
    have hL3 : Below w.heap.size w w3 := hL2.trans (hb3.mono hL2.size)
    have hM3 := hM2.trans (hb3.mono (by have := hM2.size; simpa only [World.size_alloc] using this))
    obtain ⟨hc3, _⟩ := bcell hM3
    go_wp2_with fail
    with_reducible refine (C5.out _ hB3).mono ?_
    rintro e w4 ⟨rfl, hb4⟩
    rw [E5.out]
    have hB4 : Below w0.heap.size w0 w4 := hB3.trans (hb4.mono hB3.size)
    have hL4 : Below w.heap.size w w4 := hL3.trans (hb4.mono hL3.size)
    go_wp2_with fail
    go_ret
    exact ⟨rfl, hL4⟩
  have E5 : Hid (decide (p5 = q5) = true) := by show _ = _; simpa using e5
  have X5 := Lib.hid e5
  clear e5
  by_cases e6 : p6 = q6
  rotate_left
  · have hv : decide ((⟨p0, p1, p2, p3, p4, p5, p6, p7⟩ : Language) = ⟨p0, p1, q2, q3, q4, q5, q6, q7⟩) = false := by simp [e6]
    rw [hv]; clear hv
    have E6 : Hid (decide (p6 = q6) = false) := by show _ = _; simpa using e6
    clear e6
    go_enter Tryz.func13, Tryz.ntmps13
    go_wp2_with fail
    with_reducible refine (C2.out _ ((hw.alloc hw.size _).alloc (below2 hw.size) _)).mono ?_
    rintro e w1 ⟨rfl, hb1⟩
    rw [E2.out]
    have hB1 : Below w0.heap.size w0 w1 := ((hw.alloc hw.size _).alloc (below2 hw.size) _).trans (hb1.mono (below3 hw.size))
    have hL1 : Below w.heap.size w w1 := (((Below.refl _ _).alloc (Nat.le_refl _) _).alloc (below2 (Nat.le_refl _)) _).trans (hb1.mono (below3 (Nat.le_refl _)))
    have hM1 := hb1
    simp only [World.size_alloc] at hM1
    obtain ⟨hc1, _⟩ := bcell hM1
    go_wp2_with fail
    with_reducible refine (C3.out _ hB1).mono ?_
    rintro e w2 ⟨rfl, hb2⟩
    rw [E3.out]
    have hB2 : Below w0.heap.size w0 w2 := hB1.trans (hb2.mono hB1.size)
    have hL2 : Below w.heap.size w w2 := hL1.trans (hb2.mono hL1.size)
    have hM2 := hM1.trans (hb2.mono (by have := hM1.size; simpa only [World.size_alloc] using this))
    obtain ⟨hc2, _⟩ := bcell hM2
    go_wp2_with fail
    with_reducible refine (C4.out _ hB2).mono ?_
    rintro e w3 ⟨rfl, hb3⟩
    rw [E4.out]
    have hB3 : Below w0.heap.size w0 w3 := hB2.trans (hb3.mono hB2.size)
    have hL3 : Below w.heap.size w w3 := hL2.trans (hb3.mono hL2.size)
    have hM3 := hM2.trans (hb3.mono (by have := hM2.size; simpa only [World.size_alloc] using this))
    obtain ⟨hc3, _⟩ := bcell hM3
    go_wp2_with fail
    with_reducible refine (C5.out _ hB3).mono ?_
    rintro e w4 ⟨rfl, hb4⟩
    rw [E5.out]
    have hB4 : Below w0.heap.size w0 w4 := hB3.trans (hb4.mono hB3.size)
    have hL4 : Below w.heap.size w w4 := hL3.trans (hb4.mono hL3.size)
    have hM4 := hM3.trans (hb4.mono (by have := hM3.size; simpa only [World.size_alloc] using this))
    obtain ⟨hc4, _⟩ := bcell hM4
    go_wp2_with fail
    with_reducible refine (C6.out _ hB4).mono ?_
    rintro e w5 ⟨rfl, hb5⟩
    rw [E6.out]
    have hB5 : Below w0.heap.size w0 w5 := hB4.trans (hb5.mono hB4.size)
    have hL5 : Below w.heap.size w w5 := hL4.trans (hb5.mono hL4.size)
    go_wp2_with fail
    go_ret
    exact ⟨rfl, hL5⟩
  have E6 : Hid (decide (p6 = q6) = true) := by show _ = _; simpa using e6
  have X6 := Lib.hid e6
  clear e6
  by_cases e7 : p7 = q7
  rotate_left
  · have hv : decide ((⟨p0, p1, p2, p3, p4, p5, p6, p7⟩ : Language) = ⟨p0, p1, q2, q3, q4, q5, q6, q7⟩) = false := by simp [e7]
    rw [hv]; clear hv
    have E7 : Hid (decide (p7 = q7) = false) := by show _ = _; simpa using e7
    clear e7
    go_enter Tryz.func13, Tryz.ntmps13
    go_wp2_with fail
    with_reducible refine (C2.out _ ((hw.alloc hw.size _).alloc (below2 hw.size) _)).mono ?_
    rintro e w1 ⟨rfl, hb1⟩
    rw [E2.out]
    have hB1 : Below w0.heap.size w0 w1 := ((hw.alloc hw.size _).alloc (below2 hw.size) _).trans (hb1.mono (below3 hw.size))
    have hL1 : Below w.heap.size w w1 := (((Below.refl _ _).alloc (Nat.le_refl _) _).alloc (below2 (Nat.le_refl _)) _).trans (hb1.mono (below3 (Nat.le_refl _)))
    have hM1 := hb1
    simp only [World.size_alloc] at hM1
    obtain ⟨hc1, _⟩ := bcell hM1
    go_wp2_with fail
    with_reducible refine (C3.out _ hB1).mono ?_
    rintro e w2 ⟨rfl, hb2⟩
    rw [E3.out]
    have hB2 : Below w0.heap.size w0 w2 := hB1.trans (hb2.mono hB1.size)
    have hL2 : Below w.heap.size w w2 := hL1.trans (hb2.mono hL1.size)
    have hM2 := hM1.trans (hb2.mono (by have := hM1.size; simpa only [World.size_alloc] using this))
    obtain ⟨hc2, _⟩ := bcell hM2
    go_wp2_with fail
    with_reducible refine (C4.out _ hB2).mono ?_
    rintro e w3 ⟨rfl, hb3⟩
    rw [E4.out]
    have hB3 : Below w0.heap.size w0 w3 := hB2.trans (hb3.mono hB2.size)
    have hL3 : Below w.heap.size w w3 := hL2.trans (hb3.mono hL2.size)
    have hM3 := hM2.trans (hb3.mono (by have := hM2.size; simpa only [World.size_alloc] using this))
    obtain ⟨hc3, _⟩ := bcell hM3
    go_wp2_with fail
    with_reducible refine (C5.out _ hB3).mono ?_
    rintro e w4 ⟨rfl, hb4⟩
    rw [E5.out]
    have hB4 : Below w0.heap.size w0 w4 := hB3.trans (hb4.mono hB3.size)
    have hL4 : Below w.heap.size w w4 := hL3.trans (hb4.mono hL3.size)
    have hM4 := hM3.trans (hb4.mono (by have := hM3.size; simpa only [World.size_alloc] using this))
    obtain ⟨hc4, _⟩ := bcell hM4
    go_wp2_with fail
    with_reducible refine (C6.out _ hB4).mono ?_
    rintro e w5 ⟨rfl, hb5⟩
    rw [E6.out]
    have hB5 : Below w0.heap.size w0 w5 := hB4.trans (hb5.mono hB4.size)
    have hL5 : Below w.heap.size w w5 := hL4.trans (hb5.mono hL4.size)
    have hM5 := hM4.trans (hb5.mono (by have := hM4.size; simpa only [World.size_alloc] using this))
    obtain ⟨hc5, _⟩ := bcell hM5
    go_wp2_with fail
    with_reducible refine (C7.out _ hB5).mono ?_
    rintro e w6 ⟨rfl, hb6⟩
    rw [E7.out]
    have hB6 : Below w0.heap.size w0 w6 := hB5.trans (hb6.mono hB5.size)
    have hL6 : Below w.heap.size w w6 := hL5.trans (hb6.mono hL5.size)
    go_wp2_with fail
    go_ret
    exact ⟨rfl, hL6⟩
  have E7 : Hid (decide (p7 = q7) = true) := by show _ = _; simpa using e7
  have X7 := Lib.hid e7
  clear e7
  have hv : decide ((⟨p0, p1, p2, p3, p4, p5, p6, p7⟩ : Language) = ⟨p0, p1, q2, q3, q4, q5, q6, q7⟩) = true := by simp [X2.out, X3.out, X4.out, X5.out, X6.out, X7.out]
  rw [hv]; clear hv
  go_enter Tryz.func13, Tryz.ntmps13
  go_wp2_with fail
  with_reducible refine (C2.out _ ((hw.alloc hw.size _).alloc (below2 hw.size) _)).mono ?_
  rintro e w1 ⟨rfl, hb1⟩
  rw [E2.out]
  have hB1 : Below w0.heap.size w0 w1 := ((hw.alloc hw.size _).alloc (below2 hw.size) _).trans (hb1.mono (below3 hw.size))
  have hL1 : Below w.heap.size w w1 := (((Below.refl _ _).alloc (Nat.le_refl _) _).alloc (below2 (Nat.le_refl _)) _).trans (hb1.mono (below3 (Nat.le_refl _)))
  have hM1 := hb1
  simp only [World.size_alloc] at hM1
  obtain ⟨hc1, _⟩ := bcell hM1
  go_wp2_with fail
  with_reducible refine (C3.out _ hB1).mono ?_
  rintro e w2 ⟨rfl, hb2⟩
  rw [E3.out]
  have hB2 : Below w0.heap.size w0 w2 := hB1.trans (hb2.mono hB1.size)
  have hL2 : Below w.heap.size w w2 := hL1.trans (hb2.mono hL1.size)
  have hM2 := hM1.trans (hb2.mono (by have := hM1.size; simpa only [World.size_alloc] using this))
  obtain ⟨hc2, _⟩ := bcell hM2
  go_wp2_with fail
  with_reducible refine (C4.out _ hB2).mono ?_
  rintro e w3 ⟨rfl, hb3⟩
  rw [E4.out]
  have hB3 : Below w0.heap.size w0 w3 := hB2.trans (hb3.mono hB2.size)
  have hL3 : Below w.heap.size w w3 := hL2.trans (hb3.mono hL2.size)
  have hM3 := hM2.trans (hb3.mono (by have := hM2.size; simpa only [World.size_alloc] using this))
  obtain ⟨hc3, _⟩ := bcell hM3
  go_wp2_with fail
  with_reducible refine (C5.out _ hB3).mono ?_
  rintro e w4 ⟨rfl, hb4⟩
  rw [E5.out]
  have hB4 : Below w0.heap.size w0 w4 := hB3.trans (hb4.mono hB3.size)
  have hL4 : Below w.heap.size w w4 := hL3.trans (hb4.mono hL3.size)
  have hM4 := hM3.trans (hb4.mono (by have := hM3.size; simpa only [World.size_alloc] using this))
  obtain ⟨hc4, _⟩ := bcell hM4
  go_wp2_with fail
  with_reducible refine (C6.out _ hB4).mono ?_
  rintro e w5 ⟨rfl, hb5⟩
  rw [E6.out]
  have hB5 : Below w0.heap.size w0 w5 := hB4.trans (hb5.mono hB4.size)
  have hL5 : Below w.heap.size w w5 := hL4.trans (hb5.mono hL4.size)
  have hM5 := hM4.trans (hb5.mono (by have := hM4.size; simpa only [World.size_alloc] using this))
  obtain ⟨hc5, _⟩ := bcell hM5
  go_wp2_with fail
  with_reducible refine (C7.out _ hB5).mono ?_
  rintro e w6 ⟨rfl, hb6⟩
  rw [E7.out]
  have hB6 : Below w0.heap.size w0 w6 := hB5.trans (hb6.mono hB5.size)
  have hL6 : Below w.heap.size w w6 := hL5.trans (hb6.mono hL5.size)
  go_wp2_with fail
  go_ret
  exact ⟨rfl, hL6⟩

end Go.Proofs.YtdhljfblkidohaaGreat
