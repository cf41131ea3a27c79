import Derived.Test.YtdhljfblkidohaaEqE
import Derived.Test.YtdhljfblkidohaaEqD
import Derived.StillTailTactics
import Derived.Test.YtdhljfblkidohaaProg
import Derived.Deep.QuietTactic
import Derived.BigQuiet
namespace Go.Proofs.Ytdhljfblkidohaa
set_option linter.unusedSimpArgs false
set_option linter.unusedVariables false
open Go.RowKit

set_option maxHeartbeats 8000000 in
set_option maxRecDepth 100000 in
theorem ref_same {x x' : List Value} {d d' : Language} (w w0 : World) (h : Language.Is w0 w0.heap.size x d) (h' : Language.Is w0 w0.heap.size x' d') (hw : Below w0.heap.size w0 w) :
    Calls Try.prog 7 #[.agg x.toArray, .agg x'.toArray] w fun e w' => e = .returned (.bool (decide (d = d'))) ∧ Below w.heap.size w w' := by
  obtain ⟨v2, v3, v4, v5, v6, v7, rfl, s2, s3, s4, s5, s6, s7, _⟩ := h
  obtain ⟨v2', v3', v4', v5', v6', v7', rfl, t2, t3, t4, t5, t6, t7, _⟩ := h'
  have C2 := Lib.hid (fun W hW => ref_texts W w0 s2 t2 hW)
  obtain ⟨pa2, n2, pc2, rfl⟩ := s2.form'
  obtain ⟨qa2, n2', qc2, rfl⟩ := t2.form'
  clear s2 t2
  obtain ⟨pa3, pc3, rfl⟩ : ∃ a c, v3 = .slice a d.concepts.length c := by obtain ⟨a, c, h, _⟩ := s3.form; exact ⟨a, c, h⟩
  obtain ⟨qa3, qc3, rfl⟩ : ∃ a c, v3' = .slice a d'.concepts.length c := by obtain ⟨a, c, h, _⟩ := t3.form; exact ⟨a, c, h⟩
  have m3 : d.concepts.length ≤ 9223372036854775807 := by have := s3.caps; unfold maxLen at this; omega
  obtain ⟨pa4, pc4, rfl⟩ : ∃ a c, v4 = .slice a d.rules.length c := by obtain ⟨a, c, h, _⟩ := s4.form; exact ⟨a, c, h⟩
  obtain ⟨qa4, qc4, rfl⟩ : ∃ a c, v4' = .slice a d'.rules.length c := by obtain ⟨a, c, h, _⟩ := t4.form; exact ⟨a, c, h⟩
  have m4 : d.rules.length ≤ 9223372036854775807 := by have := s4.caps; unfold maxLen at this; omega
  obtain ⟨pa5, pc5, rfl⟩ : ∃ a c, v5 = .slice a d.equations.length c := by obtain ⟨a, c, h, _⟩ := s5.form; exact ⟨a, c, h⟩
  obtain ⟨qa5, qc5, rfl⟩ : ∃ a c, v5' = .slice a d'.equations.length c := by obtain ⟨a, c, h, _⟩ := t5.form; exact ⟨a, c, h⟩
  have m5 : d.equations.length ≤ 9223372036854775807 := by have := s5.caps; unfold maxLen at this; omega
  obtain ⟨pa6, pc6, rfl⟩ : ∃ a c, v6 = .slice a d.editors.length c := by obtain ⟨a, c, h, _⟩ := s6.form; exact ⟨a, c, h⟩
  obtain ⟨qa6, qc6, rfl⟩ : ∃ a c, v6' = .slice a d'.editors.length c := by obtain ⟨a, c, h, _⟩ := t6.form; exact ⟨a, c, h⟩
  have m6 : d.editors.length ≤ 9223372036854775807 := by have := s6.caps; unfold maxLen at this; omega
  obtain ⟨pa7, pc7, rfl⟩ : ∃ a c, v7 = .slice a d.templates.length c := by obtain ⟨a, c, h, _⟩ := s7.form; exact ⟨a, c, h⟩
  obtain ⟨qa7, qc7, rfl⟩ : ∃ a c, v7' = .slice a d'.templates.length c := by obtain ⟨a, c, h, _⟩ := t7.form; exact ⟨a, c, h⟩
  have m7 : d.templates.length ≤ 9223372036854775807 := by have := s7.caps; unfold maxLen at this; omega
  obtain ⟨p0, p1, p2, p3, p4, p5, p6, p7⟩ := d
  obtain ⟨q0, q1, q2, q3, q4, q5, q6, q7⟩ := d'
  dsimp only at *
  have hbase : w0.heap.size ≤ w.heap.size := hw.size
  by_cases e0 : p0 = q0
  rotate_left
  · have hv : decide ((⟨p0, p1, p2, p3, p4, p5, p6, p7⟩ : Language) = ⟨q0, q1, q2, q3, q4, q5, q6, q7⟩) = false := by simp [e0]
    rw [hv]; clear hv
    have e' : (p0.toList == q0.toList) = false := by simpa [toList_inj] using e0
    clear e0
    clear s3 s4 s5 s6 s7 t3 t4 t5 t6 t7
    go_enter Try.func7, Try.ntmps7
    try dsimp only [List.append]
    go_wp2_with fail
    go_ret
    exact ⟨rfl, by first | exact ((Below.refl _ _).alloc (Nat.le_refl _) _).alloc (below2 (Nat.le_refl _)) _ | exact below_drewN (((Below.refl _ _).alloc (Nat.le_refl _) _).alloc (below2 (Nat.le_refl _)) _) _⟩
  subst e0
  by_cases e1 : p1 = q1
  rotate_left
  · have hv : decide ((⟨p0, p1, p2, p3, p4, p5, p6, p7⟩ : Language) = ⟨p0, q1, q2, q3, q4, q5, q6, q7⟩) = false := by simp [e1]
    rw [hv]; clear hv
    have e' : (p1 == q1) = false := by simpa using e1
    have e'' : (p1 != q1) = true := by simpa using e1
    clear e1
    clear s3 s4 s5 s6 s7 t3 t4 t5 t6 t7
    go_enter Try.func7, Try.ntmps7
    try dsimp only [List.append]
    go_wp2_with fail
    go_ret
    exact ⟨rfl, by first | exact ((Below.refl _ _).alloc (Nat.le_refl _) _).alloc (below2 (Nat.le_refl _)) _ | exact below_drewN (((Below.refl _ _).alloc (Nat.le_refl _) _).alloc (below2 (Nat.le_refl _)) _) _⟩
  subst e1
  by_cases e2 : p2 = q2
  rotate_left
  · have hv : decide ((⟨p0, p1, p2, p3, p4, p5, p6, p7⟩ : Language) = ⟨p0, p1, q2, q3, q4, q5, q6, q7⟩) = false := by simp [e2]
    rw [hv]; clear hv
    have X2 : Hid (decide (p2 = q2) = false) := by show _ = _; simpa using e2
    clear e2
    clear s3 s4 s5 s6 s7 t3 t4 t5 t6 t7
    go_enter Try.func7, Try.ntmps7
    try dsimp only [List.append]
    go_wp2_with fail
    with_reducible refine (C2.out _ ((hw.alloc hw.size _).alloc (below2 hw.size) _)).mono ?_
    rintro e w1 ⟨rfl, hq1⟩
    rw [X2.out]
    obtain ⟨q1, rfl⟩ := hq1
    go_wp2_with fail
    go_ret
    exact ⟨rfl, by first | exact ((Below.refl _ _).alloc (Nat.le_refl _) _).alloc (below2 (Nat.le_refl _)) _ | exact below_drewN (((Below.refl _ _).alloc (Nat.le_refl _) _).alloc (below2 (Nat.le_refl _)) _) _⟩
  have X2 : Hid (decide (p2 = q2) = true) := by show _ = _; simpa using e2
  have Y2 := Lib.hid e2
  clear e2
  by_cases e3 : p3.length = q3.length
  rotate_left
  · have hv : decide ((⟨p0, p1, p2, p3, p4, p5, p6, p7⟩ : Language) = ⟨p0, p1, q2, q3, q4, q5, q6, q7⟩) = false := by simp; intro _ h; exact absurd (by rw [h]) e3
    rw [hv]; clear hv
    have e' : ((p3.length : Int) != (q3.length : Int)) = true := by rw [bne_iff_ne]; omega
    have e'' : ((p3.length : Int) == (q3.length : Int)) = false := by rw [beq_eq_false_iff_ne]; omega
    clear e3
    clear s3 s4 s5 s6 s7 t3 t4 t5 t6 t7
    go_enter Try.func7, Try.ntmps7
    try dsimp only [List.append]
    go_wp2_with fail
    with_reducible refine (C2.out _ ((hw.alloc hw.size _).alloc (below2 hw.size) _)).mono ?_
    rintro e w1 ⟨rfl, hq1⟩
    rw [X2.out]
    obtain ⟨q1, rfl⟩ := hq1
    go_wp2_with fail
    go_ret
    exact ⟨rfl, by first | exact ((Below.refl _ _).alloc (Nat.le_refl _) _).alloc (below2 (Nat.le_refl _)) _ | exact below_drewN (((Below.refl _ _).alloc (Nat.le_refl _) _).alloc (below2 (Nat.le_refl _)) _) _⟩
  rw [← e3] at t3 ⊢
  obtain ⟨n3, hn3⟩ : ∃ n, p3.length = n := ⟨_, rfl⟩
  rw [hn3] at s3 t3 m3 ⊢
  have L3 := Lib.hid hn3
  have E3 := Lib.hid e3
  clear hn3 e3
  by_cases e4 : p4.length = q4.length
  rotate_left
  · have hv : decide ((⟨p0, p1, p2, p3, p4, p5, p6, p7⟩ : Language) = ⟨p0, p1, q2, q3, q4, q5, q6, q7⟩) = false := by simp; intro _ _ h; exact absurd (by rw [h]) e4
    rw [hv]; clear hv
    have e' : ((p4.length : Int) != (q4.length : Int)) = true := by rw [bne_iff_ne]; omega
    have e'' : ((p4.length : Int) == (q4.length : Int)) = false := by rw [beq_eq_false_iff_ne]; omega
    clear e4
    clear s3 s4 s5 s6 s7 t3 t4 t5 t6 t7
    go_enter Try.func7, Try.ntmps7
    try dsimp only [List.append]
    go_wp2_with fail
    with_reducible refine (C2.out _ ((hw.alloc hw.size _).alloc (below2 hw.size) _)).mono ?_
    rintro e w1 ⟨rfl, hq1⟩
    rw [X2.out]
    obtain ⟨q1, rfl⟩ := hq1
    go_wp2_with fail
    go_ret
    exact ⟨rfl, by first | exact ((Below.refl _ _).alloc (Nat.le_refl _) _).alloc (below2 (Nat.le_refl _)) _ | exact below_drewN (((Below.refl _ _).alloc (Nat.le_refl _) _).alloc (below2 (Nat.le_refl _)) _) _⟩
  rw [← e4] at t4 ⊢
  obtain ⟨n4, hn4⟩ : ∃ n, p4.length = n := ⟨_, rfl⟩
  rw [hn4] at s4 t4 m4 ⊢
  have L4 := Lib.hid hn4
  have E4 := Lib.hid e4
  clear hn4 e4
  by_cases e5 : p5.length = q5.length
  rotate_left
  · have hv : decide ((⟨p0, p1, p2, p3, p4, p5, p6, p7⟩ : Language) = ⟨p0, p1, q2, q3, q4, q5, q6, q7⟩) = false := by simp; intro _ _ _ h; exact absurd (by rw [h]) e5
    rw [hv]; clear hv
    have e' : ((p5.length : Int) != (q5.length : Int)) = true := by rw [bne_iff_ne]; omega
    have e'' : ((p5.length : Int) == (q5.length : Int)) = false := by rw [beq_eq_false_iff_ne]; omega
    clear e5
    clear s3 s4 s5 s6 s7 t3 t4 t5 t6 t7
    go_enter Try.func7, Try.ntmps7
    try dsimp only [List.append]
    go_wp2_with fail
    with_reducible refine (C2.out _ ((hw.alloc hw.size _).alloc (below2 hw.size) _)).mono ?_
    rintro e w1 ⟨rfl, hq1⟩
    rw [X2.out]
    obtain ⟨q1, rfl⟩ := hq1
    go_wp2_with fail
    go_ret
    exact ⟨rfl, by first | exact ((Below.refl _ _).alloc (Nat.le_refl _) _).alloc (below2 (Nat.le_refl _)) _ | exact below_drewN (((Below.refl _ _).alloc (Nat.le_refl _) _).alloc (below2 (Nat.le_refl _)) _) _⟩
  rw [← e5] at t5 ⊢
  obtain ⟨n5, hn5⟩ : ∃ n, p5.length = n := ⟨_, rfl⟩
  rw [hn5] at s5 t5 m5 ⊢
  have L5 := Lib.hid hn5
  have E5 := Lib.hid e5
  clear hn5 e5
  by_cases e6 : p6.length = q6.length
  rotate_left
  · have hv : decide ((⟨p0, p1, p2, p3, p4, p5, p6, p7⟩ : Language) = ⟨p0, p1, q2, q3, q4, q5, q6, q7⟩) = false := by simp; intro _ _ _ _ h; exact absurd (by rw [h]) e6
    rw [hv]; clear hv
    have e' : ((p6.length : Int) != (q6.length : Int)) = true := by rw [bne_iff_ne]; omega
    have e'' : ((p6.length : Int) == (q6.length : Int)) = false := by rw [beq_eq_false_iff_ne]; omega
    clear e6
    clear s3 s4 s5 s6 s7 t3 t4 t5 t6 t7
    go_enter Try.func7, Try.ntmps7
    try dsimp only [List.append]
    go_wp2_with fail
    with_reducible refine (C2.out _ ((hw.alloc hw.size _).alloc (below2 hw.size) _)).mono ?_
    rintro e w1 ⟨rfl, hq1⟩
    rw [X2.out]
    obtain ⟨q1, rfl⟩ := hq1
    go_wp2_with fail
    go_ret
    exact ⟨rfl, by first | exact ((Below.refl _ _).alloc (Nat.le_refl _) _).alloc (below2 (Nat.le_refl _)) _ | exact below_drewN (((Below.refl _ _).alloc (Nat.le_refl _) _).alloc (below2 (Nat.le_refl _)) _) _⟩
  rw [← e6] at t6 ⊢
  obtain ⟨n6, hn6⟩ : ∃ n, p6.length = n := ⟨_, rfl⟩
  rw [hn6] at s6 t6 m6 ⊢
  have L6 := Lib.hid hn6
  have E6 := Lib.hid e6
  clear hn6 e6
  by_cases e7 : p7.length = q7.length
  rotate_left
  · have hv : decide ((⟨p0, p1, p2, p3, p4, p5, p6, p7⟩ : Language) = ⟨p0, p1, q2, q3, q4, q5, q6, q7⟩) = false := by simp; intro _ _ _ _ _ h; exact absurd (by rw [h]) e7
    rw [hv]; clear hv
    have e' : ((p7.length : Int) != (q7.length : Int)) = true := by rw [bne_iff_ne]; omega
    have e'' : ((p7.length : Int) == (q7.length : Int)) = false := by rw [beq_eq_false_iff_ne]; omega
    clear e7
    clear s3 s4 s5 s6 s7 t3 t4 t5 t6 t7
    go_enter Try.func7, Try.ntmps7
    try dsimp only [List.append]
    go_wp2_with fail
    with_reducible refine (C2.out _ ((hw.alloc hw.size _).alloc (below2 hw.size) _)).mono ?_
    rintro e w1 ⟨rfl, hq1⟩
    rw [X2.out]
    obtain ⟨q1, rfl⟩ := hq1
    go_wp2_with fail
    go_ret
    exact ⟨rfl, by first | exact ((Below.refl _ _).alloc (Nat.le_refl _) _).alloc (below2 (Nat.le_refl _)) _ | exact below_drewN (((Below.refl _ _).alloc (Nat.le_refl _) _).alloc (below2 (Nat.le_refl _)) _) _⟩
  rw [← e7] at t7 ⊢
  obtain ⟨n7, hn7⟩ : ∃ n, p7.length = n := ⟨_, rfl⟩
  rw [hn7] at s7 t7 m7 ⊢
  have L7 := Lib.hid hn7
  have E7 := Lib.hid e7
  clear hn7 e7
  have hv : (⟨p0, p1, p2, p3, p4, p5, p6, p7⟩ : Language) = ⟨p0, p1, q2, q3, q4, q5, q6, q7⟩ ↔ (p2 = q2 ∧ p3 = q3 ∧ p4 = q4 ∧ p5 = q5 ∧ p6 = q6 ∧ p7 = q7) := by simp
  have Hv := Lib.hid hv
  clear hv
  have S3 := Lib.hid s3
  have T3 := Lib.hid t3
  have S4 := Lib.hid s4
  have T4 := Lib.hid t4
  have S5 := Lib.hid s5
  have T5 := Lib.hid t5
  have S6 := Lib.hid s6
  have T6 := Lib.hid t6
  have S7 := Lib.hid s7
  have T7 := Lib.hid t7
  have Hw := Lib.hid hw
  clear s3 s4 s5 s6 s7 t3 t4 t5 t6 t7
  obtain ⟨W, hWW⟩ : ∃ W, W = ((w.alloc (.cells #[.string p0, .int .i64 p1, .slice pa2 n2 pc2, .slice pa3 n3 pc3, .slice pa4 n4 pc4, .slice pa5 n5 pc5, .slice pa6 n6 pc6, .slice pa7 n7 pc7] 29)).alloc (.cells #[.string p0, .int .i64 p1, .slice qa2 n2' qc2, .slice qa3 n3 qc3, .slice qa4 n4 qc4, .slice qa5 n5 qc5, .slice qa6 n6 qc6, .slice qa7 n7 qc7] 29)) := ⟨_, rfl⟩
  have HBW : Below w.heap.size w W := by rw [hWW]; exact ((Below.refl _ _).alloc (Nat.le_refl _) _).alloc (below2 (Nat.le_refl _)) _
  have HB0 : Below w0.heap.size w0 W := hw.trans (HBW.mono hw.size)
  have hzW : W.heap.size = w.heap.size + 1 + 1 := by rw [hWW]; simp
  have a3 : W.cell? ⟨w.heap.size, 3, none⟩ = some (.slice pa3 n3 pc3) := by rw [hWW]; simp
  have b3 : W.cell? ⟨w.heap.size + 1, 3, none⟩ = some (.slice qa3 n3 qc3) := by rw [hWW]; simp
  have a4 : W.cell? ⟨w.heap.size, 4, none⟩ = some (.slice pa4 n4 pc4) := by rw [hWW]; simp
  have b4 : W.cell? ⟨w.heap.size + 1, 4, none⟩ = some (.slice qa4 n4 qc4) := by rw [hWW]; simp
  have a5 : W.cell? ⟨w.heap.size, 5, none⟩ = some (.slice pa5 n5 pc5) := by rw [hWW]; simp
  have b5 : W.cell? ⟨w.heap.size + 1, 5, none⟩ = some (.slice qa5 n5 qc5) := by rw [hWW]; simp
  have a6 : W.cell? ⟨w.heap.size, 6, none⟩ = some (.slice pa6 n6 pc6) := by rw [hWW]; simp
  have b6 : W.cell? ⟨w.heap.size + 1, 6, none⟩ = some (.slice qa6 n6 qc6) := by rw [hWW]; simp
  have a7 : W.cell? ⟨w.heap.size, 7, none⟩ = some (.slice pa7 n7 pc7) := by rw [hWW]; simp
  have b7 : W.cell? ⟨w.heap.size + 1, 7, none⟩ = some (.slice qa7 n7 qc7) := by rw [hWW]; simp
  have HWW := Lib.hid hWW
  have HzW := Lib.hid hzW
  clear hWW hzW hw
  go_enter Try.func7, Try.ntmps7
  try dsimp only [List.append]
  go_wp2_with fail
  with_reducible refine (C2.out _ ((Hw.out.alloc Hw.out.size _).alloc (below2 Hw.out.size) _)).mono ?_
  rintro e w1 ⟨rfl, hq1⟩
  rw [X2.out]
  obtain ⟨q1, rfl⟩ := hq1
  go_wp2_with fail
  go_loopw [4, 5] (fun _ j wr => ∃ k : Nat, k ≤ n3 ∧ j = .int .i64 k ∧ Below (w.heap.size + 1 + 1) W wr ∧ Hid (∀ i y z, i < k → p3[i]? = some y → q3[i]? = some z → (fun a b => decide (a = b)) y z = true)) (fun _ j _ => n3 - (intOf j).toNat)
  case atStart => exact ⟨0, Nat.zero_le _, rfl, by rw [HWW.out]; exact below_drewN (Below.refl _ _) _, fun i d _ hi => by omega⟩
  case round =>
    obtain ⟨k3, hk, rfl, hb3, hf3⟩ := hrel
    have hz3 : w.heap.size + 1 + 1 ≤ wr.heap.size := by have := hb3.size; rw [HzW.out] at this; exact this
    have ca := (hb3.cell (p := ⟨w.heap.size, 3, none⟩) (by show w.heap.size < _; omega)).trans a3
    have cb := (hb3.cell (p := ⟨w.heap.size + 1, 3, none⟩) (by show w.heap.size + 1 < _; omega)).trans b3
    have hza : w.heap.size < wr.heap.size := by omega
    have hzb : w.heap.size + 1 < wr.heap.size := by omega
    have HB1 : Below w0.heap.size w0 wr := HB0.trans (hb3.mono (by omega))
    have HBr : Below w.heap.size w wr := HBW.trans (hb3.mono (by omega))
    by_cases hlt : k3 < n3
    · obtain ⟨y, hd⟩ := get_some L3.out hlt
      obtain ⟨z, he⟩ := get_some (E3.out.symm.trans L3.out) hlt
      obtain ⟨b, off, x, rfl, hbB, hxl, hR, hx⟩ := (S3.out.below HB1).at_ hd
      obtain ⟨b', off', x', rfl, hbB', hxl', hR', hx'⟩ := (T3.out.below HB1).at_ he
      have hl1 : b < wr.heap.size := by have := HB1.size; omega
      have hl2 : b' < wr.heap.size := by have := HB1.size; omega
      have C := Lib.hid (fun W hW => ref_concept W w0 hR hR' hW)
      obtain ⟨e0, e1, e2, e3, en3, ec3, e4, en4, ec4, e5, en5, ec5, rfl⟩ := Concept.Is.shape _ _ hR
      obtain ⟨f0, f1, f2, f3, fn3, fc3, f4, fn4, fc4, f5, fn5, fc5, rfl⟩ := Concept.Is.shape _ _ hR'
      have h0 := hx 0 _ rfl
      have h1 := hx 1 _ rfl
      have h2 := hx 2 _ rfl
      have h3 := hx 3 _ rfl
      have h4 := hx 4 _ rfl
      have h5 := hx 5 _ rfl
      have g0 := hx' 0 _ rfl
      have g1 := hx' 1 _ rfl
      have g2 := hx' 2 _ rfl
      have g3 := hx' 3 _ rfl
      have g4 := hx' 4 _ rfl
      have g5 := hx' 5 _ rfl
      simp only [Nat.add_zero] at h0 g0
      have Hd := Lib.hid hd
      have He := Lib.hid he
      have HB1' := Lib.hid HB1
      clear hd he hx hxl hx' hxl' HB1 HBr
      by_cases hyz : y = z
      · have Hyz := Lib.hid hyz
        have Hdec : Hid (decide (y = z) = true) := by show _ = _; simpa using hyz
        clear hyz
        go_wp2_with fail
        go_still_tail 10, (by kernel_rfl)
        change wpList _ _ _ _ _ wr.drew
        go_wp2_with fail
        with_reducible refine (C.out _ HB1'.out.drew).mono ?_
        rintro e w1 ⟨rfl, hb1⟩
        rw [Hdec.out]
        go_wp2_with fail
        go_roundw
        case rel => exact ⟨k3 + 1, by omega, by go_num, hb3.drew.trans (hb1.mono hz3), so_far Hd.out He.out Hdec.out hf3.out⟩
        case measure => simp [intOf]; omega
      · have Hyz := Lib.hid hyz
        have Hdec : Hid (decide (y = z) = false) := by show _ = _; simpa using hyz
        clear hyz
        go_wp2_with fail
        go_still_tail 10, (by kernel_rfl)
        change wpList _ _ _ _ _ wr.drew
        go_wp2_with fail
        with_reducible refine (C.out _ HB1'.out.drew).mono ?_
        rintro e w1 ⟨rfl, hb1⟩
        rw [Hdec.out]
        go_wp2_with fail
        have hno : ¬ p3 = q3 := fun h => by
          have := eqBy_no (fun a b => decide (a = b)) p3 q3 k3 _ _ Hd.out He.out (by simpa using Hyz.out)
          rw [eqBy_eq, h] at this
          simp at this
        have hfin := decide_eq_false (fun h => hno (Hv.out.1 h).2.1)
        go_ret
        exact ⟨by first | (rw [hfin]; rfl) | (simp; done), (HBW.trans (hb3.mono (by omega))).drew.trans (hb1.mono (by show w.heap.size ≤ wr.heap.size; omega))⟩
    · have hge : n3 ≤ k3 := by omega
      clear hlt
      have Q3 : Hid (p3 = q3) := by
        have := eqBy_yes (fun a b => decide (a = b)) p3 q3 E3.out (fun i y z hi => hf3.out i y z (by have := L3.out; omega))
        rw [eqBy_eq] at this
        exact (of_decide_eq_true this : p3 = q3)
      clear HB1 HBr
      go_wp2_with fail
      go_loopw [4, 6] (fun _ j wr => ∃ k : Nat, k ≤ n4 ∧ j = .int .i64 k ∧ Below (w.heap.size + 1 + 1) W wr ∧ Hid (∀ i y z, i < k → p4[i]? = some y → q4[i]? = some z → (fun a b => decide (a = b)) y z = true)) (fun _ j _ => n4 - (intOf j).toNat)
      case atStart => exact ⟨0, Nat.zero_le _, rfl, hb3, fun i d _ hi => by omega⟩
      case round =>
        obtain ⟨k4, hk, rfl, hb4, hf4⟩ := hrel
        have hz4 : w.heap.size + 1 + 1 ≤ wr.heap.size := by have := hb4.size; rw [HzW.out] at this; exact this
        have ca := (hb4.cell (p := ⟨w.heap.size, 4, none⟩) (by show w.heap.size < _; omega)).trans a4
        have cb := (hb4.cell (p := ⟨w.heap.size + 1, 4, none⟩) (by show w.heap.size + 1 < _; omega)).trans b4
        have hza : w.heap.size < wr.heap.size := by omega
        have hzb : w.heap.size + 1 < wr.heap.size := by omega
        have HB1 : Below w0.heap.size w0 wr := HB0.trans (hb4.mono (by omega))
        have HBr : Below w.heap.size w wr := HBW.trans (hb4.mono (by omega))
        by_cases hlt : k4 < n4
        · obtain ⟨y, hd⟩ := get_some L4.out hlt
          obtain ⟨z, he⟩ := get_some (E4.out.symm.trans L4.out) hlt
          obtain ⟨b, off, x, rfl, hbB, hxl, hR, hx⟩ := (S4.out.below HB1).at_ hd
          obtain ⟨b', off', x', rfl, hbB', hxl', hR', hx'⟩ := (T4.out.below HB1).at_ he
          have hl1 : b < wr.heap.size := by have := HB1.size; omega
          have hl2 : b' < wr.heap.size := by have := HB1.size; omega
          obtain ⟨rfl, _⟩ := hR
          obtain ⟨rfl, _⟩ := hR'
          have h0 := hx 0 _ rfl
          have h1 := hx 1 _ rfl
          have h2 := hx 2 _ rfl
          have h3 := hx 3 _ rfl
          have g0 := hx' 0 _ rfl
          have g1 := hx' 1 _ rfl
          have g2 := hx' 2 _ rfl
          have g3 := hx' 3 _ rfl
          simp only [Nat.add_zero] at h0 g0
          have Hd := Lib.hid hd
          have He := Lib.hid he
          have HB1' := Lib.hid HB1
          clear hd he hx hxl hx' hxl' HB1 HBr
          by_cases hyz : y = z
          · have Hyz := Lib.hid hyz
            have Hdec : Hid (decide (y = z) = true) := by show _ = _; simpa using hyz
            have hne := fun W => neq_Rule y z false (by simpa using hyz) W
            clear hyz
            go_wp2_with fail
            go_quiet (fail)
            go_wp2_with fail
            go_roundw
            case rel => exact ⟨k4 + 1, by omega, by go_num, below_drewN hb4 _, so_far Hd.out He.out Hdec.out hf4.out⟩
            case measure => simp [intOf]; omega
          · have Hyz := Lib.hid hyz
            have Hdec : Hid (decide (y = z) = false) := by show _ = _; simpa using hyz
            have hne := fun W => neq_Rule y z true (by simpa using hyz) W
            clear hyz
            go_wp2_with fail
            go_quiet (fail)
            go_wp2_with fail
            have hno : ¬ p4 = q4 := fun h => by
              have := eqBy_no (fun a b => decide (a = b)) p4 q4 k4 _ _ Hd.out He.out (by simpa using Hyz.out)
              rw [eqBy_eq, h] at this
              simp at this
            have hfin := decide_eq_false (fun h => hno (Hv.out.1 h).2.2.1)
            go_ret
            exact ⟨by first | (rw [hfin]; rfl) | (simp; done), below_drewN (HBW.trans (hb4.mono (by omega))) _⟩
        · have hge : n4 ≤ k4 := by omega
          clear hlt
          have Q4 : Hid (p4 = q4) := by
            have := eqBy_yes (fun a b => decide (a = b)) p4 q4 E4.out (fun i y z hi => hf4.out i y z (by have := L4.out; omega))
            rw [eqBy_eq] at this
            exact (of_decide_eq_true this : p4 = q4)
          clear HB1 HBr
          go_wp2_with fail
          go_loopw [4, 7] (fun _ j wr => ∃ k : Nat, k ≤ n5 ∧ j = .int .i64 k ∧ Below (w.heap.size + 1 + 1) W wr ∧ Hid (∀ i y z, i < k → p5[i]? = some y → q5[i]? = some z → (fun a b => decide (a = b)) y z = true)) (fun _ j _ => n5 - (intOf j).toNat)
          case atStart => exact ⟨0, Nat.zero_le _, rfl, hb4, fun i d _ hi => by omega⟩
          case round =>
            obtain ⟨k5, hk, rfl, hb5, hf5⟩ := hrel
            have hz5 : w.heap.size + 1 + 1 ≤ wr.heap.size := by have := hb5.size; rw [HzW.out] at this; exact this
            have ca := (hb5.cell (p := ⟨w.heap.size, 5, none⟩) (by show w.heap.size < _; omega)).trans a5
            have cb := (hb5.cell (p := ⟨w.heap.size + 1, 5, none⟩) (by show w.heap.size + 1 < _; omega)).trans b5
            have hza : w.heap.size < wr.heap.size := by omega
            have hzb : w.heap.size + 1 < wr.heap.size := by omega
            have HB1 : Below w0.heap.size w0 wr := HB0.trans (hb5.mono (by omega))
            have HBr : Below w.heap.size w wr := HBW.trans (hb5.mono (by omega))
            by_cases hlt : k5 < n5
            · obtain ⟨y, hd⟩ := get_some L5.out hlt
              obtain ⟨z, he⟩ := get_some (E5.out.symm.trans L5.out) hlt
              obtain ⟨b, off, x, rfl, hbB, hxl, hR, hx⟩ := (S5.out.below HB1).at_ hd
              obtain ⟨b', off', x', rfl, hbB', hxl', hR', hx'⟩ := (T5.out.below HB1).at_ he
              have hl1 : b < wr.heap.size := by have := HB1.size; omega
              have hl2 : b' < wr.heap.size := by have := HB1.size; omega
              obtain ⟨v1, v2, rfl, u1, u2, _⟩ := hR
              obtain ⟨v1', v2', rfl, u1', u2', _⟩ := hR'
              have C1 := Lib.hid (fun W hW => ref_sides W w0 u1 u1' hW)
              have C3 := Lib.hid (fun W hW => ref_sides W w0 u2 u2' hW)
              obtain ⟨u1a, u1n, u1c, rfl⟩ := u1.form'
              obtain ⟨u2a, u2n, u2c, rfl⟩ := u2.form'
              obtain ⟨u1xa, u1xn, u1xc, rfl⟩ := u1'.form'
              obtain ⟨u2xa, u2xn, u2xc, rfl⟩ := u2'.form'
              clear u1 u2 u1' u2'
              have h0 := hx 0 _ rfl
              have h1 := hx 1 _ rfl
              have h2 := hx 2 _ rfl
              have g0 := hx' 0 _ rfl
              have g1 := hx' 1 _ rfl
              have g2 := hx' 2 _ rfl
              simp only [Nat.add_zero] at h0 g0
              have Hd := Lib.hid hd
              have He := Lib.hid he
              have HB1' := Lib.hid HB1
              clear hd he hx hxl hx' hxl' HB1 HBr
              obtain ⟨y0, y1, y2⟩ := y
              obtain ⟨z0, z1, z2⟩ := z
              dsimp only at *
              by_cases e0 : y0 = z0
              rotate_left
              · have Hyz : Hid (¬ (⟨y0, y1, y2⟩ : Equation) = ⟨z0, z1, z2⟩) := by show ¬ _; simp [e0]
                have e' : (y0.toList == z0.toList) = false := by simpa [toList_inj] using e0
                clear e0
                go_wp2_with fail
                go_region
                all_goals
                  go_wp2_with fail
                  have hno : ¬ p5 = q5 := fun h => by
                    have := eqBy_no (fun a b => decide (a = b)) p5 q5 k5 _ _ Hd.out He.out (by simpa using Hyz.out)
                    rw [eqBy_eq, h] at this
                    simp at this
                  have hfin := decide_eq_false (fun h => hno (Hv.out.1 h).2.2.2.1)
                  have HBr := HBW.trans (hb5.mono (by omega))
                  go_ret
                  exact ⟨by first | (rw [hfin]; rfl) | (simp; done), by (repeat (first | exact HBr | refine below_drewN ?_ _ | refine Below.drew ?_ | refine Below.alloc ?_ (by have := HBr.size; first | omega | (simp; omega)) _))⟩
              subst e0
              by_cases e1 : y1 = z1
              rotate_left
              · have Hyz : Hid (¬ (⟨y0, y1, y2⟩ : Equation) = ⟨y0, z1, z2⟩) := by show ¬ _; simp [e1]
                have D1 : Hid (decide (y1 = z1) = false) := by show _ = _; simpa using e1
                clear e1
                go_wp2_with fail
                go_region
                all_goals
                  go_wp2_with fail
                  with_reducible refine (C1.out _ ?_).mono ?_
                  · (repeat (first | exact HB1'.out | refine below_drewN ?_ _ | refine Below.drew ?_ | refine Below.alloc ?_ (by have := HB1'.out.size; first | omega | (simp; omega)) _))
                  rintro e w1 ⟨rfl, ⟨d1, hw1⟩⟩
                  subst hw1
                  rw [D1.out]
                  go_wp2_with fail
                  have hno : ¬ p5 = q5 := fun h => by
                    have := eqBy_no (fun a b => decide (a = b)) p5 q5 k5 _ _ Hd.out He.out (by simpa using Hyz.out)
                    rw [eqBy_eq, h] at this
                    simp at this
                  have hfin := decide_eq_false (fun h => hno (Hv.out.1 h).2.2.2.1)
                  have HBr := HBW.trans (hb5.mono (by omega))
                  go_ret
                  exact ⟨by first | (rw [hfin]; rfl) | (simp; done), by (repeat (first | exact HBr | refine below_drewN ?_ _ | refine Below.drew ?_ | refine Below.alloc ?_ (by have := HBr.size; first | omega | (simp; omega)) _))⟩
              have D1 : Hid (decide (y1 = z1) = true) := by show _ = _; simpa using e1
              have X1 := Lib.hid e1
              clear e1
              by_cases e2 : y2 = z2
              rotate_left
              · have Hyz : Hid (¬ (⟨y0, y1, y2⟩ : Equation) = ⟨y0, z1, z2⟩) := by show ¬ _; simp [e2]
                have D3 : Hid (decide (y2 = z2) = false) := by show _ = _; simpa using e2
                clear e2
                go_wp2_with fail
                go_region
                all_goals
                  go_wp2_with fail
                  with_reducible refine (C1.out _ ?_).mono ?_
                  · (repeat (first | exact HB1'.out | refine below_drewN ?_ _ | refine Below.drew ?_ | refine Below.alloc ?_ (by have := HB1'.out.size; first | omega | (simp; omega)) _))
                  rintro e w1 ⟨rfl, ⟨d1, hw1⟩⟩
                  subst hw1
                  rw [D1.out]
                  go_wp2_with fail
                  with_reducible refine (C3.out _ ?_).mono ?_
                  · (repeat (first | exact HB1'.out | refine below_drewN ?_ _ | refine Below.drew ?_ | refine Below.alloc ?_ (by have := HB1'.out.size; first | omega | (simp; omega)) _))
                  rintro e w2 ⟨rfl, ⟨d2, hw2⟩⟩
                  subst hw2
                  rw [D3.out]
                  go_wp2_with fail
                  have hno : ¬ p5 = q5 := fun h => by
                    have := eqBy_no (fun a b => decide (a = b)) p5 q5 k5 _ _ Hd.out He.out (by simpa using Hyz.out)
                    rw [eqBy_eq, h] at this
                    simp at this
                  have hfin := decide_eq_false (fun h => hno (Hv.out.1 h).2.2.2.1)
                  have HBr := HBW.trans (hb5.mono (by omega))
                  go_ret
                  exact ⟨by first | (rw [hfin]; rfl) | (simp; done), by (repeat (first | exact HBr | refine below_drewN ?_ _ | refine Below.drew ?_ | refine Below.alloc ?_ (by have := HBr.size; first | omega | (simp; omega)) _))⟩
              have D3 : Hid (decide (y2 = z2) = true) := by show _ = _; simpa using e2
              have X2 := Lib.hid e2
              clear e2
              have Hdec : Hid (decide ((⟨y0, y1, y2⟩ : Equation) = ⟨y0, z1, z2⟩) = true) := by show _ = _; simp [X1.out, X2.out]
              · skip
                go_wp2_with fail
                go_region
                all_goals
                  go_wp2_with fail
                  with_reducible refine (C1.out _ ?_).mono ?_
                  · (repeat (first | exact HB1'.out | refine below_drewN ?_ _ | refine Below.drew ?_ | refine Below.alloc ?_ (by have := HB1'.out.size; first | omega | (simp; omega)) _))
                  rintro e w1 ⟨rfl, ⟨d1, hw1⟩⟩
                  subst hw1
                  rw [D1.out]
                  go_wp2_with fail
                  with_reducible refine (C3.out _ ?_).mono ?_
                  · (repeat (first | exact HB1'.out | refine below_drewN ?_ _ | refine Below.drew ?_ | refine Below.alloc ?_ (by have := HB1'.out.size; first | omega | (simp; omega)) _))
                  rintro e w2 ⟨rfl, ⟨d2, hw2⟩⟩
                  subst hw2
                  rw [D3.out]
                  go_wp2_with fail
                  go_roundw
                  case rel => exact ⟨k5 + 1, by omega, by go_num, by (repeat (first | exact hb5 | refine below_drewN ?_ _ | refine Below.drew ?_ | refine Below.alloc ?_ (by have := hb5.size; first | omega | (simp; omega)) _)), so_far Hd.out He.out Hdec.out hf5.out⟩
                  case measure => simp [intOf]; omega
            · have hge : n5 ≤ k5 := by omega
              clear hlt
              have Q5 : Hid (p5 = q5) := by
                have := eqBy_yes (fun a b => decide (a = b)) p5 q5 E5.out (fun i y z hi => hf5.out i y z (by have := L5.out; omega))
                rw [eqBy_eq] at this
                exact (of_decide_eq_true this : p5 = q5)
              clear HB1 HBr
              go_wp2_with fail
              go_loopw [4, 10] (fun _ j wr => ∃ k : Nat, k ≤ n6 ∧ j = .int .i64 k ∧ Below (w.heap.size + 1 + 1) W wr ∧ Hid (∀ i y z, i < k → p6[i]? = some y → q6[i]? = some z → (fun a b => decide (a = b)) y z = true)) (fun _ j _ => n6 - (intOf j).toNat)
              case atStart => exact ⟨0, Nat.zero_le _, rfl, hb5, fun i d _ hi => by omega⟩
              case round =>
                obtain ⟨k6, hk, rfl, hb6, hf6⟩ := hrel
                have hz6 : w.heap.size + 1 + 1 ≤ wr.heap.size := by have := hb6.size; rw [HzW.out] at this; exact this
                have ca := (hb6.cell (p := ⟨w.heap.size, 6, none⟩) (by show w.heap.size < _; omega)).trans a6
                have cb := (hb6.cell (p := ⟨w.heap.size + 1, 6, none⟩) (by show w.heap.size + 1 < _; omega)).trans b6
                have hza : w.heap.size < wr.heap.size := by omega
                have hzb : w.heap.size + 1 < wr.heap.size := by omega
                have HB1 : Below w0.heap.size w0 wr := HB0.trans (hb6.mono (by omega))
                have HBr : Below w.heap.size w wr := HBW.trans (hb6.mono (by omega))
                by_cases hlt : k6 < n6
                · obtain ⟨y, hd⟩ := get_some L6.out hlt
                  obtain ⟨z, he⟩ := get_some (E6.out.symm.trans L6.out) hlt
                  obtain ⟨b, off, x, rfl, hbB, hxl, hR, hx⟩ := (S6.out.below HB1).at_ hd
                  obtain ⟨b', off', x', rfl, hbB', hxl', hR', hx'⟩ := (T6.out.below HB1).at_ he
                  have hl1 : b < wr.heap.size := by have := HB1.size; omega
                  have hl2 : b' < wr.heap.size := by have := HB1.size; omega
                  obtain ⟨v1, rfl, u1, _⟩ := hR
                  obtain ⟨v1', rfl, u1', _⟩ := hR'
                  have C1 := Lib.hid (fun W hW => ref_cells W w0 u1 u1' hW)
                  obtain ⟨u1a, u1n, u1c, rfl⟩ := u1.form'
                  obtain ⟨u1xa, u1xn, u1xc, rfl⟩ := u1'.form'
                  clear u1 u1'
                  have h0 := hx 0 _ rfl
                  have h1 := hx 1 _ rfl
                  have g0 := hx' 0 _ rfl
                  have g1 := hx' 1 _ rfl
                  simp only [Nat.add_zero] at h0 g0
                  have Hd := Lib.hid hd
                  have He := Lib.hid he
                  have HB1' := Lib.hid HB1
                  clear hd he hx hxl hx' hxl' HB1 HBr
                  obtain ⟨y0, y1⟩ := y
                  obtain ⟨z0, z1⟩ := z
                  dsimp only at *
                  by_cases e0 : y0 = z0
                  rotate_left
                  · have Hyz : Hid (¬ (⟨y0, y1⟩ : Editor) = ⟨z0, z1⟩) := by show ¬ _; simp [e0]
                    have e' : (y0.toList == z0.toList) = false := by simpa [toList_inj] using e0
                    clear e0
                    go_wp2_with fail
                    go_region
                    all_goals
                      go_wp2_with fail
                      have hno : ¬ p6 = q6 := fun h => by
                        have := eqBy_no (fun a b => decide (a = b)) p6 q6 k6 _ _ Hd.out He.out (by simpa using Hyz.out)
                        rw [eqBy_eq, h] at this
                        simp at this
                      have hfin := decide_eq_false (fun h => hno (Hv.out.1 h).2.2.2.2.1)
                      have HBr := HBW.trans (hb6.mono (by omega))
                      go_ret
                      exact ⟨by first | (rw [hfin]; rfl) | (simp; done), by (repeat (first | exact HBr | refine below_drewN ?_ _ | refine Below.drew ?_ | refine Below.alloc ?_ (by have := HBr.size; first | omega | (simp; omega)) _))⟩
                  subst e0
                  by_cases e1 : y1 = z1
                  rotate_left
                  · have Hyz : Hid (¬ (⟨y0, y1⟩ : Editor) = ⟨y0, z1⟩) := by show ¬ _; simp [e1]
                    have D1 : Hid (decide (y1 = z1) = false) := by show _ = _; simpa using e1
                    clear e1
                    go_wp2_with fail
                    go_region
                    all_goals
                      go_wp2_with fail
                      with_reducible refine (C1.out _ ?_).mono ?_
                      · (repeat (first | exact HB1'.out | refine below_drewN ?_ _ | refine Below.drew ?_ | refine Below.alloc ?_ (by have := HB1'.out.size; first | omega | (simp; omega)) _))
                      rintro e w1 ⟨rfl, ⟨d1, hw1⟩⟩
                      subst hw1
                      rw [D1.out]
                      go_wp2_with fail
                      have hno : ¬ p6 = q6 := fun h => by
                        have := eqBy_no (fun a b => decide (a = b)) p6 q6 k6 _ _ Hd.out He.out (by simpa using Hyz.out)
                        rw [eqBy_eq, h] at this
                        simp at this
                      have hfin := decide_eq_false (fun h => hno (Hv.out.1 h).2.2.2.2.1)
                      have HBr := HBW.trans (hb6.mono (by omega))
                      go_ret
                      exact ⟨by first | (rw [hfin]; rfl) | (simp; done), by (repeat (first | exact HBr | refine below_drewN ?_ _ | refine Below.drew ?_ | refine Below.alloc ?_ (by have := HBr.size; first | omega | (simp; omega)) _))⟩
                  have D1 : Hid (decide (y1 = z1) = true) := by show _ = _; simpa using e1
                  have X1 := Lib.hid e1
                  clear e1
                  have Hdec : Hid (decide ((⟨y0, y1⟩ : Editor) = ⟨y0, z1⟩) = true) := by show _ = _; simp [X1.out]
                  · skip
                    go_wp2_with fail
                    go_region
                    all_goals
                      go_wp2_with fail
                      with_reducible refine (C1.out _ ?_).mono ?_
                      · (repeat (first | exact HB1'.out | refine below_drewN ?_ _ | refine Below.drew ?_ | refine Below.alloc ?_ (by have := HB1'.out.size; first | omega | (simp; omega)) _))
                      rintro e w1 ⟨rfl, ⟨d1, hw1⟩⟩
                      subst hw1
                      rw [D1.out]
                      go_wp2_with fail
                      go_roundw
                      case rel => exact ⟨k6 + 1, by omega, by go_num, by (repeat (first | exact hb6 | refine below_drewN ?_ _ | refine Below.drew ?_ | refine Below.alloc ?_ (by have := hb6.size; first | omega | (simp; omega)) _)), so_far Hd.out He.out Hdec.out hf6.out⟩
                      case measure => simp [intOf]; omega
                · have hge : n6 ≤ k6 := by omega
                  clear hlt
                  have Q6 : Hid (p6 = q6) := by
                    have := eqBy_yes (fun a b => decide (a = b)) p6 q6 E6.out (fun i y z hi => hf6.out i y z (by have := L6.out; omega))
                    rw [eqBy_eq] at this
                    exact (of_decide_eq_true this : p6 = q6)
                  clear HB1 HBr
                  go_wp2_with fail
                  go_loopw [4, 13] (fun _ j wr => ∃ k : Nat, k ≤ n7 ∧ j = .int .i64 k ∧ Below (w.heap.size + 1 + 1) W wr ∧ Hid (∀ i y z, i < k → p7[i]? = some y → q7[i]? = some z → (fun a b => decide (a = b)) y z = true)) (fun _ j _ => n7 - (intOf j).toNat)
                  case atStart => exact ⟨0, Nat.zero_le _, rfl, hb6, fun i d _ hi => by omega⟩
                  case round =>
                    obtain ⟨k7, hk, rfl, hb7, hf7⟩ := hrel
                    have hz7 : w.heap.size + 1 + 1 ≤ wr.heap.size := by have := hb7.size; rw [HzW.out] at this; exact this
                    have ca := (hb7.cell (p := ⟨w.heap.size, 7, none⟩) (by show w.heap.size < _; omega)).trans a7
                    have cb := (hb7.cell (p := ⟨w.heap.size + 1, 7, none⟩) (by show w.heap.size + 1 < _; omega)).trans b7
                    have hza : w.heap.size < wr.heap.size := by omega
                    have hzb : w.heap.size + 1 < wr.heap.size := by omega
                    have HB1 : Below w0.heap.size w0 wr := HB0.trans (hb7.mono (by omega))
                    have HBr : Below w.heap.size w wr := HBW.trans (hb7.mono (by omega))
                    by_cases hlt : k7 < n7
                    · obtain ⟨y, hd⟩ := get_some L7.out hlt
                      obtain ⟨z, he⟩ := get_some (E7.out.symm.trans L7.out) hlt
                      obtain ⟨b, off, x, rfl, hbB, hxl, hR, hx⟩ := (S7.out.below HB1).at_ hd
                      obtain ⟨b', off', x', rfl, hbB', hxl', hR', hx'⟩ := (T7.out.below HB1).at_ he
                      have hl1 : b < wr.heap.size := by have := HB1.size; omega
                      have hl2 : b' < wr.heap.size := by have := HB1.size; omega
                      obtain ⟨v1, rfl, u1, _⟩ := hR
                      obtain ⟨v1', rfl, u1', _⟩ := hR'
                      have C1 := Lib.hid (fun W hW => ref_pieces W w0 u1 u1' hW)
                      obtain ⟨u1a, u1n, u1c, rfl⟩ := u1.form'
                      obtain ⟨u1xa, u1xn, u1xc, rfl⟩ := u1'.form'
                      clear u1 u1'
                      have h0 := hx 0 _ rfl
                      have h1 := hx 1 _ rfl
                      have g0 := hx' 0 _ rfl
                      have g1 := hx' 1 _ rfl
                      simp only [Nat.add_zero] at h0 g0
                      have Hd := Lib.hid hd
                      have He := Lib.hid he
                      have HB1' := Lib.hid HB1
                      clear hd he hx hxl hx' hxl' HB1 HBr
                      obtain ⟨y0, y1⟩ := y
                      obtain ⟨z0, z1⟩ := z
                      dsimp only at *
                      by_cases e0 : y0 = z0
                      rotate_left
                      · have Hyz : Hid (¬ (⟨y0, y1⟩ : Template) = ⟨z0, z1⟩) := by show ¬ _; simp [e0]
                        have e' : (y0.toList == z0.toList) = false := by simpa [toList_inj] using e0
                        clear e0
                        go_wp2_with fail
                        go_region
                        all_goals
                          go_wp2_with fail
                          have hno : ¬ p7 = q7 := fun h => by
                            have := eqBy_no (fun a b => decide (a = b)) p7 q7 k7 _ _ Hd.out He.out (by simpa using Hyz.out)
                            rw [eqBy_eq, h] at this
                            simp at this
                          have hfin := decide_eq_false (fun h => hno (Hv.out.1 h).2.2.2.2.2)
                          have HBr := HBW.trans (hb7.mono (by omega))
                          go_ret
                          exact ⟨by first | (rw [hfin]; rfl) | (simp; done), by (repeat (first | exact HBr | refine below_drewN ?_ _ | refine Below.drew ?_ | refine Below.alloc ?_ (by have := HBr.size; first | omega | (simp; omega)) _))⟩
                      subst e0
                      by_cases e1 : y1 = z1
                      rotate_left
                      · have Hyz : Hid (¬ (⟨y0, y1⟩ : Template) = ⟨y0, z1⟩) := by show ¬ _; simp [e1]
                        have D1 : Hid (decide (y1 = z1) = false) := by show _ = _; simpa using e1
                        clear e1
                        go_wp2_with fail
                        go_region
                        all_goals
                          go_wp2_with fail
                          with_reducible refine (C1.out _ ?_).mono ?_
                          · (repeat (first | exact HB1'.out | refine below_drewN ?_ _ | refine Below.drew ?_ | refine Below.alloc ?_ (by have := HB1'.out.size; first | omega | (simp; omega)) _))
                          rintro e w1 ⟨rfl, ⟨d1, hw1⟩⟩
                          subst hw1
                          rw [D1.out]
                          go_wp2_with fail
                          have hno : ¬ p7 = q7 := fun h => by
                            have := eqBy_no (fun a b => decide (a = b)) p7 q7 k7 _ _ Hd.out He.out (by simpa using Hyz.out)
                            rw [eqBy_eq, h] at this
                            simp at this
                          have hfin := decide_eq_false (fun h => hno (Hv.out.1 h).2.2.2.2.2)
                          have HBr := HBW.trans (hb7.mono (by omega))
                          go_ret
                          exact ⟨by first | (rw [hfin]; rfl) | (simp; done), by (repeat (first | exact HBr | refine below_drewN ?_ _ | refine Below.drew ?_ | refine Below.alloc ?_ (by have := HBr.size; first | omega | (simp; omega)) _))⟩
                      have D1 : Hid (decide (y1 = z1) = true) := by show _ = _; simpa using e1
                      have X1 := Lib.hid e1
                      clear e1
                      have Hdec : Hid (decide ((⟨y0, y1⟩ : Template) = ⟨y0, z1⟩) = true) := by show _ = _; simp [X1.out]
                      · skip
                        go_wp2_with fail
                        go_region
                        all_goals
                          go_wp2_with fail
                          with_reducible refine (C1.out _ ?_).mono ?_
                          · (repeat (first | exact HB1'.out | refine below_drewN ?_ _ | refine Below.drew ?_ | refine Below.alloc ?_ (by have := HB1'.out.size; first | omega | (simp; omega)) _))
                          rintro e w1 ⟨rfl, ⟨d1, hw1⟩⟩
                          subst hw1
                          rw [D1.out]
                          go_wp2_with fail
                          go_roundw
                          case rel => exact ⟨k7 + 1, by omega, by go_num, by (repeat (first | exact hb7 | refine below_drewN ?_ _ | refine Below.drew ?_ | refine Below.alloc ?_ (by have := hb7.size; first | omega | (simp; omega)) _)), so_far Hd.out He.out Hdec.out hf7.out⟩
                          case measure => simp [intOf]; omega
                    · have hge : n7 ≤ k7 := by omega
                      clear hlt
                      have Q7 : Hid (p7 = q7) := by
                        have := eqBy_yes (fun a b => decide (a = b)) p7 q7 E7.out (fun i y z hi => hf7.out i y z (by have := L7.out; omega))
                        rw [eqBy_eq] at this
                        exact (of_decide_eq_true this : p7 = q7)
                      clear HB1 HBr
                      go_wp2_with fail
                      go_ret
                      have hfin := decide_eq_true (Hv.out.2 ⟨Y2.out, Q3.out, Q4.out, Q5.out, Q6.out, Q7.out⟩)
                      exact ⟨by first | (rw [hfin]; rfl) | simp [Y2.out, Q3.out, Q4.out, Q5.out, Q6.out, Q7.out], HBW.trans (hb7.mono (by omega))⟩

end Go.Proofs.Ytdhljfblkidohaa
