import Derived.Test.YtdhljfblkidohaaEqA
import Derived.Test.YtdhljfblkidohaaProg
import Derived.Deep.QuietTactic
import Derived.BigQuiet
namespace Go.Proofs.Ytdhljfblkidohaa
set_option linter.unusedSimpArgs false
set_option linter.unusedVariables false
open Go.RowKit

set_option maxHeartbeats 2000000 in
theorem ref_concept {x x' : List Value} {d d' : Concept} (w w0 : World) (h : Concept.Is w0 w0.heap.size x d) (h' : Concept.Is w0 w0.heap.size x' d') (hw : Below w0.heap.size w0 w) :
    Calls Try.prog 12 #[.agg x.toArray, .agg x'.toArray] w fun e w' => e = .returned (.bool (decide (d = d'))) ∧ Below w.heap.size w w' := by
  obtain ⟨v3, v4, v5, rfl, s3, s4, s5, _⟩ := h
  obtain ⟨v3', v4', v5', rfl, t3, t4, t5, _⟩ := h'
  obtain ⟨pa3, pc3, rfl⟩ : ∃ a c, v3 = .slice a d.props.length c := by obtain ⟨a, c, h, _⟩ := s3.form; exact ⟨a, c, h⟩
  obtain ⟨qa3, qc3, rfl⟩ : ∃ a c, v3' = .slice a d'.props.length c := by obtain ⟨a, c, h, _⟩ := t3.form; exact ⟨a, c, h⟩
  have m3 : d.props.length ≤ 9223372036854775807 := by have := s3.caps; unfold maxLen at this; omega
  obtain ⟨pa4, pc4, rfl⟩ : ∃ a c, v4 = .slice a d.kids.length c := by obtain ⟨a, c, h, _⟩ := s4.form; exact ⟨a, c, h⟩
  obtain ⟨qa4, qc4, rfl⟩ : ∃ a c, v4' = .slice a d'.kids.length c := by obtain ⟨a, c, h, _⟩ := t4.form; exact ⟨a, c, h⟩
  have m4 : d.kids.length ≤ 9223372036854775807 := by have := s4.caps; unfold maxLen at this; omega
  obtain ⟨pa5, pc5, rfl⟩ : ∃ a c, v5 = .slice a d.refs.length c := by obtain ⟨a, c, h, _⟩ := s5.form; exact ⟨a, c, h⟩
  obtain ⟨qa5, qc5, rfl⟩ : ∃ a c, v5' = .slice a d'.refs.length c := by obtain ⟨a, c, h, _⟩ := t5.form; exact ⟨a, c, h⟩
  have m5 : d.refs.length ≤ 9223372036854775807 := by have := s5.caps; unfold maxLen at this; omega
  obtain ⟨p0, p1, p2, p3, p4, p5⟩ := d
  obtain ⟨q0, q1, q2, q3, q4, q5⟩ := d'
  dsimp only at *
  have hbase : w0.heap.size ≤ w.heap.size := hw.size
  by_cases e0 : p0 = q0
  rotate_left
  · have hv : decide ((⟨p0, p1, p2, p3, p4, p5⟩ : Concept) = ⟨q0, q1, q2, q3, q4, q5⟩) = false := by simp [e0]
    rw [hv]; clear hv
    have e' : (p0.toList == q0.toList) = false := by simpa [toList_inj] using e0
    clear e0
    clear s3 s4 s5 t3 t4 t5 hw
    go_enter Try.func12, Try.ntmps12
    go_wp2_with fail
    go_ret
    exact ⟨rfl, ((Below.refl _ _).alloc (Nat.le_refl _) _).alloc (below2 (Nat.le_refl _)) _⟩
  subst e0
  by_cases e1 : p1 = q1
  rotate_left
  · have hv : decide ((⟨p0, p1, p2, p3, p4, p5⟩ : Concept) = ⟨p0, q1, q2, q3, q4, q5⟩) = false := by simp [e1]
    rw [hv]; clear hv
    have e' : (p1.toList == q1.toList) = false := by simpa [toList_inj] using e1
    clear e1
    clear s3 s4 s5 t3 t4 t5 hw
    go_enter Try.func12, Try.ntmps12
    go_wp2_with fail
    go_ret
    exact ⟨rfl, ((Below.refl _ _).alloc (Nat.le_refl _) _).alloc (below2 (Nat.le_refl _)) _⟩
  subst e1
  by_cases e2 : p2 = q2
  rotate_left
  · have hv : decide ((⟨p0, p1, p2, p3, p4, p5⟩ : Concept) = ⟨p0, p1, q2, q3, q4, q5⟩) = false := by simp [e2]
    rw [hv]; clear hv
    have e' : (p2 == q2) = false := by simpa using e2
    have e'' : (p2 != q2) = true := by simpa using e2
    clear e2
    clear s3 s4 s5 t3 t4 t5 hw
    go_enter Try.func12, Try.ntmps12
    go_wp2_with fail
    go_ret
    exact ⟨rfl, ((Below.refl _ _).alloc (Nat.le_refl _) _).alloc (below2 (Nat.le_refl _)) _⟩
  subst e2
  by_cases e3 : p3.length = q3.length
  rotate_left
  · have hv : decide ((⟨p0, p1, p2, p3, p4, p5⟩ : Concept) = ⟨p0, p1, p2, q3, q4, q5⟩) = false := by simp; intro h; exact absurd (by rw [h]) e3
    rw [hv]; clear hv
    have e' : ((p3.length : Int) != (q3.length : Int)) = true := by rw [bne_iff_ne]; omega
    have e'' : ((p3.length : Int) == (q3.length : Int)) = false := by rw [beq_eq_false_iff_ne]; omega
    clear e3
    clear s3 s4 s5 t3 t4 t5 hw
    go_enter Try.func12, Try.ntmps12
    go_wp2_with fail
    go_ret
    exact ⟨rfl, ((Below.refl _ _).alloc (Nat.le_refl _) _).alloc (below2 (Nat.le_refl _)) _⟩
  rw [← e3] at t3 ⊢
  obtain ⟨n3, hn3⟩ : ∃ n, p3.length = n := ⟨_, rfl⟩
  rw [hn3] at s3 t3 m3 ⊢
  have L3 := Lib.hid hn3
  have E3 := Lib.hid e3
  clear hn3 e3
  by_cases e4 : p4.length = q4.length
  rotate_left
  · have hv : decide ((⟨p0, p1, p2, p3, p4, p5⟩ : Concept) = ⟨p0, p1, p2, q3, q4, q5⟩) = false := by simp; intro _ h; exact absurd (by rw [h]) e4
    rw [hv]; clear hv
    have e' : ((p4.length : Int) != (q4.length : Int)) = true := by rw [bne_iff_ne]; omega
    have e'' : ((p4.length : Int) == (q4.length : Int)) = false := by rw [beq_eq_false_iff_ne]; omega
    clear e4
    clear s3 s4 s5 t3 t4 t5 hw
    go_enter Try.func12, Try.ntmps12
    go_wp2_with fail
    go_ret
    exact ⟨rfl, ((Below.refl _ _).alloc (Nat.le_refl _) _).alloc (below2 (Nat.le_refl _)) _⟩
  rw [← e4] at t4 ⊢
  obtain ⟨n4, hn4⟩ : ∃ n, p4.length = n := ⟨_, rfl⟩
  rw [hn4] at s4 t4 m4 ⊢
  have L4 := Lib.hid hn4
  have E4 := Lib.hid e4
  clear hn4 e4
  by_cases e5 : p5.length = q5.length
  rotate_left
  · have hv : decide ((⟨p0, p1, p2, p3, p4, p5⟩ : Concept) = ⟨p0, p1, p2, q3, q4, q5⟩) = false := by simp; intro _ _ h; exact absurd (by rw [h]) e5
    rw [hv]; clear hv
    have e' : ((p5.length : Int) != (q5.length : Int)) = true := by rw [bne_iff_ne]; omega
    have e'' : ((p5.length : Int) == (q5.length : Int)) = false := by rw [beq_eq_false_iff_ne]; omega
    clear e5
    clear s3 s4 s5 t3 t4 t5 hw
    go_enter Try.func12, Try.ntmps12
    go_wp2_with fail
    go_ret
    exact ⟨rfl, ((Below.refl _ _).alloc (Nat.le_refl _) _).alloc (below2 (Nat.le_refl _)) _⟩
  rw [← e5] at t5 ⊢
  obtain ⟨n5, hn5⟩ : ∃ n, p5.length = n := ⟨_, rfl⟩
  rw [hn5] at s5 t5 m5 ⊢
  have L5 := Lib.hid hn5
  have E5 := Lib.hid e5
  clear hn5 e5
  have hv : (⟨p0, p1, p2, p3, p4, p5⟩ : Concept) = ⟨p0, p1, p2, q3, q4, q5⟩ ↔ (p3 = q3 ∧ p4 = q4 ∧ p5 = q5) := by simp
  have Hv := Lib.hid hv
  clear hv
  have S3 := Lib.hid s3
  have T3 := Lib.hid t3
  have S4 := Lib.hid s4
  have T4 := Lib.hid t4
  have S5 := Lib.hid s5
  have T5 := Lib.hid t5
  have Hw := Lib.hid hw
  clear s3 s4 s5 t3 t4 t5 hw
  go_enter Try.func12, Try.ntmps12
  try dsimp only [List.append]
  go_wp2_with fail
  go_loopw [4, 5] (fun _ j wr => ∃ k : Nat, k ≤ n3 ∧ j = .int .i64 k ∧ Quiet ((w.alloc (.cells #[.string p0, .string p1, .bool p2, .slice pa3 n3 pc3, .slice pa4 n4 pc4, .slice pa5 n5 pc5] 38)).alloc (.cells #[.string p0, .string p1, .bool p2, .slice qa3 n3 qc3, .slice qa4 n4 qc4, .slice qa5 n5 qc5] 38)) wr ∧ Hid (∀ i y z, i < k → p3[i]? = some y → q3[i]? = some z → (fun a b => decide (a = b)) y z = true)) (fun _ j _ => n3 - (intOf j).toNat)
  case atStart => exact ⟨0, Nat.zero_le _, rfl, Quiet.refl _, fun i d _ hi => by omega⟩
  case round =>
    obtain ⟨k0, hk, rfl, hq0, hf0⟩ := hrel
    obtain ⟨q, hqe⟩ := hq0
    subst hqe
    have hq0 : Quiet ((w.alloc (.cells #[.string p0, .string p1, .bool p2, .slice pa3 n3 pc3, .slice pa4 n4 pc4, .slice pa5 n5 pc5] 38)).alloc (.cells #[.string p0, .string p1, .bool p2, .slice qa3 n3 qc3, .slice qa4 n4 qc4, .slice qa5 n5 qc5] 38)) (((w.alloc (.cells #[.string p0, .string p1, .bool p2, .slice pa3 n3 pc3, .slice pa4 n4 pc4, .slice pa5 n5 pc5] 38)).alloc (.cells #[.string p0, .string p1, .bool p2, .slice qa3 n3 qc3, .slice qa4 n4 qc4, .slice qa5 n5 qc5] 38)).drewN q) := ⟨q, rfl⟩
    by_cases hlt : k0 < n3
    · obtain ⟨y, hd⟩ := get_some L3.out hlt
      obtain ⟨z, he⟩ := get_some (E3.out.symm.trans L3.out) hlt
      obtain ⟨b, off, x, rfl, hbB, hxl, ⟨rfl, _⟩, hx⟩ := (S3.out.below Hw.out).at_ hd
      obtain ⟨b', off', x', rfl, hbB', hxl', ⟨rfl, _⟩, hx'⟩ := (T3.out.below Hw.out).at_ he
      have hb1 : b < w.heap.size := by omega
      have hb2 : b' < w.heap.size := by omega
      have h0 := hx 0 _ rfl
      have h1 := hx 1 _ rfl
      have g0 := hx' 0 _ rfl
      have g1 := hx' 1 _ rfl
      simp only [Nat.add_zero] at h0 g0
      have Hd := Lib.hid hd
      have He := Lib.hid he
      clear hd he hx hxl hx' hxl'
      by_cases hyz : y = z
      · have hne := fun W => neq_PropDef y z false (by simpa using hyz) W
        have Hyz := Lib.hid hyz
        clear hyz
        go_wp2_with fail
        go_quiet (fail)
        go_wp2_with fail
        go_roundw
        case rel => exact ⟨k0 + 1, by omega, by go_num, by first | exact quiet_more hq0 _ | exact hq0.drewN _, so_far Hd.out He.out (by simpa using Hyz.out) hf0.out⟩
        case measure => simp [intOf]; omega
      · have hne := fun W => neq_PropDef y z true (by simpa using hyz) W
        have Hyz := Lib.hid hyz
        clear hyz
        go_wp2_with fail
        go_quiet (fail)
        go_wp2_with fail
        go_ret
        have hno : ¬ p3 = q3 := fun h => by
          have := eqBy_no (fun a b => decide (a = b)) p3 q3 k0 y z Hd.out He.out (by simpa using Hyz.out)
          rw [eqBy_eq, h] at this
          simp at this
        exact ⟨by rw [decide_eq_false (fun h => hno (Hv.out.1 h).1)]; rfl, by first | exact below_drewN (((Below.refl _ _).alloc (Nat.le_refl _) _).alloc (below2 (Nat.le_refl _)) _) _ | exact below_drewN (below_drewN (((Below.refl _ _).alloc (Nat.le_refl _) _).alloc (below2 (Nat.le_refl _)) _) _) _⟩
    · have hge : n3 ≤ k0 := by omega
      clear hlt
      have Q3 : Hid (p3 = q3) := by
        have := eqBy_yes (fun a b => decide (a = b)) p3 q3 E3.out (fun i y z hi => hf0.out i y z (by have := L3.out; omega))
        rw [eqBy_eq] at this
        exact (of_decide_eq_true this : p3 = q3)
      go_wp2_with fail
      go_loopw [4, 6] (fun _ j wr => ∃ k : Nat, k ≤ n4 ∧ j = .int .i64 k ∧ Quiet ((w.alloc (.cells #[.string p0, .string p1, .bool p2, .slice pa3 n3 pc3, .slice pa4 n4 pc4, .slice pa5 n5 pc5] 38)).alloc (.cells #[.string p0, .string p1, .bool p2, .slice qa3 n3 qc3, .slice qa4 n4 qc4, .slice qa5 n5 qc5] 38)) wr ∧ Hid (∀ i y z, i < k → p4[i]? = some y → q4[i]? = some z → (fun a b => decide (a = b)) y z = true)) (fun _ j _ => n4 - (intOf j).toNat)
      case atStart => exact ⟨0, Nat.zero_le _, rfl, hq0, fun i d _ hi => by omega⟩
      case round =>
        obtain ⟨k1, hk, rfl, hq1, hf1⟩ := hrel
        obtain ⟨q, hqe⟩ := hq1
        subst hqe
        have hq1 : Quiet ((w.alloc (.cells #[.string p0, .string p1, .bool p2, .slice pa3 n3 pc3, .slice pa4 n4 pc4, .slice pa5 n5 pc5] 38)).alloc (.cells #[.string p0, .string p1, .bool p2, .slice qa3 n3 qc3, .slice qa4 n4 qc4, .slice qa5 n5 qc5] 38)) (((w.alloc (.cells #[.string p0, .string p1, .bool p2, .slice pa3 n3 pc3, .slice pa4 n4 pc4, .slice pa5 n5 pc5] 38)).alloc (.cells #[.string p0, .string p1, .bool p2, .slice qa3 n3 qc3, .slice qa4 n4 qc4, .slice qa5 n5 qc5] 38)).drewN q) := ⟨q, rfl⟩
        by_cases hlt : k1 < n4
        · obtain ⟨y, hd⟩ := get_some L4.out hlt
          obtain ⟨z, he⟩ := get_some (E4.out.symm.trans L4.out) hlt
          obtain ⟨b, off, x, rfl, hbB, hxl, ⟨rfl, _⟩, hx⟩ := (S4.out.below Hw.out).at_ hd
          obtain ⟨b', off', x', rfl, hbB', hxl', ⟨rfl, _⟩, hx'⟩ := (T4.out.below Hw.out).at_ he
          have hb1 : b < w.heap.size := by omega
          have hb2 : b' < w.heap.size := by omega
          have h0 := hx 0 _ rfl
          have h1 := hx 1 _ rfl
          have h2 := hx 2 _ rfl
          have h3 := hx 3 _ rfl
          have g0 := hx' 0 _ rfl
          have g1 := hx' 1 _ rfl
          have g2 := hx' 2 _ rfl
          have g3 := hx' 3 _ rfl
          simp only [Nat.add_zero] at h0 g0
          have Hd := Lib.hid hd
          have He := Lib.hid he
          clear hd he hx hxl hx' hxl'
          by_cases hyz : y = z
          · have hne := fun W => neq_KidDef y z false (by simpa using hyz) W
            have Hyz := Lib.hid hyz
            clear hyz
            go_wp2_with fail
            go_quiet (fail)
            go_wp2_with fail
            go_roundw
            case rel => exact ⟨k1 + 1, by omega, by go_num, by first | exact quiet_more hq1 _ | exact hq1.drewN _, so_far Hd.out He.out (by simpa using Hyz.out) hf1.out⟩
            case measure => simp [intOf]; omega
          · have hne := fun W => neq_KidDef y z true (by simpa using hyz) W
            have Hyz := Lib.hid hyz
            clear hyz
            go_wp2_with fail
            go_quiet (fail)
            go_wp2_with fail
            go_ret
            have hno : ¬ p4 = q4 := fun h => by
              have := eqBy_no (fun a b => decide (a = b)) p4 q4 k1 y z Hd.out He.out (by simpa using Hyz.out)
              rw [eqBy_eq, h] at this
              simp at this
            exact ⟨by rw [decide_eq_false (fun h => hno (Hv.out.1 h).2.1)]; rfl, by first | exact below_drewN (((Below.refl _ _).alloc (Nat.le_refl _) _).alloc (below2 (Nat.le_refl _)) _) _ | exact below_drewN (below_drewN (((Below.refl _ _).alloc (Nat.le_refl _) _).alloc (below2 (Nat.le_refl _)) _) _) _⟩
        · have hge : n4 ≤ k1 := by omega
          clear hlt
          have Q4 : Hid (p4 = q4) := by
            have := eqBy_yes (fun a b => decide (a = b)) p4 q4 E4.out (fun i y z hi => hf1.out i y z (by have := L4.out; omega))
            rw [eqBy_eq] at this
            exact (of_decide_eq_true this : p4 = q4)
          go_wp2_with fail
          go_loopw [4, 7] (fun _ j wr => ∃ k : Nat, k ≤ n5 ∧ j = .int .i64 k ∧ Quiet ((w.alloc (.cells #[.string p0, .string p1, .bool p2, .slice pa3 n3 pc3, .slice pa4 n4 pc4, .slice pa5 n5 pc5] 38)).alloc (.cells #[.string p0, .string p1, .bool p2, .slice qa3 n3 qc3, .slice qa4 n4 qc4, .slice qa5 n5 qc5] 38)) wr ∧ Hid (∀ i y z, i < k → p5[i]? = some y → q5[i]? = some z → (fun a b => decide (a = b)) y z = true)) (fun _ j _ => n5 - (intOf j).toNat)
          case atStart => exact ⟨0, Nat.zero_le _, rfl, hq1, fun i d _ hi => by omega⟩
          case round =>
            obtain ⟨k2, hk, rfl, hq2, hf2⟩ := hrel
            obtain ⟨q, hqe⟩ := hq2
            subst hqe
            have hq2 : Quiet ((w.alloc (.cells #[.string p0, .string p1, .bool p2, .slice pa3 n3 pc3, .slice pa4 n4 pc4, .slice pa5 n5 pc5] 38)).alloc (.cells #[.string p0, .string p1, .bool p2, .slice qa3 n3 qc3, .slice qa4 n4 qc4, .slice qa5 n5 qc5] 38)) (((w.alloc (.cells #[.string p0, .string p1, .bool p2, .slice pa3 n3 pc3, .slice pa4 n4 pc4, .slice pa5 n5 pc5] 38)).alloc (.cells #[.string p0, .string p1, .bool p2, .slice qa3 n3 qc3, .slice qa4 n4 qc4, .slice qa5 n5 qc5] 38)).drewN q) := ⟨q, rfl⟩
            by_cases hlt : k2 < n5
            · obtain ⟨y, hd⟩ := get_some L5.out hlt
              obtain ⟨z, he⟩ := get_some (E5.out.symm.trans L5.out) hlt
              obtain ⟨b, off, x, rfl, hbB, hxl, ⟨rfl, _⟩, hx⟩ := (S5.out.below Hw.out).at_ hd
              obtain ⟨b', off', x', rfl, hbB', hxl', ⟨rfl, _⟩, hx'⟩ := (T5.out.below Hw.out).at_ he
              have hb1 : b < w.heap.size := by omega
              have hb2 : b' < w.heap.size := by omega
              have h0 := hx 0 _ rfl
              have h1 := hx 1 _ rfl
              have h2 := hx 2 _ rfl
              have g0 := hx' 0 _ rfl
              have g1 := hx' 1 _ rfl
              have g2 := hx' 2 _ rfl
              simp only [Nat.add_zero] at h0 g0
              have Hd := Lib.hid hd
              have He := Lib.hid he
              clear hd he hx hxl hx' hxl'
              by_cases hyz : y = z
              · have hne := fun W => neq_RefDef y z false (by simpa using hyz) W
                have Hyz := Lib.hid hyz
                clear hyz
                go_wp2_with fail
                go_quiet (fail)
                go_wp2_with fail
                go_roundw
                case rel => exact ⟨k2 + 1, by omega, by go_num, by first | exact quiet_more hq2 _ | exact hq2.drewN _, so_far Hd.out He.out (by simpa using Hyz.out) hf2.out⟩
                case measure => simp [intOf]; omega
              · have hne := fun W => neq_RefDef y z true (by simpa using hyz) W
                have Hyz := Lib.hid hyz
                clear hyz
                go_wp2_with fail
                go_quiet (fail)
                go_wp2_with fail
                go_ret
                have hno : ¬ p5 = q5 := fun h => by
                  have := eqBy_no (fun a b => decide (a = b)) p5 q5 k2 y z Hd.out He.out (by simpa using Hyz.out)
                  rw [eqBy_eq, h] at this
                  simp at this
                exact ⟨by rw [decide_eq_false (fun h => hno (Hv.out.1 h).2.2)]; rfl, by first | exact below_drewN (((Below.refl _ _).alloc (Nat.le_refl _) _).alloc (below2 (Nat.le_refl _)) _) _ | exact below_drewN (below_drewN (((Below.refl _ _).alloc (Nat.le_refl _) _).alloc (below2 (Nat.le_refl _)) _) _) _⟩
            · have hge : n5 ≤ k2 := by omega
              clear hlt
              have Q5 : Hid (p5 = q5) := by
                have := eqBy_yes (fun a b => decide (a = b)) p5 q5 E5.out (fun i y z hi => hf2.out i y z (by have := L5.out; omega))
                rw [eqBy_eq] at this
                exact (of_decide_eq_true this : p5 = q5)
              go_wp2_with fail
              go_ret
              exact ⟨by first | (rw [decide_eq_true (Hv.out.2 ⟨Q3.out, Q4.out, Q5.out⟩)]; rfl) | simp [Q3.out, Q4.out, Q5.out], by first | exact below_drewN (((Below.refl _ _).alloc (Nat.le_refl _) _).alloc (below2 (Nat.le_refl _)) _) _ | exact below_drewN (below_drewN (((Below.refl _ _).alloc (Nat.le_refl _) _).alloc (below2 (Nat.le_refl _)) _) _) _⟩

end Go.Proofs.Ytdhljfblkidohaa
