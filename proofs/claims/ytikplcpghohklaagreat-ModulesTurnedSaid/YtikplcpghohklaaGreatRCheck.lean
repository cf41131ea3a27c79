/- The reference's Check. -/
import Derived.Test.YtikplcpghohklaaGreatRConcept
import Derived.Test.YtikplcpghohklaaGreatCheck
namespace Go.Proofs.YtikplcpghohklaaGreat
set_option linter.unusedSimpArgs false
set_option linter.unusedVariables false
open Go.RowKit

theorem r_fault (a b c d : Int) (hd : ¬ d = 0) (w : World) : Calls Tryz.prog 123 #[.int .i64 a, .int .i64 b, .int .i64 c, .int .i64 d] w fun e w' => e = .returned (fltV a b c d) ∧ Below w.heap.size w w' := by
  have hd2 : (d == 0) = false := by simpa using hd
  simp only [fltV]
  go_enter Tryz.func123, Tryz.ntmps123
  go_wp2_with fail
  refine bodyPost_ret (v := .agg #[.int .i64 a, .int .i64 b, .int .i64 c, .int .i64 d]) (by simp [results, Tryz.results123, go_sem]) rfl ⟨rfl, ?_⟩
  exact (Below.refl _ _).alloc (Nat.le_refl _) _
theorem eachE_eM {α : Type} {most : Nat} {f : Nat → α → Nat × Nat} {l : List α} {k : Nat} {x : α} (h : l[k]? = some x) :
    eachE most f k (l.drop k) = if (eM most f k x).2 ≠ 0 then some (k, (eM most f k x).1, (eM most f k x).2) else eachE most f (k + 1) (l.drop (k + 1)) := by
  rw [eachE_step h]
  unfold eM
  by_cases hm : most ≤ k
  · simp [hm]
  · simp [hm]
theorem useE_part (l : Language) (most k : Nat) (s : ByteArray) : (eM most (useE l) k s).1 = 0 := by
  unfold eM useE
  repeat' split
  all_goals rfl
theorem ruleE_part (l : List Rule) (most k : Nat) (r : Rule) : (eM most (ruleE l) k r).1 = 0 := by
  unfold eM ruleE
  repeat' split
  all_goals rfl

set_option maxRecDepth 100000 in
set_option maxHeartbeats 8000000 in
theorem rcheck_any {l : Language} {x : List Value} (w w0 : World) (hx : Language.Is w0 w0.heap.size x l) (hw : Below w0.heap.size w0 w) :
    Calls Tryz.prog 76 #[.agg x.toArray] w fun e w' => e = .returned (fltR (checkE l)) ∧ Below w.heap.size w w' := by
  have HX0 := hx
  obtain ⟨v1, v2, v3, v4, v5, v6, rfl, s1, s2, s3, s4, s5, s6, _, o1, _⟩ := hx
  obtain ⟨a1, n1, c1, rfl⟩ := s1.form'
  obtain ⟨a2, n2, c2, rfl⟩ := s2.form'
  obtain ⟨a3, n3, c3, rfl⟩ := s3.form'
  obtain ⟨a4, n4, c4, rfl⟩ := s4.form'
  obtain ⟨a5, n5, c5, rfl⟩ := s5.form'
  obtain ⟨a6, n6, c6, rfl⟩ := s6.form'
  have HX := Lib.hid HX0
  have HW := Lib.hid hw
  have S4 := Lib.hid s4
  have hn1 := s1.caps
  have hn2 := s2.caps
  have hn3 := s3.caps
  have hn4 := s4.caps
  have hn5 := s5.caps
  have hn6 := s6.caps
  have N1 := Lib.hid (show l.uses.length = n1 from s1.len.symm)
  have N2 := Lib.hid (show l.concepts.length = n2 from s2.len.symm)
  have N3 := Lib.hid (show l.rules.length = n3 from s3.len.symm)
  have N4 := Lib.hid (show l.equations.length = n4 from s4.len.symm)
  have N5 := Lib.hid (show l.editors.length = n5 from s5.len.symm)
  have N6 := Lib.hid (show l.templates.length = n6 from s6.len.symm)
  unfold maxLen at hn1 hn2 hn3 hn4 hn5 hn6
  have hm1 : n1 ≤ 9223372036854775807 := by omega
  have hm2 : n2 ≤ 9223372036854775807 := by omega
  have hm3 : n3 ≤ 9223372036854775807 := by omega
  have hm4 : n4 ≤ 9223372036854775807 := by omega
  have hm5 : n5 ≤ 9223372036854775807 := by omega
  have hm6 : n6 ≤ 9223372036854775807 := by omega
  clear HX0 s1 s2 s3 s4 s5 s6 hw hn1 hn2 hn3 hn4 hn5 hn6
  rcases hA : okName l.name with _ | _
  · have HZ := Lib.hid (show checkE l = ⟨0, 0, 0, 2⟩ by unfold checkE; rw [if_pos hA])
    have RR := Lib.hid (fun W => rright_of l.name o1 false hA W)
    clear hA
    go_enter Tryz.func76, Tryz.ntmps76
    go_wp2_with (first | (go_at_call 122; with_reducible refine (RR.out _).mono ?_; rintro e w1 ⟨rfl, q1⟩; have C1 : Hid (Ck w #[.string l.name, .int .i64 l.version, .slice a1 n1 c1, .slice a2 n2 c2, .slice a3 n3 c3, .slice a4 n4 c4, .slice a5 n5 c5, .slice a6 n6 c6] w1) := Lib.hid ((Ck.new w _).step (q1.below _)); have d1 : w1.cell? ⟨w.heap.size, 1, none⟩ = some (.int .i64 l.version) := C1.out.box.cell rfl; have d2 : w1.cell? ⟨w.heap.size, 2, none⟩ = some (.slice a1 n1 c1) := C1.out.box.cell rfl) | (go_at_call 123; with_reducible refine (r_fault _ _ _ _ (by decide) _).mono ?_; rintro en wf ⟨rfl, bf⟩; have CF : Hid (Ck w #[.string l.name, .int .i64 l.version, .slice a1 n1 c1, .slice a2 n2 c2, .slice a3 n3 c3, .slice a4 n4 c4, .slice a5 n5 c5, .slice a6 n6 c6] wf) := Lib.hid (C1.out.step bf); have z0 : wf.cell? ⟨w.heap.size + 1, 0, none⟩ = some (.int .i64 0) := CF.out.fb.cell rfl; have z1 : wf.cell? ⟨w.heap.size + 1, 1, none⟩ = some (.int .i64 0) := CF.out.fb.cell rfl; have z2 : wf.cell? ⟨w.heap.size + 1, 2, none⟩ = some (.int .i64 0) := CF.out.fb.cell rfl; have z3 : wf.cell? ⟨w.heap.size + 1, 3, none⟩ = some (.int .i64 0) := CF.out.fb.cell rfl; have f0 := CF.out.fb.frozen 0; have f1 := CF.out.fb.frozen 1; have f2 := CF.out.fb.frozen 2; have f3 := CF.out.fb.frozen 3))
    have lf := CF.out.fb.lt
    refine bodyPost_ret (v := .agg #[.int .i64 (0), .int .i64 (0), .int .i64 (0), .int .i64 (2)]) (by simp [results, Tryz.results76, go_sem, z0, z1, z2, z3]) rfl ⟨?_, ?_⟩
    · rw [HZ.out]; rfl
    · exact ((((CF.out.low.setCell (p := ⟨w.heap.size + 1, 0, none⟩) (Nat.le_succ _) _).setCell (p := ⟨w.heap.size + 1, 1, none⟩) (Nat.le_succ _) _).setCell (p := ⟨w.heap.size + 1, 2, none⟩) (Nat.le_succ _) _).setCell (p := ⟨w.heap.size + 1, 3, none⟩) (Nat.le_succ _) _)
  have RR := Lib.hid (fun W => rright_of l.name o1 true hA W)
  by_cases hV : l.version < 1
  · have HZ := Lib.hid (show checkE l = ⟨0, 1, 0, 2⟩ by unfold checkE; rw [if_neg (by rw [hA]; simp), if_pos hV])
    have dV : decide (l.version < 1) = true := by simpa using hV
    clear hA
    go_enter Tryz.func76, Tryz.ntmps76
    go_wp2_with (first | (go_at_call 122; with_reducible refine (RR.out _).mono ?_; rintro e w1 ⟨rfl, q1⟩; have C1 : Hid (Ck w #[.string l.name, .int .i64 l.version, .slice a1 n1 c1, .slice a2 n2 c2, .slice a3 n3 c3, .slice a4 n4 c4, .slice a5 n5 c5, .slice a6 n6 c6] w1) := Lib.hid ((Ck.new w _).step (q1.below _)); have d1 : w1.cell? ⟨w.heap.size, 1, none⟩ = some (.int .i64 l.version) := C1.out.box.cell rfl; have d2 : w1.cell? ⟨w.heap.size, 2, none⟩ = some (.slice a1 n1 c1) := C1.out.box.cell rfl) | (go_at_call 123; with_reducible refine (r_fault _ _ _ _ (by decide) _).mono ?_; rintro en wf ⟨rfl, bf⟩; have CF : Hid (Ck w #[.string l.name, .int .i64 l.version, .slice a1 n1 c1, .slice a2 n2 c2, .slice a3 n3 c3, .slice a4 n4 c4, .slice a5 n5 c5, .slice a6 n6 c6] wf) := Lib.hid (C1.out.step bf); have z0 : wf.cell? ⟨w.heap.size + 1, 0, none⟩ = some (.int .i64 0) := CF.out.fb.cell rfl; have z1 : wf.cell? ⟨w.heap.size + 1, 1, none⟩ = some (.int .i64 0) := CF.out.fb.cell rfl; have z2 : wf.cell? ⟨w.heap.size + 1, 2, none⟩ = some (.int .i64 0) := CF.out.fb.cell rfl; have z3 : wf.cell? ⟨w.heap.size + 1, 3, none⟩ = some (.int .i64 0) := CF.out.fb.cell rfl; have f0 := CF.out.fb.frozen 0; have f1 := CF.out.fb.frozen 1; have f2 := CF.out.fb.frozen 2; have f3 := CF.out.fb.frozen 3))
    have lf := CF.out.fb.lt
    refine bodyPost_ret (v := .agg #[.int .i64 (0), .int .i64 (1), .int .i64 (0), .int .i64 (2)]) (by simp [results, Tryz.results76, go_sem, z0, z1, z2, z3]) rfl ⟨?_, ?_⟩
    · rw [HZ.out]; rfl
    · exact ((((CF.out.low.setCell (p := ⟨w.heap.size + 1, 0, none⟩) (Nat.le_succ _) _).setCell (p := ⟨w.heap.size + 1, 1, none⟩) (Nat.le_succ _) _).setCell (p := ⟨w.heap.size + 1, 2, none⟩) (Nat.le_succ _) _).setCell (p := ⟨w.heap.size + 1, 3, none⟩) (Nat.le_succ _) _)
  have dV : decide (l.version < 1) = false := by simpa using hV
  have HA := Lib.hid hA
  have HVn := Lib.hid hV
  clear hA
  go_enter Tryz.func76, Tryz.ntmps76
  go_wp2_with (first | (go_at_call 122; with_reducible refine (RR.out _).mono ?_; rintro e w1 ⟨rfl, q1⟩; have C1 : Hid (Ck w #[.string l.name, .int .i64 l.version, .slice a1 n1 c1, .slice a2 n2 c2, .slice a3 n3 c3, .slice a4 n4 c4, .slice a5 n5 c5, .slice a6 n6 c6] w1) := Lib.hid ((Ck.new w _).step (q1.below _)); have d1 : w1.cell? ⟨w.heap.size, 1, none⟩ = some (.int .i64 l.version) := C1.out.box.cell rfl; have d2 : w1.cell? ⟨w.heap.size, 2, none⟩ = some (.slice a1 n1 c1) := C1.out.box.cell rfl))
  have KF := C1
  obtain ⟨wo, hwo⟩ : ∃ wo, wo = w1 := ⟨w1, rfl⟩
  clear hwo
  go_loopw [3, 4] (fun j _ wr => ∃ z : Nat, z ≤ n1 ∧ j = .int .i64 (z : Int) ∧ Hid (Ck w #[.string l.name, .int .i64 l.version, .slice a1 n1 c1, .slice a2 n2 c2, .slice a3 n3 c3, .slice a4 n4 c4, .slice a5 n5 c5, .slice a6 n6 c6] wr) ∧ Hid (eachE 8 (useE l) 0 l.uses = eachE 8 (useE l) z (l.uses.drop z))) (fun j _ _ => n1 - (intOf j).toNat)
  case atStart => exact ⟨0, Nat.zero_le _, rfl, KF, Lib.hid (by rw [List.drop_zero])⟩
  case round =>
    obtain ⟨z, hz, rfl, hK, hf⟩ := hrel
    have hWr := HW.out.trans (hK.out.low.mono HW.out.size)
    have k0 : wr.cell? ⟨w.heap.size, 0, none⟩ = some (.string l.name) := hK.out.box.cell rfl
    have k1 : wr.cell? ⟨w.heap.size, 1, none⟩ = some (.int .i64 l.version) := hK.out.box.cell rfl
    have k2 : wr.cell? ⟨w.heap.size, 2, none⟩ = some (.slice a1 n1 c1) := hK.out.box.cell rfl
    have k3 : wr.cell? ⟨w.heap.size, 3, none⟩ = some (.slice a2 n2 c2) := hK.out.box.cell rfl
    have k4 : wr.cell? ⟨w.heap.size, 4, none⟩ = some (.slice a3 n3 c3) := hK.out.box.cell rfl
    have k5 : wr.cell? ⟨w.heap.size, 5, none⟩ = some (.slice a4 n4 c4) := hK.out.box.cell rfl
    have k6 : wr.cell? ⟨w.heap.size, 6, none⟩ = some (.slice a5 n5 c5) := hK.out.box.cell rfl
    have k7 : wr.cell? ⟨w.heap.size, 7, none⟩ = some (.slice a6 n6 c6) := hK.out.box.cell rfl
    have lw0 : w.heap.size < wr.heap.size := hK.out.box.lt
    have lw1 : w.heap.size + 1 < wr.heap.size := hK.out.fb.lt
    by_cases hlt : z < n1
    · obtain ⟨y, hd⟩ := get_some N1.out hlt
      have HC := Lib.hid (r_use wr w0 z y HX.out hWr hd)
      have hst := eachE_eM (most := 8) (f := useE l) hd
      rw [← hf.out] at hst
      have Hst := Lib.hid hst
      rw [useE_part] at Hst
      obtain ⟨e, he⟩ : ∃ e, (eM 8 (useE l) z y).2 = e := ⟨_, rfl⟩
      have HC2 : Hid (Calls Tryz.prog 124 #[.agg #[.string l.name, .int .i64 l.version, .slice a1 n1 c1, .slice a2 n2 c2, .slice a3 n3 c3, .slice a4 n4 c4, .slice a5 n5 c5, .slice a6 n6 c6], .int .i64 (z : Int)] wr fun en w' => en = .returned (.int .i64 (e : Int)) ∧ Below wr.heap.size wr w') := by rw [← he]; exact HC.out
      rw [he] at Hst
      have HK := hK
      clear hd hst hf he HC hWr hK
      by_cases e0 : e = 0
      · subst e0
        have hg : eachE 8 (useE l) 0 l.uses = eachE 8 (useE l) (z + 1) (l.uses.drop (z + 1)) := by rw [Hst.out, if_neg (by simp)]
        have HG := Lib.hid hg
        clear hg Hst
        go_wp2_with (go_at_call 124; refine HC2.out.mono ?_; rintro en w1 ⟨rfl, b1⟩)
        go_roundw
        case rel => exact ⟨z + 1, by omega, by go_num, Lib.hid (HK.out.step b1), HG⟩
        case measure => simp [intOf]; omega
      · have hs : eachE 8 (useE l) 0 l.uses = some (z, 0, e) := by rw [Hst.out, if_pos e0]
        have HZ := Lib.hid (show checkE l = ⟨1, z, 0, e⟩ by unfold checkE; rw [if_neg (by rw [HA.out]; simp), if_neg (by have := HVn.out; omega)]; simp only [hs]; rfl)
        have ne1 : ¬ (e : Int) = 0 := by omega
        have ne2 : ((e : Int) != 0) = true := by simpa using ne1
        have ne3 : ¬ e = 0 := e0
        clear hs Hst e0
        go_wp2_with (first | (go_at_call 124; refine HC2.out.mono ?_; rintro en w1 ⟨rfl, b1⟩; have C1 : Hid (Ck w #[.string l.name, .int .i64 l.version, .slice a1 n1 c1, .slice a2 n2 c2, .slice a3 n3 c3, .slice a4 n4 c4, .slice a5 n5 c5, .slice a6 n6 c6] w1) := Lib.hid (HK.out.step b1)) | (go_at_call 123; with_reducible refine (r_fault _ _ _ _ ne1 _).mono ?_; rintro en wf ⟨rfl, bf⟩; have CF : Hid (Ck w #[.string l.name, .int .i64 l.version, .slice a1 n1 c1, .slice a2 n2 c2, .slice a3 n3 c3, .slice a4 n4 c4, .slice a5 n5 c5, .slice a6 n6 c6] wf) := Lib.hid (C1.out.step bf); have z0 : wf.cell? ⟨w.heap.size + 1, 0, none⟩ = some (.int .i64 0) := CF.out.fb.cell rfl; have z1 : wf.cell? ⟨w.heap.size + 1, 1, none⟩ = some (.int .i64 0) := CF.out.fb.cell rfl; have z2 : wf.cell? ⟨w.heap.size + 1, 2, none⟩ = some (.int .i64 0) := CF.out.fb.cell rfl; have z3 : wf.cell? ⟨w.heap.size + 1, 3, none⟩ = some (.int .i64 0) := CF.out.fb.cell rfl; have f0 := CF.out.fb.frozen 0; have f1 := CF.out.fb.frozen 1; have f2 := CF.out.fb.frozen 2; have f3 := CF.out.fb.frozen 3))
        have lf := CF.out.fb.lt
        refine bodyPost_ret (v := .agg #[.int .i64 (1), .int .i64 ((z : Int)), .int .i64 (0), .int .i64 ((e : Int))]) (by simp [results, Tryz.results76, go_sem, z0, z1, z2, z3]) rfl ⟨?_, ?_⟩
        · rw [HZ.out]; rfl
        · exact ((((CF.out.low.setCell (p := ⟨w.heap.size + 1, 0, none⟩) (Nat.le_succ _) _).setCell (p := ⟨w.heap.size + 1, 1, none⟩) (Nat.le_succ _) _).setCell (p := ⟨w.heap.size + 1, 2, none⟩) (Nat.le_succ _) _).setCell (p := ⟨w.heap.size + 1, 3, none⟩) (Nat.le_succ _) _)
    · obtain rfl : n1 = z := by omega
      clear hlt
      have F1 := Lib.hid (show eachE 8 (useE l) 0 l.uses = none by rw [hf.out]; exact eachE_end (by rw [N1.out]; exact Nat.le_refl _))
      have KF := hK
      obtain ⟨wo, hwo⟩ : ∃ wo, wo = wr := ⟨wr, rfl⟩
      subst hwo
      clear hf hK hz hWr
      go_wp2_with fail
      go_loopw [5, 6, 7] (fun j _ _ wr => ∃ z : Nat, z ≤ n2 ∧ j = .int .i64 (z : Int) ∧ Hid (Ck w #[.string l.name, .int .i64 l.version, .slice a1 n1 c1, .slice a2 n2 c2, .slice a3 n3 c3, .slice a4 n4 c4, .slice a5 n5 c5, .slice a6 n6 c6] wr) ∧ Hid (eachE 128 (conceptE l.concepts) 0 l.concepts = eachE 128 (conceptE l.concepts) z (l.concepts.drop z))) (fun j _ _ _ => n2 - (intOf j).toNat)
      case atStart => exact ⟨0, Nat.zero_le _, rfl, KF, Lib.hid (by rw [List.drop_zero])⟩
      case round =>
        obtain ⟨z, hz, rfl, hK, hf⟩ := hrel
        have hWr := HW.out.trans (hK.out.low.mono HW.out.size)
        have k0 : wr.cell? ⟨w.heap.size, 0, none⟩ = some (.string l.name) := hK.out.box.cell rfl
        have k1 : wr.cell? ⟨w.heap.size, 1, none⟩ = some (.int .i64 l.version) := hK.out.box.cell rfl
        have k2 : wr.cell? ⟨w.heap.size, 2, none⟩ = some (.slice a1 n1 c1) := hK.out.box.cell rfl
        have k3 : wr.cell? ⟨w.heap.size, 3, none⟩ = some (.slice a2 n2 c2) := hK.out.box.cell rfl
        have k4 : wr.cell? ⟨w.heap.size, 4, none⟩ = some (.slice a3 n3 c3) := hK.out.box.cell rfl
        have k5 : wr.cell? ⟨w.heap.size, 5, none⟩ = some (.slice a4 n4 c4) := hK.out.box.cell rfl
        have k6 : wr.cell? ⟨w.heap.size, 6, none⟩ = some (.slice a5 n5 c5) := hK.out.box.cell rfl
        have k7 : wr.cell? ⟨w.heap.size, 7, none⟩ = some (.slice a6 n6 c6) := hK.out.box.cell rfl
        have lw0 : w.heap.size < wr.heap.size := hK.out.box.lt
        have lw1 : w.heap.size + 1 < wr.heap.size := hK.out.fb.lt
        by_cases hlt : z < n2
        · obtain ⟨y, hd⟩ := get_some N2.out hlt
          have HC := Lib.hid (r_concept wr w0 z y HX.out hWr hd)
          have hst := eachE_eM (most := 128) (f := conceptE l.concepts) hd
          rw [← hf.out] at hst
          have Hst := Lib.hid hst
          obtain ⟨⟨p, e⟩, he⟩ : ∃ q, eM 128 (conceptE l.concepts) z y = q := ⟨_, rfl⟩
          have HC2 : Hid (Calls Tryz.prog 125 #[.agg #[.string l.name, .int .i64 l.version, .slice a1 n1 c1, .slice a2 n2 c2, .slice a3 n3 c3, .slice a4 n4 c4, .slice a5 n5 c5, .slice a6 n6 c6], .int .i64 (z : Int)] wr (ConPost (p, e) wr)) := by rw [← he]; exact HC.out
          rw [he] at Hst
          simp only at Hst
          have HK := hK
          clear hd hst hf he HC hWr hK
          by_cases e0 : e = 0
          · subst e0
            have hg : eachE 128 (conceptE l.concepts) 0 l.concepts = eachE 128 (conceptE l.concepts) (z + 1) (l.concepts.drop (z + 1)) := by rw [Hst.out, if_neg (by simp)]
            have HG := Lib.hid hg
            clear hg Hst
            go_wp2_with (go_at_call 125; refine HC2.out.mono ?_; rintro en w1 ⟨⟨pi, rfl, hpi⟩, b1⟩)
            go_roundw
            case rel => exact ⟨z + 1, by omega, by go_num, Lib.hid (HK.out.step b1), HG⟩
            case measure => simp [intOf]; omega
          · have hs : eachE 128 (conceptE l.concepts) 0 l.concepts = some (z, p, e) := by rw [Hst.out, if_pos e0]
            have HZ := Lib.hid (show checkE l = ⟨2, z, p, e⟩ by unfold checkE; rw [if_neg (by rw [HA.out]; simp), if_neg (by have := HVn.out; omega)]; simp only [F1.out, hs]; rfl)
            have ne1 : ¬ (e : Int) = 0 := by omega
            have ne2 : ((e : Int) != 0) = true := by simpa using ne1
            have ne3 : ¬ e = 0 := e0
            clear hs Hst e0
            go_wp2_with (first | (go_at_call 125; refine HC2.out.mono ?_; rintro en w1 ⟨⟨pi, rfl, hpi⟩, b1⟩; have hpi2 := hpi ne3; subst hpi2; have C1 : Hid (Ck w #[.string l.name, .int .i64 l.version, .slice a1 n1 c1, .slice a2 n2 c2, .slice a3 n3 c3, .slice a4 n4 c4, .slice a5 n5 c5, .slice a6 n6 c6] w1) := Lib.hid (HK.out.step b1)) | (go_at_call 123; with_reducible refine (r_fault _ _ _ _ ne1 _).mono ?_; rintro en wf ⟨rfl, bf⟩; have CF : Hid (Ck w #[.string l.name, .int .i64 l.version, .slice a1 n1 c1, .slice a2 n2 c2, .slice a3 n3 c3, .slice a4 n4 c4, .slice a5 n5 c5, .slice a6 n6 c6] wf) := Lib.hid (C1.out.step bf); have z0 : wf.cell? ⟨w.heap.size + 1, 0, none⟩ = some (.int .i64 0) := CF.out.fb.cell rfl; have z1 : wf.cell? ⟨w.heap.size + 1, 1, none⟩ = some (.int .i64 0) := CF.out.fb.cell rfl; have z2 : wf.cell? ⟨w.heap.size + 1, 2, none⟩ = some (.int .i64 0) := CF.out.fb.cell rfl; have z3 : wf.cell? ⟨w.heap.size + 1, 3, none⟩ = some (.int .i64 0) := CF.out.fb.cell rfl; have f0 := CF.out.fb.frozen 0; have f1 := CF.out.fb.frozen 1; have f2 := CF.out.fb.frozen 2; have f3 := CF.out.fb.frozen 3))
            have lf := CF.out.fb.lt
            refine bodyPost_ret (v := .agg #[.int .i64 (2), .int .i64 ((z : Int)), .int .i64 ((p : Int)), .int .i64 ((e : Int))]) (by simp [results, Tryz.results76, go_sem, z0, z1, z2, z3]) rfl ⟨?_, ?_⟩
            · rw [HZ.out]; rfl
            · exact ((((CF.out.low.setCell (p := ⟨w.heap.size + 1, 0, none⟩) (Nat.le_succ _) _).setCell (p := ⟨w.heap.size + 1, 1, none⟩) (Nat.le_succ _) _).setCell (p := ⟨w.heap.size + 1, 2, none⟩) (Nat.le_succ _) _).setCell (p := ⟨w.heap.size + 1, 3, none⟩) (Nat.le_succ _) _)
        · obtain rfl : n2 = z := by omega
          clear hlt
          have F2 := Lib.hid (show eachE 128 (conceptE l.concepts) 0 l.concepts = none by rw [hf.out]; exact eachE_end (by rw [N2.out]; exact Nat.le_refl _))
          have KF := hK
          obtain ⟨wo, hwo⟩ : ∃ wo, wo = wr := ⟨wr, rfl⟩
          subst hwo
          clear hf hK hz hWr
          go_wp2_with fail
          go_loopw [8, 9] (fun j _ wr => ∃ z : Nat, z ≤ n3 ∧ j = .int .i64 (z : Int) ∧ Hid (Ck w #[.string l.name, .int .i64 l.version, .slice a1 n1 c1, .slice a2 n2 c2, .slice a3 n3 c3, .slice a4 n4 c4, .slice a5 n5 c5, .slice a6 n6 c6] wr) ∧ Hid (eachE 256 (ruleE l.rules) 0 l.rules = eachE 256 (ruleE l.rules) z (l.rules.drop z))) (fun j _ _ => n3 - (intOf j).toNat)
          case atStart => exact ⟨0, Nat.zero_le _, rfl, KF, Lib.hid (by rw [List.drop_zero])⟩
          case round =>
            obtain ⟨z, hz, rfl, hK, hf⟩ := hrel
            have hWr := HW.out.trans (hK.out.low.mono HW.out.size)
            have k0 : wr.cell? ⟨w.heap.size, 0, none⟩ = some (.string l.name) := hK.out.box.cell rfl
            have k1 : wr.cell? ⟨w.heap.size, 1, none⟩ = some (.int .i64 l.version) := hK.out.box.cell rfl
            have k2 : wr.cell? ⟨w.heap.size, 2, none⟩ = some (.slice a1 n1 c1) := hK.out.box.cell rfl
            have k3 : wr.cell? ⟨w.heap.size, 3, none⟩ = some (.slice a2 n2 c2) := hK.out.box.cell rfl
            have k4 : wr.cell? ⟨w.heap.size, 4, none⟩ = some (.slice a3 n3 c3) := hK.out.box.cell rfl
            have k5 : wr.cell? ⟨w.heap.size, 5, none⟩ = some (.slice a4 n4 c4) := hK.out.box.cell rfl
            have k6 : wr.cell? ⟨w.heap.size, 6, none⟩ = some (.slice a5 n5 c5) := hK.out.box.cell rfl
            have k7 : wr.cell? ⟨w.heap.size, 7, none⟩ = some (.slice a6 n6 c6) := hK.out.box.cell rfl
            have lw0 : w.heap.size < wr.heap.size := hK.out.box.lt
            have lw1 : w.heap.size + 1 < wr.heap.size := hK.out.fb.lt
            by_cases hlt : z < n3
            · obtain ⟨y, hd⟩ := get_some N3.out hlt
              have HC := Lib.hid (r_rule wr w0 z y HX.out hWr hd)
              have hst := eachE_eM (most := 256) (f := ruleE l.rules) hd
              rw [← hf.out] at hst
              have Hst := Lib.hid hst
              rw [ruleE_part] at Hst
              obtain ⟨e, he⟩ : ∃ e, (eM 256 (ruleE l.rules) z y).2 = e := ⟨_, rfl⟩
              have HC2 : Hid (Calls Tryz.prog 126 #[.agg #[.string l.name, .int .i64 l.version, .slice a1 n1 c1, .slice a2 n2 c2, .slice a3 n3 c3, .slice a4 n4 c4, .slice a5 n5 c5, .slice a6 n6 c6], .int .i64 (z : Int)] wr fun en w' => en = .returned (.int .i64 (e : Int)) ∧ Below wr.heap.size wr w') := by rw [← he]; exact HC.out
              rw [he] at Hst
              have HK := hK
              clear hd hst hf he HC hWr hK
              by_cases e0 : e = 0
              · subst e0
                have hg : eachE 256 (ruleE l.rules) 0 l.rules = eachE 256 (ruleE l.rules) (z + 1) (l.rules.drop (z + 1)) := by rw [Hst.out, if_neg (by simp)]
                have HG := Lib.hid hg
                clear hg Hst
                go_wp2_with (go_at_call 126; refine HC2.out.mono ?_; rintro en w1 ⟨rfl, b1⟩)
                go_roundw
                case rel => exact ⟨z + 1, by omega, by go_num, Lib.hid (HK.out.step b1), HG⟩
                case measure => simp [intOf]; omega
              · have hs : eachE 256 (ruleE l.rules) 0 l.rules = some (z, 0, e) := by rw [Hst.out, if_pos e0]
                have HZ := Lib.hid (show checkE l = ⟨3, z, 0, e⟩ by unfold checkE; rw [if_neg (by rw [HA.out]; simp), if_neg (by have := HVn.out; omega)]; simp only [F1.out, F2.out, hs]; rfl)
                have ne1 : ¬ (e : Int) = 0 := by omega
                have ne2 : ((e : Int) != 0) = true := by simpa using ne1
                have ne3 : ¬ e = 0 := e0
                clear hs Hst e0
                go_wp2_with (first | (go_at_call 126; refine HC2.out.mono ?_; rintro en w1 ⟨rfl, b1⟩; have C1 : Hid (Ck w #[.string l.name, .int .i64 l.version, .slice a1 n1 c1, .slice a2 n2 c2, .slice a3 n3 c3, .slice a4 n4 c4, .slice a5 n5 c5, .slice a6 n6 c6] w1) := Lib.hid (HK.out.step b1)) | (go_at_call 123; with_reducible refine (r_fault _ _ _ _ ne1 _).mono ?_; rintro en wf ⟨rfl, bf⟩; have CF : Hid (Ck w #[.string l.name, .int .i64 l.version, .slice a1 n1 c1, .slice a2 n2 c2, .slice a3 n3 c3, .slice a4 n4 c4, .slice a5 n5 c5, .slice a6 n6 c6] wf) := Lib.hid (C1.out.step bf); have z0 : wf.cell? ⟨w.heap.size + 1, 0, none⟩ = some (.int .i64 0) := CF.out.fb.cell rfl; have z1 : wf.cell? ⟨w.heap.size + 1, 1, none⟩ = some (.int .i64 0) := CF.out.fb.cell rfl; have z2 : wf.cell? ⟨w.heap.size + 1, 2, none⟩ = some (.int .i64 0) := CF.out.fb.cell rfl; have z3 : wf.cell? ⟨w.heap.size + 1, 3, none⟩ = some (.int .i64 0) := CF.out.fb.cell rfl; have f0 := CF.out.fb.frozen 0; have f1 := CF.out.fb.frozen 1; have f2 := CF.out.fb.frozen 2; have f3 := CF.out.fb.frozen 3))
                have lf := CF.out.fb.lt
                refine bodyPost_ret (v := .agg #[.int .i64 (3), .int .i64 ((z : Int)), .int .i64 (0), .int .i64 ((e : Int))]) (by simp [results, Tryz.results76, go_sem, z0, z1, z2, z3]) rfl ⟨?_, ?_⟩
                · rw [HZ.out]; rfl
                · exact ((((CF.out.low.setCell (p := ⟨w.heap.size + 1, 0, none⟩) (Nat.le_succ _) _).setCell (p := ⟨w.heap.size + 1, 1, none⟩) (Nat.le_succ _) _).setCell (p := ⟨w.heap.size + 1, 2, none⟩) (Nat.le_succ _) _).setCell (p := ⟨w.heap.size + 1, 3, none⟩) (Nat.le_succ _) _)
            · obtain rfl : n3 = z := by omega
              clear hlt
              have F3 := Lib.hid (show eachE 256 (ruleE l.rules) 0 l.rules = none by rw [hf.out]; exact eachE_end (by rw [N3.out]; exact Nat.le_refl _))
              have KF := hK
              obtain ⟨wo, hwo⟩ : ∃ wo, wo = wr := ⟨wr, rfl⟩
              subst hwo
              clear hf hK hz hWr
              go_wp2_with fail
              go_loopw [10, 11, 12] (fun j _ _ wr => ∃ z : Nat, z ≤ n4 ∧ j = .int .i64 (z : Int) ∧ Hid (Ck w #[.string l.name, .int .i64 l.version, .slice a1 n1 c1, .slice a2 n2 c2, .slice a3 n3 c3, .slice a4 n4 c4, .slice a5 n5 c5, .slice a6 n6 c6] wr) ∧ Hid (eachE 256 (equationE) 0 l.equations = eachE 256 (equationE) z (l.equations.drop z))) (fun j _ _ _ => n4 - (intOf j).toNat)
              case atStart => exact ⟨0, Nat.zero_le _, rfl, KF, Lib.hid (by rw [List.drop_zero])⟩
              case round =>
                obtain ⟨z, hz, rfl, hK, hf⟩ := hrel
                have hWr := HW.out.trans (hK.out.low.mono HW.out.size)
                have k0 : wr.cell? ⟨w.heap.size, 0, none⟩ = some (.string l.name) := hK.out.box.cell rfl
                have k1 : wr.cell? ⟨w.heap.size, 1, none⟩ = some (.int .i64 l.version) := hK.out.box.cell rfl
                have k2 : wr.cell? ⟨w.heap.size, 2, none⟩ = some (.slice a1 n1 c1) := hK.out.box.cell rfl
                have k3 : wr.cell? ⟨w.heap.size, 3, none⟩ = some (.slice a2 n2 c2) := hK.out.box.cell rfl
                have k4 : wr.cell? ⟨w.heap.size, 4, none⟩ = some (.slice a3 n3 c3) := hK.out.box.cell rfl
                have k5 : wr.cell? ⟨w.heap.size, 5, none⟩ = some (.slice a4 n4 c4) := hK.out.box.cell rfl
                have k6 : wr.cell? ⟨w.heap.size, 6, none⟩ = some (.slice a5 n5 c5) := hK.out.box.cell rfl
                have k7 : wr.cell? ⟨w.heap.size, 7, none⟩ = some (.slice a6 n6 c6) := hK.out.box.cell rfl
                have lw0 : w.heap.size < wr.heap.size := hK.out.box.lt
                have lw1 : w.heap.size + 1 < wr.heap.size := hK.out.fb.lt
                by_cases hlt : z < n4
                · obtain ⟨y, hd⟩ := get_some N4.out hlt
                  obtain ⟨b, off, x, ha, hbB, hxl, hR, hx⟩ := (S4.out.below hWr).at_ hd
                  have HC := Lib.hid (r_equation z y x w0 wr hWr hR)
                  obtain ⟨ve1, ve2, rfl, se1, se2, _⟩ := hR
                  obtain ⟨ea1, en1, ec1, rfl⟩ := se1.form'
                  obtain ⟨ea2, en2, ec2, rfl⟩ := se2.form'
                  have x0 := hx 0 _ rfl
                  have x1 := hx 1 _ rfl
                  have x2 := hx 2 _ rfl
                  simp only [Nat.add_zero] at x0
                  rw [ha] at k5
                  clear hx hxl se1 se2 ha
                  have hst := eachE_eM (most := 256) (f := equationE) hd
                  rw [← hf.out] at hst
                  have Hst := Lib.hid hst
                  obtain ⟨⟨p, e⟩, he⟩ : ∃ q, eM 256 (equationE) z y = q := ⟨_, rfl⟩
                  have HC2 : Hid (Calls Tryz.prog 127 #[.agg #[.string y.concept, .slice ea1 en1 ec1, .slice ea2 en2 ec2], .int .i64 (z : Int)] wr (ConPost (p, e) wr)) := by rw [← he]; exact HC.out
                  rw [he] at Hst
                  simp only at Hst
                  have HK := hK
                  clear hd hst hf he HC hWr hK
                  by_cases e0 : e = 0
                  · subst e0
                    have hg : eachE 256 (equationE) 0 l.equations = eachE 256 (equationE) (z + 1) (l.equations.drop (z + 1)) := by rw [Hst.out, if_neg (by simp)]
                    have HG := Lib.hid hg
                    clear hg Hst
                    go_wp2_with (go_at_call 127; refine HC2.out.mono ?_; rintro en w1 ⟨⟨pi, rfl, hpi⟩, b1⟩)
                    go_roundw
                    case rel => exact ⟨z + 1, by omega, by go_num, Lib.hid (HK.out.step b1), HG⟩
                    case measure => simp [intOf]; omega
                  · have hs : eachE 256 (equationE) 0 l.equations = some (z, p, e) := by rw [Hst.out, if_pos e0]
                    have HZ := Lib.hid (show checkE l = ⟨4, z, p, e⟩ by unfold checkE; rw [if_neg (by rw [HA.out]; simp), if_neg (by have := HVn.out; omega)]; simp only [F1.out, F2.out, F3.out, hs]; rfl)
                    have ne1 : ¬ (e : Int) = 0 := by omega
                    have ne2 : ((e : Int) != 0) = true := by simpa using ne1
                    have ne3 : ¬ e = 0 := e0
                    clear hs Hst e0
                    go_wp2_with (first | (go_at_call 127; refine HC2.out.mono ?_; rintro en w1 ⟨⟨pi, rfl, hpi⟩, b1⟩; have hpi2 := hpi ne3; subst hpi2; have C1 : Hid (Ck w #[.string l.name, .int .i64 l.version, .slice a1 n1 c1, .slice a2 n2 c2, .slice a3 n3 c3, .slice a4 n4 c4, .slice a5 n5 c5, .slice a6 n6 c6] w1) := Lib.hid (HK.out.step b1)) | (go_at_call 123; with_reducible refine (r_fault _ _ _ _ ne1 _).mono ?_; rintro en wf ⟨rfl, bf⟩; have CF : Hid (Ck w #[.string l.name, .int .i64 l.version, .slice a1 n1 c1, .slice a2 n2 c2, .slice a3 n3 c3, .slice a4 n4 c4, .slice a5 n5 c5, .slice a6 n6 c6] wf) := Lib.hid (C1.out.step bf); have z0 : wf.cell? ⟨w.heap.size + 1, 0, none⟩ = some (.int .i64 0) := CF.out.fb.cell rfl; have z1 : wf.cell? ⟨w.heap.size + 1, 1, none⟩ = some (.int .i64 0) := CF.out.fb.cell rfl; have z2 : wf.cell? ⟨w.heap.size + 1, 2, none⟩ = some (.int .i64 0) := CF.out.fb.cell rfl; have z3 : wf.cell? ⟨w.heap.size + 1, 3, none⟩ = some (.int .i64 0) := CF.out.fb.cell rfl; have f0 := CF.out.fb.frozen 0; have f1 := CF.out.fb.frozen 1; have f2 := CF.out.fb.frozen 2; have f3 := CF.out.fb.frozen 3))
                    have lf := CF.out.fb.lt
                    refine bodyPost_ret (v := .agg #[.int .i64 (4), .int .i64 ((z : Int)), .int .i64 ((p : Int)), .int .i64 ((e : Int))]) (by simp [results, Tryz.results76, go_sem, z0, z1, z2, z3]) rfl ⟨?_, ?_⟩
                    · rw [HZ.out]; rfl
                    · exact ((((CF.out.low.setCell (p := ⟨w.heap.size + 1, 0, none⟩) (Nat.le_succ _) _).setCell (p := ⟨w.heap.size + 1, 1, none⟩) (Nat.le_succ _) _).setCell (p := ⟨w.heap.size + 1, 2, none⟩) (Nat.le_succ _) _).setCell (p := ⟨w.heap.size + 1, 3, none⟩) (Nat.le_succ _) _)
                · obtain rfl : n4 = z := by omega
                  clear hlt
                  have F4 := Lib.hid (show eachE 256 (equationE) 0 l.equations = none by rw [hf.out]; exact eachE_end (by rw [N4.out]; exact Nat.le_refl _))
                  have KF := hK
                  obtain ⟨wo, hwo⟩ : ∃ wo, wo = wr := ⟨wr, rfl⟩
                  subst hwo
                  clear hf hK hz hWr
                  go_wp2_with fail
                  go_loopw [13, 14, 15] (fun j _ _ wr => ∃ z : Nat, z ≤ n5 ∧ j = .int .i64 (z : Int) ∧ Hid (Ck w #[.string l.name, .int .i64 l.version, .slice a1 n1 c1, .slice a2 n2 c2, .slice a3 n3 c3, .slice a4 n4 c4, .slice a5 n5 c5, .slice a6 n6 c6] wr) ∧ Hid (eachE 256 (editorE l.editors) 0 l.editors = eachE 256 (editorE l.editors) z (l.editors.drop z))) (fun j _ _ _ => n5 - (intOf j).toNat)
                  case atStart => exact ⟨0, Nat.zero_le _, rfl, KF, Lib.hid (by rw [List.drop_zero])⟩
                  case round =>
                    obtain ⟨z, hz, rfl, hK, hf⟩ := hrel
                    have hWr := HW.out.trans (hK.out.low.mono HW.out.size)
                    have k0 : wr.cell? ⟨w.heap.size, 0, none⟩ = some (.string l.name) := hK.out.box.cell rfl
                    have k1 : wr.cell? ⟨w.heap.size, 1, none⟩ = some (.int .i64 l.version) := hK.out.box.cell rfl
                    have k2 : wr.cell? ⟨w.heap.size, 2, none⟩ = some (.slice a1 n1 c1) := hK.out.box.cell rfl
                    have k3 : wr.cell? ⟨w.heap.size, 3, none⟩ = some (.slice a2 n2 c2) := hK.out.box.cell rfl
                    have k4 : wr.cell? ⟨w.heap.size, 4, none⟩ = some (.slice a3 n3 c3) := hK.out.box.cell rfl
                    have k5 : wr.cell? ⟨w.heap.size, 5, none⟩ = some (.slice a4 n4 c4) := hK.out.box.cell rfl
                    have k6 : wr.cell? ⟨w.heap.size, 6, none⟩ = some (.slice a5 n5 c5) := hK.out.box.cell rfl
                    have k7 : wr.cell? ⟨w.heap.size, 7, none⟩ = some (.slice a6 n6 c6) := hK.out.box.cell rfl
                    have lw0 : w.heap.size < wr.heap.size := hK.out.box.lt
                    have lw1 : w.heap.size + 1 < wr.heap.size := hK.out.fb.lt
                    by_cases hlt : z < n5
                    · obtain ⟨y, hd⟩ := get_some N5.out hlt
                      have HC := Lib.hid (r_Editor wr w0 z y HX.out hWr hd)
                      have hst := eachE_eM (most := 256) (f := editorE l.editors) hd
                      rw [← hf.out] at hst
                      have Hst := Lib.hid hst
                      obtain ⟨⟨p, e⟩, he⟩ : ∃ q, eM 256 (editorE l.editors) z y = q := ⟨_, rfl⟩
                      have HC2 : Hid (Calls Tryz.prog 128 #[.agg #[.string l.name, .int .i64 l.version, .slice a1 n1 c1, .slice a2 n2 c2, .slice a3 n3 c3, .slice a4 n4 c4, .slice a5 n5 c5, .slice a6 n6 c6], .int .i64 (z : Int)] wr (ConPost (p, e) wr)) := by rw [← he]; exact HC.out
                      rw [he] at Hst
                      simp only at Hst
                      have HK := hK
                      clear hd hst hf he HC hWr hK
                      by_cases e0 : e = 0
                      · subst e0
                        have hg : eachE 256 (editorE l.editors) 0 l.editors = eachE 256 (editorE l.editors) (z + 1) (l.editors.drop (z + 1)) := by rw [Hst.out, if_neg (by simp)]
                        have HG := Lib.hid hg
                        clear hg Hst
                        go_wp2_with (go_at_call 128; refine HC2.out.mono ?_; rintro en w1 ⟨⟨pi, rfl, hpi⟩, b1⟩)
                        go_roundw
                        case rel => exact ⟨z + 1, by omega, by go_num, Lib.hid (HK.out.step b1), HG⟩
                        case measure => simp [intOf]; omega
                      · have hs : eachE 256 (editorE l.editors) 0 l.editors = some (z, p, e) := by rw [Hst.out, if_pos e0]
                        have HZ := Lib.hid (show checkE l = ⟨5, z, p, e⟩ by unfold checkE; rw [if_neg (by rw [HA.out]; simp), if_neg (by have := HVn.out; omega)]; simp only [F1.out, F2.out, F3.out, F4.out, hs]; rfl)
                        have ne1 : ¬ (e : Int) = 0 := by omega
                        have ne2 : ((e : Int) != 0) = true := by simpa using ne1
                        have ne3 : ¬ e = 0 := e0
                        clear hs Hst e0
                        go_wp2_with (first | (go_at_call 128; refine HC2.out.mono ?_; rintro en w1 ⟨⟨pi, rfl, hpi⟩, b1⟩; have hpi2 := hpi ne3; subst hpi2; have C1 : Hid (Ck w #[.string l.name, .int .i64 l.version, .slice a1 n1 c1, .slice a2 n2 c2, .slice a3 n3 c3, .slice a4 n4 c4, .slice a5 n5 c5, .slice a6 n6 c6] w1) := Lib.hid (HK.out.step b1)) | (go_at_call 123; with_reducible refine (r_fault _ _ _ _ ne1 _).mono ?_; rintro en wf ⟨rfl, bf⟩; have CF : Hid (Ck w #[.string l.name, .int .i64 l.version, .slice a1 n1 c1, .slice a2 n2 c2, .slice a3 n3 c3, .slice a4 n4 c4, .slice a5 n5 c5, .slice a6 n6 c6] wf) := Lib.hid (C1.out.step bf); have z0 : wf.cell? ⟨w.heap.size + 1, 0, none⟩ = some (.int .i64 0) := CF.out.fb.cell rfl; have z1 : wf.cell? ⟨w.heap.size + 1, 1, none⟩ = some (.int .i64 0) := CF.out.fb.cell rfl; have z2 : wf.cell? ⟨w.heap.size + 1, 2, none⟩ = some (.int .i64 0) := CF.out.fb.cell rfl; have z3 : wf.cell? ⟨w.heap.size + 1, 3, none⟩ = some (.int .i64 0) := CF.out.fb.cell rfl; have f0 := CF.out.fb.frozen 0; have f1 := CF.out.fb.frozen 1; have f2 := CF.out.fb.frozen 2; have f3 := CF.out.fb.frozen 3))
                        have lf := CF.out.fb.lt
                        refine bodyPost_ret (v := .agg #[.int .i64 (5), .int .i64 ((z : Int)), .int .i64 ((p : Int)), .int .i64 ((e : Int))]) (by simp [results, Tryz.results76, go_sem, z0, z1, z2, z3]) rfl ⟨?_, ?_⟩
                        · rw [HZ.out]; rfl
                        · exact ((((CF.out.low.setCell (p := ⟨w.heap.size + 1, 0, none⟩) (Nat.le_succ _) _).setCell (p := ⟨w.heap.size + 1, 1, none⟩) (Nat.le_succ _) _).setCell (p := ⟨w.heap.size + 1, 2, none⟩) (Nat.le_succ _) _).setCell (p := ⟨w.heap.size + 1, 3, none⟩) (Nat.le_succ _) _)
                    · obtain rfl : n5 = z := by omega
                      clear hlt
                      have F5 := Lib.hid (show eachE 256 (editorE l.editors) 0 l.editors = none by rw [hf.out]; exact eachE_end (by rw [N5.out]; exact Nat.le_refl _))
                      have KF := hK
                      obtain ⟨wo, hwo⟩ : ∃ wo, wo = wr := ⟨wr, rfl⟩
                      subst hwo
                      clear hf hK hz hWr
                      go_wp2_with fail
                      go_loopw [16, 17, 18] (fun j _ _ wr => ∃ z : Nat, z ≤ n6 ∧ j = .int .i64 (z : Int) ∧ Hid (Ck w #[.string l.name, .int .i64 l.version, .slice a1 n1 c1, .slice a2 n2 c2, .slice a3 n3 c3, .slice a4 n4 c4, .slice a5 n5 c5, .slice a6 n6 c6] wr) ∧ Hid (eachE 256 (templateE l.templates) 0 l.templates = eachE 256 (templateE l.templates) z (l.templates.drop z))) (fun j _ _ _ => n6 - (intOf j).toNat)
                      case atStart => exact ⟨0, Nat.zero_le _, rfl, KF, Lib.hid (by rw [List.drop_zero])⟩
                      case round =>
                        obtain ⟨z, hz, rfl, hK, hf⟩ := hrel
                        have hWr := HW.out.trans (hK.out.low.mono HW.out.size)
                        have k0 : wr.cell? ⟨w.heap.size, 0, none⟩ = some (.string l.name) := hK.out.box.cell rfl
                        have k1 : wr.cell? ⟨w.heap.size, 1, none⟩ = some (.int .i64 l.version) := hK.out.box.cell rfl
                        have k2 : wr.cell? ⟨w.heap.size, 2, none⟩ = some (.slice a1 n1 c1) := hK.out.box.cell rfl
                        have k3 : wr.cell? ⟨w.heap.size, 3, none⟩ = some (.slice a2 n2 c2) := hK.out.box.cell rfl
                        have k4 : wr.cell? ⟨w.heap.size, 4, none⟩ = some (.slice a3 n3 c3) := hK.out.box.cell rfl
                        have k5 : wr.cell? ⟨w.heap.size, 5, none⟩ = some (.slice a4 n4 c4) := hK.out.box.cell rfl
                        have k6 : wr.cell? ⟨w.heap.size, 6, none⟩ = some (.slice a5 n5 c5) := hK.out.box.cell rfl
                        have k7 : wr.cell? ⟨w.heap.size, 7, none⟩ = some (.slice a6 n6 c6) := hK.out.box.cell rfl
                        have lw0 : w.heap.size < wr.heap.size := hK.out.box.lt
                        have lw1 : w.heap.size + 1 < wr.heap.size := hK.out.fb.lt
                        by_cases hlt : z < n6
                        · obtain ⟨y, hd⟩ := get_some N6.out hlt
                          have HC := Lib.hid (r_Template wr w0 z y HX.out hWr hd)
                          have hst := eachE_eM (most := 256) (f := templateE l.templates) hd
                          rw [← hf.out] at hst
                          have Hst := Lib.hid hst
                          obtain ⟨⟨p, e⟩, he⟩ : ∃ q, eM 256 (templateE l.templates) z y = q := ⟨_, rfl⟩
                          have HC2 : Hid (Calls Tryz.prog 129 #[.agg #[.string l.name, .int .i64 l.version, .slice a1 n1 c1, .slice a2 n2 c2, .slice a3 n3 c3, .slice a4 n4 c4, .slice a5 n5 c5, .slice a6 n6 c6], .int .i64 (z : Int)] wr (ConPost (p, e) wr)) := by rw [← he]; exact HC.out
                          rw [he] at Hst
                          simp only at Hst
                          have HK := hK
                          clear hd hst hf he HC hWr hK
                          by_cases e0 : e = 0
                          · subst e0
                            have hg : eachE 256 (templateE l.templates) 0 l.templates = eachE 256 (templateE l.templates) (z + 1) (l.templates.drop (z + 1)) := by rw [Hst.out, if_neg (by simp)]
                            have HG := Lib.hid hg
                            clear hg Hst
                            go_wp2_with (go_at_call 129; refine HC2.out.mono ?_; rintro en w1 ⟨⟨pi, rfl, hpi⟩, b1⟩)
                            go_roundw
                            case rel => exact ⟨z + 1, by omega, by go_num, Lib.hid (HK.out.step b1), HG⟩
                            case measure => simp [intOf]; omega
                          · have hs : eachE 256 (templateE l.templates) 0 l.templates = some (z, p, e) := by rw [Hst.out, if_pos e0]
                            have HZ := Lib.hid (show checkE l = ⟨6, z, p, e⟩ by unfold checkE; rw [if_neg (by rw [HA.out]; simp), if_neg (by have := HVn.out; omega)]; simp only [F1.out, F2.out, F3.out, F4.out, F5.out, hs]; rfl)
                            have ne1 : ¬ (e : Int) = 0 := by omega
                            have ne2 : ((e : Int) != 0) = true := by simpa using ne1
                            have ne3 : ¬ e = 0 := e0
                            clear hs Hst e0
                            go_wp2_with (first | (go_at_call 129; refine HC2.out.mono ?_; rintro en w1 ⟨⟨pi, rfl, hpi⟩, b1⟩; have hpi2 := hpi ne3; subst hpi2; have C1 : Hid (Ck w #[.string l.name, .int .i64 l.version, .slice a1 n1 c1, .slice a2 n2 c2, .slice a3 n3 c3, .slice a4 n4 c4, .slice a5 n5 c5, .slice a6 n6 c6] w1) := Lib.hid (HK.out.step b1)) | (go_at_call 123; with_reducible refine (r_fault _ _ _ _ ne1 _).mono ?_; rintro en wf ⟨rfl, bf⟩; have CF : Hid (Ck w #[.string l.name, .int .i64 l.version, .slice a1 n1 c1, .slice a2 n2 c2, .slice a3 n3 c3, .slice a4 n4 c4, .slice a5 n5 c5, .slice a6 n6 c6] wf) := Lib.hid (C1.out.step bf); have z0 : wf.cell? ⟨w.heap.size + 1, 0, none⟩ = some (.int .i64 0) := CF.out.fb.cell rfl; have z1 : wf.cell? ⟨w.heap.size + 1, 1, none⟩ = some (.int .i64 0) := CF.out.fb.cell rfl; have z2 : wf.cell? ⟨w.heap.size + 1, 2, none⟩ = some (.int .i64 0) := CF.out.fb.cell rfl; have z3 : wf.cell? ⟨w.heap.size + 1, 3, none⟩ = some (.int .i64 0) := CF.out.fb.cell rfl; have f0 := CF.out.fb.frozen 0; have f1 := CF.out.fb.frozen 1; have f2 := CF.out.fb.frozen 2; have f3 := CF.out.fb.frozen 3))
                            have lf := CF.out.fb.lt
                            refine bodyPost_ret (v := .agg #[.int .i64 (6), .int .i64 ((z : Int)), .int .i64 ((p : Int)), .int .i64 ((e : Int))]) (by simp [results, Tryz.results76, go_sem, z0, z1, z2, z3]) rfl ⟨?_, ?_⟩
                            · rw [HZ.out]; rfl
                            · exact ((((CF.out.low.setCell (p := ⟨w.heap.size + 1, 0, none⟩) (Nat.le_succ _) _).setCell (p := ⟨w.heap.size + 1, 1, none⟩) (Nat.le_succ _) _).setCell (p := ⟨w.heap.size + 1, 2, none⟩) (Nat.le_succ _) _).setCell (p := ⟨w.heap.size + 1, 3, none⟩) (Nat.le_succ _) _)
                        · obtain rfl : n6 = z := by omega
                          clear hlt
                          have F6 := Lib.hid (show eachE 256 (templateE l.templates) 0 l.templates = none by rw [hf.out]; exact eachE_end (by rw [N6.out]; exact Nat.le_refl _))
                          have KF := hK
                          obtain ⟨wo, hwo⟩ : ∃ wo, wo = wr := ⟨wr, rfl⟩
                          subst hwo
                          clear hf hK hz hWr
                          have HZ := Lib.hid (show checkE l = ⟨0, 0, 0, 0⟩ by unfold checkE; rw [if_neg (by rw [HA.out]; simp), if_neg (by have := HVn.out; omega)]; simp only [F1.out, F2.out, F3.out, F4.out, F5.out, F6.out])
                          have CF := KF
                          have z0 : wo.cell? ⟨w.heap.size + 1, 0, none⟩ = some (.int .i64 0) := CF.out.fb.cell rfl; have z1 : wo.cell? ⟨w.heap.size + 1, 1, none⟩ = some (.int .i64 0) := CF.out.fb.cell rfl; have z2 : wo.cell? ⟨w.heap.size + 1, 2, none⟩ = some (.int .i64 0) := CF.out.fb.cell rfl; have z3 : wo.cell? ⟨w.heap.size + 1, 3, none⟩ = some (.int .i64 0) := CF.out.fb.cell rfl; have f0 := CF.out.fb.frozen 0; have f1 := CF.out.fb.frozen 1; have f2 := CF.out.fb.frozen 2; have f3 := CF.out.fb.frozen 3
                          go_wp2_with fail
                          have lf := CF.out.fb.lt
                          refine bodyPost_ret (v := .agg #[.int .i64 0, .int .i64 0, .int .i64 0, .int .i64 0]) (by simp [results, Tryz.results76, go_sem, z0, z1, z2, z3]) rfl ⟨?_, ?_⟩
                          · rw [HZ.out]; rfl
                          · exact ((((CF.out.low.setCell (p := ⟨w.heap.size + 1, 0, none⟩) (Nat.le_succ _) _).setCell (p := ⟨w.heap.size + 1, 1, none⟩) (Nat.le_succ _) _).setCell (p := ⟨w.heap.size + 1, 2, none⟩) (Nat.le_succ _) _).setCell (p := ⟨w.heap.size + 1, 3, none⟩) (Nat.le_succ _) _)
end Go.Proofs.YtikplcpghohklaaGreat
