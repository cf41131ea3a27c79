/- modules: what each language is by itself; the law's bound. -/
import Derived.Test.YtikplcpghohklaaGreatRClose
namespace Go.Proofs.YtikplcpghohklaaGreat
set_option linter.unusedSimpArgs false
set_option linter.unusedVariables false
open Go.RowKit

/-- a Bool, whichever -/
def SomeBool (e : Ending) : Prop := ∃ b, e = .returned (.bool b)
/-- a step's fault, or none -/
def fltO (f : Option Flt) : Value := match f with
  | some f => fltR f
  | none => fltV 0 0 0 0
/-- how many there are, and what each is by itself -/
def aloneN (ls : List Language) : Option Flt := if 128 < ls.length then some ⟨1280, 0, 0, 4⟩ else firstF aloneF 0 ls
set_option maxRecDepth 100000 in
set_option maxHeartbeats 8000000 in
theorem m_alone {ls : List Language} {v : Value} (p : Nat) (w w0 : World) (hs : LsR w0 w0.heap.size v ls) (hw : Below w0.heap.size w0 w) (hp : w.cell? ⟨p, 0, none⟩ = some v) :
    Calls Tryz.prog 58 #[.pointer (some ⟨p, 0, none⟩)] w fun e w' => e = .returned (fltO (aloneN ls)) ∧ Below w.heap.size w w' := by
  obtain ⟨a, c, rfl⟩ : ∃ a c, v = .slice a ls.length c := by obtain ⟨a, c, h, _⟩ := hs.form; exact ⟨a, c, h⟩
  have hcap := hs.caps
  have hpl : p < w.heap.size := cell_lt hp
  have hn63 : ls.length ≤ 9223372036854775807 := by unfold maxLen at hcap; omega
  obtain ⟨n, hn⟩ : ∃ n, ls.length = n := ⟨_, rfl⟩
  rw [hn] at hs hp hn63
  have Hn := Lib.hid hn
  have Hs := Lib.hid hs
  have Hw := Lib.hid hw
  have K0 : Hid (Kept w w.heap.size 28 #[.int .i64 0, .int .i64 0, .int .i64 0, .int .i64 0] (w.alloc (.cells #[.int .i64 0, .int .i64 0, .int .i64 0, .int .i64 0] 28))) := Lib.hid (Kept.new w _ _)
  clear hs hw hcap hn
  by_cases h128 : 128 < n
  · have HZ := Lib.hid (show fltO (aloneN ls) = fltR ⟨1280, 0, 0, 4⟩ by unfold aloneN; rw [if_pos (by rw [Hn.out]; exact h128)]; rfl)
    have HPl := Lib.hid (show wrap64 (wrap64 (10 * (128 : Int)) + 0) = 10 * 128 + 0 by unfold wrap64; omega)
    have d128 : decide (128 < (n : Int)) = true := by simp; omega
    have tokP : True := trivial
    go_enter Tryz.func58, Tryz.ntmps58
    go_wp2_with (first | (go_at_call 37; have _t := tokP; refine (m_fault _ _ _ _ _ HPl.out _).mono ?_; rintro en wf ⟨rfl, bf⟩; have CF : Hid (Kept w w.heap.size 28 #[.int .i64 0, .int .i64 0, .int .i64 0, .int .i64 0] wf) := Lib.hid (K0.out.step bf); have z0 : wf.cell? ⟨w.heap.size, 0, none⟩ = some (.int .i64 0) := CF.out.blk.cell rfl; have z1 : wf.cell? ⟨w.heap.size, 1, none⟩ = some (.int .i64 0) := CF.out.blk.cell rfl; have z2 : wf.cell? ⟨w.heap.size, 2, none⟩ = some (.int .i64 0) := CF.out.blk.cell rfl; have z3 : wf.cell? ⟨w.heap.size, 3, none⟩ = some (.int .i64 0) := CF.out.blk.cell rfl; have f0 := CF.out.blk.frozen 0; have f1 := CF.out.blk.frozen 1; have f2 := CF.out.blk.frozen 2; have f3 := CF.out.blk.frozen 3; clear tokP _t))
    have lf := CF.out.blk.lt
    refine bodyPost_ret (v := .agg #[.int .i64 (10 * 128 + 0), .int .i64 (0), .int .i64 (0), .int .i64 (4)]) (by simp [results, Tryz.results58, go_sem, z0, z1, z2, z3]) rfl ?_
    refine ⟨?_, ((((CF.out.low.setCell (p := ⟨w.heap.size, 0, none⟩) (Nat.le_refl _) _).setCell (p := ⟨w.heap.size, 1, none⟩) (Nat.le_refl _) _).setCell (p := ⟨w.heap.size, 2, none⟩) (Nat.le_refl _) _).setCell (p := ⟨w.heap.size, 3, none⟩) (Nat.le_refl _) _)⟩
    rw [HZ.out]
    all_goals (show Ending.returned _ = Ending.returned _)
    all_goals first | rfl | (congr 2 <;> (first | rfl | (push_cast; rfl) | (push_cast; omega)))
  have d128 : decide (128 < (n : Int)) = false := by simp; omega
  have hle : n ≤ 128 := by omega
  have HA : Hid (aloneN ls = firstF aloneF 0 ls) := by show _ = _; unfold aloneN; rw [if_neg (by rw [Hn.out]; exact h128)]
  clear h128
  go_enter Tryz.func58, Tryz.ntmps58
  go_wp2_with fail
  go_loopw [3, 4, 5, 18] (fun _ _ _ j wr => ∃ k : Nat, k ≤ n ∧ j = .int .i64 (k : Int) ∧ Hid (Kept w w.heap.size 28 #[.int .i64 0, .int .i64 0, .int .i64 0, .int .i64 0] wr) ∧ Hid (firstF aloneF 0 ls = firstF aloneF k (ls.drop k))) (fun _ _ _ j _ => n - (intOf j).toNat)
  case atStart => exact ⟨0, Nat.zero_le _, rfl, K0, Lib.hid (by rw [List.drop_zero])⟩
  case round =>
    obtain ⟨k, hk, rfl, hK, hf⟩ := hrel
    have hWr := Hw.out.trans (hK.out.low.mono Hw.out.size)
    have lw : w.heap.size < wr.heap.size := hK.out.blk.lt
    by_cases hlt : k < n
    · obtain ⟨l, hd⟩ := get_some Hn.out hlt
      have hsW := Hs.out.same_base hWr
      obtain ⟨b, off, x, rfl, hbB, hxl, hR, hx⟩ := hsW.at_ hd
      have HC := Lib.hid (fun W (h : Below wr.heap.size wr W) => check_any W wr (hR.keep (fun _ _ => rfl) hWr.size) h)
      have hlist := checkE_list l
      obtain ⟨v1, v2, v3, v4, v5, v6, rfl, s1, s2, s3, s4, s5, s6, _⟩ := hR
      obtain ⟨a1, n1, c1, rfl⟩ := s1.form'
      obtain ⟨a2, n2, c2, rfl⟩ := s2.form'
      obtain ⟨a3, n3, c3, rfl⟩ := s3.form'
      obtain ⟨a4, n4, c4, rfl⟩ := s4.form'
      obtain ⟨a5, n5, c5, rfl⟩ := s5.form'
      obtain ⟨a6, n6, c6, rfl⟩ := s6.form'
      have x0 := hx 0 _ rfl
      have x1 := hx 1 _ rfl
      have x2 := hx 2 _ rfl
      have x3 := hx 3 _ rfl
      have x4 := hx 4 _ rfl
      have x5 := hx 5 _ rfl
      have x6 := hx 6 _ rfl
      have x7 := hx 7 _ rfl
      simp only [Nat.add_zero] at x0
      have hst := firstF_step (f := aloneF) hd
      rw [← hf.out] at hst
      have hne := @aloneF_none k l
      have hsm := @aloneF_some k l
      obtain ⟨⟨fl, fa, fp, fe⟩, hfe⟩ : ∃ f, checkE l = f := ⟨_, rfl⟩
      rw [hfe] at hne hsm hlist HC
      simp only at hne hsm hlist
      simp only [fltR] at HC
      have HK := hK
      have HB0 : Hid (Below wr.heap.size wr (wr.alloc (.cells #[.string l.name, .int .i64 l.version, .slice a1 n1 c1, .slice a2 n2 c2, .slice a3 n3 c3, .slice a4 n4 c4, .slice a5 n5 c5, .slice a6 n6 c6] 39))) := Lib.hid ((Below.refl _ _).alloc (Nat.le_refl _) _)
      have HKA : Hid (Kept w w.heap.size 28 #[.int .i64 0, .int .i64 0, .int .i64 0, .int .i64 0] (wr.alloc (.cells #[.string l.name, .int .i64 l.version, .slice a1 n1 c1, .slice a2 n2 c2, .slice a3 n3 c3, .slice a4 n4 c4, .slice a5 n5 c5, .slice a6 n6 c6] 39))) := Lib.hid (HK.out.alloc _)
      clear hd hx hxl s1 s2 s3 s4 s5 s6 hsW hWr hK hfe hf
      by_cases e0 : fe = 0
      · have hg : firstF aloneF 0 ls = firstF aloneF (k + 1) (ls.drop (k + 1)) := by rw [hst, hne e0]
        have HG := Lib.hid hg
        subst e0
        clear hst hg hne hsm
        go_wp2_with (go_at_call 88; refine (HC.out _ HB0.out).mono ?_; rintro en w1 ⟨rfl, b1⟩; have K1 : Hid (Kept w w.heap.size 28 #[.int .i64 0, .int .i64 0, .int .i64 0, .int .i64 0] w1) := Lib.hid (HKA.out.step b1))
        go_roundw
        case rel => exact ⟨k + 1, by omega, by go_num, Lib.hid (K1.out.alloc _), HG⟩
        case measure => simp [intOf]; omega
      · have hg : fltO (aloneN ls) = fltR ⟨10 * k + fl, fa, fp, fe⟩ := by rw [HA.out, hst, hsm e0]; rfl
        have HZ := Lib.hid hg
        have HPl := Lib.hid (place_small (n := k) (l := (fl : Int)) (by omega) (by omega) (by omega))
        have tokP : True := trivial
        have ne1 : ¬ (fe : Int) = 0 := by omega
        have ne2 : ((fe : Int) != 0) = true := by simpa using ne1
        clear hst hg hne hsm e0
        go_wp2_with (first | (go_at_call 88; refine (HC.out _ HB0.out).mono ?_; rintro en w1 ⟨rfl, b1⟩; have K1 : Hid (Kept w w.heap.size 28 #[.int .i64 0, .int .i64 0, .int .i64 0, .int .i64 0] w1) := Lib.hid (HKA.out.step b1); have K2 : Hid (Kept w w.heap.size 28 #[.int .i64 0, .int .i64 0, .int .i64 0, .int .i64 0] (w1.alloc (.cells #[.int .i64 (fl : Int), .int .i64 (fa : Int), .int .i64 (fp : Int), .int .i64 (fe : Int)] 28))) := Lib.hid (K1.out.alloc _)) | (go_at_call 37; have _t := tokP; refine (m_fault _ _ _ _ _ HPl.out _).mono ?_; rintro en wf ⟨rfl, bf⟩; have CF : Hid (Kept w w.heap.size 28 #[.int .i64 0, .int .i64 0, .int .i64 0, .int .i64 0] wf) := Lib.hid (K2.out.step bf); have z0 : wf.cell? ⟨w.heap.size, 0, none⟩ = some (.int .i64 0) := CF.out.blk.cell rfl; have z1 : wf.cell? ⟨w.heap.size, 1, none⟩ = some (.int .i64 0) := CF.out.blk.cell rfl; have z2 : wf.cell? ⟨w.heap.size, 2, none⟩ = some (.int .i64 0) := CF.out.blk.cell rfl; have z3 : wf.cell? ⟨w.heap.size, 3, none⟩ = some (.int .i64 0) := CF.out.blk.cell rfl; have f0 := CF.out.blk.frozen 0; have f1 := CF.out.blk.frozen 1; have f2 := CF.out.blk.frozen 2; have f3 := CF.out.blk.frozen 3; clear tokP _t))
        have lf := CF.out.blk.lt
        refine bodyPost_ret (v := .agg #[.int .i64 (10 * (k : Int) + (fl : Int)), .int .i64 ((fa : Int)), .int .i64 ((fp : Int)), .int .i64 ((fe : Int))]) (by simp [results, Tryz.results58, go_sem, z0, z1, z2, z3]) rfl ?_
        refine ⟨?_, ((((CF.out.low.setCell (p := ⟨w.heap.size, 0, none⟩) (Nat.le_refl _) _).setCell (p := ⟨w.heap.size, 1, none⟩) (Nat.le_refl _) _).setCell (p := ⟨w.heap.size, 2, none⟩) (Nat.le_refl _) _).setCell (p := ⟨w.heap.size, 3, none⟩) (Nat.le_refl _) _)⟩
        rw [HZ.out]
        all_goals (show Ending.returned _ = Ending.returned _)
        all_goals first | rfl | (congr 2 <;> (first | rfl | (push_cast; rfl) | (push_cast; omega)))
    · obtain rfl : n = k := by omega
      have HZ := Lib.hid (show fltO (aloneN ls) = fltV 0 0 0 0 by rw [HA.out, hf.out, firstF_end (by rw [Hn.out]; exact Nat.le_refl _)]; rfl)
      have CF := hK
      have z0 : wr.cell? ⟨w.heap.size, 0, none⟩ = some (.int .i64 0) := CF.out.blk.cell rfl; have z1 : wr.cell? ⟨w.heap.size, 1, none⟩ = some (.int .i64 0) := CF.out.blk.cell rfl; have z2 : wr.cell? ⟨w.heap.size, 2, none⟩ = some (.int .i64 0) := CF.out.blk.cell rfl; have z3 : wr.cell? ⟨w.heap.size, 3, none⟩ = some (.int .i64 0) := CF.out.blk.cell rfl; have f0 := CF.out.blk.frozen 0; have f1 := CF.out.blk.frozen 1; have f2 := CF.out.blk.frozen 2; have f3 := CF.out.blk.frozen 3
      clear hlt hf hK hWr lw
      go_wp2_with fail
      have lf := CF.out.blk.lt
      refine bodyPost_ret (v := .agg #[.int .i64 (0), .int .i64 (0), .int .i64 (0), .int .i64 (0)]) (by simp [results, Tryz.results58, go_sem, z0, z1, z2, z3]) rfl ?_
      refine ⟨?_, ((((CF.out.low.setCell (p := ⟨w.heap.size, 0, none⟩) (Nat.le_refl _) _).setCell (p := ⟨w.heap.size, 1, none⟩) (Nat.le_refl _) _).setCell (p := ⟨w.heap.size, 2, none⟩) (Nat.le_refl _) _).setCell (p := ⟨w.heap.size, 3, none⟩) (Nat.le_refl _) _)⟩
      rw [HZ.out]
      all_goals (show Ending.returned _ = Ending.returned _)
      all_goals first | rfl | (congr 2 <;> (first | rfl | (push_cast; rfl) | (push_cast; omega)))

set_option maxRecDepth 100000 in
set_option maxHeartbeats 4000000 in
theorem great_any {ls : List Language} {v : Value} (w w0 : World) (hs : LsR w0 w0.heap.size v ls) (hw : Below w0.heap.size w0 w) :
    Calls Tryz.prog 9 #[v] w fun e w' => SomeBool e ∧ Below w.heap.size w w' := by
  obtain ⟨a, c, rfl⟩ : ∃ a c, v = .slice a ls.length c := by obtain ⟨a, c, h, _⟩ := hs.form; exact ⟨a, c, h⟩
  have hcap := hs.caps
  have hn63 : ls.length ≤ 9223372036854775807 := by unfold maxLen at hcap; omega
  obtain ⟨n, hn⟩ : ∃ n, ls.length = n := ⟨_, rfl⟩
  rw [hn] at hs hn63 ⊢
  have Hn := Lib.hid hn
  have Hs := Lib.hid hs
  have Hw := Lib.hid hw
  clear hs hw hcap hn
  go_enter Tryz.func9, Tryz.ntmps9
  go_wp2_with fail
  go_loopw [3, 4, 5] (fun t j _ wr => ∃ (k : Nat) (x : Int), k ≤ n ∧ k ≤ 300 ∧ t = .int .i64 x ∧ j = .int .i64 (k : Int) ∧ Hid (Below w.heap.size w wr)) (fun _ j _ _ => 300 - (intOf j).toNat)
  case atStart => exact ⟨0, _, Nat.zero_le _, Nat.zero_le _, rfl, rfl, Below.refl _ _⟩
  case round =>
    obtain ⟨k, x, hk, hk3, rfl, rfl, hB⟩ := hrel
    have hWr := Hw.out.trans (hB.out.mono Hw.out.size)
    by_cases hlt : k < n
    · by_cases h300 : k < 300
      · have d300 : decide ((k : Int) < 300) = true := by simp; omega
        obtain ⟨l, hd⟩ := get_some Hn.out hlt
        obtain ⟨b, off, y, rfl, hbB, hxl, ⟨v1, v2, v3, v4, v5, v6, rfl, s1, s2, s3, s4, s5, s6, _⟩, hx⟩ := (Hs.out.below hWr).at_ hd
        obtain ⟨a1, n1, c1, rfl⟩ := s1.form'
        obtain ⟨a2, n2, c2, rfl⟩ := s2.form'
        obtain ⟨a3, n3, c3, rfl⟩ := s3.form'
        obtain ⟨a4, n4, c4, rfl⟩ := s4.form'
        obtain ⟨a5, n5, c5, rfl⟩ := s5.form'
        obtain ⟨a6, n6, c6, rfl⟩ := s6.form'
        have x0 := hx 0 _ rfl
        have x1 := hx 1 _ rfl
        have x2 := hx 2 _ rfl
        have x3 := hx 3 _ rfl
        have x4 := hx 4 _ rfl
        have x5 := hx 5 _ rfl
        have x6 := hx 6 _ rfl
        have x7 := hx 7 _ rfl
        simp only [Nat.add_zero] at x0
        have HB2 := hB
        clear hd hx hxl s1 s2 s3 s4 s5 s6 hWr hB
        go_wp2_with fail
        go_roundw
        case rel => exact ⟨k + 1, _, by omega, by omega, rfl, by go_num, Lib.hid (HB2.out.alloc HB2.out.size _)⟩
        case measure => simp [intOf]; omega
      · have d300 : decide ((k : Int) < 300) = false := by simp; omega
        have HB2 := hB
        clear hWr hB
        go_wp2_with fail
        all_goals (go_ret; exact ⟨⟨_, rfl⟩, HB2.out⟩)
    · have HB2 := hB
      have hge : n ≤ k := by omega
      clear hWr hB hlt
      go_wp2_with fail
      all_goals (go_ret; exact ⟨⟨_, rfl⟩, HB2.out⟩)
end Go.Proofs.YtikplcpghohklaaGreat
