import Derived.Test.YtdhljfblkidohaaApi
import Derived.Test.YtdhljfblkidohaaProg
import Derived.Deep.QuietTactic
import Derived.BigQuiet
namespace Go.Proofs.Ytdhljfblkidohaa
set_option linter.unusedSimpArgs false
set_option linter.unusedVariables false
open Go.RowKit

def SomeBool (w : World) (e : Ending) (w' : World) : Prop := ∃ b : Bool, e = .returned (.bool b) ∧ Below w.heap.size w w'
set_option maxHeartbeats 4000000 in
set_option maxRecDepth 100000 in
theorem great_any {x : List Value} {d : Language} (w w0 : World) (h : Language.Is w0 w0.heap.size x d) (hw : Below w0.heap.size w0 w) :
    Calls Try.prog 5 #[.agg x.toArray] w (SomeBool w) := by
  obtain ⟨v2, v3, v4, v5, v6, v7, rfl, s2, s3, s4, s5, s6, s7, hfit, _⟩ := h
  obtain ⟨pa2, n2, pc2, rfl⟩ := s2.form'
  have m2 : n2 ≤ 140737488355328 := by have := hfit.1; rw [← s2.len] at this; unfold Fit at this; omega
  have S2 := Lib.hid s2
  clear s2
  obtain ⟨pa3, n3, pc3, rfl⟩ := s3.form'
  have m3 : n3 ≤ 140737488355328 := by have := hfit.2.1; rw [← s3.len] at this; unfold Fit at this; omega
  have S3 := Lib.hid s3
  clear s3
  obtain ⟨pa4, n4, pc4, rfl⟩ := s4.form'
  have m4 : n4 ≤ 140737488355328 := by have := hfit.2.2.1; rw [← s4.len] at this; unfold Fit at this; omega
  have S4 := Lib.hid s4
  clear s4
  obtain ⟨pa5, n5, pc5, rfl⟩ := s5.form'
  have m5 : n5 ≤ 140737488355328 := by have := hfit.2.2.2.1; rw [← s5.len] at this; unfold Fit at this; omega
  have S5 := Lib.hid s5
  clear s5
  obtain ⟨pa6, n6, pc6, rfl⟩ := s6.form'
  have m6 : n6 ≤ 140737488355328 := by have := hfit.2.2.2.2.1; rw [← s6.len] at this; unfold Fit at this; omega
  have S6 := Lib.hid s6
  clear s6
  obtain ⟨pa7, n7, pc7, rfl⟩ := s7.form'
  have m7 : n7 ≤ 140737488355328 := by have := hfit.2.2.2.2.2; rw [← s7.len] at this; unfold Fit at this; omega
  have S7 := Lib.hid s7
  clear s7
  obtain ⟨W, hWW⟩ : ∃ W, W = (w.alloc (.cells #[.string d.name, .int .i64 d.version, .slice pa2 n2 pc2, .slice pa3 n3 pc3, .slice pa4 n4 pc4, .slice pa5 n5 pc5, .slice pa6 n6 pc6, .slice pa7 n7 pc7] 29)) := ⟨_, rfl⟩
  have HBW : Below w.heap.size w W := by rw [hWW]; exact (Below.refl _ _).alloc (Nat.le_refl _) _
  have HB0 : Below w0.heap.size w0 W := hw.trans (HBW.mono hw.size)
  have hzW : W.heap.size = w.heap.size + 1 := by rw [hWW]; simp
  have a3 : W.cell? ⟨w.heap.size, 3, none⟩ = some (.slice pa3 n3 pc3) := by rw [hWW]; simp
  have a5 : W.cell? ⟨w.heap.size, 5, none⟩ = some (.slice pa5 n5 pc5) := by rw [hWW]; simp
  have a6 : W.cell? ⟨w.heap.size, 6, none⟩ = some (.slice pa6 n6 pc6) := by rw [hWW]; simp
  have a7 : W.cell? ⟨w.heap.size, 7, none⟩ = some (.slice pa7 n7 pc7) := by rw [hWW]; simp
  have HWW := Lib.hid hWW
  have HzW := Lib.hid hzW
  have Hw := Lib.hid hw
  have hbase := hw.size
  clear hWW hzW hw hfit
  by_cases ht : (1200 : Int) < (n2 : Int) + (n3 : Int) + (n4 : Int) + (n5 : Int) + (n6 : Int) + (n7 : Int)
  · go_enter Try.func5, Try.ntmps5
    try dsimp only [List.append]
    go_wp2_with fail
    go_ret
    exact ⟨true, rfl, (Below.refl _ _).alloc (Nat.le_refl _) _⟩
  · go_enter Try.func5, Try.ntmps5
    try dsimp only [List.append]
    go_wp2_with fail
    go_loopw [2, 3, 4] (fun _ lv j wr => ∃ k : Nat, k ≤ n3 ∧ j = .int .i64 k ∧ (∃ L : Int, lv = .int .i64 L ∧ 0 ≤ L ∧ L ≤ 20000) ∧ Below (w.heap.size + 1) W wr) (fun _ _ j _ => n3 - (intOf j).toNat)
    case atStart => exact ⟨0, Nat.zero_le _, rfl, ⟨20000, rfl, by omega, by omega⟩, by rw [HWW.out]; exact Below.refl _ _⟩
    case round =>
      obtain ⟨k, hk, rfl, ⟨L3, rfl, hL1, hL2⟩, hb⟩ := hrel
      have hz : w.heap.size + 1 ≤ wr.heap.size := by have := hb.size; rw [HzW.out] at this; exact this
      have hza : w.heap.size < wr.heap.size := by omega
      have ca := (hb.cell (p := ⟨w.heap.size, 3, none⟩) (by show w.heap.size < _; omega)).trans a3
      have HB1 : Below w0.heap.size w0 wr := HB0.trans (hb.mono (by omega))
      have HBr : Below w.heap.size w wr := HBW.trans (hb.mono (by omega))
      by_cases hlt : k < n3
      · obtain ⟨y, hd⟩ := get_some S3.out.len.symm hlt
        obtain ⟨b, off, x, rfl, hbB, hxl, hR, hx⟩ := (S3.out.below HB1).at_ hd
        have hl1 : b < wr.heap.size := by have := HB1.size; omega
        obtain ⟨v1, v2, v3, rfl, u3, u4, u5, hq1, hq2, hq3, _⟩ := hR
        obtain ⟨ea3, en3, ec3, rfl⟩ := u3.form'
        have f3 : en3 ≤ 140737488355328 := by have := hq1; rw [← u3.len] at this; unfold Fit at this; omega
        clear u3 hq1
        obtain ⟨ea4, en4, ec4, rfl⟩ := u4.form'
        have f4 : en4 ≤ 140737488355328 := by have := hq2; rw [← u4.len] at this; unfold Fit at this; omega
        clear u4 hq2
        obtain ⟨ea5, en5, ec5, rfl⟩ := u5.form'
        have f5 : en5 ≤ 140737488355328 := by have := hq3; rw [← u5.len] at this; unfold Fit at this; omega
        clear u5 hq3
        have h0 := hx 0 _ rfl
        have h1 := hx 1 _ rfl
        have h2 := hx 2 _ rfl
        have h3 := hx 3 _ rfl
        have h4 := hx 4 _ rfl
        have h5 := hx 5 _ rfl
        simp only [Nat.add_zero] at h0
        have HBr' := Lib.hid HBr
        have Hb := Lib.hid hb
        clear hd hx hxl HB1 HBr hb
        by_cases g3 : L3 < (en3 : Int)
        · go_wp2_with fail
          go_ret
          exact ⟨true, rfl, HBr'.out.alloc (by omega) _⟩
        by_cases g4 : L3 - (en3 : Int) < (en4 : Int)
        · go_wp2_with fail
          go_ret
          exact ⟨true, rfl, HBr'.out.alloc (by omega) _⟩
        by_cases g5 : L3 - (en3 : Int) - (en4 : Int) < (en5 : Int)
        · go_wp2_with fail
          go_ret
          exact ⟨true, rfl, HBr'.out.alloc (by omega) _⟩
        · go_wp2_with fail
          go_roundw
          case rel => exact ⟨k + 1, by omega, by go_num, ⟨L3 - (en3 : Int) - (en4 : Int) - (en5 : Int), rfl, by omega, by omega⟩, Hb.out.alloc (by omega) _⟩
          case measure => simp [intOf]; omega
      · have hge : n3 ≤ k := by omega
        clear hlt HB1
        clear HBr
        go_wp2_with fail
        go_loopw [2, 3, 6] (fun _ lv j wr => ∃ k : Nat, k ≤ n5 ∧ j = .int .i64 k ∧ (∃ L : Int, lv = .int .i64 L ∧ 0 ≤ L ∧ L ≤ 20000) ∧ Below (w.heap.size + 1) W wr) (fun _ _ j _ => n5 - (intOf j).toNat)
        case atStart => exact ⟨0, Nat.zero_le _, rfl, ⟨L3, rfl, hL1, hL2⟩, hb⟩
        case round =>
          obtain ⟨k, hk, rfl, ⟨L5, rfl, hL1, hL2⟩, hb⟩ := hrel
          have hz : w.heap.size + 1 ≤ wr.heap.size := by have := hb.size; rw [HzW.out] at this; exact this
          have hza : w.heap.size < wr.heap.size := by omega
          have ca := (hb.cell (p := ⟨w.heap.size, 5, none⟩) (by show w.heap.size < _; omega)).trans a5
          have HB1 : Below w0.heap.size w0 wr := HB0.trans (hb.mono (by omega))
          have HBr : Below w.heap.size w wr := HBW.trans (hb.mono (by omega))
          by_cases hlt : k < n5
          · obtain ⟨y, hd⟩ := get_some S5.out.len.symm hlt
            obtain ⟨b, off, x, rfl, hbB, hxl, hR, hx⟩ := (S5.out.below HB1).at_ hd
            have hl1 : b < wr.heap.size := by have := HB1.size; omega
            obtain ⟨v1, v2, rfl, u1, u2, hq1, hq2, _⟩ := hR
            obtain ⟨ea1, en1, ec1, rfl⟩ := u1.form'
            have f1 : en1 ≤ 140737488355328 := by have := hq1; rw [← u1.len] at this; unfold Fit at this; omega
            clear u1 hq1
            obtain ⟨ea2, en2, ec2, rfl⟩ := u2.form'
            have f2 : en2 ≤ 140737488355328 := by have := hq2; rw [← u2.len] at this; unfold Fit at this; omega
            clear u2 hq2
            have h0 := hx 0 _ rfl
            have h1 := hx 1 _ rfl
            have h2 := hx 2 _ rfl
            simp only [Nat.add_zero] at h0
            have HBr' := Lib.hid HBr
            have Hb := Lib.hid hb
            clear hd hx hxl HB1 HBr hb
            by_cases g1 : L5 < (en1 : Int)
            · go_wp2_with fail
              go_ret
              exact ⟨true, rfl, HBr'.out.alloc (by omega) _⟩
            by_cases g2 : L5 - (en1 : Int) < (en2 : Int)
            · go_wp2_with fail
              go_ret
              exact ⟨true, rfl, HBr'.out.alloc (by omega) _⟩
            · go_wp2_with fail
              go_roundw
              case rel => exact ⟨k + 1, by omega, by go_num, ⟨L5 - (en1 : Int) - (en2 : Int), rfl, by omega, by omega⟩, Hb.out.alloc (by omega) _⟩
              case measure => simp [intOf]; omega
          · have hge : n5 ≤ k := by omega
            clear hlt HB1
            clear HBr
            go_wp2_with fail
            go_loopw [2, 3, 8] (fun _ lv j wr => ∃ k : Nat, k ≤ n6 ∧ j = .int .i64 k ∧ (∃ L : Int, lv = .int .i64 L ∧ 0 ≤ L ∧ L ≤ 20000) ∧ Below (w.heap.size + 1) W wr) (fun _ _ j _ => n6 - (intOf j).toNat)
            case atStart => exact ⟨0, Nat.zero_le _, rfl, ⟨L5, rfl, hL1, hL2⟩, hb⟩
            case round =>
              obtain ⟨k, hk, rfl, ⟨L6, rfl, hL1, hL2⟩, hb⟩ := hrel
              have hz : w.heap.size + 1 ≤ wr.heap.size := by have := hb.size; rw [HzW.out] at this; exact this
              have hza : w.heap.size < wr.heap.size := by omega
              have ca := (hb.cell (p := ⟨w.heap.size, 6, none⟩) (by show w.heap.size < _; omega)).trans a6
              have HB1 : Below w0.heap.size w0 wr := HB0.trans (hb.mono (by omega))
              have HBr : Below w.heap.size w wr := HBW.trans (hb.mono (by omega))
              by_cases hlt : k < n6
              · obtain ⟨y, hd⟩ := get_some S6.out.len.symm hlt
                obtain ⟨b, off, x, rfl, hbB, hxl, hR, hx⟩ := (S6.out.below HB1).at_ hd
                have hl1 : b < wr.heap.size := by have := HB1.size; omega
                obtain ⟨v1, rfl, u1, hq1, _⟩ := hR
                obtain ⟨ea1, en1, ec1, rfl⟩ := u1.form'
                have f1 : en1 ≤ 140737488355328 := by have := hq1; rw [← u1.len] at this; unfold Fit at this; omega
                clear u1 hq1
                have h0 := hx 0 _ rfl
                have h1 := hx 1 _ rfl
                simp only [Nat.add_zero] at h0
                have HBr' := Lib.hid HBr
                have Hb := Lib.hid hb
                clear hd hx hxl HB1 HBr hb
                by_cases g1 : L6 < (en1 : Int)
                · go_wp2_with fail
                  go_ret
                  exact ⟨true, rfl, HBr'.out⟩
                · go_wp2_with fail
                  go_roundw
                  case rel => exact ⟨k + 1, by omega, by go_num, ⟨L6 - (en1 : Int), rfl, by omega, by omega⟩, Hb.out⟩
                  case measure => simp [intOf]; omega
              · have hge : n6 ≤ k := by omega
                clear hlt HB1
                clear HBr
                go_wp2_with fail
                go_loopw [2, 3, 9] (fun _ lv j wr => ∃ k : Nat, k ≤ n7 ∧ j = .int .i64 k ∧ (∃ L : Int, lv = .int .i64 L ∧ 0 ≤ L ∧ L ≤ 20000) ∧ Below (w.heap.size + 1) W wr) (fun _ _ j _ => n7 - (intOf j).toNat)
                case atStart => exact ⟨0, Nat.zero_le _, rfl, ⟨L6, rfl, hL1, hL2⟩, hb⟩
                case round =>
                  obtain ⟨k, hk, rfl, ⟨L7, rfl, hL1, hL2⟩, hb⟩ := hrel
                  have hz : w.heap.size + 1 ≤ wr.heap.size := by have := hb.size; rw [HzW.out] at this; exact this
                  have hza : w.heap.size < wr.heap.size := by omega
                  have ca := (hb.cell (p := ⟨w.heap.size, 7, none⟩) (by show w.heap.size < _; omega)).trans a7
                  have HB1 : Below w0.heap.size w0 wr := HB0.trans (hb.mono (by omega))
                  have HBr : Below w.heap.size w wr := HBW.trans (hb.mono (by omega))
                  by_cases hlt : k < n7
                  · obtain ⟨y, hd⟩ := get_some S7.out.len.symm hlt
                    obtain ⟨b, off, x, rfl, hbB, hxl, hR, hx⟩ := (S7.out.below HB1).at_ hd
                    have hl1 : b < wr.heap.size := by have := HB1.size; omega
                    obtain ⟨v1, rfl, u1, hq1, _⟩ := hR
                    obtain ⟨ea1, en1, ec1, rfl⟩ := u1.form'
                    have f1 : en1 ≤ 140737488355328 := by have := hq1; rw [← u1.len] at this; unfold Fit at this; omega
                    clear u1 hq1
                    have h0 := hx 0 _ rfl
                    have h1 := hx 1 _ rfl
                    simp only [Nat.add_zero] at h0
                    have HBr' := Lib.hid HBr
                    have Hb := Lib.hid hb
                    clear hd hx hxl HB1 HBr hb
                    by_cases g1 : L7 < (en1 : Int)
                    · go_wp2_with fail
                      go_ret
                      exact ⟨true, rfl, HBr'.out⟩
                    · go_wp2_with fail
                      go_roundw
                      case rel => exact ⟨k + 1, by omega, by go_num, ⟨L7 - (en1 : Int), rfl, by omega, by omega⟩, Hb.out⟩
                      case measure => simp [intOf]; omega
                  · have hge : n7 ≤ k := by omega
                    clear hlt HB1
                    have HBr' := Lib.hid HBr
                    clear HBr
                    go_wp2_with fail
                    go_ret
                    exact ⟨false, rfl, HBr'.out⟩

end Go.Proofs.Ytdhljfblkidohaa
