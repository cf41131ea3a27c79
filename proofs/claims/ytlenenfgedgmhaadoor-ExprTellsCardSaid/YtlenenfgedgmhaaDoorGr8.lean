/- topiarylaw08.great: it answers whatever comes in. -/
import Derived.Test.YtlenenfgedgmhaaDoorNd
namespace Go.Proofs.YtlenenfgedgmhaaDoor
set_option linter.unusedSimpArgs false
set_option linter.unusedVariables false
open Go.RowKit
set_option maxRecDepth 100000 in
set_option maxHeartbeats 8000000 in
theorem great_any {l : List ND} {v : Value} (w w0 : World) (hs : SlR w0 w0.heap.size 4 (ND.Is w0 w0.heap.size) v l) (hw : Below w0.heap.size w0 w) :
    Calls Tryd.prog 12 #[.agg #[v]] w fun e w' => (∃ b : Bool, e = .returned (.bool b)) ∧ Below w.heap.size w w' := by
  obtain ⟨a, c, rfl⟩ : ∃ a c, v = .slice a l.length c := by obtain ⟨a, c, h, _⟩ := hs.form; exact ⟨a, c, h⟩
  have hn63 : l.length ≤ 9223372036854775807 := by have := hs.caps; unfold maxLen at this; omega
  have HS := Lib.hid hs
  have HW := Lib.hid hw
  obtain ⟨n, hn⟩ : ∃ n, l.length = n := ⟨_, rfl⟩
  have HN := Lib.hid hn
  rw [hn] at hn63 ⊢
  have B0 : Hid (Below w.heap.size w (w.alloc (.cells #[.slice a n c] 24))) := Lib.hid ((Below.refl _ _).alloc (Nat.le_refl _) _)
  clear hs hw hn
  go_enter Tryd.func12, Tryd.ntmps12
  go_wp2_with fail
  go_loopw [2, 3, 4] (fun _ sv jv wr => ∃ j s : Nat, j ≤ n ∧ j ≤ 1000 ∧ s ≤ 5001 ∧ sv = .int .i64 (s : Int) ∧ jv = .int .i64 (j : Int) ∧ Hid (Below w.heap.size w wr) ∧ Hid (Blk wr w.heap.size 24 #[.slice a n c])) (fun _ _ jv _ => n - (intOf jv).toNat)
  case atStart => exact ⟨0, 0, Nat.zero_le _, Nat.zero_le _, Nat.zero_le _, by go_num, by go_num, B0, Lib.hid (Blk.new _ _ _)⟩
  case round =>
    obtain ⟨j, s, hj, hj1, hs5, rfl, rfl, HB, HK⟩ := hrel
    have q0 : wr.cell? ⟨w.heap.size, 0, none⟩ = some (.slice a n c) := HK.out.cell (i := 0) rfl
    have lq := HK.out.lt
    have j0 : (0 : Int) ≤ (j : Int) := Int.natCast_nonneg _
    have s0 : (0 : Int) ≤ (s : Int) := Int.natCast_nonneg _
    have s63 : (s : Int) ≤ 5001 := by omega
    by_cases hlt : j < n
    · by_cases hlt1 : j < 1000
      · obtain ⟨d, hd⟩ := get_some HN.out hlt
        have hwr : Below w0.heap.size w0 wr := HW.out.trans (HB.out.mono HW.out.size)
        have lb : 0 ≤ wr.heap.size := Nat.zero_le _
        obtain ⟨bN, off, x, rfl, hbN, _, ⟨kv, rfl, hks⟩, hx⟩ := (HS.out.below hwr).at_ hd
        obtain ⟨ka, kc, rfl, _⟩ := hks.form
        have hcap := hks.caps
        have c3 := hx 3 _ rfl
        obtain ⟨k, hk⟩ : ∃ k, d.kids.length = k := ⟨_, rfl⟩
        rw [hk] at c3 hcap
        have hk63 : k ≤ 9223372036854775807 := by unfold maxLen at hcap; omega
        have k0 : (0 : Int) ≤ (k : Int) := Int.natCast_nonneg _
        have k63 : (k : Int) ≤ 9223372036854775807 := by omega
        clear hd hx hks hwr hcap hk
        by_cases hk5 : 5000 - (s : Int) < (k : Int)
        · have d1 : decide (5000 - (s : Int) < (k : Int)) = true := by simpa using hk5
          go_wp2_with fail
          go_ret
          exact ⟨⟨_, rfl⟩, HB.out⟩
        · have d1 : decide (5000 - (s : Int) < (k : Int)) = false := by simpa using hk5
          have k64 : (s : Int) + 1 + (k : Int) ≤ 5001 := by omega
          go_wp2_with fail
          go_roundw
          case rel => exact ⟨j + 1, s + 1 + k, by omega, by omega, by omega, by go_num, by go_num, HB, HK⟩
          case measure => simp [intOf]; omega
      · obtain rfl : j = 1000 := by omega
        have djj : decide (((1000 : Nat) : Int) < 1000) = false := by decide
        obtain ⟨b1, hb1⟩ : ∃ b, decide ((5000 : Int) < (s : Int)) = b := ⟨_, rfl⟩
        obtain ⟨b2, hb2⟩ : ∃ b, decide ((1000 : Int) < (n : Int)) = b := ⟨_, rfl⟩
        have hb1' : decide (5000 < s) = b1 := by rw [← hb1]; congr 1; apply propext; omega
        have hb2' : decide (1000 < n) = b2 := by rw [← hb2]; congr 1; apply propext; omega
        clear hlt1 hj1
        cases b1 <;> cases b2
        all_goals
          go_wp2_with fail
          go_ret
          exact ⟨⟨_, rfl⟩, HB.out⟩
    · obtain rfl : j = n := by omega
      have djj : decide (j < j) = false := by simp
      obtain ⟨b1, hb1⟩ : ∃ b, decide ((5000 : Int) < (s : Int)) = b := ⟨_, rfl⟩
      obtain ⟨b2, hb2⟩ : ∃ b, decide ((1000 : Int) < (j : Int)) = b := ⟨_, rfl⟩
      have hb1' : decide (5000 < s) = b1 := by rw [← hb1]; congr 1; apply propext; omega
      have hb2' : decide (1000 < j) = b2 := by rw [← hb2]; congr 1; apply propext; omega
      clear hlt hj1
      cases b1 <;> cases b2
      all_goals
        go_wp2_with fail
        go_ret
        exact ⟨⟨_, rfl⟩, HB.out⟩
end Go.Proofs.YtlenenfgedgmhaaDoor
