import Derived.Test.YtdhljfblkidohaaEqA
import Derived.Test.YtdhljfblkidohaaProg
import Derived.Deep.QuietTactic
import Derived.BigQuiet
namespace Go.Proofs.Ytdhljfblkidohaa
set_option linter.unusedSimpArgs false
set_option linter.unusedVariables false
open Go.RowKit

set_option maxHeartbeats 2000000 in
theorem ref_sides {l m : List Side} {v v' : Value} (w w0 : World)
   (hs : SlR w0 w0.heap.size 4 (Side.Is w0 w0.heap.size) v l) (ht : SlR w0 w0.heap.size 4 (Side.Is w0 w0.heap.size) v' m) (hw : Below w0.heap.size w0 w) :
    Calls Try.prog 31 #[v, v'] w fun e w' => e = .returned (.bool (decide (l = m))) ∧ Quiet w w' := by
  obtain ⟨a, c, rfl⟩ : ∃ a c, v = .slice a l.length c := by obtain ⟨a, c, h, _⟩ := hs.form; exact ⟨a, c, h⟩
  obtain ⟨a', c', rfl⟩ : ∃ a c, v' = .slice a m.length c := by obtain ⟨a, c, h, _⟩ := ht.form; exact ⟨a, c, h⟩
  have hn : l.length ≤ 9223372036854775807 := by have := hs.caps; unfold maxLen at this; omega
  rw [← eqBy_eq]
  by_cases hl : l.length = m.length
  · obtain ⟨n, hlen⟩ : ∃ n, l.length = n := ⟨_, rfl⟩
    rw [← hl] at ht ⊢
    rw [hlen] at hs ht hn ⊢
    have Hlen := Lib.hid hlen
    have Hl := Lib.hid hl
    have Hs := Lib.hid hs
    have Ht := Lib.hid ht
    have Hw := Lib.hid hw
    clear hs ht hlen hw hl
    go_enter Try.func31, Try.ntmps31
    go_wp2_with fail
    go_loopw [4, 5] (fun _ j wr => ∃ k : Nat, k ≤ n ∧ j = .int .i64 k ∧ Quiet w wr ∧ Hid (∀ i y z, i < k → l[i]? = some y → m[i]? = some z → (fun a b => decide (a = b)) y z = true)) (fun _ j _ => n - (intOf j).toNat)
    case atStart => exact ⟨0, Nat.zero_le _, rfl, Quiet.refl _, fun i d _ hi => by omega⟩
    case round =>
      obtain ⟨k, hk, rfl, hq, hf⟩ := hrel
      have hb := hq.below w.heap.size
      by_cases hlt : k < n
      · obtain ⟨y, hd⟩ := get_some Hlen.out hlt
        obtain ⟨z, he⟩ := get_some (Hl.out.symm.trans Hlen.out) hlt
        have hw1 := Hw.out.trans (hb.mono Hw.out.size)
        obtain ⟨b, off, x, rfl, hbB, hxl, ⟨v1, rfl, s1, _⟩, hx⟩ := (Hs.out.below hw1).at_ hd
        obtain ⟨b', off', x', rfl, hbB', hxl', ⟨v2, rfl, s2, _⟩, hx'⟩ := (Ht.out.below hw1).at_ he
        have h0 := hx 0 _ rfl
        have h1 := hx 1 _ rfl
        have h2 := hx 2 _ rfl
        have h3 := hx 3 _ rfl
        have g0 := hx' 0 _ rfl
        have g1 := hx' 1 _ rfl
        have g2 := hx' 2 _ rfl
        have g3 := hx' 3 _ rfl
        simp only [Nat.add_zero] at h0 g0
        have HC := Lib.hid (fun W (hW : Below w0.heap.size w0 W) => ref_ints W w0 s1 s2 hW)
        have Hd := Lib.hid hd
        have He := Lib.hid he
        have Hw1 := Lib.hid hw1
        clear hd he hx hxl hx' hxl' hw1 s1 s2
        obtain ⟨p0, p1, p2, p3⟩ := y
        obtain ⟨q0, q1, q2, q3⟩ := z
        dsimp only at *
        by_cases e0 : p0 = q0
        rotate_left
        · have Hv : Hid (decide ((⟨p0, p1, p2, p3⟩ : Side) = ⟨q0, q1, q2, q3⟩) = false) := by show _ = _; simp [e0]
          have e' : (p0 == q0) = false := by simpa using e0
          have e'' : (p0 != q0) = true := by simpa using e0
          clear e0
          go_wp2_with fail
          go_quiet (fail)
          go_wp2_with fail
          go_ret
          exact ⟨by rw [eqBy_no _ l m k _ _ Hd.out He.out (Hv.out)]; rfl, by first | exact hq.drewN _ | exact hq⟩
        subst e0
        by_cases e1 : p1 = q1
        rotate_left
        · have Hv : Hid (decide ((⟨p0, p1, p2, p3⟩ : Side) = ⟨p0, q1, q2, q3⟩) = false) := by show _ = _; simp [e1]
          have e' : (p1.toList == q1.toList) = false := by simpa [toList_inj] using e1
          clear e1
          go_wp2_with fail
          go_quiet (fail)
          go_wp2_with fail
          go_ret
          exact ⟨by rw [eqBy_no _ l m k _ _ Hd.out He.out (Hv.out)]; rfl, by first | exact hq.drewN _ | exact hq⟩
        subst e1
        by_cases e2 : p2 = q2
        rotate_left
        · have Hv : Hid (decide ((⟨p0, p1, p2, p3⟩ : Side) = ⟨p0, p1, q2, q3⟩) = false) := by show _ = _; simp [e2]
          have e' : (p2 == q2) = false := by simpa using e2
          have e'' : (p2 != q2) = true := by simpa using e2
          clear e2
          go_wp2_with fail
          go_quiet (fail)
          go_wp2_with fail
          go_ret
          exact ⟨by rw [eqBy_no _ l m k _ _ Hd.out He.out (Hv.out)]; rfl, by first | exact hq.drewN _ | exact hq⟩
        subst e2
        by_cases e3 : p3 = q3
        · have HB : Hid (decide (p3 = q3) = true) := by show _ = _; simpa using e3
          have Hv : Hid (decide ((⟨p0, p1, p2, p3⟩ : Side) = ⟨p0, p1, p2, q3⟩) = true) := by show _ = _; simp [e3]
          clear e3
          go_wp2_with fail
          go_quiet ((go_at_call 50; exact quiet_call (HC.out _ (below_drewN Hw1.out _)) HB.out))
          go_wp2_with fail
          go_roundw
          case rel => exact ⟨k + 1, by omega, by go_num, by first | exact hq.drewN _ | exact hq, so_far Hd.out He.out Hv.out hf.out⟩
          case measure => simp [intOf]; omega
        · have HB : Hid (decide (p3 = q3) = false) := by show _ = _; simpa using e3
          have Hv : Hid (decide ((⟨p0, p1, p2, p3⟩ : Side) = ⟨p0, p1, p2, q3⟩) = false) := by show _ = _; simp [e3]
          clear e3
          go_wp2_with fail
          go_quiet ((go_at_call 50; exact quiet_call (HC.out _ (below_drewN Hw1.out _)) HB.out))
          go_wp2_with fail
          go_ret
          exact ⟨by rw [eqBy_no _ l m k _ _ Hd.out He.out (Hv.out)]; rfl, by first | exact hq.drewN _ | exact hq⟩
      · have hge : n ≤ k := by omega
        clear hlt
        go_wp2_with fail
        go_ret
        exact ⟨by rw [eqBy_yes _ l m Hl.out (fun i y z hi => hf.out i y z (by have := Hlen.out; omega))]; rfl, hq⟩
  · have hne : ((l.length : Int) != (m.length : Int)) = true := by rw [bne_iff_ne]; omega
    have Hl := Lib.hid hl
    clear hl hs ht hw
    go_enter Try.func31, Try.ntmps31
    go_wp2_with fail
    go_ret
    exact ⟨by rw [eqBy_len _ l m Hl.out]; rfl, Quiet.refl _⟩

end Go.Proofs.Ytdhljfblkidohaa
