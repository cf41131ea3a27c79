/- Chapter 09: both Free of what is no expression; the reference's Texts. -/
import Derived.Test.YtidkbodmiegbkaaDoorKfG
import Derived.Test.YtidkbodmiegbkaaDoorLM2
namespace Go.Proofs.YtidkbodmiegbkaaDoor
set_option linter.unusedSimpArgs false
set_option linter.unusedVariables false
open Go.RowKit

set_option maxHeartbeats 400000 in
theorem ref_texts {l m : List ByteArray} {v v' : Value} (w w0 : World)
   (hs : SlR w0 w0.heap.size 1 IsText v l) (ht : SlR w0 w0.heap.size 1 IsText v' m) (hw : Below w0.heap.size w0 w) :
    Calls Tryd.prog 14 #[v, v'] w fun e w' => e = .returned (.bool (decide (l = m))) ∧ Quiet w w' := by
  obtain ⟨a, c, rfl⟩ : ∃ a c, v = .slice a l.length c := by obtain ⟨a, c, h, _⟩ := hs.form; exact ⟨a, c, h⟩
  obtain ⟨a', c', rfl⟩ : ∃ a c, v' = .slice a m.length c := by obtain ⟨a, c, h, _⟩ := ht.form; exact ⟨a, c, h⟩
  have hn : l.length ≤ 9223372036854775807 := by have := hs.caps; unfold maxLen at this; omega
  rw [← eqBy_eq]
  by_cases hl : l.length = m.length
  · obtain ⟨n, hlen⟩ : ∃ n, l.length = n := ⟨_, rfl⟩
    rw [← hl] at ht ⊢
    rw [hlen] at hs ht hn ⊢
    have Hlen := Lib.hid hlen
    have Hl := Lib.hid hl
    have Hs := Lib.hid hs
    have Ht := Lib.hid ht
    have Hw := Lib.hid hw
    clear hs ht hlen hw hl
    go_enter Tryd.func14, Tryd.ntmps14
    go_wp2_with fail
    go_loopw [4, 5] (fun _ j wr => ∃ k : Nat, k ≤ n ∧ j = .int .i64 k ∧ Quiet w wr ∧ Hid (∀ i y z, i < k → l[i]? = some y → m[i]? = some z → (fun a b => decide (a = b)) y z = true)) (fun _ j _ => n - (intOf j).toNat)
    case atStart => exact ⟨0, Nat.zero_le _, rfl, Quiet.refl _, fun i d _ hi => by omega⟩
    case round =>
      obtain ⟨k, hk, rfl, hq, hf⟩ := hrel
      have hb := hq.below w.heap.size
      by_cases hlt : k < n
      · obtain ⟨y, hd⟩ := get_some Hlen.out hlt
        obtain ⟨z, he⟩ := get_some (Hl.out.symm.trans Hlen.out) hlt
        have hw1 := Hw.out.trans (hb.mono Hw.out.size)
        obtain ⟨b, off, x, rfl, hbB, hxl, ⟨rfl, _⟩, hx⟩ := (Hs.out.below hw1).at_ hd
        obtain ⟨b', off', x', rfl, hbB', hxl', ⟨rfl, _⟩, hx'⟩ := (Ht.out.below hw1).at_ he
        have h0 := hx 0 _ rfl
        have g0 := hx' 0 _ rfl
        simp only [Nat.add_zero, Nat.mul_one] at h0 g0
        have Hd := Lib.hid hd
        have He := Lib.hid he
        clear hd he hx hxl hx' hxl' hw1
        by_cases hyz : y = z
        · subst hyz
          go_wp2_with fail
          go_quiet (fail)
          go_wp2_with fail
          go_roundw
          case rel => exact ⟨k + 1, by omega, by go_num, hq.drewN _, so_far Hd.out He.out (by simp) hf.out⟩
          case measure => simp [intOf]; omega
        · have hne : (y.toList == z.toList) = false := by simpa [toList_inj] using hyz
          have Hyz := Lib.hid hyz
          clear hyz
          go_wp2_with fail
          go_quiet (fail)
          go_wp2_with fail
          go_ret
          exact ⟨by rw [eqBy_no _ l m k y z Hd.out He.out (by simpa using Hyz.out)]; rfl, hq.drewN _⟩
      · have hge : n ≤ k := by omega
        clear hlt
        go_wp2_with fail
        go_ret
        exact ⟨by rw [eqBy_yes _ l m Hl.out (fun i y z hi => hf.out i y z (by have := Hlen.out; omega))]; rfl, hq⟩
  · have hne : ((l.length : Int) != (m.length : Int)) = true := by rw [bne_iff_ne]; omega
    have Hl := Lib.hid hl
    clear hl hs ht hw
    go_enter Tryd.func14, Tryd.ntmps14
    go_wp2_with fail
    go_ret
    exact ⟨by rw [eqBy_len _ l m Hl.out]; rfl, Quiet.refl _⟩

set_option maxRecDepth 100000 in
set_option maxHeartbeats 4000000 in
theorem free_bad {l : List ND} {v : Value} (w w0 : World) (hs : SlR w0 w0.heap.size 4 (ND.Is w0 w0.heap.size) v l) (hok : ∀ d ∈ l, NdOk d) (hm : Marks w0) (hp : Pow w0) (htk : TakesB w0) (hw : Below w0.heap.size w0 w) (hr : rightE l ≠ 0) :
    Calls Tryd.prog 12 #[.agg #[v]] w fun e w' => e = .returned (.tuple #[.slice none 0 0, .int .i64 (rightE l : Int)]) ∧ Below w.heap.size w w' := by
  obtain ⟨a, c, rfl⟩ : ∃ a c, v = .slice a l.length c := by obtain ⟨a, c, h, _⟩ := hs.form; exact ⟨a, c, h⟩
  obtain ⟨n, hn⟩ : ∃ n, l.length = n := ⟨_, rfl⟩
  have HR := Lib.hid (look_bad (w.alloc (.cells #[.slice a n c] 24)) w0 hs hok hm hp htk (hw.alloc hw.size _) hr)
  rw [hn] at HR ⊢
  obtain ⟨r, hrr⟩ : ∃ r, rightE l = r := ⟨_, rfl⟩
  rw [hrr] at HR hr ⊢
  clear hs hok hm hp hw hn hrr hr htk
  go_enter Tryd.func12, Tryd.ntmps12
  go_wp2_with (first
    | (go_at_call 15; go_must (refine HR.out.mono ?_); rintro e w3 ⟨rfl, hb⟩; have HB := Lib.hid hb; clear hb)
    | fail)
  go_ret2
  exact ⟨rfl, ((Below.refl _ _).alloc (Nat.le_refl _) _).trans (HB.out.mono (by simp <;> omega))⟩
set_option maxRecDepth 100000 in
set_option maxHeartbeats 4000000 in
theorem rfree_bad {l : List ND} {v : Value} (w w0 : World) (hs : SlR w0 w0.heap.size 4 (ND.Is w0 w0.heap.size) v l) (hok : ∀ d ∈ l, NdOk d) (hw : Below w0.heap.size w0 w) (hr : rightE l ≠ 0) :
    Calls Tryd.prog 13 #[.agg #[v]] w fun e w' => e = .returned (.tuple #[.slice none 0 0, .int .i64 (rightE l : Int)]) ∧ Below w.heap.size w w' := by
  obtain ⟨a, c, rfl⟩ : ∃ a c, v = .slice a l.length c := by obtain ⟨a, c, h, _⟩ := hs.form; exact ⟨a, c, h⟩
  obtain ⟨n, hn⟩ : ∃ n, l.length = n := ⟨_, rfl⟩
  have HR := Lib.hid (rright (w.alloc (.cells #[.slice a n c] 24)) w0 hs hok (hw.alloc hw.size _))
  rw [hn] at HR ⊢
  obtain ⟨r, hrr⟩ : ∃ r, rightE l = r := ⟨_, rfl⟩
  rw [hrr] at HR hr ⊢
  have e0 : ((r : Int) != 0) = true := by rw [bne_iff_ne]; omega
  clear hs hok hw hn hrr hr
  go_enter Tryd.func13, Tryd.ntmps13
  go_wp2_with (first
    | (go_at_call 16; go_must (refine HR.out.mono ?_); rintro e w3 ⟨rfl, hb⟩; have HB := Lib.hid hb; clear hb)
    | fail)
  go_ret2
  exact ⟨rfl, ((Below.refl _ _).alloc (Nat.le_refl _) _).trans (HB.out.mono (by simp <;> omega))⟩
end Go.Proofs.YtidkbodmiegbkaaDoor
