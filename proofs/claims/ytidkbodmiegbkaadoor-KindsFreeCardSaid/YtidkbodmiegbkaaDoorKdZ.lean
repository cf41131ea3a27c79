/- Chapter 09: the reference's small functions. -/
import Derived.Test.YtidkbodmiegbkaaDoorKdQ
import Derived.Deep.CutRange
import Derived.Deep.CutBlock
namespace Go.Proofs.YtidkbodmiegbkaaDoor
set_option linter.unusedSimpArgs false
set_option linter.unusedVariables false
open Go.RowKit

theorem upF_at {l : List ND} {a : Int} {i k : Nat} {d : ND} (h1 : ∀ i' d', i' < i → l[i']? = some d' → ∀ x ∈ d'.kids, x ≠ a) (hd : l[i]? = some d) (hk : d.kids[k]? = some a) (h2 : ∀ k' x, k' < k → d.kids[k']? = some x → x ≠ a) : upF l a = ((i : Int), (k : Int)) := by
  have hil := (List.getElem?_eq_some_iff.1 hd).1
  have hfi : l.findIdx? (fun d => d.kids.any (fun x => decide (x = a))) = some i := by
    rw [List.findIdx?_eq_some_iff_getElem]
    refine ⟨hil, ?_, fun j hj => ?_⟩
    · rw [(List.getElem?_eq_some_iff.1 hd).2, List.any_eq_true]
      exact ⟨a, List.mem_iff_getElem?.2 ⟨k, hk⟩, by simp⟩
    · rw [Bool.not_eq_true, List.any_eq_false]
      intro x hx
      have := h1 j _ hj (List.getElem?_eq_getElem (by omega)) x hx
      simpa using this
  unfold upF
  rw [hfi]
  simp only [hd]
  congr 2
  have hkl := (List.getElem?_eq_some_iff.1 hk).1
  rw [List.findIdx_eq hkl]
  refine ⟨by rw [(List.getElem?_eq_some_iff.1 hk).2]; simp, fun j hj => ?_⟩
  have := h2 j _ hj (List.getElem?_eq_getElem (by omega))
  simpa using this
theorem upF_none {l : List ND} {a : Int} (h : ∀ (i : Nat) (d : ND), l[i]? = some d → ∀ x ∈ d.kids, x ≠ a) : upF l a = (-1, 0) := by
  unfold upF
  have : l.findIdx? (fun d => d.kids.any (fun x => decide (x = a))) = none := by
    rw [List.findIdx?_eq_none_iff]
    intro d hd
    obtain ⟨i, hi⟩ := List.mem_iff_getElem?.1 hd
    rw [List.any_eq_false]
    intro x hx
    simpa using h i d hi x hx
  rw [this]
set_option maxRecDepth 100000 in
set_option maxHeartbeats 8000000 in
theorem up_any {l : List ND} {v : Value} (w w0 : World) (hs : SlR w0 w0.heap.size 4 (ND.Is w0 w0.heap.size) v l) (hl : l.length ≤ 256) (hw : Below w0.heap.size w0 w) (a : Int) :
    Calls Tryd.prog 28 #[.agg #[v], .int .i64 a] w fun e w' => e = .returned (.tuple #[.int .i64 (upF l a).1, .int .i64 (upF l a).2]) ∧ Below w.heap.size w w' := by
  obtain ⟨va, vc, rfl, _, _⟩ := hs.form
  obtain ⟨nl, hnl⟩ : ∃ x, l.length = x := ⟨_, rfl⟩
  rw [hnl] at hs hl ⊢
  have HS := Lib.hid hs
  have HW := Lib.hid hw
  have HNL := Lib.hid hnl
  have B0 : Hid (Blk (w.alloc (.cells #[.slice va nl vc] 24)) w.heap.size 24 #[.slice va nl vc]) := Lib.hid (Blk.new _ _ _)
  clear hs hw hnl
  go_enter Tryd.func28, Tryd.ntmps28
  go_wp2_with fail
  have e0 : (w.alloc (.cells #[.slice va nl vc] 24)).cell? ⟨w.heap.size, 0, none⟩ = some (.slice va nl vc) := B0.out.cell rfl
  have HB0 := Lib.hid ((Below.refl w.heap.size w).alloc (Nat.le_refl _) (.cells #[.slice va nl vc] 24))
  have HB6 := Lib.hid (HW.out.alloc HW.out.size (.cells #[.slice va nl vc] 24))
  obtain ⟨q, hq⟩ : ∃ q, w.heap.size = q := ⟨_, rfl⟩
  generalize hW1 : w.alloc (.cells #[.slice va nl vc] 24) = W1 at *
  rw [hq] at B0 e0 ⊢
  clear hW1
  obtain ⟨pr, hpr⟩ : ∃ z, upF l a = z := ⟨_, rfl⟩
  have HPR := Lib.hid hpr
  clear hpr
  go_loopw [6] (fun v6 wr => ∃ i : Nat, i ≤ nl ∧ v6 = .int .i64 (i : Int) ∧ Hid (∀ i' d', i' < i → l[i']? = some d' → ∀ x ∈ d'.kids, x ≠ a) ∧ W1 = wr) (fun v6 _ => nl - (intOf v6).toNat)
  case atStart => exact ⟨0, Nat.zero_le _, rfl, Lib.hid (fun i' d' h => by omega), rfl⟩
  case round =>
    obtain ⟨i, hi, rfl, h1, rfl⟩ := hrel
    by_cases hlt : i < nl
    · obtain ⟨d, hd⟩ := get_some HNL.out hlt
      obtain ⟨bb, off, x, rfl, hbB, hxl, ⟨kv, rfl, hkv⟩, hx⟩ := (HS.out.below HB6.out).at_ hd
      obtain ⟨ka, kc, rfl, _, _⟩ := hkv.form
      have x3 := hx 3 _ rfl
      obtain ⟨nk, hnk⟩ : ∃ z, d.kids.length = z := ⟨_, rfl⟩
      rw [hnk] at x3 hkv
      have nk63 : nk ≤ 9223372036854775807 := by have := hkv.caps; unfold maxLen at this; omega
      have HKV := Lib.hid hkv
      have HNK := Lib.hid hnk
      have HD := Lib.hid hd
      have i0 : (0 : Int) ≤ (i : Int) := Int.natCast_nonneg _
      have i1 : (i : Int) < (nl : Int) := by omega
      clear hd hxl hx hkv hnk
      go_wp2_with fail
      go_loopw [7] (fun v7 wx => ∃ k : Nat, k ≤ nk ∧ v7 = .int .i64 (k : Int) ∧ Hid (∀ k' x, k' < k → d.kids[k']? = some x → x ≠ a) ∧ W1 = wx) (fun v7 _ => nk - (intOf v7).toNat)
      case atStart => exact ⟨0, Nat.zero_le _, rfl, Lib.hid (fun k' x h => by omega), rfl⟩
      case round =>
        obtain ⟨k, hk, rfl, h2, rfl⟩ := hrel
        by_cases hlk : k < nk
        · obtain ⟨y, hy⟩ := get_some HNK.out hlk
          obtain ⟨kb, ko, z, rfl, hz, hzl, rfl, hzx⟩ := (HKV.out.below HB6.out).at_ hy
          have z0 := hzx 0 _ rfl
          simp only [Nat.add_zero, Nat.mul_one] at z0
          have k0 : (0 : Int) ≤ (k : Int) := Int.natCast_nonneg _
          have k1 : (k : Int) < (nk : Int) := by omega
          have HY := Lib.hid hy
          clear hy hz hzl hzx
          by_cases hya : y = a
          · subst hya
            have ey : (y == y) = true := by simp
            have hu := upF_at h1.out HD.out HY.out h2.out
            have HU := Lib.hid hu
            clear hu
            go_wp2_with fail
            go_ret2
            exact ⟨by rw [HU.out]; try rfl, by first | exact HB0.out | (rw [← hq]; exact HB0.out)⟩
          · have ey : (y == a) = false := by simpa using hya
            have HYA := Lib.hid hya
            clear hya
            go_wp2_with fail
            go_roundw
            case rel =>
              refine ⟨k + 1, by omega, by go_num, Lib.hid (fun k' x hk' hx => ?_), by trivial⟩
              by_cases e : k' = k
              · subst e
                have := HY.out.symm.trans hx
                injection this with this
                rw [← this]
                exact HYA.out
              · exact h2.out k' x (by omega) hx
            case measure => simp [intOf]; omega
        · have hkn : k = nk := by omega
          subst hkn
          clear hlk hk
          go_wp2_with fail
          go_roundw
          case rel =>
            refine ⟨i + 1, by omega, by go_num, Lib.hid (fun i' d' hi' hd' x hx => ?_), by trivial⟩
            by_cases e : i' = i
            · subst e
              have := HD.out.symm.trans hd'
              injection this with this
              subst this
              obtain ⟨j, hj⟩ := List.mem_iff_getElem?.1 hx
              exact h2.out j x (by rw [← HNK.out]; exact (List.getElem?_eq_some_iff.1 hj).1) hj
            · exact h1.out i' d' (by omega) hd' x hx
          case measure => simp [intOf]; omega
    · have hin : i = nl := by omega
      subst hin
      have hu := upF_none (l := l) (a := a) (fun j d hd => h1.out j d (by rw [← HNL.out]; exact (List.getElem?_eq_some_iff.1 hd).1) hd)
      have HU := Lib.hid hu
      clear hu hlt hi
      go_wp2_with fail
      go_ret2
      exact ⟨by rw [HU.out]; try rfl, by first | exact HB0.out | (rw [← hq]; exact HB0.out)⟩

set_option maxRecDepth 100000 in
set_option maxHeartbeats 8000000 in
theorem one_any {k : Nat} (a : Int) (w : World) (h : (8 ≤ k ∧ k ≤ 19) ∨ k = 29) :
    Calls Tryd.prog 24 #[.int .i64 (k : Int), .int .i64 a] w fun e w' => e = .returned (.int .i64 (oneK k a)) ∧ w = w' := by
  rcases (by omega : k = 8 ∨ k = 17 ∨ k = 16 ∨ k = 9 ∨ k = 13 ∨ k = 10 ∨ k = 11 ∨ k = 15 ∨ k = 12 ∨ k = 29 ∨ k = 18 ∨ k = 14 ∨ k = 19) with rfl | rfl | rfl | rfl | rfl | rfl | rfl | rfl | rfl | rfl | rfl | rfl | rfl
  · clear h
    by_cases ha : a = 4
    · subst ha
      rw [show oneK 8 4 = 2 from rfl]
      go_enter Tryd.func24, Tryd.ntmps24
      go_wp2_with fail
      go_ret
      exact ⟨rfl, rfl⟩
    · have ea : (a == 4) = false := by simpa using ha
      rw [show oneK 8 a = 0 by unfold oneK; simp [ha]]
      clear ha
      go_enter Tryd.func24, Tryd.ntmps24
      go_wp2_with fail
      go_ret
      exact ⟨rfl, rfl⟩
  · clear h
    by_cases ha : a = 4
    · subst ha
      rw [show oneK 17 4 = 2 from rfl]
      go_enter Tryd.func24, Tryd.ntmps24
      go_wp2_with fail
      go_ret
      exact ⟨rfl, rfl⟩
    · have ea : (a == 4) = false := by simpa using ha
      rw [show oneK 17 a = 0 by unfold oneK; simp [ha]]
      clear ha
      go_enter Tryd.func24, Tryd.ntmps24
      go_wp2_with fail
      go_ret
      exact ⟨rfl, rfl⟩
  · clear h
    by_cases ha : a = 1
    · subst ha
      rw [show oneK 16 1 = 2 from rfl]
      go_enter Tryd.func24, Tryd.ntmps24
      go_wp2_with fail
      go_ret
      exact ⟨rfl, rfl⟩
    · have ea : (a == 1) = false := by simpa using ha
      rw [show oneK 16 a = 0 by unfold oneK; simp [ha]]
      clear ha
      go_enter Tryd.func24, Tryd.ntmps24
      go_wp2_with fail
      go_ret
      exact ⟨rfl, rfl⟩
  · clear h
    by_cases ha : a = 4
    · subst ha
      rw [show oneK 9 4 = 5 from rfl]
      go_enter Tryd.func24, Tryd.ntmps24
      go_wp2_with fail
      go_ret
      exact ⟨rfl, rfl⟩
    · have ea : (a == 4) = false := by simpa using ha
      rw [show oneK 9 a = 0 by unfold oneK; simp [ha]]
      clear ha
      go_enter Tryd.func24, Tryd.ntmps24
      go_wp2_with fail
      go_ret
      exact ⟨rfl, rfl⟩
  · clear h
    by_cases ha : a = 4
    · subst ha
      rw [show oneK 13 4 = 5 from rfl]
      go_enter Tryd.func24, Tryd.ntmps24
      go_wp2_with fail
      go_ret
      exact ⟨rfl, rfl⟩
    · have ea : (a == 4) = false := by simpa using ha
      rw [show oneK 13 a = 0 by unfold oneK; simp [ha]]
      clear ha
      go_enter Tryd.func24, Tryd.ntmps24
      go_wp2_with fail
      go_ret
      exact ⟨rfl, rfl⟩
  · clear h
    by_cases ha : a = 4
    · subst ha
      rw [show oneK 10 4 = 4 from rfl]
      go_enter Tryd.func24, Tryd.ntmps24
      go_wp2_with fail
      go_ret
      exact ⟨rfl, rfl⟩
    · have ea : (a == 4) = false := by simpa using ha
      rw [show oneK 10 a = 0 by unfold oneK; simp [ha]]
      clear ha
      go_enter Tryd.func24, Tryd.ntmps24
      go_wp2_with fail
      go_ret
      exact ⟨rfl, rfl⟩
  · clear h
    by_cases ha : a = 4
    · subst ha
      rw [show oneK 11 4 = 4 from rfl]
      go_enter Tryd.func24, Tryd.ntmps24
      go_wp2_with fail
      go_ret
      exact ⟨rfl, rfl⟩
    · have ea : (a == 4) = false := by simpa using ha
      rw [show oneK 11 a = 0 by unfold oneK; simp [ha]]
      clear ha
      go_enter Tryd.func24, Tryd.ntmps24
      go_wp2_with fail
      go_ret
      exact ⟨rfl, rfl⟩
  · clear h
    by_cases ha : a = 5
    · subst ha
      rw [show oneK 15 5 = 4 from rfl]
      go_enter Tryd.func24, Tryd.ntmps24
      go_wp2_with fail
      go_ret
      exact ⟨rfl, rfl⟩
    · have ea : (a == 5) = false := by simpa using ha
      rw [show oneK 15 a = 0 by unfold oneK; simp [ha]]
      clear ha
      go_enter Tryd.func24, Tryd.ntmps24
      go_wp2_with fail
      go_ret
      exact ⟨rfl, rfl⟩
  · clear h
    by_cases ha : a = 4
    · subst ha
      rw [show oneK 12 4 = 3 from rfl]
      go_enter Tryd.func24, Tryd.ntmps24
      go_wp2_with fail
      go_ret
      exact ⟨rfl, rfl⟩
    · have ea : (a == 4) = false := by simpa using ha
      rw [show oneK 12 a = 0 by unfold oneK; simp [ha]]
      clear ha
      go_enter Tryd.func24, Tryd.ntmps24
      go_wp2_with fail
      go_ret
      exact ⟨rfl, rfl⟩
  · clear h
    by_cases ha : a = 3
    · subst ha
      rw [show oneK 29 3 = 3 from rfl]
      go_enter Tryd.func24, Tryd.ntmps24
      go_wp2_with fail
      go_ret
      exact ⟨rfl, rfl⟩
    · have ea : (a == 3) = false := by simpa using ha
      rw [show oneK 29 a = 0 by unfold oneK; simp [ha]]
      clear ha
      go_enter Tryd.func24, Tryd.ntmps24
      go_wp2_with fail
      go_ret
      exact ⟨rfl, rfl⟩
  · clear h
    by_cases ha : a = 4
    · subst ha
      rw [show oneK 18 4 = 1 from rfl]
      go_enter Tryd.func24, Tryd.ntmps24
      go_wp2_with fail
      go_ret
      exact ⟨rfl, rfl⟩
    · have ea : (a == 4) = false := by simpa using ha
      rw [show oneK 18 a = 0 by unfold oneK; simp [ha]]
      clear ha
      go_enter Tryd.func24, Tryd.ntmps24
      go_wp2_with fail
      go_ret
      exact ⟨rfl, rfl⟩
  · clear h
    by_cases ha : a = 5
    · subst ha
      rw [show oneK 14 5 = 1 from rfl]
      go_enter Tryd.func24, Tryd.ntmps24
      go_wp2_with fail
      go_ret
      exact ⟨rfl, rfl⟩
    · have ea : (a == 5) = false := by simpa using ha
      rw [show oneK 14 a = 0 by unfold oneK; simp [ha]]
      clear ha
      go_enter Tryd.func24, Tryd.ntmps24
      go_wp2_with fail
      go_ret
      exact ⟨rfl, rfl⟩
  · clear h
    by_cases ha : a = 2
    · subst ha
      rw [show oneK 19 2 = 1 from rfl]
      go_enter Tryd.func24, Tryd.ntmps24
      go_wp2_with fail
      go_ret
      exact ⟨rfl, rfl⟩
    · have ea : (a == 2) = false := by simpa using ha
      rw [show oneK 19 a = 0 by unfold oneK; simp [ha]]
      clear ha
      go_enter Tryd.func24, Tryd.ntmps24
      go_wp2_with fail
      go_ret
      exact ⟨rfl, rfl⟩
set_option maxRecDepth 100000 in
set_option maxHeartbeats 8000000 in
theorem two_any {k : Nat} (a b : Int) (w : World) (h : (20 ≤ k ∧ k ≤ 28) ∨ (31 ≤ k ∧ k ≤ 34)) :
    Calls Tryd.prog 25 #[.int .i64 (k : Int), .int .i64 a, .int .i64 b] w fun e w' => e = .returned (.int .i64 (twoK k a b)) ∧ w = w' := by
  rcases (by omega : k = 20 ∨ k = 21 ∨ k = 22 ∨ k = 23 ∨ k = 24 ∨ k = 25 ∨ k = 26 ∨ k = 27 ∨ k = 28 ∨ k = 31 ∨ k = 32 ∨ k = 33 ∨ k = 34) with rfl | rfl | rfl | rfl | rfl | rfl | rfl | rfl | rfl | rfl | rfl | rfl | rfl
  · clear h
    by_cases hab : a = b
    · subst hab
      have eab : (a == a) = true := by simp
      by_cases h1 : a = 1
      · subst h1
        rw [show twoK 20 1 1 = 1 from rfl]
        go_enter Tryd.func25, Tryd.ntmps25
        go_wp2_with fail
        go_ret
        exact ⟨rfl, rfl⟩
      · have e1 : (a == 1) = false := by simpa using h1
        by_cases h2 : a = 2
        · subst h2
          rw [show twoK 20 2 2 = 2 from rfl]
          go_enter Tryd.func25, Tryd.ntmps25
          go_wp2_with fail
          go_ret
          exact ⟨rfl, rfl⟩
        · have e2 : (a == 2) = false := by simpa using h2
          rw [show twoK 20 a a = 0 by unfold twoK; simp [h1, h2]]
          clear h1 h2
          go_enter Tryd.func25, Tryd.ntmps25
          go_wp2_with fail
          go_ret
          exact ⟨rfl, rfl⟩
    · have eab : (a == b) = false := by simpa using hab
      rw [show twoK 20 a b = 0 by unfold twoK; simp [hab]]
      clear hab
      go_enter Tryd.func25, Tryd.ntmps25
      go_wp2_with fail
      go_ret
      exact ⟨rfl, rfl⟩
  · clear h
    by_cases ha : a = 1
    · subst ha
      by_cases hb : b = 1
      · subst hb
        rw [show twoK 21 1 1 = 1 from rfl]
        go_enter Tryd.func25, Tryd.ntmps25
        go_wp2_with fail
        go_ret
        exact ⟨rfl, rfl⟩
      · have eb : (b == 1) = false := by simpa using hb
        rw [show twoK 21 1 b = 0 by unfold twoK; simp [hb]]
        clear hb
        go_enter Tryd.func25, Tryd.ntmps25
        go_wp2_with fail
        go_ret
        exact ⟨rfl, rfl⟩
    · have ea : (a == 1) = false := by simpa using ha
      rw [show twoK 21 a b = 0 by unfold twoK; simp [ha]]
      clear ha
      go_enter Tryd.func25, Tryd.ntmps25
      go_wp2_with fail
      go_ret
      exact ⟨rfl, rfl⟩
  · clear h
    by_cases ha : a = 1
    · subst ha
      by_cases hb : b = 1
      · subst hb
        rw [show twoK 22 1 1 = 1 from rfl]
        go_enter Tryd.func25, Tryd.ntmps25
        go_wp2_with fail
        go_ret
        exact ⟨rfl, rfl⟩
      · have eb : (b == 1) = false := by simpa using hb
        rw [show twoK 22 1 b = 0 by unfold twoK; simp [hb]]
        clear hb
        go_enter Tryd.func25, Tryd.ntmps25
        go_wp2_with fail
        go_ret
        exact ⟨rfl, rfl⟩
    · have ea : (a == 1) = false := by simpa using ha
      rw [show twoK 22 a b = 0 by unfold twoK; simp [ha]]
      clear ha
      go_enter Tryd.func25, Tryd.ntmps25
      go_wp2_with fail
      go_ret
      exact ⟨rfl, rfl⟩
  · clear h
    by_cases hab : a = b
    · subst hab
      have eab : (a == a) = true := by simp
      by_cases h1 : a = 5
      · subst h1
        rw [show twoK 23 5 5 = 0 from rfl]
        go_enter Tryd.func25, Tryd.ntmps25
        go_wp2_with fail
        go_ret
        exact ⟨rfl, rfl⟩
      · have e1 : (a != 5) = true := by simpa using h1
        rw [show twoK 23 a a = 3 by unfold twoK; simp [h1]]
        clear h1
        go_enter Tryd.func25, Tryd.ntmps25
        go_wp2_with fail
        go_ret
        exact ⟨rfl, rfl⟩
    · have eab : (a == b) = false := by simpa using hab
      rw [show twoK 23 a b = 0 by unfold twoK; simp [hab]]
      clear hab
      go_enter Tryd.func25, Tryd.ntmps25
      go_wp2_with fail
      go_ret
      exact ⟨rfl, rfl⟩
  · clear h
    by_cases hab : a = b
    · subst hab
      have eab : (a == a) = true := by simp
      by_cases h1 : a = 5
      · subst h1
        rw [show twoK 24 5 5 = 0 from rfl]
        go_enter Tryd.func25, Tryd.ntmps25
        go_wp2_with fail
        go_ret
        exact ⟨rfl, rfl⟩
      · have e1 : (a != 5) = true := by simpa using h1
        rw [show twoK 24 a a = 3 by unfold twoK; simp [h1]]
        clear h1
        go_enter Tryd.func25, Tryd.ntmps25
        go_wp2_with fail
        go_ret
        exact ⟨rfl, rfl⟩
    · have eab : (a == b) = false := by simpa using hab
      rw [show twoK 24 a b = 0 by unfold twoK; simp [hab]]
      clear hab
      go_enter Tryd.func25, Tryd.ntmps25
      go_wp2_with fail
      go_ret
      exact ⟨rfl, rfl⟩
  · clear h
    by_cases hab : a = b
    · subst hab
      have eab : (a == a) = true := by simp
      by_cases h1 : a = 1
      · subst h1
        rw [show twoK 25 1 1 = 3 from rfl]
        go_enter Tryd.func25, Tryd.ntmps25
        go_wp2_with fail
        go_ret
        exact ⟨rfl, rfl⟩
      · have e1 : (a == 1) = false := by simpa using h1
        by_cases h2 : a = 2
        · subst h2
          rw [show twoK 25 2 2 = 3 from rfl]
          go_enter Tryd.func25, Tryd.ntmps25
          go_wp2_with fail
          go_ret
          exact ⟨rfl, rfl⟩
        · have e2 : (a == 2) = false := by simpa using h2
          rw [show twoK 25 a a = 0 by unfold twoK; simp [h1, h2]]
          clear h1 h2
          go_enter Tryd.func25, Tryd.ntmps25
          go_wp2_with fail
          go_ret
          exact ⟨rfl, rfl⟩
    · have eab : (a == b) = false := by simpa using hab
      rw [show twoK 25 a b = 0 by unfold twoK; simp [hab]]
      clear hab
      go_enter Tryd.func25, Tryd.ntmps25
      go_wp2_with fail
      go_ret
      exact ⟨rfl, rfl⟩
  · clear h
    by_cases hab : a = b
    · subst hab
      have eab : (a == a) = true := by simp
      by_cases h1 : a = 1
      · subst h1
        rw [show twoK 26 1 1 = 3 from rfl]
        go_enter Tryd.func25, Tryd.ntmps25
        go_wp2_with fail
        go_ret
        exact ⟨rfl, rfl⟩
      · have e1 : (a == 1) = false := by simpa using h1
        by_cases h2 : a = 2
        · subst h2
          rw [show twoK 26 2 2 = 3 from rfl]
          go_enter Tryd.func25, Tryd.ntmps25
          go_wp2_with fail
          go_ret
          exact ⟨rfl, rfl⟩
        · have e2 : (a == 2) = false := by simpa using h2
          rw [show twoK 26 a a = 0 by unfold twoK; simp [h1, h2]]
          clear h1 h2
          go_enter Tryd.func25, Tryd.ntmps25
          go_wp2_with fail
          go_ret
          exact ⟨rfl, rfl⟩
    · have eab : (a == b) = false := by simpa using hab
      rw [show twoK 26 a b = 0 by unfold twoK; simp [hab]]
      clear hab
      go_enter Tryd.func25, Tryd.ntmps25
      go_wp2_with fail
      go_ret
      exact ⟨rfl, rfl⟩
  · clear h
    by_cases ha : a = 3
    · subst ha
      by_cases hb : b = 3
      · subst hb
        rw [show twoK 27 3 3 = 3 from rfl]
        go_enter Tryd.func25, Tryd.ntmps25
        go_wp2_with fail
        go_ret
        exact ⟨rfl, rfl⟩
      · have eb : (b == 3) = false := by simpa using hb
        rw [show twoK 27 3 b = 0 by unfold twoK; simp [hb]]
        clear hb
        go_enter Tryd.func25, Tryd.ntmps25
        go_wp2_with fail
        go_ret
        exact ⟨rfl, rfl⟩
    · have ea : (a == 3) = false := by simpa using ha
      rw [show twoK 27 a b = 0 by unfold twoK; simp [ha]]
      clear ha
      go_enter Tryd.func25, Tryd.ntmps25
      go_wp2_with fail
      go_ret
      exact ⟨rfl, rfl⟩
  · clear h
    by_cases ha : a = 3
    · subst ha
      by_cases hb : b = 3
      · subst hb
        rw [show twoK 28 3 3 = 3 from rfl]
        go_enter Tryd.func25, Tryd.ntmps25
        go_wp2_with fail
        go_ret
        exact ⟨rfl, rfl⟩
      · have eb : (b == 3) = false := by simpa using hb
        rw [show twoK 28 3 b = 0 by unfold twoK; simp [hb]]
        clear hb
        go_enter Tryd.func25, Tryd.ntmps25
        go_wp2_with fail
        go_ret
        exact ⟨rfl, rfl⟩
    · have ea : (a == 3) = false := by simpa using ha
      rw [show twoK 28 a b = 0 by unfold twoK; simp [ha]]
      clear ha
      go_enter Tryd.func25, Tryd.ntmps25
      go_wp2_with fail
      go_ret
      exact ⟨rfl, rfl⟩
  · clear h
    by_cases ha : a = 5
    · subst ha
      by_cases hb : b = 3
      · subst hb
        rw [show twoK 31 5 3 = 3 from rfl]
        go_enter Tryd.func25, Tryd.ntmps25
        go_wp2_with fail
        go_ret
        exact ⟨rfl, rfl⟩
      · have eb : (b == 3) = false := by simpa using hb
        rw [show twoK 31 5 b = 0 by unfold twoK; simp [hb]]
        clear hb
        go_enter Tryd.func25, Tryd.ntmps25
        go_wp2_with fail
        go_ret
        exact ⟨rfl, rfl⟩
    · have ea : (a == 5) = false := by simpa using ha
      rw [show twoK 31 a b = 0 by unfold twoK; simp [ha]]
      clear ha
      go_enter Tryd.func25, Tryd.ntmps25
      go_wp2_with fail
      go_ret
      exact ⟨rfl, rfl⟩
  · clear h
    by_cases ha : a = 5
    · subst ha
      by_cases hb : b = 3
      · subst hb
        rw [show twoK 32 5 3 = 3 from rfl]
        go_enter Tryd.func25, Tryd.ntmps25
        go_wp2_with fail
        go_ret
        exact ⟨rfl, rfl⟩
      · have eb : (b == 3) = false := by simpa using hb
        rw [show twoK 32 5 b = 0 by unfold twoK; simp [hb]]
        clear hb
        go_enter Tryd.func25, Tryd.ntmps25
        go_wp2_with fail
        go_ret
        exact ⟨rfl, rfl⟩
    · have ea : (a == 5) = false := by simpa using ha
      rw [show twoK 32 a b = 0 by unfold twoK; simp [ha]]
      clear ha
      go_enter Tryd.func25, Tryd.ntmps25
      go_wp2_with fail
      go_ret
      exact ⟨rfl, rfl⟩
  · clear h
    by_cases ha : a = 5
    · subst ha
      by_cases hb : b = 3
      · subst hb
        rw [show twoK 33 5 3 = 5 from rfl]
        go_enter Tryd.func25, Tryd.ntmps25
        go_wp2_with fail
        go_ret
        exact ⟨rfl, rfl⟩
      · have eb : (b == 3) = false := by simpa using hb
        rw [show twoK 33 5 b = 0 by unfold twoK; simp [hb]]
        clear hb
        go_enter Tryd.func25, Tryd.ntmps25
        go_wp2_with fail
        go_ret
        exact ⟨rfl, rfl⟩
    · have ea : (a == 5) = false := by simpa using ha
      rw [show twoK 33 a b = 0 by unfold twoK; simp [ha]]
      clear ha
      go_enter Tryd.func25, Tryd.ntmps25
      go_wp2_with fail
      go_ret
      exact ⟨rfl, rfl⟩
  · clear h
    by_cases ha : a = 5
    · subst ha
      by_cases hb : b = 1
      · subst hb
        rw [show twoK 34 5 1 = 1 from rfl]
        go_enter Tryd.func25, Tryd.ntmps25
        go_wp2_with fail
        go_ret
        exact ⟨rfl, rfl⟩
      · have eb : (b == 1) = false := by simpa using hb
        rw [show twoK 34 5 b = 0 by unfold twoK; simp [hb]]
        clear hb
        go_enter Tryd.func25, Tryd.ntmps25
        go_wp2_with fail
        go_ret
        exact ⟨rfl, rfl⟩
    · have ea : (a == 5) = false := by simpa using ha
      rw [show twoK 34 a b = 0 by unfold twoK; simp [ha]]
      clear ha
      go_enter Tryd.func25, Tryd.ntmps25
      go_wp2_with fail
      go_ret
      exact ⟨rfl, rfl⟩
end Go.Proofs.YtidkbodmiegbkaaDoor
