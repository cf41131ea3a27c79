/- Chapter 09, outright: up, walked. -/
import Derived.Test.YtidkbodmiegbkaaGreatDoorKzQ
import Derived.Test.YtidkbodmiegbkaaGreatDoorKzD
namespace Go.Proofs.YtidkbodmiegbkaaGreatDoor
set_option linter.unusedSimpArgs false
set_option linter.unusedVariables false
open Go.RowKit

set_option maxRecDepth 100000 in
set_option maxHeartbeats 8000000 in
theorem up_is {l : List ND} {v : Value} {at_ pp : Nat} (w w0 : World) (hs : SlR w0 w0.heap.size 4 (ND.Is w0 w0.heap.size) v l) (hl : l.length ≤ 256) (hw : Below w0.heap.size w0 w) (hp : ParIs l at_ pp) :
    Calls Tryz.prog 17 #[.agg #[v], .int .i64 (at_ : Int)] w fun e w' => e = .returned (.int .i64 (pp : Int)) ∧ Below w.heap.size w w' := by
  obtain ⟨va, vc, rfl, _, _⟩ := hs.form
  obtain ⟨nl, hnl⟩ : ∃ x, l.length = x := ⟨_, rfl⟩
  rw [hnl] at hs hl ⊢
  have hpl : pp < nl := by obtain ⟨d, j, h1, _⟩ := hp.has; have := (List.getElem?_eq_some_iff.1 h1).1; omega
  have HS := Lib.hid hs
  have HW := Lib.hid hw
  have HNL := Lib.hid hnl
  have HP := Lib.hid hp
  have HPL := Lib.hid (And.intro hpl hp.lt)
  have B0 : Hid (Blk (w.alloc (.cells #[.slice va nl vc] 24)) w.heap.size 24 #[.slice va nl vc]) := Lib.hid (Blk.new _ _ _)
  have HB0 : Hid (Below w.heap.size w (w.alloc (.cells #[.slice va nl vc] 24))) := Lib.hid ((Below.refl w.heap.size w).alloc (Nat.le_refl _) (.cells #[.slice va nl vc] 24))
  have HB6 : Hid (Below w0.heap.size w0 (w.alloc (.cells #[.slice va nl vc] 24))) := Lib.hid (HW.out.alloc HW.out.size (.cells #[.slice va nl vc] 24))
  clear hs hw hnl hp hpl
  go_enter Tryz.func17, Tryz.ntmps17
  go_upto_region 2 with fail
  have e0 : (w.alloc (.cells #[.slice va nl vc] 24)).cell? ⟨w.heap.size, 0, none⟩ = some (.slice va nl vc) := B0.out.cell rfl
  have l0 := B0.out.lt
  generalize hW1 : w.alloc (.cells #[.slice va nl vc] 24) = W1 at *
  obtain ⟨q, hq⟩ : ∃ q, w.heap.size = q := ⟨_, rfl⟩
  rw [hq] at B0 e0 l0 ⊢
  clear hW1
  go_loopw [5, 6] (fun v5 _ wr => ∃ i : Nat, i ≤ pp ∧ v5 = .int .i64 (i : Int) ∧ W1 = wr) (fun v5 _ _ => pp + 1 - (intOf v5).toNat)
  case atStart => exact ⟨0, Nat.zero_le _, rfl, rfl⟩
  case round =>
    obtain ⟨i, hi, rfl, rfl⟩ := hrel
    have hil : i < nl := by have := HPL.out.1; omega
    have hia : (i : Int) < (at_ : Int) := by have := HPL.out.2; omega
    have hiad : decide (i < at_) = true := by simp; have := HPL.out.2; omega
    have hin : (i : Int) < (nl : Int) := by omega
    have i0 : (0 : Int) ≤ (i : Int) := Int.natCast_nonneg _
    obtain ⟨d, hd⟩ := get_some HNL.out hil
    obtain ⟨bb, off, x, rfl, hbB, hxl, ⟨kv, rfl, hkv⟩, hx⟩ := HS.out.at_ hd
    obtain ⟨ka, kc, rfl, _, _⟩ := hkv.form
    obtain ⟨nk, hnk⟩ : ∃ z, d.kids.length = z := ⟨_, rfl⟩
    rw [hnk] at hx hkv
    have x3 : W1.cell? ⟨bb, off + i * 4 + 3, none⟩ = some (.slice ka nk kc) := (HB6.out.cell (p := ⟨bb, off + i * 4 + 3, none⟩) hbB).trans (hx 3 _ rfl)
    have nk63 : nk ≤ 9223372036854775807 := by have := hkv.caps; unfold maxLen at this; omega
    have HKV := Lib.hid hkv
    have HNK := Lib.hid hnk
    have HD := Lib.hid hd
    have HI := Lib.hid hi
    have lbb : bb < W1.heap.size := Nat.lt_of_lt_of_le hbB HB6.out.size
    clear hd hxl hkv hx hnk hil hi hbB
    go_upto_region 5 with fail
    go_loopw [6] (fun v6 wr => ∃ k : Nat, k ≤ nk ∧ v6 = .int .i64 (k : Int) ∧ Hid (∀ k' x, k' < k → d.kids[k']? = some x → x ≠ (at_ : Int)) ∧ W1 = wr) (fun v6 _ => nk - (intOf v6).toNat)
    case atStart => exact ⟨0, Nat.zero_le _, rfl, Lib.hid (fun k' x h => by omega), (by trivial)⟩
    case round =>
      obtain ⟨k, hk, rfl, hno, rfl⟩ := hrel
      have k0 : (0 : Int) ≤ (k : Int) := Int.natCast_nonneg _
      by_cases hlk : k < nk
      · obtain ⟨y, hy⟩ := get_some HNK.out hlk
        obtain ⟨bK, ok, xk, rfl, hbK, _, rfl, hxk⟩ := HKV.out.at_ hy
        have yk := (HB6.out.cell (p := ⟨bK, ok + k * 1, none⟩) hbK).trans (hxk 0 _ rfl)
        simp only [Nat.add_zero, Nat.mul_one] at yk
        have k1 : (k : Int) < (nk : Int) := by omega
        have lbk : bK < W1.heap.size := Nat.lt_of_lt_of_le hbK HB6.out.size
        have HY := Lib.hid hy
        have HLK := Lib.hid hlk
        clear hy hxk hbK hlk hk
        by_cases hya : y = (at_ : Int)
        · have ey : (y == (at_ : Int)) = true := by rw [hya]; simp
          have hip : i = pp := by
            rcases Nat.lt_or_ge i pp with h | h
            · exact absurd hya (HP.out.fst i d h HD.out y (List.mem_iff_getElem?.2 ⟨k, HY.out⟩))
            · have := HI.out; omega
          have HIP := Lib.hid hip
          clear hya hip
          go_wp2_with fail
          go_ret
          exact ⟨by rw [HIP.out]; try rfl, by first | exact HB0.out | (rw [← hq]; exact HB0.out)⟩
        · have ey : (y == (at_ : Int)) = false := by simpa using hya
          have HYA := Lib.hid hya
          clear hya
          go_wp2_with fail
          go_roundw
          case rel => exact ⟨k + 1, HLK.out, by go_num, Lib.hid (fun k' x h hx => by
            by_cases e : k' = k
            · subst e; rw [HY.out] at hx; injection hx with hx; subst hx; exact HYA.out
            · exact hno.out k' x (by omega) hx), (by trivial)⟩
          case measure => simp [intOf]; have := HLK.out; omega
      · have hkk : k = nk := by omega
        have d1 : decide ((k : Int) < (nk : Int)) = false := by rw [hkk]; simp
        have d2 : decide (k < nk) = false := by rw [hkk]; simp
        have hne : i ≠ pp := fun e => by
          subst e
          obtain ⟨d', j, h1, h2⟩ := HP.out.has
          rw [HD.out] at h1
          injection h1 with h1
          subst h1
          have hj := (List.getElem?_eq_some_iff.1 h2).1
          rw [HNK.out] at hj
          exact hno.out j _ (by omega) h2 rfl
        have HNE := Lib.hid hne
        clear hlk hkk hne hk
        go_wp2_with fail
        go_roundw
        case rel => exact ⟨i + 1, by have := HI.out; have := HNE.out; omega, by go_num, (by trivial)⟩
        case measure => simp [intOf]; have := HI.out; have := HNE.out; omega
end Go.Proofs.YtidkbodmiegbkaaGreatDoor
