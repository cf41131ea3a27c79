/- The laws' own small functions: where a number stands, the number of a name, is a name used. -/
import Derived.Test.YtikplcpghohklaaGreatModRow
namespace Go.Proofs.YtikplcpghohklaaGreat
set_option linter.unusedSimpArgs false
set_option linter.unusedVariables false
open Go.RowKit

set_option maxRecDepth 100000 in
set_option maxHeartbeats 1000000 in
theorem z_find {ls : List Language} {v : Value} (s : ByteArray) (w w0 : World) (hs : LsR w0 w0.heap.size v ls) (hw : Below w0.heap.size w0 w) :
    Calls Tryz.prog 12 #[v, .string s] w fun e w' => e = .returned (.int .i64 (findN ls s)) ∧ Quiet w w' := by
  unfold findN
  obtain ⟨a, c, rfl⟩ : ∃ a c, v = .slice a ls.length c := by obtain ⟨a, c, h, _⟩ := hs.form; exact ⟨a, c, h⟩
  have hn : ls.length ≤ 9223372036854775807 := by have := hs.caps; unfold maxLen at this; omega
  obtain ⟨n, hlen⟩ : ∃ n, ls.length = n := ⟨_, rfl⟩
  rw [hlen] at hs hn ⊢
  have Hlen := Lib.hid hlen
  have Hs := Lib.hid hs
  have Hw := Lib.hid hw
  clear hs hlen hw
  go_enter Tryz.func12, Tryz.ntmps12
  go_wp2_with fail
  go_loopw [5] (fun j wr => ∃ k : Nat, k ≤ n ∧ j = .int .i64 k ∧ Quiet w wr ∧ Hid (∀ i d, i < k → ls[i]? = some d → (fun x : Language => decide (x.name = s)) d = false)) (fun j _ => n - (intOf j).toNat)
  case atStart => exact ⟨0, Nat.zero_le _, rfl, Quiet.refl _, fun i d hi => by omega⟩
  case round =>
    obtain ⟨k, hk, rfl, hq, hf⟩ := hrel
    have hb := hq.below w.heap.size
    by_cases hlt : k < n
    · obtain ⟨y, hd⟩ := get_some Hlen.out hlt
      have hw1 := Hw.out.trans (hb.mono Hw.out.size)
      obtain ⟨b, off, x, rfl, hbB, hxl, ⟨v1, v2, v3, v4, v5, v6, rfl, _⟩, hx⟩ := (Hs.out.below hw1).at_ hd
      have h0 := hx 0 _ rfl
      simp only [Nat.add_zero] at h0
      have Hd := Lib.hid hd
      obtain ⟨z, hz⟩ : ∃ z, y.name = z := ⟨_, rfl⟩
      have Hz := Lib.hid hz
      rw [hz] at h0
      clear hd hx hxl hw1 hz
      by_cases hys : z = s
      · have e1 : (z.toList == s.toList) = true := by rw [hys]; simp
        have hv : firstAt (fun x : Language => decide (x.name = s)) ls = k := firstAt_here Hd.out (by simp [Hz.out, hys]) hf.out
        have HV := Lib.hid hv
        clear hys hv
        go_wp2_with fail
        go_ret
        exact ⟨by rw [HV.out]; rfl, hq⟩
      · have e1 : (z.toList == s.toList) = false := by simpa [toList_inj] using hys
        have Hp := Lib.hid (show (fun x : Language => decide (x.name = s)) y = false by simp [Hz.out, hys])
        clear hys
        go_wp2_with fail
        go_roundw
        case rel => exact ⟨k + 1, by omega, by go_num, hq, so_far1 Hd.out Hp.out hf.out⟩
        case measure => simp [intOf]; omega
    · have hge : n ≤ k := by omega
      clear hlt
      go_wp2_with fail
      go_ret
      exact ⟨by rw [firstAt_none (fun i d hi => hf.out i d (by have := Hlen.out; omega))]; rfl, hq⟩


set_option maxHeartbeats 1000000 in
theorem z_place {l : List Int} {v : Value} (m : Int) (w w0 : World) (hs : SlR w0 w0.heap.size 1 IsInt v l) (hw : Below w0.heap.size w0 w) :
    Calls Tryz.prog 11 #[v, .int .i64 m] w fun e w' => e = .returned (.int .i64 (firstAt (fun x => decide (x = m)) l)) ∧ Quiet w w' := by
  obtain ⟨a, c, rfl⟩ : ∃ a c, v = .slice a l.length c := by obtain ⟨a, c, h, _⟩ := hs.form; exact ⟨a, c, h⟩
  have hn : l.length ≤ 9223372036854775807 := by have := hs.caps; unfold maxLen at this; omega
  obtain ⟨n, hlen⟩ : ∃ n, l.length = n := ⟨_, rfl⟩
  rw [hlen] at hs hn ⊢
  have Hlen := Lib.hid hlen
  have Hs := Lib.hid hs
  have Hw := Lib.hid hw
  clear hs hlen hw
  go_enter Tryz.func11, Tryz.ntmps11
  go_wp2_with fail
  go_loopw [5] (fun j wr => ∃ k : Nat, k ≤ n ∧ j = .int .i64 k ∧ Quiet w wr ∧ Hid (∀ i d, i < k → l[i]? = some d → (fun x => decide (x = m)) d = false)) (fun j _ => n - (intOf j).toNat)
  case atStart => exact ⟨0, Nat.zero_le _, rfl, Quiet.refl _, fun i d hi => by omega⟩
  case round =>
    obtain ⟨k, hk, rfl, hq, hf⟩ := hrel
    have hb := hq.below w.heap.size
    by_cases hlt : k < n
    · obtain ⟨y, hd⟩ := get_some Hlen.out hlt
      have hw1 := Hw.out.trans (hb.mono Hw.out.size)
      obtain ⟨b, off, x, rfl, hbB, hxl, ⟨rfl, _⟩, hx⟩ := (Hs.out.below hw1).at_ hd
      have h0 := hx 0 _ rfl
      simp only [Nat.add_zero, Nat.mul_one] at h0
      have Hd := Lib.hid hd
      clear hd hx hxl hw1
      by_cases hys : y = m
      · subst hys
        go_wp2_with fail
        go_ret
        exact ⟨by rw [firstAt_here Hd.out (by simp) hf.out]; rfl, hq⟩
      · have hne : (y == m) = false := by simpa using hys
        have Hp := Lib.hid (show (fun x => decide (x = m)) y = false by simpa using hys)
        clear hys
        go_wp2_with fail
        go_roundw
        case rel => exact ⟨k + 1, by omega, by go_num, hq, so_far1 Hd.out Hp.out hf.out⟩
        case measure => simp [intOf]; omega
    · have hge : n ≤ k := by omega
      clear hlt
      go_wp2_with fail
      go_ret
      exact ⟨by rw [firstAt_none (fun i d hi => hf.out i d (by have := Hlen.out; omega))]; rfl, hq⟩

/-- does one of some languages use that one? -/
def UsedBy (ls : List Language) (l : List Nat) (s : ByteArray) : Prop := ∃ k ∈ l, ∃ x, ls[k]? = some x ∧ s ∈ x.uses
set_option maxRecDepth 100000 in
set_option maxHeartbeats 2000000 in
theorem z_used {ls : List Language} {l : List Nat} {v v' : Value} (s : ByteArray) (w w0 : World) (hs : LsR w0 w0.heap.size v ls) (hl : SlR w0 w0.heap.size 1 IsInt v' (l.map fun (n : Nat) => (n : Int))) (hw : Below w0.heap.size w0 w) (hlt : ∀ k ∈ l, k < ls.length)
    (hu : UsedBy ls l s) : Calls Tryz.prog 14 #[v, v', .string s] w fun e w' => e = .returned (.bool true) ∧ Quiet w w' := by
  obtain ⟨a, c, rfl⟩ : ∃ a c, v = .slice a ls.length c := by obtain ⟨a, c, h, _⟩ := hs.form; exact ⟨a, c, h⟩
  obtain ⟨a', c', rfl⟩ : ∃ a c, v' = .slice a l.length c := by obtain ⟨a, c, h, _⟩ := hl.form; rw [List.length_map] at h; exact ⟨a, c, h⟩
  have hn : l.length ≤ 9223372036854775807 := by have := hl.caps; unfold maxLen at this; omega
  have hn' : ls.length ≤ 9223372036854775807 := by have := hs.caps; unfold maxLen at this; omega
  obtain ⟨n, hlen⟩ : ∃ n, l.length = n := ⟨_, rfl⟩
  rw [hlen] at hl hn ⊢
  have Hlen := Lib.hid hlen
  have Hs := Lib.hid hs
  have Hl := Lib.hid hl
  have Hw := Lib.hid hw
  have Hlt := Lib.hid hlt
  have Hu := Lib.hid hu
  clear hs hl hlen hw hlt hu
  go_enter Tryz.func14, Tryz.ntmps14
  go_wp2_with fail
  go_loopw [7, 8, 9] (fun j _ _ wr => ∃ k : Nat, k ≤ n ∧ j = .int .i64 k ∧ Quiet w wr ∧ Hid (UsedBy ls (l.drop k) s)) (fun j _ _ _ => n - (intOf j).toNat)
  case atStart => exact ⟨0, Nat.zero_le _, rfl, Quiet.refl _, Hu⟩
  case round =>
    obtain ⟨k, hk, rfl, hq, hf⟩ := hrel
    have hb := hq.below w.heap.size
    have hkl : k < n := by
      refine Classical.byContradiction fun h => ?_
      obtain ⟨j, hj, _⟩ := hf.out
      rw [List.drop_of_length_le (by rw [Hlen.out]; omega)] at hj
      cases hj
    obtain ⟨q, hd⟩ := get_some Hlen.out hkl
    have hql := Hlt.out q (List.mem_iff_getElem?.2 ⟨k, hd⟩)
    obtain ⟨y, hy⟩ := get_some rfl hql
    have hw1 := Hw.out.trans (hb.mono Hw.out.size)
    obtain ⟨b, off, x, rfl, hbB, hxl, ⟨rfl, _⟩, hx⟩ := (Hl.out.below hw1).at_ (show (l.map fun (n : Nat) => (n : Int))[k]? = some (q : Int) by rw [List.getElem?_map, hd]; rfl)
    have h0 := hx 0 _ rfl
    simp only [Nat.add_zero, Nat.mul_one] at h0
    obtain ⟨b2, off2, x2, rfl, hbB2, hxl2, ⟨v1, v2, v3, v4, v5, v6, rfl, su, _⟩, hx2⟩ := (Hs.out.same_base hw1).at_ hy
    obtain ⟨m, hm⟩ : ∃ m, y.uses.length = m := ⟨_, rfl⟩
    obtain ⟨ua, uc, rfl⟩ : ∃ a c, v1 = .slice a m c := by obtain ⟨a, c, h, _⟩ := su.form; exact ⟨a, c, by rw [h, hm]⟩
    have hm63 : m ≤ 9223372036854775807 := by have := su.caps; unfold maxLen at this; omega
    have g2 := hx2 2 _ rfl
    have Su := Lib.hid su
    have Hm := Lib.hid hm
    have Hd := Lib.hid hd
    have Hy := Lib.hid hy
    clear hd hx hxl hx2 hxl2 su hm hw1 hy
    go_wp2_with fail
    obtain ⟨wo, hwo⟩ : ∃ wo, wo = wr := ⟨wr, rfl⟩
    subst hwo
    go_hide hQ2
    go_loopw [9] (fun j wr => ∃ i : Nat, i ≤ m ∧ j = .int .i64 i ∧ Hid (Quiet wo wr) ∧ Hid (∀ i' d, i' < i → y.uses[i']? = some d → (fun x => decide (x = s)) d = false)) (fun j _ => m - (intOf j).toNat)
    case atStart => exact ⟨0, Nat.zero_le _, rfl, Lib.hid (Quiet.refl _), Lib.hid (fun i d hi => by omega)⟩
    case round =>
      obtain ⟨i, hi, rfl, hq2, hno⟩ := hrel
      by_cases him : i < m
      · obtain ⟨z, hz⟩ := get_some Hm.out him
        obtain ⟨b3, off3, x3, rfl, hb3, hxl3, ⟨rfl, _⟩, hx3⟩ := (Su.out.below ((hq2.out.below _).mono (Nat.le_trans Hw.out.size (hq.below w.heap.size).size))).at_ hz
        have k0 := hx3 0 _ rfl
        simp only [Nat.add_zero, Nat.mul_one] at k0
        have Hz := Lib.hid hz
        clear hz hx3 hxl3
        by_cases hzs : z = s
        · have e1 : (z.toList == s.toList) = true := by rw [hzs]; simp
          clear hzs
          subst hQ2
          go_wp2_with fail
          go_ret
          exact ⟨rfl, hq.trans hq2.out⟩
        · have e1 : (z.toList == s.toList) = false := by simpa [toList_inj] using hzs
          have Hp := Lib.hid (show (fun x => decide (x = s)) z = false by simpa using hzs)
          clear hzs
          go_wp2_with fail
          go_roundw
          case rel => exact ⟨i + 1, by omega, by go_num, hq2, Lib.hid (so_far1 Hz.out Hp.out hno.out)⟩
          case measure => simp [intOf]; omega
      · have hge : m ≤ i := by omega
        have HF : Hid (UsedBy ls (l.drop (k + 1)) s) := by
          obtain ⟨j, hj, x, hx, hs⟩ := hf.out
          rw [List.drop_eq_getElem_cons (by rw [Hlen.out]; exact hkl)] at hj
          rcases List.mem_cons.1 hj with rfl | hj
          · exfalso
            have hq' : l[k]'(by rw [Hlen.out]; exact hkl) = q := (List.getElem?_eq_some_iff.1 Hd.out).2
            rw [hq', Hy.out] at hx
            injection hx with hx
            subst hx
            obtain ⟨i', hi'⟩ := List.mem_iff_getElem?.1 hs
            have := hno.out i' s (by have := (List.getElem?_eq_some_iff.1 hi').1; rw [Hm.out] at this; omega) hi'
            simp at this
          · exact ⟨j, hj, x, hx, hs⟩
        have Hq2 := Lib.hid (hq.trans hq2.out)
        clear him hf hno
        subst hQ2
        go_wp2_with fail
        go_roundw
        case rel => exact ⟨k + 1, by omega, by go_num, Hq2.out, HF⟩
        case measure => simp [intOf]; omega
end Go.Proofs.YtikplcpghohklaaGreat
