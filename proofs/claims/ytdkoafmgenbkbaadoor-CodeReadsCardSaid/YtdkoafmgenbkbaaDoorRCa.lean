/- Chapter 11, the reference's small functions: Word, has, plain, leads. -/
import Derived.Test.YtdkoafmgenbkbaaDoorCdB
import Derived.Test.YtdkoafmgenbkbaaDoorCodeTell
namespace Go.Proofs.YtdkoafmgenbkbaaDoor
set_option linter.unusedSimpArgs false
set_option linter.unusedVariables false
open Go.RowKit

set_option maxHeartbeats 400000 in
theorem ref_ints {l m : List Int} {v v' : Value} (w w0 : World)
   (hs : SlR w0 w0.heap.size 1 IsInt v l) (ht : SlR w0 w0.heap.size 1 IsInt v' m) (hw : Below w0.heap.size w0 w) :
    Calls Tryd.prog 68 #[v, v'] w fun e w' => e = .returned (.bool (decide (l = m))) ∧ Quiet w w' := by
  obtain ⟨a, c, rfl⟩ : ∃ a c, v = .slice a l.length c := by obtain ⟨a, c, h, _⟩ := hs.form; exact ⟨a, c, h⟩
  obtain ⟨a', c', rfl⟩ : ∃ a c, v' = .slice a m.length c := by obtain ⟨a, c, h, _⟩ := ht.form; exact ⟨a, c, h⟩
  have hn : l.length ≤ 9223372036854775807 := by have := hs.caps; unfold maxLen at this; omega
  rw [← eqBy_eq]
  by_cases hl : l.length = m.length
  · obtain ⟨n, hlen⟩ : ∃ n, l.length = n := ⟨_, rfl⟩
    rw [← hl] at ht ⊢
    rw [hlen] at hs ht hn ⊢
    have Hlen := Lib.hid hlen
    have Hl := Lib.hid hl
    have Hs := Lib.hid hs
    have Ht := Lib.hid ht
    have Hw := Lib.hid hw
    clear hs ht hlen hw hl
    go_enter Tryd.func68, Tryd.ntmps68
    go_wp2_with fail
    go_loopw [4, 5] (fun _ j wr => ∃ k : Nat, k ≤ n ∧ j = .int .i64 k ∧ Quiet w wr ∧ Hid (∀ i y z, i < k → l[i]? = some y → m[i]? = some z → (fun a b => decide (a = b)) y z = true)) (fun _ j _ => n - (intOf j).toNat)
    case atStart => exact ⟨0, Nat.zero_le _, rfl, Quiet.refl _, fun i d _ hi => by omega⟩
    case round =>
      obtain ⟨k, hk, rfl, hq, hf⟩ := hrel
      have hb := hq.below w.heap.size
      by_cases hlt : k < n
      · obtain ⟨y, hd⟩ := get_some Hlen.out hlt
        obtain ⟨z, he⟩ := get_some (Hl.out.symm.trans Hlen.out) hlt
        have hw1 := Hw.out.trans (hb.mono Hw.out.size)
        obtain ⟨b, off, x, rfl, hbB, hxl, ⟨rfl, _⟩, hx⟩ := (Hs.out.below hw1).at_ hd
        obtain ⟨b', off', x', rfl, hbB', hxl', ⟨rfl, _⟩, hx'⟩ := (Ht.out.below hw1).at_ he
        have h0 := hx 0 _ rfl
        have g0 := hx' 0 _ rfl
        simp only [Nat.add_zero, Nat.mul_one] at h0 g0
        have Hd := Lib.hid hd
        have He := Lib.hid he
        clear hd he hx hxl hx' hxl' hw1
        by_cases hyz : y = z
        · subst hyz
          go_wp2_with fail
          go_quiet (fail)
          go_wp2_with fail
          go_roundw
          case rel => exact ⟨k + 1, by omega, by go_num, hq.drewN _, so_far Hd.out He.out (by simp) hf.out⟩
          case measure => simp [intOf]; omega
        · have hne : (y == z) = false := by simpa using hyz
          have hne' : (y != z) = true := by simpa using hyz
          have Hyz := Lib.hid hyz
          clear hyz
          go_wp2_with fail
          go_quiet (fail)
          go_wp2_with fail
          go_ret
          exact ⟨by rw [eqBy_no _ l m k y z Hd.out He.out (by simpa using Hyz.out)]; rfl, hq.drewN _⟩
      · have hge : n ≤ k := by omega
        clear hlt
        go_wp2_with fail
        go_ret
        exact ⟨by rw [eqBy_yes _ l m Hl.out (fun i y z hi => hf.out i y z (by have := Hlen.out; omega))]; rfl, hq⟩
  · have hne : ((l.length : Int) != (m.length : Int)) = true := by rw [bne_iff_ne]; omega
    have Hl := Lib.hid hl
    clear hl hs ht hw
    go_enter Tryd.func68, Tryd.ntmps68
    go_wp2_with fail
    go_ret
    exact ⟨by rw [eqBy_len _ l m Hl.out]; rfl, Quiet.refl _⟩

theorem words_at (op : Int) (h1 : 1 ≤ op) (h2 : op ≤ 40) : (#[.string ⟨#[115, 116, 101, 112]⟩, .string ⟨#[105, 110, 116]⟩, .string ⟨#[116, 101, 120, 116]⟩, .string ⟨#[116, 114, 117, 101]⟩, .string ⟨#[102, 97, 108, 115, 101]⟩, .string ⟨#[115, 101, 108, 102]⟩, .string ⟨#[110, 111, 110, 101]⟩, .string ⟨#[108, 111, 97, 100]⟩, .string ⟨#[102, 114, 101, 101]⟩, .string ⟨#[112, 114, 111, 112]⟩, .string ⟨#[107, 105, 100, 115]⟩, .string ⟨#[114, 101, 102]⟩, .string ⟨#[112, 97, 114, 101, 110, 116]⟩, .string ⟨#[105, 115]⟩, .string ⟨#[97, 108, 108]⟩, .string ⟨#[115, 105, 122, 101]⟩, .string ⟨#[102, 105, 114, 115, 116]⟩, .string ⟨#[115, 104, 111, 119]⟩, .string ⟨#[99, 111, 110, 99, 101, 112, 116]⟩, .string ⟨#[105, 100]⟩, .string ⟨#[114, 101, 97, 100]⟩, .string ⟨#[97, 100, 100]⟩, .string ⟨#[115, 117, 98]⟩, .string ⟨#[109, 117, 108]⟩, .string ⟨#[101, 113]⟩, .string ⟨#[110, 101]⟩, .string ⟨#[108, 116]⟩, .string ⟨#[108, 101]⟩, .string ⟨#[110, 111, 116]⟩, .string ⟨#[97, 110, 100]⟩, .string ⟨#[111, 114]⟩, .string ⟨#[116, 114, 117, 116, 104]⟩, .string ⟨#[117, 110, 108, 101, 115, 115]⟩, .string ⟨#[106, 117, 109, 112]⟩, .string ⟨#[97, 110, 121]⟩, .string ⟨#[101, 118, 101, 114, 121]⟩, .string ⟨#[111, 110, 108, 121]⟩, .string ⟨#[115, 117, 109]⟩, .string ⟨#[110, 101, 120, 116]⟩, .string ⟨#[116, 97, 107, 101]⟩] : Array Value)[op.toNat - 1]? = some (.string (wordC op)) := by
  rcases (by omega : op = 1 ∨ op = 2 ∨ op = 3 ∨ op = 4 ∨ op = 5 ∨ op = 6 ∨ op = 7 ∨ op = 8 ∨ op = 9 ∨ op = 10 ∨ op = 11 ∨ op = 12 ∨ op = 13 ∨ op = 14 ∨ op = 15 ∨ op = 16 ∨ op = 17 ∨ op = 18 ∨ op = 19 ∨ op = 20 ∨ op = 21 ∨ op = 22 ∨ op = 23 ∨ op = 24 ∨ op = 25 ∨ op = 26 ∨ op = 27 ∨ op = 28 ∨ op = 29 ∨ op = 30 ∨ op = 31 ∨ op = 32 ∨ op = 33 ∨ op = 34 ∨ op = 35 ∨ op = 36 ∨ op = 37 ∨ op = 38 ∨ op = 39 ∨ op = 40) with rfl | rfl | rfl | rfl | rfl | rfl | rfl | rfl | rfl | rfl | rfl | rfl | rfl | rfl | rfl | rfl | rfl | rfl | rfl | rfl | rfl | rfl | rfl | rfl | rfl | rfl | rfl | rfl | rfl | rfl | rfl | rfl | rfl | rfl | rfl | rfl | rfl | rfl | rfl | rfl <;> rfl
theorem word_ne (op : Int) (h1 : 1 ≤ op) (h2 : op ≤ 40) : wordC op ≠ ⟨#[]⟩ := by
  rcases (by omega : op = 1 ∨ op = 2 ∨ op = 3 ∨ op = 4 ∨ op = 5 ∨ op = 6 ∨ op = 7 ∨ op = 8 ∨ op = 9 ∨ op = 10 ∨ op = 11 ∨ op = 12 ∨ op = 13 ∨ op = 14 ∨ op = 15 ∨ op = 16 ∨ op = 17 ∨ op = 18 ∨ op = 19 ∨ op = 20 ∨ op = 21 ∨ op = 22 ∨ op = 23 ∨ op = 24 ∨ op = 25 ∨ op = 26 ∨ op = 27 ∨ op = 28 ∨ op = 29 ∨ op = 30 ∨ op = 31 ∨ op = 32 ∨ op = 33 ∨ op = 34 ∨ op = 35 ∨ op = 36 ∨ op = 37 ∨ op = 38 ∨ op = 39 ∨ op = 40) with rfl | rfl | rfl | rfl | rfl | rfl | rfl | rfl | rfl | rfl | rfl | rfl | rfl | rfl | rfl | rfl | rfl | rfl | rfl | rfl | rfl | rfl | rfl | rfl | rfl | rfl | rfl | rfl | rfl | rfl | rfl | rfl | rfl | rfl | rfl | rfl | rfl | rfl | rfl | rfl <;> decide
set_option maxRecDepth 100000 in
set_option maxHeartbeats 8000000 in
theorem word_any (op : Int) (w : World) : Calls Tryd.prog 39 #[.int .i64 op] w fun e w' => e = .returned (.string (wordC op)) ∧ Below w.heap.size w w' := by
  by_cases hr : 1 ≤ op ∧ op ≤ 40
  · obtain ⟨h1, h2⟩ := hr
    have h3 : ¬ op < 1 := by omega
    have h4 : ¬ 40 < op := by omega
    have h5 : 0 ≤ op - 1 := by omega
    have h6 : op - 1 < 40 := by omega
    have f1 : (w.alloc (.cells #[.string ⟨#[115, 116, 101, 112]⟩, .string ⟨#[105, 110, 116]⟩, .string ⟨#[116, 101, 120, 116]⟩, .string ⟨#[116, 114, 117, 101]⟩, .string ⟨#[102, 97, 108, 115, 101]⟩, .string ⟨#[115, 101, 108, 102]⟩, .string ⟨#[110, 111, 110, 101]⟩, .string ⟨#[108, 111, 97, 100]⟩, .string ⟨#[102, 114, 101, 101]⟩, .string ⟨#[112, 114, 111, 112]⟩, .string ⟨#[107, 105, 100, 115]⟩, .string ⟨#[114, 101, 102]⟩, .string ⟨#[112, 97, 114, 101, 110, 116]⟩, .string ⟨#[105, 115]⟩, .string ⟨#[97, 108, 108]⟩, .string ⟨#[115, 105, 122, 101]⟩, .string ⟨#[102, 105, 114, 115, 116]⟩, .string ⟨#[115, 104, 111, 119]⟩, .string ⟨#[99, 111, 110, 99, 101, 112, 116]⟩, .string ⟨#[105, 100]⟩, .string ⟨#[114, 101, 97, 100]⟩, .string ⟨#[97, 100, 100]⟩, .string ⟨#[115, 117, 98]⟩, .string ⟨#[109, 117, 108]⟩, .string ⟨#[101, 113]⟩, .string ⟨#[110, 101]⟩, .string ⟨#[108, 116]⟩, .string ⟨#[108, 101]⟩, .string ⟨#[110, 111, 116]⟩, .string ⟨#[97, 110, 100]⟩, .string ⟨#[111, 114]⟩, .string ⟨#[116, 114, 117, 116, 104]⟩, .string ⟨#[117, 110, 108, 101, 115, 115]⟩, .string ⟨#[106, 117, 109, 112]⟩, .string ⟨#[97, 110, 121]⟩, .string ⟨#[101, 118, 101, 114, 121]⟩, .string ⟨#[111, 110, 108, 121]⟩, .string ⟨#[115, 117, 109]⟩, .string ⟨#[110, 101, 120, 116]⟩, .string ⟨#[116, 97, 107, 101]⟩] 9)).cell? ⟨w.heap.size, op.toNat - 1, none⟩ = some (.string (wordC op)) := (Blk.new w 9 #[.string ⟨#[115, 116, 101, 112]⟩, .string ⟨#[105, 110, 116]⟩, .string ⟨#[116, 101, 120, 116]⟩, .string ⟨#[116, 114, 117, 101]⟩, .string ⟨#[102, 97, 108, 115, 101]⟩, .string ⟨#[115, 101, 108, 102]⟩, .string ⟨#[110, 111, 110, 101]⟩, .string ⟨#[108, 111, 97, 100]⟩, .string ⟨#[102, 114, 101, 101]⟩, .string ⟨#[112, 114, 111, 112]⟩, .string ⟨#[107, 105, 100, 115]⟩, .string ⟨#[114, 101, 102]⟩, .string ⟨#[112, 97, 114, 101, 110, 116]⟩, .string ⟨#[105, 115]⟩, .string ⟨#[97, 108, 108]⟩, .string ⟨#[115, 105, 122, 101]⟩, .string ⟨#[102, 105, 114, 115, 116]⟩, .string ⟨#[115, 104, 111, 119]⟩, .string ⟨#[99, 111, 110, 99, 101, 112, 116]⟩, .string ⟨#[105, 100]⟩, .string ⟨#[114, 101, 97, 100]⟩, .string ⟨#[97, 100, 100]⟩, .string ⟨#[115, 117, 98]⟩, .string ⟨#[109, 117, 108]⟩, .string ⟨#[101, 113]⟩, .string ⟨#[110, 101]⟩, .string ⟨#[108, 116]⟩, .string ⟨#[108, 101]⟩, .string ⟨#[110, 111, 116]⟩, .string ⟨#[97, 110, 100]⟩, .string ⟨#[111, 114]⟩, .string ⟨#[116, 114, 117, 116, 104]⟩, .string ⟨#[117, 110, 108, 101, 115, 115]⟩, .string ⟨#[106, 117, 109, 112]⟩, .string ⟨#[97, 110, 121]⟩, .string ⟨#[101, 118, 101, 114, 121]⟩, .string ⟨#[111, 110, 108, 121]⟩, .string ⟨#[115, 117, 109]⟩, .string ⟨#[110, 101, 120, 116]⟩, .string ⟨#[116, 97, 107, 101]⟩]).cell (words_at op h1 h2)
    have f2 := words_at op h1 h2
    go_enter Tryd.func39, Tryd.ntmps39
    go_wp2_with fail
    go_ret
    exact ⟨rfl, (Below.refl _ _).alloc (Nat.le_refl _) _⟩
  · have hw : wordC op = ⟨#[]⟩ := by unfold wordC; rw [if_neg hr]
    have HW := Lib.hid hw
    clear hw
    by_cases h1 : op < 1
    · have h1d : decide (op < 1) = true := by simpa using h1
      go_enter Tryd.func39, Tryd.ntmps39
      go_wp2_with fail
      go_ret
      exact ⟨by rw [HW.out]; rfl, (Below.refl _ _).alloc (Nat.le_refl _) _⟩
    · have h2 : 40 < op := by omega
      have h1d : decide (op < 1) = false := by simpa using h1
      have h2d : decide (40 < op) = true := by simpa using h2
      go_enter Tryd.func39, Tryd.ntmps39
      go_wp2_with fail
      go_ret
      exact ⟨by rw [HW.out]; rfl, (Below.refl _ _).alloc (Nat.le_refl _) _⟩

set_option maxRecDepth 100000 in
set_option maxHeartbeats 8000000 in
theorem has_none (w : World) : Calls Tryd.prog 40 #[.string ⟨#[]⟩] w fun e w' => e = .returned (.string ⟨#[]⟩) ∧ Quiet w w' := by
  go_enter Tryd.func40, Tryd.ntmps40
  go_wp2_with fail
  go_ret
  exact ⟨rfl, Quiet.refl _⟩
set_option maxRecDepth 100000 in
set_option maxHeartbeats 8000000 in
theorem has_any (op : Int) (h1 : 1 ≤ op) (h2 : op ≤ 40) (w : World) : Calls Tryd.prog 40 #[.string (wordC op)] w fun e w' => e = .returned (.string (hasC op)) ∧ Quiet w w' := by
  rcases (by omega : op = 1 ∨ op = 2 ∨ op = 3 ∨ op = 4 ∨ op = 5 ∨ op = 6 ∨ op = 7 ∨ op = 8 ∨ op = 9 ∨ op = 10 ∨ op = 11 ∨ op = 12 ∨ op = 13 ∨ op = 14 ∨ op = 15 ∨ op = 16 ∨ op = 17 ∨ op = 18 ∨ op = 19 ∨ op = 20 ∨ op = 21 ∨ op = 22 ∨ op = 23 ∨ op = 24 ∨ op = 25 ∨ op = 26 ∨ op = 27 ∨ op = 28 ∨ op = 29 ∨ op = 30 ∨ op = 31 ∨ op = 32 ∨ op = 33 ∨ op = 34 ∨ op = 35 ∨ op = 36 ∨ op = 37 ∨ op = 38 ∨ op = 39 ∨ op = 40) with rfl | rfl | rfl | rfl | rfl | rfl | rfl | rfl | rfl | rfl | rfl | rfl | rfl | rfl | rfl | rfl | rfl | rfl | rfl | rfl | rfl | rfl | rfl | rfl | rfl | rfl | rfl | rfl | rfl | rfl | rfl | rfl | rfl | rfl | rfl | rfl | rfl | rfl | rfl | rfl
  · rw [show wordC 1 = ⟨#[115, 116, 101, 112]⟩ from rfl, show hasC 1 = ⟨#[99, 111, 117, 110, 116, 32, 49]⟩ from rfl]
    clear h1 h2
    go_enter Tryd.func40, Tryd.ntmps40
    go_wp2_with fail
    go_ret
    exact ⟨rfl, Quiet.refl _⟩
  · rw [show wordC 2 = ⟨#[105, 110, 116]⟩ from rfl, show hasC 2 = ⟨#[110, 117, 109, 98, 101, 114]⟩ from rfl]
    clear h1 h2
    go_enter Tryd.func40, Tryd.ntmps40
    go_wp2_with fail
    go_ret
    exact ⟨rfl, Quiet.refl _⟩
  · rw [show wordC 3 = ⟨#[116, 101, 120, 116]⟩ from rfl, show hasC 3 = ⟨#[116, 101, 120, 116]⟩ from rfl]
    clear h1 h2
    go_enter Tryd.func40, Tryd.ntmps40
    go_wp2_with fail
    go_ret
    exact ⟨rfl, Quiet.refl _⟩
  · rw [show wordC 4 = ⟨#[116, 114, 117, 101]⟩ from rfl, show hasC 4 = ⟨#[]⟩ from rfl]
    clear h1 h2
    go_enter Tryd.func40, Tryd.ntmps40
    go_wp2_with fail
    go_ret
    exact ⟨rfl, Quiet.refl _⟩
  · rw [show wordC 5 = ⟨#[102, 97, 108, 115, 101]⟩ from rfl, show hasC 5 = ⟨#[]⟩ from rfl]
    clear h1 h2
    go_enter Tryd.func40, Tryd.ntmps40
    go_wp2_with fail
    go_ret
    exact ⟨rfl, Quiet.refl _⟩
  · rw [show wordC 6 = ⟨#[115, 101, 108, 102]⟩ from rfl, show hasC 6 = ⟨#[]⟩ from rfl]
    clear h1 h2
    go_enter Tryd.func40, Tryd.ntmps40
    go_wp2_with fail
    go_ret
    exact ⟨rfl, Quiet.refl _⟩
  · rw [show wordC 7 = ⟨#[110, 111, 110, 101]⟩ from rfl, show hasC 7 = ⟨#[]⟩ from rfl]
    clear h1 h2
    go_enter Tryd.func40, Tryd.ntmps40
    go_wp2_with fail
    go_ret
    exact ⟨rfl, Quiet.refl _⟩
  · rw [show wordC 8 = ⟨#[108, 111, 97, 100]⟩ from rfl, show hasC 8 = ⟨#[99, 111, 117, 110, 116, 32, 48]⟩ from rfl]
    clear h1 h2
    go_enter Tryd.func40, Tryd.ntmps40
    go_wp2_with fail
    go_ret
    exact ⟨rfl, Quiet.refl _⟩
  · rw [show wordC 9 = ⟨#[102, 114, 101, 101]⟩ from rfl, show hasC 9 = ⟨#[]⟩ from rfl]
    clear h1 h2
    go_enter Tryd.func40, Tryd.ntmps40
    go_wp2_with fail
    go_ret
    exact ⟨rfl, Quiet.refl _⟩
  · rw [show wordC 10 = ⟨#[112, 114, 111, 112]⟩ from rfl, show hasC 10 = ⟨#[110, 97, 109, 101]⟩ from rfl]
    clear h1 h2
    go_enter Tryd.func40, Tryd.ntmps40
    go_wp2_with fail
    go_ret
    exact ⟨rfl, Quiet.refl _⟩
  · rw [show wordC 11 = ⟨#[107, 105, 100, 115]⟩ from rfl, show hasC 11 = ⟨#[110, 97, 109, 101]⟩ from rfl]
    clear h1 h2
    go_enter Tryd.func40, Tryd.ntmps40
    go_wp2_with fail
    go_ret
    exact ⟨rfl, Quiet.refl _⟩
  · rw [show wordC 12 = ⟨#[114, 101, 102]⟩ from rfl, show hasC 12 = ⟨#[110, 97, 109, 101]⟩ from rfl]
    clear h1 h2
    go_enter Tryd.func40, Tryd.ntmps40
    go_wp2_with fail
    go_ret
    exact ⟨rfl, Quiet.refl _⟩
  · rw [show wordC 13 = ⟨#[112, 97, 114, 101, 110, 116]⟩ from rfl, show hasC 13 = ⟨#[]⟩ from rfl]
    clear h1 h2
    go_enter Tryd.func40, Tryd.ntmps40
    go_wp2_with fail
    go_ret
    exact ⟨rfl, Quiet.refl _⟩
  · rw [show wordC 14 = ⟨#[105, 115]⟩ from rfl, show hasC 14 = ⟨#[110, 97, 109, 101]⟩ from rfl]
    clear h1 h2
    go_enter Tryd.func40, Tryd.ntmps40
    go_wp2_with fail
    go_ret
    exact ⟨rfl, Quiet.refl _⟩
  · rw [show wordC 15 = ⟨#[97, 108, 108]⟩ from rfl, show hasC 15 = ⟨#[110, 97, 109, 101]⟩ from rfl]
    clear h1 h2
    go_enter Tryd.func40, Tryd.ntmps40
    go_wp2_with fail
    go_ret
    exact ⟨rfl, Quiet.refl _⟩
  · rw [show wordC 16 = ⟨#[115, 105, 122, 101]⟩ from rfl, show hasC 16 = ⟨#[]⟩ from rfl]
    clear h1 h2
    go_enter Tryd.func40, Tryd.ntmps40
    go_wp2_with fail
    go_ret
    exact ⟨rfl, Quiet.refl _⟩
  · rw [show wordC 17 = ⟨#[102, 105, 114, 115, 116]⟩ from rfl, show hasC 17 = ⟨#[]⟩ from rfl]
    clear h1 h2
    go_enter Tryd.func40, Tryd.ntmps40
    go_wp2_with fail
    go_ret
    exact ⟨rfl, Quiet.refl _⟩
  · rw [show wordC 18 = ⟨#[115, 104, 111, 119]⟩ from rfl, show hasC 18 = ⟨#[]⟩ from rfl]
    clear h1 h2
    go_enter Tryd.func40, Tryd.ntmps40
    go_wp2_with fail
    go_ret
    exact ⟨rfl, Quiet.refl _⟩
  · rw [show wordC 19 = ⟨#[99, 111, 110, 99, 101, 112, 116]⟩ from rfl, show hasC 19 = ⟨#[]⟩ from rfl]
    clear h1 h2
    go_enter Tryd.func40, Tryd.ntmps40
    go_wp2_with fail
    go_ret
    exact ⟨rfl, Quiet.refl _⟩
  · rw [show wordC 20 = ⟨#[105, 100]⟩ from rfl, show hasC 20 = ⟨#[]⟩ from rfl]
    clear h1 h2
    go_enter Tryd.func40, Tryd.ntmps40
    go_wp2_with fail
    go_ret
    exact ⟨rfl, Quiet.refl _⟩
  · rw [show wordC 21 = ⟨#[114, 101, 97, 100]⟩ from rfl, show hasC 21 = ⟨#[]⟩ from rfl]
    clear h1 h2
    go_enter Tryd.func40, Tryd.ntmps40
    go_wp2_with fail
    go_ret
    exact ⟨rfl, Quiet.refl _⟩
  · rw [show wordC 22 = ⟨#[97, 100, 100]⟩ from rfl, show hasC 22 = ⟨#[]⟩ from rfl]
    clear h1 h2
    go_enter Tryd.func40, Tryd.ntmps40
    go_wp2_with fail
    go_ret
    exact ⟨rfl, Quiet.refl _⟩
  · rw [show wordC 23 = ⟨#[115, 117, 98]⟩ from rfl, show hasC 23 = ⟨#[]⟩ from rfl]
    clear h1 h2
    go_enter Tryd.func40, Tryd.ntmps40
    go_wp2_with fail
    go_ret
    exact ⟨rfl, Quiet.refl _⟩
  · rw [show wordC 24 = ⟨#[109, 117, 108]⟩ from rfl, show hasC 24 = ⟨#[]⟩ from rfl]
    clear h1 h2
    go_enter Tryd.func40, Tryd.ntmps40
    go_wp2_with fail
    go_ret
    exact ⟨rfl, Quiet.refl _⟩
  · rw [show wordC 25 = ⟨#[101, 113]⟩ from rfl, show hasC 25 = ⟨#[]⟩ from rfl]
    clear h1 h2
    go_enter Tryd.func40, Tryd.ntmps40
    go_wp2_with fail
    go_ret
    exact ⟨rfl, Quiet.refl _⟩
  · rw [show wordC 26 = ⟨#[110, 101]⟩ from rfl, show hasC 26 = ⟨#[]⟩ from rfl]
    clear h1 h2
    go_enter Tryd.func40, Tryd.ntmps40
    go_wp2_with fail
    go_ret
    exact ⟨rfl, Quiet.refl _⟩
  · rw [show wordC 27 = ⟨#[108, 116]⟩ from rfl, show hasC 27 = ⟨#[]⟩ from rfl]
    clear h1 h2
    go_enter Tryd.func40, Tryd.ntmps40
    go_wp2_with fail
    go_ret
    exact ⟨rfl, Quiet.refl _⟩
  · rw [show wordC 28 = ⟨#[108, 101]⟩ from rfl, show hasC 28 = ⟨#[]⟩ from rfl]
    clear h1 h2
    go_enter Tryd.func40, Tryd.ntmps40
    go_wp2_with fail
    go_ret
    exact ⟨rfl, Quiet.refl _⟩
  · rw [show wordC 29 = ⟨#[110, 111, 116]⟩ from rfl, show hasC 29 = ⟨#[]⟩ from rfl]
    clear h1 h2
    go_enter Tryd.func40, Tryd.ntmps40
    go_wp2_with fail
    go_ret
    exact ⟨rfl, Quiet.refl _⟩
  · rw [show wordC 30 = ⟨#[97, 110, 100]⟩ from rfl, show hasC 30 = ⟨#[112, 108, 97, 99, 101]⟩ from rfl]
    clear h1 h2
    go_enter Tryd.func40, Tryd.ntmps40
    go_wp2_with fail
    go_ret
    exact ⟨rfl, Quiet.refl _⟩
  · rw [show wordC 31 = ⟨#[111, 114]⟩ from rfl, show hasC 31 = ⟨#[112, 108, 97, 99, 101]⟩ from rfl]
    clear h1 h2
    go_enter Tryd.func40, Tryd.ntmps40
    go_wp2_with fail
    go_ret
    exact ⟨rfl, Quiet.refl _⟩
  · rw [show wordC 32 = ⟨#[116, 114, 117, 116, 104]⟩ from rfl, show hasC 32 = ⟨#[]⟩ from rfl]
    clear h1 h2
    go_enter Tryd.func40, Tryd.ntmps40
    go_wp2_with fail
    go_ret
    exact ⟨rfl, Quiet.refl _⟩
  · rw [show wordC 33 = ⟨#[117, 110, 108, 101, 115, 115]⟩ from rfl, show hasC 33 = ⟨#[112, 108, 97, 99, 101]⟩ from rfl]
    clear h1 h2
    go_enter Tryd.func40, Tryd.ntmps40
    go_wp2_with fail
    go_ret
    exact ⟨rfl, Quiet.refl _⟩
  · rw [show wordC 34 = ⟨#[106, 117, 109, 112]⟩ from rfl, show hasC 34 = ⟨#[112, 108, 97, 99, 101]⟩ from rfl]
    clear h1 h2
    go_enter Tryd.func40, Tryd.ntmps40
    go_wp2_with fail
    go_ret
    exact ⟨rfl, Quiet.refl _⟩
  · rw [show wordC 35 = ⟨#[97, 110, 121]⟩ from rfl, show hasC 35 = ⟨#[]⟩ from rfl]
    clear h1 h2
    go_enter Tryd.func40, Tryd.ntmps40
    go_wp2_with fail
    go_ret
    exact ⟨rfl, Quiet.refl _⟩
  · rw [show wordC 36 = ⟨#[101, 118, 101, 114, 121]⟩ from rfl, show hasC 36 = ⟨#[]⟩ from rfl]
    clear h1 h2
    go_enter Tryd.func40, Tryd.ntmps40
    go_wp2_with fail
    go_ret
    exact ⟨rfl, Quiet.refl _⟩
  · rw [show wordC 37 = ⟨#[111, 110, 108, 121]⟩ from rfl, show hasC 37 = ⟨#[]⟩ from rfl]
    clear h1 h2
    go_enter Tryd.func40, Tryd.ntmps40
    go_wp2_with fail
    go_ret
    exact ⟨rfl, Quiet.refl _⟩
  · rw [show wordC 38 = ⟨#[115, 117, 109]⟩ from rfl, show hasC 38 = ⟨#[]⟩ from rfl]
    clear h1 h2
    go_enter Tryd.func40, Tryd.ntmps40
    go_wp2_with fail
    go_ret
    exact ⟨rfl, Quiet.refl _⟩
  · rw [show wordC 39 = ⟨#[110, 101, 120, 116]⟩ from rfl, show hasC 39 = ⟨#[112, 108, 97, 99, 101]⟩ from rfl]
    clear h1 h2
    go_enter Tryd.func40, Tryd.ntmps40
    go_wp2_with fail
    go_ret
    exact ⟨rfl, Quiet.refl _⟩
  · rw [show wordC 40 = ⟨#[116, 97, 107, 101]⟩ from rfl, show hasC 40 = ⟨#[112, 108, 97, 99, 101]⟩ from rfl]
    clear h1 h2
    go_enter Tryd.func40, Tryd.ntmps40
    go_wp2_with fail
    go_ret
    exact ⟨rfl, Quiet.refl _⟩
theorem info_intC : (Tryd.prog.info? 3).map (fun i => (i.zero, i.size, i.bytes)) = some (some (.int .i64 0), 1, 8) := by kernel_rfl
theorem IsInt.oneC (x : List Value) (y : Int) (hx : IsInt x y) : ∀ u ∈ x, u.oneCell' = true := by
  intro u hu
  rw [hx.1] at hu
  simp at hu
  subst hu
  rfl
abbrev KnS := KnR 66 3
abbrev InR (W : World) := RowR W 3 1 IsInt
def LedK (W : World) (g : Nat) (r : Option (List Pl)) (e : Ending) (w' : World) : Prop :=
  e = .returned (.bool r.isSome) ∧ W.grownBy w' (some g) ∧ ∀ l', r = some l' → KnS w' g l'
theorem maps_eq {a b : List (Int × Int)} : a = b ↔ a.map (·.1) = b.map (·.1) ∧ a.map (·.2) = b.map (·.2) := by
  constructor
  · rintro rfl; exact ⟨rfl, rfl⟩
  · intro h
    induction a generalizing b with
    | nil => cases b with | nil => rfl | cons y t => simp at h
    | cons x s ih =>
      cases b with
      | nil => simp at h
      | cons y t =>
        simp only [List.map_cons, List.cons.injEq] at h
        rw [ih ⟨h.1.2, h.2.2⟩]
        obtain ⟨x1, x2⟩ := x
        obtain ⟨y1, y2⟩ := y
        simp at h
        rw [h.1.1, h.2.1]
set_option maxRecDepth 100000 in
set_option maxHeartbeats 4000000 in
theorem leads_any {g n c : Nat} {l : List Pl} (W : World) (to : Nat) (h : Int) (bv nv : Value) (ls : List (Int × Int))
   (HP : KnS W g l) (hn : n = l.length) (hto : to < l.length) (hmax : n ≤ 1025) (hfew : ls.length ≤ 1025) (hb : InR W bv (ls.map (·.1))) (hnx : InR W nv (ls.map (·.2))) :
    Calls Tryd.prog 42 #[.slice (some ⟨g, 0, none⟩) n c, .int .i64 to, .int .i64 h, bv, nv] W (LedK W g (leadN l to h ls)) := by
  obtain ⟨p, hp⟩ := get_some rfl hto
  obtain ⟨pb, pn, e0, e1, e2, e3, eb, en⟩ := HP.at_ hp
  obtain ⟨pba, pbc, rfl⟩ := eb.form
  obtain ⟨pna, pnc, rfl⟩ := en.form
  obtain ⟨ba, bc, rfl⟩ := hb.form
  obtain ⟨na, nc, rfl⟩ := hnx.form
  have HE := Lib.hid (fun W' (hW : Below W.heap.size W W') => ref_ints W' W eb.read hb.read hW)
  have HF := Lib.hid (fun W' (hW : Below W.heap.size W W') => ref_ints W' W en.read hnx.read hW)
  have f0 := HP.froz (to * 4)
  have hgl := HP.lt
  have hto1 : (to : Int) < (n : Int) := by omega
  have hto0 : (0 : Int) ≤ (to : Int) := Int.natCast_nonneg _
  have HP' := Lib.hid HP
  have Hto := Lib.hid hto
  have Hb := Lib.hid hb
  have Hnx := Lib.hid hnx
  have Hfew := Lib.hid hfew
  have Hp := Lib.hid hp
  have HLN : Hid (leadN l to h ls = if p.known = true then (if p.height = h ∧ p.loops = ls then some l else none) else some (l.set to ⟨true, h, ls⟩)) := Lib.hid (by unfold leadN; rw [hp])
  clear HP hn hto hp eb en hfew hb hnx
  simp only [List.length_map] at *
  obtain ⟨pk, hpk⟩ : ∃ b, p.known = b := ⟨_, rfl⟩
  rw [hpk] at e0
  have Hpk := Lib.hid hpk
  clear hpk
  cases pk with
  | true =>
    by_cases hh : p.height = h
    · have hh1 : (p.height == h) = true := by simpa using hh
      have Hh := Lib.hid hh
      by_cases hm1 : p.loops.map (·.1) = ls.map (·.1)
      · have Hm1 := Lib.hid hm1
        have HE2 : Hid (∀ W', Below W.heap.size W W' → Calls Tryd.prog 68 #[.slice pba p.loops.length pbc, .slice ba ls.length bc] W' fun e w' => e = .returned (.bool true) ∧ Quiet W' w') := Lib.hid (fun W' hW => by have := HE.out W' hW; rw [decide_eq_true Hm1.out] at this; exact this)
        clear hm1
        have tok1 : True := trivial
        go_enter Tryd.func42, Tryd.ntmps42
        go_wp2_with (first
          | (have _t := tok1; go_at_call 68; refine (HE2.out _ (Below.refl _ _)).mono ?_; rintro e w1 ⟨rfl, nq, rfl⟩; clear tok1 _t)
          | (go_at_call 68; refine (HF.out _ (below_drewN (Below.refl _ _) _)).mono ?_; rintro e w2 ⟨rfl, nr, rfl⟩)
          | fail)
        go_ret
        refine ⟨?_, grown_below (below_drewN (Below.refl _ _) _) _, fun l' e => ?_⟩
        · rw [HLN.out, Hpk.out, if_pos rfl]
          by_cases hl : p.loops = ls
          · rw [if_pos ⟨Hh.out, hl⟩]; simp [hl]
          · rw [if_neg (fun a => hl a.2)]
            have : ¬ p.loops.map (·.2) = ls.map (·.2) := fun e => hl (maps_eq.2 ⟨Hm1.out, e⟩)
            simp [this]
        · rw [HLN.out, Hpk.out, if_pos rfl] at e
          split at e
          · injection e with e; subst e; exact HP'.out.below (below_drewN (Below.refl _ _) _)
          · cases e
      · have Hm1 := Lib.hid hm1
        have HE2 : Hid (∀ W', Below W.heap.size W W' → Calls Tryd.prog 68 #[.slice pba p.loops.length pbc, .slice ba ls.length bc] W' fun e w' => e = .returned (.bool false) ∧ Quiet W' w') := Lib.hid (fun W' hW => by have := HE.out W' hW; rw [decide_eq_false Hm1.out] at this; exact this)
        clear hm1
        go_enter Tryd.func42, Tryd.ntmps42
        go_wp2_with (first
          | (go_at_call 68; refine (HE2.out _ (Below.refl _ _)).mono ?_; rintro e w1 ⟨rfl, nq, rfl⟩)
          | fail)
        go_ret
        have hnone : leadN l to h ls = none := by rw [HLN.out, Hpk.out, if_pos rfl, if_neg (fun a => Hm1.out (by rw [a.2]))]
        refine ⟨by rw [hnone]; rfl, grown_below (below_drewN (Below.refl _ _) _) _, fun l' e => ?_⟩
        rw [hnone] at e; cases e
    · have hh1 : (p.height == h) = false := by simpa using hh
      have Hh := Lib.hid hh
      go_enter Tryd.func42, Tryd.ntmps42
      go_wp2_with fail
      go_ret
      have hnone : leadN l to h ls = none := by rw [HLN.out, Hpk.out, if_pos rfl, if_neg (fun a => Hh.out a.1)]
      refine ⟨by rw [hnone]; rfl, grown_below (Below.refl _ _) _, fun l' e => ?_⟩
      rw [hnone] at e; cases e
  | false =>
    obtain ⟨jI, hi, hz, hsz, hby⟩ := info_parts info_intC
    have I := Lib.hid (And.intro hi (And.intro hz (And.intro hsz hby)))
    clear hi hz hsz hby
    have hs : leadN l to h ls = some (l.set to ⟨true, h, ls⟩) := by rw [HLN.out, Hpk.out]; simp
    have HS := Lib.hid hs
    clear hs e1 e2 e3 f0
    have tok1 : True := trivial
    have tok2 : True := trivial
    go_enter Tryd.func42, Tryd.ntmps42
    go_wp2_with (first
      | (have _t := tok1
         at_builtin
         go_must (refine wpList_append_list rfl (.tmp 44) (.tmp 45) _ (by rfl) W.heap.size W.heap.size 3 jI _ 1 8 Tryd.underlying64 I.out.1 I.out.2.1 I.out.2.2.1 I.out.2.2.2 rfl (by omega) (R := IsInt) (l := []) (m := ls.map (·.1)) (.slice (some ⟨W.heap.size, 0, none⟩) 0 0) (by rfl) (by exact Own1.empty rfl (Nat.le_refl _)) ba ls.length bc (by rfl) (by exact Hb.out.read.below ((Below.refl _ _).alloc (Nat.le_refl _) _)) ls.length (by simp) IsInt.oneC (by have := Hfew.out; simp; unfold maxLen; omega) (by have := Hfew.out; simp; omega) (by simp) ?_)
         intro xa xc w1 hown hgr
         have B1 : Hid (Below W.heap.size W w1) := Lib.hid (((Below.refl _ _).alloc (Nat.le_refl _) _).grown hgr (by simp) (fun g hg => Nat.le_of_eq (Option.some.inj hg)))
         have O1 : Hid (Own1 w1 W.heap.size 3 1 IsInt (.slice xa ls.length xc) (ls.map (·.1))) := Lib.hid (by simpa using hown)
         clear tok1 _t hown hgr)
      | (have _t := tok2
         have _o := O1
         at_builtin
         go_must (refine wpList_append_list rfl (.tmp 47) (.tmp 48) _ (by rfl) w1.heap.size w1.heap.size 3 jI _ 1 8 Tryd.underlying64 I.out.1 I.out.2.1 I.out.2.2.1 I.out.2.2.2 rfl (by omega) (R := IsInt) (l := []) (m := ls.map (·.2)) (.slice (some ⟨w1.heap.size, 0, none⟩) 0 0) (by rfl) (by exact Own1.empty rfl (Nat.le_refl _)) na ls.length nc (by rfl) (by exact (Hnx.out.below B1.out).read.below ((Below.refl _ _).alloc (Nat.le_refl _) _)) ls.length (by simp) IsInt.oneC (by have := Hfew.out; simp; unfold maxLen; omega) (by have := Hfew.out; simp; omega) (by simp) ?_)
         intro ya yc w2 hown hgr
         have B2 : Hid (Below w1.heap.size w1 w2) := Lib.hid (((Below.refl _ _).alloc (Nat.le_refl _) _).grown hgr (by simp) (fun g hg => Nat.le_of_eq (Option.some.inj hg)))
         have O2 : Hid (Own1 w2 w1.heap.size 3 1 IsInt (.slice ya ls.length yc) (ls.map (·.2))) := Lib.hid (by simpa using hown)
         have L2 : Hid (Below W.heap.size W w2) := Lib.hid (B1.out.trans (B2.out.mono B1.out.size))
         have P2 := HP'.out.below L2.out
         obtain ⟨_, _, q0, q1, q2, q3, _, _⟩ := P2.at_ Hp.out
         have f0 := P2.froz (to * 4)
         have f1 := P2.froz (to * 4 + 1)
         have f2 := P2.froz (to * 4 + 2)
         have f3 := P2.froz (to * 4 + 3)
         have HP2 := Lib.hid P2
         clear tok2 _t hown hgr P2)
      | fail)
    go_ret
    refine ⟨by rw [HS.out]; rfl, grown_trans (grown_trans (grown_trans (grown_trans (grown_below L2.out _) (grown_set _ _ _ _)) (grown_set _ _ _ _)) (grown_set _ _ _ _)) (grown_set _ _ _ _), fun l' e => ?_⟩
    rw [HS.out] at e
    injection e with e
    subst e
    exact HP2.out.set_ Hto.out h (r0 := by simpa using (RowR.of_own O1.out (by decide)).below B2.out) (r1 := by simpa using RowR.of_own O2.out (by decide))

end Go.Proofs.YtdkoafmgenbkbaaDoor
