/- meta.New at one language whose lists are empty: a table, and no fault. -/
import Derived.Test.YtikplcpghohklaaGreatMod0
import Derived.Laws.IdiomRangeMap
import Derived.LoopN
import Derived.Carry
namespace Go.Proofs.YtikplcpghohklaaGreat
set_option linter.unusedSimpArgs false
set_option linter.unusedVariables false
open Go.RowKit

set_option maxRecDepth 100000 in
theorem lf_Concept (s0 : ByteArray) (s1 : Int) (a2 : Option Addr) (n2 c2 : Nat) (a3 : Option Addr) (n3 c3 : Nat) (a4 : Option Addr) (n4 c4 : Nat) (a5 : Option Addr) (n5 c5 : Nat) (a6 : Option Addr) (n6 c6 : Nat) (a7 : Option Addr) (n7 c7 : Nat) (w : World) :
    Calls Tryz.prog 93 #[.agg #[.string s0, .int .i64 s1, .slice a2 n2 c2, .slice a3 n3 c3, .slice a4 n4 c4, .slice a5 n5 c5, .slice a6 n6 c6, .slice a7 n7 c7]] w fun e w' => e = .returned (.slice a3 n3 c3) ∧ Below w.heap.size w w' := by
  go_enter Tryz.func93, Tryz.ntmps93
  go_wp2_with fail
  go_ret
  exact ⟨rfl, by first | exact Below.refl _ _ | exact (Below.refl _ _).alloc (Nat.le_refl _) _⟩
set_option maxRecDepth 100000 in
set_option maxHeartbeats 2000000 in
theorem each_none_Concept {ls : List Language} {v : Value} (u : Value) (w w0 : World) (hs : LsR w0 w0.heap.size v ls) (hw : Below w0.heap.size w0 w) (hno : ∀ l ∈ ls, l.concepts = []) :
    Calls Tryz.prog 92 #[v, .func (.func 93) #[] #[], u] w fun e w' => e = .returned (.pointer none) ∧ Below w.heap.size w w' := by
  obtain ⟨a, c, rfl⟩ : ∃ a c, v = .slice a ls.length c := by obtain ⟨a, c, h, _⟩ := hs.form; exact ⟨a, c, h⟩
  have hcap := hs.caps
  have hn63 : ls.length ≤ 9223372036854775807 := by unfold maxLen at hcap; omega
  obtain ⟨n, hn⟩ : ∃ n, ls.length = n := ⟨_, rfl⟩
  rw [hn] at hs hn63 ⊢
  have Hn := Lib.hid hn
  have Hs := Lib.hid hs
  have Hw := Lib.hid hw
  have Hno := Lib.hid hno
  clear hs hw hcap hn hno
  go_enter Tryz.func92, Tryz.ntmps92
  go_wp2_with fail
  go_loopw [7, 8, 9, 10, 11, 14] (fun _ _ _ _ _ j wr => ∃ k : Nat, k ≤ n ∧ j = .int .i64 (k : Int) ∧ Hid (Below w.heap.size w wr)) (fun _ _ _ _ _ j _ => n - (intOf j).toNat)
  case atStart => exact ⟨0, Nat.zero_le _, rfl, Below.refl _ _⟩
  case round =>
    obtain ⟨k, hk, rfl, hB⟩ := hrel
    have hWr := Hw.out.trans (hB.out.mono Hw.out.size)
    by_cases hlt : k < n
    · obtain ⟨l, hd⟩ := get_some Hn.out hlt
      obtain ⟨b, off, x, rfl, hbB, hxl, ⟨v1, v2, v3, v4, v5, v6, rfl, s1, s2, s3, s4, s5, s6, _⟩, hx⟩ := (Hs.out.same_base hWr).at_ hd
      have he := Hno.out l (List.mem_iff_getElem?.2 ⟨k, hd⟩)
      have hz := s2.form
      rw [he] at hz

      obtain ⟨a1, n1, c1, rfl⟩ := s1.form'
      obtain ⟨a2, c2, rfl, _⟩ := hz
      obtain ⟨n2, hn2⟩ : ∃ z : Nat, z = 0 := ⟨_, rfl⟩
      obtain ⟨a3, n3, c3, rfl⟩ := s3.form'
      obtain ⟨a4, n4, c4, rfl⟩ := s4.form'
      obtain ⟨a5, n5, c5, rfl⟩ := s5.form'
      obtain ⟨a6, n6, c6, rfl⟩ := s6.form'
      simp only [List.length_nil] at hx
      have x0 := hx 0 _ rfl
      have x1 := hx 1 _ rfl
      have x2 := hx 2 _ rfl
      have x3 := hx 3 _ rfl
      have x4 := hx 4 _ rfl
      have x5 := hx 5 _ rfl
      have x6 := hx 6 _ rfl
      have x7 := hx 7 _ rfl
      simp only [Nat.add_zero] at x0
      have HB := hB
      clear hd hx hxl s1 s2 s3 s4 s5 s6 hWr hB he
      go_wp2_with (go_at_call 93; refine (lf_Concept _ _ _ _ _ _ _ _ _ _ _ _ _ _ _ _ _ _ _ _ _).mono ?_; rintro e w2 ⟨rfl, hb2⟩; have B2 : Hid (Below w.heap.size w w2) := Lib.hid ((HB.out.alloc HB.out.size _).trans (hb2.mono (by have := HB.out.size; simp; omega))); clear hb2)
      refine wp_loop_rounds 1 ?_
      rw [rounds_succ]
      go_wp2_with fail
      go_roundw
      case rel => exact ⟨k + 1, by omega, by go_num, B2⟩
      case measure => simp [intOf]; omega
    · have hge : n ≤ k := by omega
      have HB := hB
      clear hlt hB hWr
      go_wp2_with fail
      go_ret
      exact ⟨rfl, HB.out⟩

set_option maxRecDepth 100000 in
theorem lf_Rule (s0 : ByteArray) (s1 : Int) (a2 : Option Addr) (n2 c2 : Nat) (a3 : Option Addr) (n3 c3 : Nat) (a4 : Option Addr) (n4 c4 : Nat) (a5 : Option Addr) (n5 c5 : Nat) (a6 : Option Addr) (n6 c6 : Nat) (a7 : Option Addr) (n7 c7 : Nat) (w : World) :
    Calls Tryz.prog 100 #[.agg #[.string s0, .int .i64 s1, .slice a2 n2 c2, .slice a3 n3 c3, .slice a4 n4 c4, .slice a5 n5 c5, .slice a6 n6 c6, .slice a7 n7 c7]] w fun e w' => e = .returned (.slice a4 n4 c4) ∧ Below w.heap.size w w' := by
  go_enter Tryz.func100, Tryz.ntmps100
  go_wp2_with fail
  go_ret
  exact ⟨rfl, by first | exact Below.refl _ _ | exact (Below.refl _ _).alloc (Nat.le_refl _) _⟩
set_option maxRecDepth 100000 in
set_option maxHeartbeats 2000000 in
theorem each_none_Rule {ls : List Language} {v : Value} (u : Value) (w w0 : World) (hs : LsR w0 w0.heap.size v ls) (hw : Below w0.heap.size w0 w) (hno : ∀ l ∈ ls, l.rules = []) :
    Calls Tryz.prog 99 #[v, .func (.func 100) #[] #[], u] w fun e w' => e = .returned (.pointer none) ∧ Below w.heap.size w w' := by
  obtain ⟨a, c, rfl⟩ : ∃ a c, v = .slice a ls.length c := by obtain ⟨a, c, h, _⟩ := hs.form; exact ⟨a, c, h⟩
  have hcap := hs.caps
  have hn63 : ls.length ≤ 9223372036854775807 := by unfold maxLen at hcap; omega
  obtain ⟨n, hn⟩ : ∃ n, ls.length = n := ⟨_, rfl⟩
  rw [hn] at hs hn63 ⊢
  have Hn := Lib.hid hn
  have Hs := Lib.hid hs
  have Hw := Lib.hid hw
  have Hno := Lib.hid hno
  clear hs hw hcap hn hno
  go_enter Tryz.func99, Tryz.ntmps99
  go_wp2_with fail
  go_loopw [7, 8, 9, 10, 11, 14] (fun _ _ _ _ _ j wr => ∃ k : Nat, k ≤ n ∧ j = .int .i64 (k : Int) ∧ Hid (Below w.heap.size w wr)) (fun _ _ _ _ _ j _ => n - (intOf j).toNat)
  case atStart => exact ⟨0, Nat.zero_le _, rfl, Below.refl _ _⟩
  case round =>
    obtain ⟨k, hk, rfl, hB⟩ := hrel
    have hWr := Hw.out.trans (hB.out.mono Hw.out.size)
    by_cases hlt : k < n
    · obtain ⟨l, hd⟩ := get_some Hn.out hlt
      obtain ⟨b, off, x, rfl, hbB, hxl, ⟨v1, v2, v3, v4, v5, v6, rfl, s1, s2, s3, s4, s5, s6, _⟩, hx⟩ := (Hs.out.same_base hWr).at_ hd
      have he := Hno.out l (List.mem_iff_getElem?.2 ⟨k, hd⟩)
      have hz := s3.form
      rw [he] at hz

      obtain ⟨a1, n1, c1, rfl⟩ := s1.form'
      obtain ⟨a2, n2, c2, rfl⟩ := s2.form'
      obtain ⟨a3, c3, rfl, _⟩ := hz
      obtain ⟨n3, hn3⟩ : ∃ z : Nat, z = 0 := ⟨_, rfl⟩
      obtain ⟨a4, n4, c4, rfl⟩ := s4.form'
      obtain ⟨a5, n5, c5, rfl⟩ := s5.form'
      obtain ⟨a6, n6, c6, rfl⟩ := s6.form'
      simp only [List.length_nil] at hx
      have x0 := hx 0 _ rfl
      have x1 := hx 1 _ rfl
      have x2 := hx 2 _ rfl
      have x3 := hx 3 _ rfl
      have x4 := hx 4 _ rfl
      have x5 := hx 5 _ rfl
      have x6 := hx 6 _ rfl
      have x7 := hx 7 _ rfl
      simp only [Nat.add_zero] at x0
      have HB := hB
      clear hd hx hxl s1 s2 s3 s4 s5 s6 hWr hB he
      go_wp2_with (go_at_call 100; refine (lf_Rule _ _ _ _ _ _ _ _ _ _ _ _ _ _ _ _ _ _ _ _ _).mono ?_; rintro e w2 ⟨rfl, hb2⟩; have B2 : Hid (Below w.heap.size w w2) := Lib.hid ((HB.out.alloc HB.out.size _).trans (hb2.mono (by have := HB.out.size; simp; omega))); clear hb2)
      refine wp_loop_rounds 1 ?_
      rw [rounds_succ]
      go_wp2_with fail
      go_roundw
      case rel => exact ⟨k + 1, by omega, by go_num, B2⟩
      case measure => simp [intOf]; omega
    · have hge : n ≤ k := by omega
      have HB := hB
      clear hlt hB hWr
      go_wp2_with fail
      go_ret
      exact ⟨rfl, HB.out⟩

set_option maxRecDepth 100000 in
theorem lf_Equation (s0 : ByteArray) (s1 : Int) (a2 : Option Addr) (n2 c2 : Nat) (a3 : Option Addr) (n3 c3 : Nat) (a4 : Option Addr) (n4 c4 : Nat) (a5 : Option Addr) (n5 c5 : Nat) (a6 : Option Addr) (n6 c6 : Nat) (a7 : Option Addr) (n7 c7 : Nat) (w : World) :
    Calls Tryz.prog 106 #[.agg #[.string s0, .int .i64 s1, .slice a2 n2 c2, .slice a3 n3 c3, .slice a4 n4 c4, .slice a5 n5 c5, .slice a6 n6 c6, .slice a7 n7 c7]] w fun e w' => e = .returned (.slice a5 n5 c5) ∧ Below w.heap.size w w' := by
  go_enter Tryz.func106, Tryz.ntmps106
  go_wp2_with fail
  go_ret
  exact ⟨rfl, by first | exact Below.refl _ _ | exact (Below.refl _ _).alloc (Nat.le_refl _) _⟩
set_option maxRecDepth 100000 in
set_option maxHeartbeats 2000000 in
theorem each_none_Equation {ls : List Language} {v : Value} (u : Value) (w w0 : World) (hs : LsR w0 w0.heap.size v ls) (hw : Below w0.heap.size w0 w) (hno : ∀ l ∈ ls, l.equations = []) :
    Calls Tryz.prog 105 #[v, .func (.func 106) #[] #[], u] w fun e w' => e = .returned (.pointer none) ∧ Below w.heap.size w w' := by
  obtain ⟨a, c, rfl⟩ : ∃ a c, v = .slice a ls.length c := by obtain ⟨a, c, h, _⟩ := hs.form; exact ⟨a, c, h⟩
  have hcap := hs.caps
  have hn63 : ls.length ≤ 9223372036854775807 := by unfold maxLen at hcap; omega
  obtain ⟨n, hn⟩ : ∃ n, ls.length = n := ⟨_, rfl⟩
  rw [hn] at hs hn63 ⊢
  have Hn := Lib.hid hn
  have Hs := Lib.hid hs
  have Hw := Lib.hid hw
  have Hno := Lib.hid hno
  clear hs hw hcap hn hno
  go_enter Tryz.func105, Tryz.ntmps105
  go_wp2_with fail
  go_loopw [7, 8, 9, 10, 11, 14] (fun _ _ _ _ _ j wr => ∃ k : Nat, k ≤ n ∧ j = .int .i64 (k : Int) ∧ Hid (Below w.heap.size w wr)) (fun _ _ _ _ _ j _ => n - (intOf j).toNat)
  case atStart => exact ⟨0, Nat.zero_le _, rfl, Below.refl _ _⟩
  case round =>
    obtain ⟨k, hk, rfl, hB⟩ := hrel
    have hWr := Hw.out.trans (hB.out.mono Hw.out.size)
    by_cases hlt : k < n
    · obtain ⟨l, hd⟩ := get_some Hn.out hlt
      obtain ⟨b, off, x, rfl, hbB, hxl, ⟨v1, v2, v3, v4, v5, v6, rfl, s1, s2, s3, s4, s5, s6, _⟩, hx⟩ := (Hs.out.same_base hWr).at_ hd
      have he := Hno.out l (List.mem_iff_getElem?.2 ⟨k, hd⟩)
      have hz := s4.form
      rw [he] at hz

      obtain ⟨a1, n1, c1, rfl⟩ := s1.form'
      obtain ⟨a2, n2, c2, rfl⟩ := s2.form'
      obtain ⟨a3, n3, c3, rfl⟩ := s3.form'
      obtain ⟨a4, c4, rfl, _⟩ := hz
      obtain ⟨n4, hn4⟩ : ∃ z : Nat, z = 0 := ⟨_, rfl⟩
      obtain ⟨a5, n5, c5, rfl⟩ := s5.form'
      obtain ⟨a6, n6, c6, rfl⟩ := s6.form'
      simp only [List.length_nil] at hx
      have x0 := hx 0 _ rfl
      have x1 := hx 1 _ rfl
      have x2 := hx 2 _ rfl
      have x3 := hx 3 _ rfl
      have x4 := hx 4 _ rfl
      have x5 := hx 5 _ rfl
      have x6 := hx 6 _ rfl
      have x7 := hx 7 _ rfl
      simp only [Nat.add_zero] at x0
      have HB := hB
      clear hd hx hxl s1 s2 s3 s4 s5 s6 hWr hB he
      go_wp2_with (go_at_call 106; refine (lf_Equation _ _ _ _ _ _ _ _ _ _ _ _ _ _ _ _ _ _ _ _ _).mono ?_; rintro e w2 ⟨rfl, hb2⟩; have B2 : Hid (Below w.heap.size w w2) := Lib.hid ((HB.out.alloc HB.out.size _).trans (hb2.mono (by have := HB.out.size; simp; omega))); clear hb2)
      refine wp_loop_rounds 1 ?_
      rw [rounds_succ]
      go_wp2_with fail
      go_roundw
      case rel => exact ⟨k + 1, by omega, by go_num, B2⟩
      case measure => simp [intOf]; omega
    · have hge : n ≤ k := by omega
      have HB := hB
      clear hlt hB hWr
      go_wp2_with fail
      go_ret
      exact ⟨rfl, HB.out⟩

set_option maxRecDepth 100000 in
theorem lf_Editor (s0 : ByteArray) (s1 : Int) (a2 : Option Addr) (n2 c2 : Nat) (a3 : Option Addr) (n3 c3 : Nat) (a4 : Option Addr) (n4 c4 : Nat) (a5 : Option Addr) (n5 c5 : Nat) (a6 : Option Addr) (n6 c6 : Nat) (a7 : Option Addr) (n7 c7 : Nat) (w : World) :
    Calls Tryz.prog 111 #[.agg #[.string s0, .int .i64 s1, .slice a2 n2 c2, .slice a3 n3 c3, .slice a4 n4 c4, .slice a5 n5 c5, .slice a6 n6 c6, .slice a7 n7 c7]] w fun e w' => e = .returned (.slice a6 n6 c6) ∧ Below w.heap.size w w' := by
  go_enter Tryz.func111, Tryz.ntmps111
  go_wp2_with fail
  go_ret
  exact ⟨rfl, by first | exact Below.refl _ _ | exact (Below.refl _ _).alloc (Nat.le_refl _) _⟩
set_option maxRecDepth 100000 in
set_option maxHeartbeats 2000000 in
theorem each_none_Editor {ls : List Language} {v : Value} (u : Value) (w w0 : World) (hs : LsR w0 w0.heap.size v ls) (hw : Below w0.heap.size w0 w) (hno : ∀ l ∈ ls, l.editors = []) :
    Calls Tryz.prog 110 #[v, .func (.func 111) #[] #[], u] w fun e w' => e = .returned (.pointer none) ∧ Below w.heap.size w w' := by
  obtain ⟨a, c, rfl⟩ : ∃ a c, v = .slice a ls.length c := by obtain ⟨a, c, h, _⟩ := hs.form; exact ⟨a, c, h⟩
  have hcap := hs.caps
  have hn63 : ls.length ≤ 9223372036854775807 := by unfold maxLen at hcap; omega
  obtain ⟨n, hn⟩ : ∃ n, ls.length = n := ⟨_, rfl⟩
  rw [hn] at hs hn63 ⊢
  have Hn := Lib.hid hn
  have Hs := Lib.hid hs
  have Hw := Lib.hid hw
  have Hno := Lib.hid hno
  clear hs hw hcap hn hno
  go_enter Tryz.func110, Tryz.ntmps110
  go_wp2_with fail
  go_loopw [7, 8, 9, 10, 11, 14] (fun _ _ _ _ _ j wr => ∃ k : Nat, k ≤ n ∧ j = .int .i64 (k : Int) ∧ Hid (Below w.heap.size w wr)) (fun _ _ _ _ _ j _ => n - (intOf j).toNat)
  case atStart => exact ⟨0, Nat.zero_le _, rfl, Below.refl _ _⟩
  case round =>
    obtain ⟨k, hk, rfl, hB⟩ := hrel
    have hWr := Hw.out.trans (hB.out.mono Hw.out.size)
    by_cases hlt : k < n
    · obtain ⟨l, hd⟩ := get_some Hn.out hlt
      obtain ⟨b, off, x, rfl, hbB, hxl, ⟨v1, v2, v3, v4, v5, v6, rfl, s1, s2, s3, s4, s5, s6, _⟩, hx⟩ := (Hs.out.same_base hWr).at_ hd
      have he := Hno.out l (List.mem_iff_getElem?.2 ⟨k, hd⟩)
      have hz := s5.form
      rw [he] at hz

      obtain ⟨a1, n1, c1, rfl⟩ := s1.form'
      obtain ⟨a2, n2, c2, rfl⟩ := s2.form'
      obtain ⟨a3, n3, c3, rfl⟩ := s3.form'
      obtain ⟨a4, n4, c4, rfl⟩ := s4.form'
      obtain ⟨a5, c5, rfl, _⟩ := hz
      obtain ⟨n5, hn5⟩ : ∃ z : Nat, z = 0 := ⟨_, rfl⟩
      obtain ⟨a6, n6, c6, rfl⟩ := s6.form'
      simp only [List.length_nil] at hx
      have x0 := hx 0 _ rfl
      have x1 := hx 1 _ rfl
      have x2 := hx 2 _ rfl
      have x3 := hx 3 _ rfl
      have x4 := hx 4 _ rfl
      have x5 := hx 5 _ rfl
      have x6 := hx 6 _ rfl
      have x7 := hx 7 _ rfl
      simp only [Nat.add_zero] at x0
      have HB := hB
      clear hd hx hxl s1 s2 s3 s4 s5 s6 hWr hB he
      go_wp2_with (go_at_call 111; refine (lf_Editor _ _ _ _ _ _ _ _ _ _ _ _ _ _ _ _ _ _ _ _ _).mono ?_; rintro e w2 ⟨rfl, hb2⟩; have B2 : Hid (Below w.heap.size w w2) := Lib.hid ((HB.out.alloc HB.out.size _).trans (hb2.mono (by have := HB.out.size; simp; omega))); clear hb2)
      refine wp_loop_rounds 1 ?_
      rw [rounds_succ]
      go_wp2_with fail
      go_roundw
      case rel => exact ⟨k + 1, by omega, by go_num, B2⟩
      case measure => simp [intOf]; omega
    · have hge : n ≤ k := by omega
      have HB := hB
      clear hlt hB hWr
      go_wp2_with fail
      go_ret
      exact ⟨rfl, HB.out⟩

set_option maxRecDepth 100000 in
theorem lf_Template (s0 : ByteArray) (s1 : Int) (a2 : Option Addr) (n2 c2 : Nat) (a3 : Option Addr) (n3 c3 : Nat) (a4 : Option Addr) (n4 c4 : Nat) (a5 : Option Addr) (n5 c5 : Nat) (a6 : Option Addr) (n6 c6 : Nat) (a7 : Option Addr) (n7 c7 : Nat) (w : World) :
    Calls Tryz.prog 116 #[.agg #[.string s0, .int .i64 s1, .slice a2 n2 c2, .slice a3 n3 c3, .slice a4 n4 c4, .slice a5 n5 c5, .slice a6 n6 c6, .slice a7 n7 c7]] w fun e w' => e = .returned (.slice a7 n7 c7) ∧ Below w.heap.size w w' := by
  go_enter Tryz.func116, Tryz.ntmps116
  go_wp2_with fail
  go_ret
  exact ⟨rfl, by first | exact Below.refl _ _ | exact (Below.refl _ _).alloc (Nat.le_refl _) _⟩
set_option maxRecDepth 100000 in
set_option maxHeartbeats 2000000 in
theorem each_none_Template {ls : List Language} {v : Value} (u : Value) (w w0 : World) (hs : LsR w0 w0.heap.size v ls) (hw : Below w0.heap.size w0 w) (hno : ∀ l ∈ ls, l.templates = []) :
    Calls Tryz.prog 115 #[v, .func (.func 116) #[] #[], u] w fun e w' => e = .returned (.pointer none) ∧ Below w.heap.size w w' := by
  obtain ⟨a, c, rfl⟩ : ∃ a c, v = .slice a ls.length c := by obtain ⟨a, c, h, _⟩ := hs.form; exact ⟨a, c, h⟩
  have hcap := hs.caps
  have hn63 : ls.length ≤ 9223372036854775807 := by unfold maxLen at hcap; omega
  obtain ⟨n, hn⟩ : ∃ n, ls.length = n := ⟨_, rfl⟩
  rw [hn] at hs hn63 ⊢
  have Hn := Lib.hid hn
  have Hs := Lib.hid hs
  have Hw := Lib.hid hw
  have Hno := Lib.hid hno
  clear hs hw hcap hn hno
  go_enter Tryz.func115, Tryz.ntmps115
  go_wp2_with fail
  go_loopw [7, 8, 9, 10, 11, 14] (fun _ _ _ _ _ j wr => ∃ k : Nat, k ≤ n ∧ j = .int .i64 (k : Int) ∧ Hid (Below w.heap.size w wr)) (fun _ _ _ _ _ j _ => n - (intOf j).toNat)
  case atStart => exact ⟨0, Nat.zero_le _, rfl, Below.refl _ _⟩
  case round =>
    obtain ⟨k, hk, rfl, hB⟩ := hrel
    have hWr := Hw.out.trans (hB.out.mono Hw.out.size)
    by_cases hlt : k < n
    · obtain ⟨l, hd⟩ := get_some Hn.out hlt
      obtain ⟨b, off, x, rfl, hbB, hxl, ⟨v1, v2, v3, v4, v5, v6, rfl, s1, s2, s3, s4, s5, s6, _⟩, hx⟩ := (Hs.out.same_base hWr).at_ hd
      have he := Hno.out l (List.mem_iff_getElem?.2 ⟨k, hd⟩)
      have hz := s6.form
      rw [he] at hz

      obtain ⟨a1, n1, c1, rfl⟩ := s1.form'
      obtain ⟨a2, n2, c2, rfl⟩ := s2.form'
      obtain ⟨a3, n3, c3, rfl⟩ := s3.form'
      obtain ⟨a4, n4, c4, rfl⟩ := s4.form'
      obtain ⟨a5, n5, c5, rfl⟩ := s5.form'
      obtain ⟨a6, c6, rfl, _⟩ := hz
      obtain ⟨n6, hn6⟩ : ∃ z : Nat, z = 0 := ⟨_, rfl⟩
      simp only [List.length_nil] at hx
      have x0 := hx 0 _ rfl
      have x1 := hx 1 _ rfl
      have x2 := hx 2 _ rfl
      have x3 := hx 3 _ rfl
      have x4 := hx 4 _ rfl
      have x5 := hx 5 _ rfl
      have x6 := hx 6 _ rfl
      have x7 := hx 7 _ rfl
      simp only [Nat.add_zero] at x0
      have HB := hB
      clear hd hx hxl s1 s2 s3 s4 s5 s6 hWr hB he
      go_wp2_with (go_at_call 116; refine (lf_Template _ _ _ _ _ _ _ _ _ _ _ _ _ _ _ _ _ _ _ _ _).mono ?_; rintro e w2 ⟨rfl, hb2⟩; have B2 : Hid (Below w.heap.size w w2) := Lib.hid ((HB.out.alloc HB.out.size _).trans (hb2.mono (by have := HB.out.size; simp; omega))); clear hb2)
      refine wp_loop_rounds 1 ?_
      rw [rounds_succ]
      go_wp2_with fail
      go_roundw
      case rel => exact ⟨k + 1, by omega, by go_num, B2⟩
      case measure => simp [intOf]; omega
    · have hge : n ≤ k := by omega
      have HB := hB
      clear hlt hB hWr
      go_wp2_with fail
      go_ret
      exact ⟨rfl, HB.out⟩

/-- no language ahead: none of that name -/
theorem cf_none (a : Option Addr) (c : Nat) (u : Value) (w : World) : Calls Tryz.prog 90 #[.slice a 0 c, u] w fun e w' => e = .returned (.bool false) ∧ Quiet w w' := by
  have H : Calls Tryz.prog 163 #[.slice a 0 c, u] w fun e w' => e = .returned (.int .i64 (-1)) ∧ Quiet w w' := by
    go_enter Tryz.func163, Tryz.ntmps163
    go_wp2_with fail
    refine wp_loop_rounds 1 ?_
    rw [rounds_succ]
    go_wp2_with fail
    go_ret
    exact ⟨rfl, Quiet.refl _⟩
  go_enter Tryz.func90, Tryz.ntmps90
  go_wp2_with (go_at_call 163; with_reducible refine H.mono ?_; rintro e w1 ⟨rfl, hb1⟩)
  go_ret
  exact ⟨rfl, hb1⟩
set_option maxRecDepth 100000 in
set_option maxHeartbeats 4000000 in
theorem b_alone {l : Language} {v : Value} (p : Nat) (w w0 : World) (hs : LsR w0 w0.heap.size v [l]) (hw : Below w0.heap.size w0 w) (hc : checkE l = ⟨0, 0, 0, 0⟩) :
    Calls Tryz.prog 66 #[.pointer (some ⟨p, 0, none⟩), v] w fun e w' => e = .returned (.pointer none) ∧ Below w.heap.size w w' := by
  obtain ⟨a, c, rfl⟩ : ∃ a c, v = .slice a 1 c := by obtain ⟨a, c, h, _⟩ := hs.form; exact ⟨a, c, h⟩
  have hcap := hs.caps
  unfold maxLen at hcap
  obtain ⟨b, off, x, rfl, hbB, hxl, hR, hx⟩ := hs.at_ (k := 0) (y := l) rfl
  have HC := Lib.hid (fun W (h : Below w0.heap.size w0 W) => check_any W w0 hR h)
  rw [hc] at HC
  simp only [fltR, Int.natCast_zero] at HC
  obtain ⟨v1, v2, v3, v4, v5, v6, rfl, s1, s2, s3, s4, s5, s6, _⟩ := hR
  obtain ⟨a1, n1, c1, rfl⟩ := s1.form'
  obtain ⟨a2, n2, c2, rfl⟩ := s2.form'
  obtain ⟨a3, n3, c3, rfl⟩ := s3.form'
  obtain ⟨a4, n4, c4, rfl⟩ := s4.form'
  obtain ⟨a5, n5, c5, rfl⟩ := s5.form'
  obtain ⟨a6, n6, c6, rfl⟩ := s6.form'
  have x0 := hx 0 _ rfl
  have x1 := hx 1 _ rfl
  have x2 := hx 2 _ rfl
  have x3 := hx 3 _ rfl
  have x4 := hx 4 _ rfl
  have x5 := hx 5 _ rfl
  have x6 := hx 6 _ rfl
  have x7 := hx 7 _ rfl
  simp only [Nat.zero_mul, Nat.add_zero] at x0 x1 x2 x3 x4 x5 x6 x7
  have Hw := Lib.hid hw
  have y0 : w.cell? ⟨b, off, none⟩ = _ := (hw.cell (p := ⟨b, off, none⟩) hbB).trans x0
  have y1 : w.cell? ⟨b, off + 1, none⟩ = _ := (hw.cell (p := ⟨b, off + 1, none⟩) hbB).trans x1
  have y2 : w.cell? ⟨b, off + 2, none⟩ = _ := (hw.cell (p := ⟨b, off + 2, none⟩) hbB).trans x2
  have y3 : w.cell? ⟨b, off + 3, none⟩ = _ := (hw.cell (p := ⟨b, off + 3, none⟩) hbB).trans x3
  have y4 : w.cell? ⟨b, off + 4, none⟩ = _ := (hw.cell (p := ⟨b, off + 4, none⟩) hbB).trans x4
  have y5 : w.cell? ⟨b, off + 5, none⟩ = _ := (hw.cell (p := ⟨b, off + 5, none⟩) hbB).trans x5
  have y6 : w.cell? ⟨b, off + 6, none⟩ = _ := (hw.cell (p := ⟨b, off + 6, none⟩) hbB).trans x6
  have y7 : w.cell? ⟨b, off + 7, none⟩ = _ := (hw.cell (p := ⟨b, off + 7, none⟩) hbB).trans x7
  have hbw : b < w.heap.size := Nat.lt_of_lt_of_le hbB hw.size
  have B0 : Hid (Below w.heap.size w w) := Lib.hid (Below.refl _ _)
  clear hx hxl s1 s2 s3 s4 s5 s6 hs hw x0 x1 x2 x3 x4 x5 x6 x7
  go_enter Tryz.func66, Tryz.ntmps66
  go_wp2_with fail
  refine wp_loop_rounds 2 ?_
  rw [rounds_succ]
  go_wp2_with (go_at_call 88; refine (HC.out _ (Hw.out.alloc Hw.out.size _)).mono ?_; rintro en w1 ⟨rfl, b1⟩; have B1 : Hid (Below w.heap.size w w1) := Lib.hid ((B0.out.alloc (Nat.le_refl _) _).trans (b1.mono (by simp))); have z0 := (B1.out.cell (p := ⟨b, off, none⟩) hbw).trans y0; have z1 := (B1.out.cell (p := ⟨b, off + 1, none⟩) hbw).trans y1; have z2 := (B1.out.cell (p := ⟨b, off + 2, none⟩) hbw).trans y2; have z3 := (B1.out.cell (p := ⟨b, off + 3, none⟩) hbw).trans y3; have z4 := (B1.out.cell (p := ⟨b, off + 4, none⟩) hbw).trans y4; have z5 := (B1.out.cell (p := ⟨b, off + 5, none⟩) hbw).trans y5; have z6 := (B1.out.cell (p := ⟨b, off + 6, none⟩) hbw).trans y6; have z7 := (B1.out.cell (p := ⟨b, off + 7, none⟩) hbw).trans y7; have lw1 : b < w1.heap.size := Nat.lt_of_lt_of_le hbw B1.out.size; have lz := B1.out.size; have BP := Lib.hid (fun (o1 o2 : Obj) => (B1.out.alloc lz o1).alloc (Nat.le_trans lz (by simp)) o2); clear b1)
  rw [rounds_succ]
  go_wp2_with fail
  refine wp_loop_rounds 2 ?_
  rw [rounds_succ]
  go_wp2_with (go_at_call 90; refine (cf_none _ _ _ _).mono ?_; rintro en w2 ⟨rfl, q2⟩; have B2 : Hid (Below w.heap.size w w2) := Lib.hid ((BP.out _ _).trans (q2.below _)); clear q2)
  rw [rounds_succ]
  go_wp2_with fail
  go_ret
  exact ⟨rfl, B2.out⟩

theorem b_named {ls : List Language} {v : Value} (p : Nat) (w w0 : World) (hs : LsR w0 w0.heap.size v ls) (hw : Below w0.heap.size w0 w) (hno : ∀ l ∈ ls, l.concepts = []) :
    Calls Tryz.prog 67 #[.pointer (some ⟨p, 0, none⟩), v] w fun e w' => e = .returned (.pointer none) ∧ Below w.heap.size w w' := by
  have HE := Lib.hid (fun u W (hW : Below w0.heap.size w0 W) => each_none_Concept u W w0 hs hW hno)
  obtain ⟨a, n, c, rfl⟩ := hs.form'
  have B0 := Lib.hid (fun o1 o2 => ((Below.refl w.heap.size w).alloc (Nat.le_refl _) o1).alloc (below2 (Nat.le_refl _)) o2)
  have Hw := Lib.hid (fun o1 o2 => (hw.alloc hw.size o1).alloc (below2 hw.size) o2)
  clear hs hw hno
  go_enter Tryz.func67, Tryz.ntmps67
  go_wp2_with (go_at_call 92; refine (HE.out _ _ (Hw.out _ _)).mono ?_; rintro e w1 ⟨rfl, b1⟩; have B1 : Hid (Below w.heap.size w w1) := Lib.hid ((B0.out _ _).trans (b1.mono (below3 (Nat.le_refl _)))); clear b1)
  go_ret
  exact ⟨rfl, B1.out⟩
theorem next_none {w : World} {ty : TypeId} {bm clock : Nat} (hb : w.heap[bm]? = some (.map #[] clock)) :
    (Instr.next (.pointer (some ⟨w.heap.size, 0, none⟩)) false ty).run Tryz.prog (w.alloc (.mapIter (some bm) clock #[] clock)) = .ok (.tuple #[.bool false]) (w.alloc (.mapIter (some bm) clock #[] clock)) := by
  rcases run_next_map (P := Tryz.prog) w ty bm clock clock #[] #[] clock hb (by simp) (Nat.le_refl _) with ⟨_, h⟩ | ⟨e, he, _⟩
  · exact h
  · simp [leftOf] at he
theorem b_hung {ls : List Language} {v : Value} (p bm clock : Nat) (w w0 : World) (hs : LsR w0 w0.heap.size v ls) (hw : Below w0.heap.size w0 w) (hno : ∀ l ∈ ls, l.concepts = []) (hp : w.cell? ⟨p, 0, none⟩ = some (.map (some bm))) (hb : w.heap[bm]? = some (.map #[] clock)) :
    Calls Tryz.prog 68 #[.pointer (some ⟨p, 0, none⟩), v] w fun e w' => e = .returned (.pointer none) ∧ Below w.heap.size w w' := by
  have HE := Lib.hid (fun u W (hW : Below w0.heap.size w0 W) => each_none_Concept u W w0 hs hW hno)
  obtain ⟨a, n, c, rfl⟩ := hs.form'
  have B0 := Lib.hid (fun o1 o2 => ((Below.refl w.heap.size w).alloc (Nat.le_refl _) o1).alloc (below2 (Nat.le_refl _)) o2)
  have Hw := Lib.hid (fun o1 o2 => (hw.alloc hw.size o1).alloc (below2 hw.size) o2)
  have hpl : p < w.heap.size := cell_lt hp
  have hbl : bm < w.heap.size := (Array.getElem?_eq_some_iff.1 hb).1
  have hb1 : (w.alloc (.cells #[.pointer (some ⟨p, 0, none⟩)] 46)).heap[bm]? = some (.map #[] clock) := (Below.heap_alloc w _ bm hbl).trans hb
  have hr := run_range_map (P := Tryz.prog) (w.alloc (.cells #[.pointer (some ⟨p, 0, none⟩)] 46)) 89 _ _ bm #[] clock Tryz.underlying89 hb1
  have hnx := fun ty => next_none (ty := ty) hb1
  rw [World.size_alloc] at hr hnx
  clear hs hw hno hb hb1
  go_enter Tryz.func68, Tryz.ntmps68
  go_wp2_with fail
  refine wp_loop_rounds 1 ?_
  rw [rounds_succ]
  go_wp2_with (go_at_call 92; refine (HE.out _ _ (Hw.out _ _)).mono ?_; rintro e w1 ⟨rfl, b1⟩; have B1 : Hid (Below w.heap.size w w1) := Lib.hid ((B0.out _ _).trans (b1.mono (below3 (Nat.le_refl _)))); clear b1)
  go_ret
  exact ⟨rfl, B1.out⟩
theorem b_grown {ls : List Language} {v : Value} (p : Nat) (w w0 : World) (hs : LsR w0 w0.heap.size v ls) (hw : Below w0.heap.size w0 w) (hno : ∀ l ∈ ls, l.concepts = []) :
    Calls Tryz.prog 69 #[.pointer (some ⟨p, 0, none⟩), v] w fun e w' => e = .returned (.pointer none) ∧ Below w.heap.size w w' := by
  have HE := Lib.hid (fun u W (hW : Below w0.heap.size w0 W) => each_none_Concept u W w0 hs hW hno)
  obtain ⟨a, n, c, rfl⟩ := hs.form'
  have hmm := @run_makeMap Tryz.prog
  have hW3 := ((hw.alloc hw.size (.cells #[.pointer (some ⟨p, 0, none⟩)] 46)).alloc (below2 hw.size) (.map #[] 0)).alloc (below3 hw.size) (.cells #[.map (some (w.heap.size + 1))] 175)
  have hB3 := (((Below.refl w.heap.size w).alloc (Nat.le_refl _) (.cells #[.pointer (some ⟨p, 0, none⟩)] 46)).alloc (below2 (Nat.le_refl _)) (.map #[] 0)).alloc (below3 (Nat.le_refl _)) (.cells #[.map (some (w.heap.size + 1))] 175)
  have HW3 := Lib.hid hW3
  have HB3 := Lib.hid hB3
  clear hs hw hno hW3 hB3
  go_enter Tryz.func69, Tryz.ntmps69
  go_wp2_with (go_at_call 92; refine (HE.out _ _ HW3.out).mono ?_; rintro e w1 ⟨rfl, b1⟩; have hz := b1.size; have hm1 : w1.heap[w.heap.size + 1]? = some (.map #[] 0) := (by rw [b1.block (w.heap.size + 1) (by simp), Below.heap_alloc _ _ _ (by simp)]; simpa using heap_alloc_new (w.alloc (.cells #[.pointer (some ⟨p, 0, none⟩)] 46)) (.map #[] 0)); have hc1 : w1.cell? ⟨w.heap.size + 1 + 1, 0, none⟩ = some (.map (some (w.heap.size + 1))) := (by rw [b1.cell (p := ⟨w.heap.size + 1 + 1, 0, none⟩) (by simp)]; exact (Blk.new_ (w := (w.alloc (.cells #[.pointer (some ⟨p, 0, none⟩)] 46)).alloc (.map #[] 0)) (by simp) 175 #[.map (some (w.heap.size + 1))]).cell rfl); have hr := run_range_map (P := Tryz.prog) w1 175 _ _ (w.heap.size + 1) #[] 0 Tryz.underlying175 hm1; have hnx := fun ty => next_none (ty := ty) hm1; have B1 : Hid (Below w.heap.size w w1) := Lib.hid (HB3.out.trans (b1.mono (by simp; omega))); clear b1 hz)
  refine wp_loop_rounds 1 ?_
  rw [rounds_succ]
  go_wp2_with fail
  go_ret
  exact ⟨rfl, B1.out.alloc B1.out.size _⟩

theorem b_t1 {ls : List Language} {v : Value} (b6 : Nat) (u2 u5 : Addr) (w w0 : World) (hs : LsR w0 w0.heap.size v ls) (hw : Below w0.heap.size w0 w) (hno : ∀ l ∈ ls, l.rules = []) (hc : w.cell? ⟨b6, 0, none⟩ = some v) :
    Calls Tryz.prog 98 #[.pointer (some ⟨b6, 0, none⟩), .pointer (some u2), .pointer (some u5)] w fun e w' => e = .returned (.pointer none) ∧ Below w.heap.size w w' := by
  have HE := Lib.hid (fun u => each_none_Rule u w w0 hs hw hno)
  obtain ⟨a, n, c, rfl⟩ := hs.form'
  clear hs hw hno
  go_enter Tryz.func98, Tryz.ntmps98
  go_wp2_with (go_at_call 99; refine (HE.out _).mono ?_; rintro e w1 ⟨rfl, b1⟩; have B1 := Lib.hid b1; clear b1)
  go_ret
  exact ⟨rfl, B1.out⟩

theorem b_t2 {ls : List Language} {v : Value} (b6 : Nat) (u2 u5 : Addr) (w w0 : World) (hs : LsR w0 w0.heap.size v ls) (hw : Below w0.heap.size w0 w) (hno : ∀ l ∈ ls, l.equations = []) (hc : w.cell? ⟨b6, 0, none⟩ = some v) :
    Calls Tryz.prog 104 #[.pointer (some ⟨b6, 0, none⟩), .pointer (some u2), .pointer (some u5)] w fun e w' => e = .returned (.pointer none) ∧ Below w.heap.size w w' := by
  have HE := Lib.hid (fun u => each_none_Equation u w w0 hs hw hno)
  obtain ⟨a, n, c, rfl⟩ := hs.form'
  clear hs hw hno
  go_enter Tryz.func104, Tryz.ntmps104
  go_wp2_with (go_at_call 105; refine (HE.out _).mono ?_; rintro e w1 ⟨rfl, b1⟩; have B1 := Lib.hid b1; clear b1)
  go_ret
  exact ⟨rfl, B1.out⟩

theorem b_t3 {ls : List Language} {v : Value} (b6 : Nat) (u2 u5 : Addr) (w w0 : World) (hs : LsR w0 w0.heap.size v ls) (hw : Below w0.heap.size w0 w) (hno : ∀ l ∈ ls, l.editors = []) (hc : w.cell? ⟨b6, 0, none⟩ = some v) :
    Calls Tryz.prog 109 #[.pointer (some ⟨b6, 0, none⟩), .pointer (some u2), .pointer (some u5)] w fun e w' => e = .returned (.pointer none) ∧ Below w.heap.size w w' := by
  have HE := Lib.hid (fun u => each_none_Editor u w w0 hs hw hno)
  obtain ⟨a, n, c, rfl⟩ := hs.form'
  clear hs hw hno
  go_enter Tryz.func109, Tryz.ntmps109
  go_wp2_with (go_at_call 110; refine (HE.out _).mono ?_; rintro e w1 ⟨rfl, b1⟩; have B1 := Lib.hid b1; clear b1)
  go_ret
  exact ⟨rfl, B1.out⟩

theorem b_t4 {ls : List Language} {v : Value} (b6 : Nat) (u2 u5 : Addr) (w w0 : World) (hs : LsR w0 w0.heap.size v ls) (hw : Below w0.heap.size w0 w) (hno : ∀ l ∈ ls, l.templates = []) (hc : w.cell? ⟨b6, 0, none⟩ = some v) :
    Calls Tryz.prog 114 #[.pointer (some ⟨b6, 0, none⟩), .pointer (some u2), .pointer (some u5)] w fun e w' => e = .returned (.pointer none) ∧ Below w.heap.size w w' := by
  have HE := Lib.hid (fun u => each_none_Template u w w0 hs hw hno)
  obtain ⟨a, n, c, rfl⟩ := hs.form'
  clear hs hw hno
  go_enter Tryz.func114, Tryz.ntmps114
  go_wp2_with (go_at_call 115; refine (HE.out _).mono ?_; rintro e w1 ⟨rfl, b1⟩; have B1 := Lib.hid b1; clear b1)
  go_ret
  exact ⟨rfl, B1.out⟩

set_option maxRecDepth 100000 in
set_option maxHeartbeats 4000000 in
theorem b_told {l : Language} {v : Value} (p : Nat) (w w0 : World) (hs : LsR w0 w0.heap.size v [l]) (hw : Below w0.heap.size w0 w) (h1 : l.rules = []) (h2 : l.equations = []) (h3 : l.editors = []) (h4 : l.templates = []) :
    Calls Tryz.prog 70 #[.pointer (some ⟨p, 0, none⟩), v] w fun e w' => e = .returned (.pointer none) ∧ Below w.heap.size w w' := by
  have HT1 := Lib.hid (fun u2 u5 W (hW : Below w.heap.size w W) (hc : W.cell? ⟨w.heap.size + 1 + 1, 0, none⟩ = some v) => b_t1 (w.heap.size + 1 + 1) u2 u5 W w0 hs (hw.trans (hW.mono hw.size)) (fun x hx => by simp at hx; subst hx; exact h1) hc)
  have HT2 := Lib.hid (fun u2 u5 W (hW : Below w.heap.size w W) (hc : W.cell? ⟨w.heap.size + 1 + 1, 0, none⟩ = some v) => b_t2 (w.heap.size + 1 + 1) u2 u5 W w0 hs (hw.trans (hW.mono hw.size)) (fun x hx => by simp at hx; subst hx; exact h2) hc)
  have HT3 := Lib.hid (fun u2 u5 W (hW : Below w.heap.size w W) (hc : W.cell? ⟨w.heap.size + 1 + 1, 0, none⟩ = some v) => b_t3 (w.heap.size + 1 + 1) u2 u5 W w0 hs (hw.trans (hW.mono hw.size)) (fun x hx => by simp at hx; subst hx; exact h3) hc)
  have HT4 := Lib.hid (fun u2 u5 W (hW : Below w.heap.size w W) (hc : W.cell? ⟨w.heap.size + 1 + 1, 0, none⟩ = some v) => b_t4 (w.heap.size + 1 + 1) u2 u5 W w0 hs (hw.trans (hW.mono hw.size)) (fun x hx => by simp at hx; subst hx; exact h4) hc)
  obtain ⟨a, c, rfl⟩ : ∃ a c, v = .slice a 1 c := by obtain ⟨a, c, h, _⟩ := hs.form; exact ⟨a, c, h⟩
  have hcap := hs.caps
  unfold maxLen at hcap
  obtain ⟨b, off, x, rfl, hbB, _, _, _⟩ := hs.at_ (k := 0) (y := l) rfl
  clear hs hw h1 h2 h3 h4
  have tok1 : True := trivial
  have tok2 : True := trivial
  have tok3 : True := trivial
  have tok4 : True := trivial
  go_enter Tryz.func70, Tryz.ntmps70
  go_wp2_with fail
  refine wp_loop_rounds 2 ?_
  rw [rounds_succ]
  go_wp2_with fail
  generalize hW : World.alloc (World.alloc (World.alloc (World.alloc w _) _) _) _ = W4
  have L1 : Hid (Below w.heap.size w W4) := Lib.hid (by rw [← hW]; exact (((((Below.refl w.heap.size w).alloc (Nat.le_refl _) _).alloc (below2 (Nat.le_refl _)) _).alloc (below3 (Nat.le_refl _)) _).alloc (by simp; omega) _))
  have c1 : W4.cell? ⟨w.heap.size + 1 + 1, 0, none⟩ = some (.slice (some ⟨b, off, none⟩) 1 c) := by
    rw [← hW]
    exact ((Blk.new_ (w := (World.alloc (World.alloc w _) _)) (by simp) _ #[.slice (some ⟨b, off, none⟩) 1 c]).alloc _).cell (i := 0) rfl
  clear hW
  have ix0 : ∀ W : World, (Instr.index 200 (.agg #[(.func (.func 98) #[] #[.pointer (some ⟨w.heap.size + 1 + 1, 0, none⟩), .pointer (some ⟨w.heap.size, 0, none⟩), .pointer (some ⟨w.heap.size + 1, 0, none⟩)] : Value), (.func (.func 104) #[] #[.pointer (some ⟨w.heap.size + 1 + 1, 0, none⟩), .pointer (some ⟨w.heap.size, 0, none⟩), .pointer (some ⟨w.heap.size + 1, 0, none⟩)] : Value), (.func (.func 109) #[] #[.pointer (some ⟨w.heap.size + 1 + 1, 0, none⟩), .pointer (some ⟨w.heap.size, 0, none⟩), .pointer (some ⟨w.heap.size + 1, 0, none⟩)] : Value), (.func (.func 114) #[] #[.pointer (some ⟨w.heap.size + 1 + 1, 0, none⟩), .pointer (some ⟨w.heap.size, 0, none⟩), .pointer (some ⟨w.heap.size + 1, 0, none⟩)] : Value)]) (.int .i64 0)).run Tryz.prog W = .ok (.func (.func 98) #[] #[.pointer (some ⟨w.heap.size + 1 + 1, 0, none⟩), .pointer (some ⟨w.heap.size, 0, none⟩), .pointer (some ⟨w.heap.size + 1, 0, none⟩)] : Value) W := fun _ => by kernel_rfl
  have ix1 : ∀ W : World, (Instr.index 200 (.agg #[(.func (.func 98) #[] #[.pointer (some ⟨w.heap.size + 1 + 1, 0, none⟩), .pointer (some ⟨w.heap.size, 0, none⟩), .pointer (some ⟨w.heap.size + 1, 0, none⟩)] : Value), (.func (.func 104) #[] #[.pointer (some ⟨w.heap.size + 1 + 1, 0, none⟩), .pointer (some ⟨w.heap.size, 0, none⟩), .pointer (some ⟨w.heap.size + 1, 0, none⟩)] : Value), (.func (.func 109) #[] #[.pointer (some ⟨w.heap.size + 1 + 1, 0, none⟩), .pointer (some ⟨w.heap.size, 0, none⟩), .pointer (some ⟨w.heap.size + 1, 0, none⟩)] : Value), (.func (.func 114) #[] #[.pointer (some ⟨w.heap.size + 1 + 1, 0, none⟩), .pointer (some ⟨w.heap.size, 0, none⟩), .pointer (some ⟨w.heap.size + 1, 0, none⟩)] : Value)]) (.int .i64 1)).run Tryz.prog W = .ok (.func (.func 104) #[] #[.pointer (some ⟨w.heap.size + 1 + 1, 0, none⟩), .pointer (some ⟨w.heap.size, 0, none⟩), .pointer (some ⟨w.heap.size + 1, 0, none⟩)] : Value) W := fun _ => by kernel_rfl
  have ix2 : ∀ W : World, (Instr.index 200 (.agg #[(.func (.func 98) #[] #[.pointer (some ⟨w.heap.size + 1 + 1, 0, none⟩), .pointer (some ⟨w.heap.size, 0, none⟩), .pointer (some ⟨w.heap.size + 1, 0, none⟩)] : Value), (.func (.func 104) #[] #[.pointer (some ⟨w.heap.size + 1 + 1, 0, none⟩), .pointer (some ⟨w.heap.size, 0, none⟩), .pointer (some ⟨w.heap.size + 1, 0, none⟩)] : Value), (.func (.func 109) #[] #[.pointer (some ⟨w.heap.size + 1 + 1, 0, none⟩), .pointer (some ⟨w.heap.size, 0, none⟩), .pointer (some ⟨w.heap.size + 1, 0, none⟩)] : Value), (.func (.func 114) #[] #[.pointer (some ⟨w.heap.size + 1 + 1, 0, none⟩), .pointer (some ⟨w.heap.size, 0, none⟩), .pointer (some ⟨w.heap.size + 1, 0, none⟩)] : Value)]) (.int .i64 2)).run Tryz.prog W = .ok (.func (.func 109) #[] #[.pointer (some ⟨w.heap.size + 1 + 1, 0, none⟩), .pointer (some ⟨w.heap.size, 0, none⟩), .pointer (some ⟨w.heap.size + 1, 0, none⟩)] : Value) W := fun _ => by kernel_rfl
  have ix3 : ∀ W : World, (Instr.index 200 (.agg #[(.func (.func 98) #[] #[.pointer (some ⟨w.heap.size + 1 + 1, 0, none⟩), .pointer (some ⟨w.heap.size, 0, none⟩), .pointer (some ⟨w.heap.size + 1, 0, none⟩)] : Value), (.func (.func 104) #[] #[.pointer (some ⟨w.heap.size + 1 + 1, 0, none⟩), .pointer (some ⟨w.heap.size, 0, none⟩), .pointer (some ⟨w.heap.size + 1, 0, none⟩)] : Value), (.func (.func 109) #[] #[.pointer (some ⟨w.heap.size + 1 + 1, 0, none⟩), .pointer (some ⟨w.heap.size, 0, none⟩), .pointer (some ⟨w.heap.size + 1, 0, none⟩)] : Value), (.func (.func 114) #[] #[.pointer (some ⟨w.heap.size + 1 + 1, 0, none⟩), .pointer (some ⟨w.heap.size, 0, none⟩), .pointer (some ⟨w.heap.size + 1, 0, none⟩)] : Value)]) (.int .i64 3)).run Tryz.prog W = .ok (.func (.func 114) #[] #[.pointer (some ⟨w.heap.size + 1 + 1, 0, none⟩), .pointer (some ⟨w.heap.size, 0, none⟩), .pointer (some ⟨w.heap.size + 1, 0, none⟩)] : Value) W := fun _ => by kernel_rfl
  refine wp_loop_rounds 5 ?_
  rw [rounds_succ]
  go_wp2_with (first | (go_at_call 98; have _t := tok1; refine (HT1.out _ _ _ L1.out (by assumption)).mono ?_; rintro e v1 ⟨rfl, b1⟩; have L2 : Hid (Below w.heap.size w v1) := Lib.hid (L1.out.trans (b1.mono L1.out.size)); have c2 := (b1.cell (p := ⟨w.heap.size + 1 + 1, 0, none⟩) (cell_lt c1)).trans c1; clear b1 tok1 _t) | (go_at_call 104; have _t := tok2; refine (HT2.out _ _ _ L2.out (by assumption)).mono ?_; rintro e v2 ⟨rfl, b1⟩; have L3 : Hid (Below w.heap.size w v2) := Lib.hid (L2.out.trans (b1.mono L2.out.size)); have c3 := (b1.cell (p := ⟨w.heap.size + 1 + 1, 0, none⟩) (cell_lt c2)).trans c2; clear b1 tok2 _t) | (go_at_call 109; have _t := tok3; refine (HT3.out _ _ _ L3.out (by assumption)).mono ?_; rintro e v3 ⟨rfl, b1⟩; have L4 : Hid (Below w.heap.size w v3) := Lib.hid (L3.out.trans (b1.mono L3.out.size)); have c4 := (b1.cell (p := ⟨w.heap.size + 1 + 1, 0, none⟩) (cell_lt c3)).trans c3; clear b1 tok3 _t) | (go_at_call 114; have _t := tok4; refine (HT4.out _ _ _ L4.out (by assumption)).mono ?_; rintro e v4 ⟨rfl, b1⟩; have L5 : Hid (Below w.heap.size w v4) := Lib.hid (L4.out.trans (b1.mono L4.out.size)); have c5 := (b1.cell (p := ⟨w.heap.size + 1 + 1, 0, none⟩) (cell_lt c4)).trans c4; clear b1 tok4 _t))
  rw [rounds_succ]
  go_wp2_with (first | (go_at_call 98; have _t := tok1; refine (HT1.out _ _ _ L1.out (by assumption)).mono ?_; rintro e v1 ⟨rfl, b1⟩; have L2 : Hid (Below w.heap.size w v1) := Lib.hid (L1.out.trans (b1.mono L1.out.size)); have c2 := (b1.cell (p := ⟨w.heap.size + 1 + 1, 0, none⟩) (cell_lt c1)).trans c1; clear b1 tok1 _t) | (go_at_call 104; have _t := tok2; refine (HT2.out _ _ _ L2.out (by assumption)).mono ?_; rintro e v2 ⟨rfl, b1⟩; have L3 : Hid (Below w.heap.size w v2) := Lib.hid (L2.out.trans (b1.mono L2.out.size)); have c3 := (b1.cell (p := ⟨w.heap.size + 1 + 1, 0, none⟩) (cell_lt c2)).trans c2; clear b1 tok2 _t) | (go_at_call 109; have _t := tok3; refine (HT3.out _ _ _ L3.out (by assumption)).mono ?_; rintro e v3 ⟨rfl, b1⟩; have L4 : Hid (Below w.heap.size w v3) := Lib.hid (L3.out.trans (b1.mono L3.out.size)); have c4 := (b1.cell (p := ⟨w.heap.size + 1 + 1, 0, none⟩) (cell_lt c3)).trans c3; clear b1 tok3 _t) | (go_at_call 114; have _t := tok4; refine (HT4.out _ _ _ L4.out (by assumption)).mono ?_; rintro e v4 ⟨rfl, b1⟩; have L5 : Hid (Below w.heap.size w v4) := Lib.hid (L4.out.trans (b1.mono L4.out.size)); have c5 := (b1.cell (p := ⟨w.heap.size + 1 + 1, 0, none⟩) (cell_lt c4)).trans c4; clear b1 tok4 _t))
  rw [rounds_succ]
  go_wp2_with (first | (go_at_call 98; have _t := tok1; refine (HT1.out _ _ _ L1.out (by assumption)).mono ?_; rintro e v1 ⟨rfl, b1⟩; have L2 : Hid (Below w.heap.size w v1) := Lib.hid (L1.out.trans (b1.mono L1.out.size)); have c2 := (b1.cell (p := ⟨w.heap.size + 1 + 1, 0, none⟩) (cell_lt c1)).trans c1; clear b1 tok1 _t) | (go_at_call 104; have _t := tok2; refine (HT2.out _ _ _ L2.out (by assumption)).mono ?_; rintro e v2 ⟨rfl, b1⟩; have L3 : Hid (Below w.heap.size w v2) := Lib.hid (L2.out.trans (b1.mono L2.out.size)); have c3 := (b1.cell (p := ⟨w.heap.size + 1 + 1, 0, none⟩) (cell_lt c2)).trans c2; clear b1 tok2 _t) | (go_at_call 109; have _t := tok3; refine (HT3.out _ _ _ L3.out (by assumption)).mono ?_; rintro e v3 ⟨rfl, b1⟩; have L4 : Hid (Below w.heap.size w v3) := Lib.hid (L3.out.trans (b1.mono L3.out.size)); have c4 := (b1.cell (p := ⟨w.heap.size + 1 + 1, 0, none⟩) (cell_lt c3)).trans c3; clear b1 tok3 _t) | (go_at_call 114; have _t := tok4; refine (HT4.out _ _ _ L4.out (by assumption)).mono ?_; rintro e v4 ⟨rfl, b1⟩; have L5 : Hid (Below w.heap.size w v4) := Lib.hid (L4.out.trans (b1.mono L4.out.size)); have c5 := (b1.cell (p := ⟨w.heap.size + 1 + 1, 0, none⟩) (cell_lt c4)).trans c4; clear b1 tok4 _t))
  rw [rounds_succ]
  go_wp2_with (first | (go_at_call 98; have _t := tok1; refine (HT1.out _ _ _ L1.out (by assumption)).mono ?_; rintro e v1 ⟨rfl, b1⟩; have L2 : Hid (Below w.heap.size w v1) := Lib.hid (L1.out.trans (b1.mono L1.out.size)); have c2 := (b1.cell (p := ⟨w.heap.size + 1 + 1, 0, none⟩) (cell_lt c1)).trans c1; clear b1 tok1 _t) | (go_at_call 104; have _t := tok2; refine (HT2.out _ _ _ L2.out (by assumption)).mono ?_; rintro e v2 ⟨rfl, b1⟩; have L3 : Hid (Below w.heap.size w v2) := Lib.hid (L2.out.trans (b1.mono L2.out.size)); have c3 := (b1.cell (p := ⟨w.heap.size + 1 + 1, 0, none⟩) (cell_lt c2)).trans c2; clear b1 tok2 _t) | (go_at_call 109; have _t := tok3; refine (HT3.out _ _ _ L3.out (by assumption)).mono ?_; rintro e v3 ⟨rfl, b1⟩; have L4 : Hid (Below w.heap.size w v3) := Lib.hid (L3.out.trans (b1.mono L3.out.size)); have c4 := (b1.cell (p := ⟨w.heap.size + 1 + 1, 0, none⟩) (cell_lt c3)).trans c3; clear b1 tok3 _t) | (go_at_call 114; have _t := tok4; refine (HT4.out _ _ _ L4.out (by assumption)).mono ?_; rintro e v4 ⟨rfl, b1⟩; have L5 : Hid (Below w.heap.size w v4) := Lib.hid (L4.out.trans (b1.mono L4.out.size)); have c5 := (b1.cell (p := ⟨w.heap.size + 1 + 1, 0, none⟩) (cell_lt c4)).trans c4; clear b1 tok4 _t))
  rw [rounds_succ]
  go_wp2_with fail
  rw [rounds_succ]
  go_wp2_with fail
  go_ret
  exact ⟨rfl, L5.out⟩

theorem b_len64 (w : World) : Calls Tryz.prog 179 #[.int .u64 0] w fun e w' => e = .returned (.int .i64 0) ∧ Quiet w w' := by
  have h8 : wrap64 (wrap64 (Lib.len8 0)) = 0 := by kernel_rfl
  go_enter Tryz.func179, Tryz.ntmps179
  go_wp2_with fail
  go_ret
  exact ⟨by rw [h8]; rfl, Quiet.refl _⟩
theorem b_len (w : World) : Calls Tryz.prog 120 #[.int .u64 0] w fun e w' => e = .returned (.int .i64 0) ∧ Quiet w w' := by
  have H := Lib.hid (b_len64 w)
  go_enter Tryz.func120, Tryz.ntmps120
  go_wp2_with (go_at_call 179; refine H.out.mono ?_; rintro e w1 ⟨rfl, q1⟩)
  go_ret
  exact ⟨rfl, q1⟩
theorem b_isort (w : World) : Calls Tryz.prog 169 #[.slice none 0 0, .int .i64 0, .int .i64 0] w fun e w' => e = .returned (.tuple #[]) ∧ Quiet w w' := by
  go_enter Tryz.func169, Tryz.ntmps169
  go_wp2_with fail
  refine wp_loop_rounds 1 ?_
  rw [rounds_succ]
  go_wp2_with fail
  go_end0
  exact ⟨rfl, Quiet.refl _⟩
theorem b_pdq (w : World) : Calls Tryz.prog 119 #[.slice none 0 0, .int .i64 0, .int .i64 0, .int .i64 0] w fun e w' => e = .returned (.tuple #[]) ∧ Quiet w w' := by
  have H := Lib.hid (b_isort w)
  go_enter Tryz.func119, Tryz.ntmps119
  go_wp2_with fail
  refine wp_loop_rounds 1 ?_
  rw [rounds_succ]
  go_wp2_with (go_at_call 169; refine H.out.mono ?_; rintro e w1 ⟨rfl, q1⟩)
  all_goals first | (go_end0; exact ⟨rfl, q1⟩) | (refine bodyPost_ret (v := .tuple #[]) (by simp [results, Tryz.results119, go_sem]) rfl ?_; exact ⟨rfl, q1⟩)
theorem b_sort (w : World) : Calls Tryz.prog 71 #[.slice none 0 0] w fun e w' => e = .returned (.tuple #[]) ∧ Quiet w w' := by
  have H1 := Lib.hid (b_len w)
  have H2 := Lib.hid (fun W => b_pdq W)
  go_enter Tryz.func71, Tryz.ntmps71
  go_wp2_with (first | (go_at_call 120; refine H1.out.mono ?_; rintro e w1 ⟨rfl, q1⟩) | (go_at_call 119; refine (H2.out _).mono ?_; rintro e w2 ⟨rfl, q2⟩))
  go_end0
  exact ⟨rfl, q1.trans q2⟩

/-- what New has laid -/
structure NewS (w W : World) : Prop where
  low : Below w.heap.size w W
  zb : Blk W w.heap.size 28 #[.int .i64 0, .int .i64 0, .int .i64 0, .int .i64 0]
  mb : W.heap[w.heap.size + 1]? = some (.map #[] 0)
  tb : Blk W (w.heap.size + 1 + 1) 107 #[.map (some (w.heap.size + 1)), .slice none 0 0, .int .u32 0, .int .i32 0, .int .u32 0, .slice none 0 0, .int .i64 0]
  fb : Blk W (w.heap.size + 1 + 1 + 1) 142 #[.func (.func 66) #[.pointer (some ⟨w.heap.size + 1 + 1, 0, none⟩)] #[], .func (.func 67) #[.pointer (some ⟨w.heap.size + 1 + 1, 0, none⟩)] #[], .func (.func 68) #[.pointer (some ⟨w.heap.size + 1 + 1, 0, none⟩)] #[], .func (.func 69) #[.pointer (some ⟨w.heap.size + 1 + 1, 0, none⟩)] #[], .func (.func 70) #[.pointer (some ⟨w.heap.size + 1 + 1, 0, none⟩)] #[]]
theorem NewS.below {w W W' : World} (h : NewS w W) (b : Below W.heap.size W W') : NewS w W' :=
  ⟨h.low.trans (b.mono h.low.size), h.zb.below b h.zb.lt, (b.block _ (Array.getElem?_eq_some_iff.1 h.mb).1).trans h.mb, h.tb.below b h.tb.lt, h.fb.below b h.fb.lt⟩
theorem NewS.start (w : World) : NewS w ((((w.alloc (.cells #[.int .i64 0, .int .i64 0, .int .i64 0, .int .i64 0] 28)).alloc (.map #[] 0)).alloc (.cells #[.map (some (w.heap.size + 1)), .slice none 0 0, .int .u32 0, .int .i32 0, .int .u32 0, .slice none 0 0, .int .i64 0] 107)).alloc (.cells #[.func (.func 66) #[.pointer (some ⟨w.heap.size + 1 + 1, 0, none⟩)] #[], .func (.func 67) #[.pointer (some ⟨w.heap.size + 1 + 1, 0, none⟩)] #[], .func (.func 68) #[.pointer (some ⟨w.heap.size + 1 + 1, 0, none⟩)] #[], .func (.func 69) #[.pointer (some ⟨w.heap.size + 1 + 1, 0, none⟩)] #[], .func (.func 70) #[.pointer (some ⟨w.heap.size + 1 + 1, 0, none⟩)] #[]] 142)) := by
  have hm : ((w.alloc (.cells #[.int .i64 0, .int .i64 0, .int .i64 0, .int .i64 0] 28)).alloc (.map #[] 0)).heap[w.heap.size + 1]? = some (.map #[] 0) := by simpa using heap_alloc_new (w.alloc (.cells #[.int .i64 0, .int .i64 0, .int .i64 0, .int .i64 0] 28)) (.map #[] 0)
  refine ⟨((((Below.refl w.heap.size w).alloc (Nat.le_refl _) _).alloc (below2 (Nat.le_refl _)) _).alloc (below3 (Nat.le_refl _)) _).alloc (by simp; omega) _, (((Blk.new w _ _).alloc _).alloc _).alloc _, ?_, (Blk.new_ (by simp) _ _).alloc _, Blk.new_ (by simp) _ _⟩
  rw [Below.heap_alloc _ _ _ (by simp), Below.heap_alloc _ _ _ (by simp)]
  exact hm
set_option maxRecDepth 100000 in
set_option maxHeartbeats 4000000 in
theorem b_new {l : Language} {v : Value} (w w0 : World) (hs : LsR w0 w0.heap.size v [l]) (hw : Below w0.heap.size w0 w) (hc : checkE l = ⟨0, 0, 0, 0⟩) (h0 : l.concepts = []) (h1 : l.rules = []) (h2 : l.equations = []) (h3 : l.editors = []) (h4 : l.templates = []) :
    Calls Tryz.prog 36 #[v] w fun e w' => (∃ p, e = .returned (.tuple #[.pointer (some p), .agg #[.int .i64 0, .int .i64 0, .int .i64 0, .int .i64 0]])) ∧ Below w.heap.size w w' := by
  have hmm := @run_makeMap Tryz.prog
  have hno : ∀ x ∈ [l], x.concepts = [] := fun x hx => by simp at hx; subst hx; exact h0
  have H0 := Lib.hid (fun W (h : NewS w W) => b_alone (w.heap.size + 1 + 1) W w0 hs (hw.trans (h.low.mono hw.size)) hc)
  have H1 := Lib.hid (fun W (h : NewS w W) => b_named (w.heap.size + 1 + 1) W w0 hs (hw.trans (h.low.mono hw.size)) hno)
  have H2 := Lib.hid (fun W (h : NewS w W) => b_hung (w.heap.size + 1 + 1) (w.heap.size + 1) 0 W w0 hs (hw.trans (h.low.mono hw.size)) hno (h.tb.cell rfl) h.mb)
  have H3 := Lib.hid (fun W (h : NewS w W) => b_grown (w.heap.size + 1 + 1) W w0 hs (hw.trans (h.low.mono hw.size)) hno)
  have H4 := Lib.hid (fun W (h : NewS w W) => b_told (w.heap.size + 1 + 1) W w0 hs (hw.trans (h.low.mono hw.size)) h1 h2 h3 h4)
  obtain ⟨a, n, c, rfl⟩ := hs.form'
  have hst := NewS.start w
  have Hst := Lib.hid hst
  clear hs hw hc h0 h1 h2 h3 h4 hno hst
  go_enter Tryz.func36, Tryz.ntmps36
  go_wp2_with fail
  generalize hW : World.alloc (World.alloc (World.alloc (World.alloc w _) _) _) _ = W0
  have K0 : Hid (NewS w W0) := Lib.hid (by rw [← hW]; exact Hst.out)
  clear hW Hst
  have c0 : W0.cell? ⟨w.heap.size + 1 + 1 + 1, 0, none⟩ = some (.func (.func 66) #[.pointer (some ⟨w.heap.size + 1 + 1, 0, none⟩)] #[]) := K0.out.fb.cell (i := 0) rfl
  refine wp_loop_rounds 6 ?_

  rw [rounds_succ]
  go_wp2_with (go_at_call 66; refine (H0.out _ K0.out).mono ?_; rintro e v0 ⟨rfl, b1⟩; have K1 : Hid (NewS w v0) := Lib.hid (K0.out.below b1); have c1 : v0.cell? ⟨w.heap.size + 1 + 1 + 1, 1, none⟩ = some (.func (.func 67) #[.pointer (some ⟨w.heap.size + 1 + 1, 0, none⟩)] #[]) := K1.out.fb.cell (i := 1) rfl; clear b1 c0)
  rw [rounds_succ]
  go_wp2_with (go_at_call 67; refine (H1.out _ K1.out).mono ?_; rintro e v1 ⟨rfl, b1⟩; have K2 : Hid (NewS w v1) := Lib.hid (K1.out.below b1); have c2 : v1.cell? ⟨w.heap.size + 1 + 1 + 1, 2, none⟩ = some (.func (.func 68) #[.pointer (some ⟨w.heap.size + 1 + 1, 0, none⟩)] #[]) := K2.out.fb.cell (i := 2) rfl; clear b1 c1)
  rw [rounds_succ]
  go_wp2_with (go_at_call 68; refine (H2.out _ K2.out).mono ?_; rintro e v2 ⟨rfl, b1⟩; have K3 : Hid (NewS w v2) := Lib.hid (K2.out.below b1); have c3 : v2.cell? ⟨w.heap.size + 1 + 1 + 1, 3, none⟩ = some (.func (.func 69) #[.pointer (some ⟨w.heap.size + 1 + 1, 0, none⟩)] #[]) := K3.out.fb.cell (i := 3) rfl; clear b1 c2)
  rw [rounds_succ]
  go_wp2_with (go_at_call 69; refine (H3.out _ K3.out).mono ?_; rintro e v3 ⟨rfl, b1⟩; have K4 : Hid (NewS w v3) := Lib.hid (K3.out.below b1); have c4 : v3.cell? ⟨w.heap.size + 1 + 1 + 1, 4, none⟩ = some (.func (.func 70) #[.pointer (some ⟨w.heap.size + 1 + 1, 0, none⟩)] #[]) := K4.out.fb.cell (i := 4) rfl; clear b1 c3)
  rw [rounds_succ]
  go_wp2_with (go_at_call 70; refine (H4.out _ K4.out).mono ?_; rintro e v4 ⟨rfl, b1⟩; have K5 : Hid (NewS w v4) := Lib.hid (K4.out.below b1); have cn : v4.cell? ⟨w.heap.size + 1 + 1, 1, none⟩ = some (.slice none 0 0) := K5.out.tb.cell (i := 1) rfl; clear b1 c4)
  rw [rounds_succ]
  go_wp2_with (go_at_call 71; refine (b_sort _).mono ?_; rintro e w9 ⟨rfl, q9⟩; have K9 : Hid (NewS w w9) := Lib.hid (K5.out.below (q9.below _)); have z0 : w9.cell? ⟨w.heap.size, 0, none⟩ = some (.int .i64 0) := K9.out.zb.cell (i := 0) rfl; have z1 : w9.cell? ⟨w.heap.size, 1, none⟩ = some (.int .i64 0) := K9.out.zb.cell (i := 1) rfl; have z2 : w9.cell? ⟨w.heap.size, 2, none⟩ = some (.int .i64 0) := K9.out.zb.cell (i := 2) rfl; have z3 : w9.cell? ⟨w.heap.size, 3, none⟩ = some (.int .i64 0) := K9.out.zb.cell (i := 3) rfl; have f0 := K9.out.zb.frozen 0; have f1 := K9.out.zb.frozen 1; have f2 := K9.out.zb.frozen 2; have f3 := K9.out.zb.frozen 3; clear q9)
  refine bodyPost_ret (v := .tuple #[.pointer (some ⟨w.heap.size + 1 + 1, 0, none⟩), .agg #[.int .i64 0, .int .i64 0, .int .i64 0, .int .i64 0]]) (by simp [results, Tryz.results36, go_sem, z0, z1, z2, z3]) rfl ?_
  exact ⟨⟨_, rfl⟩, ((((K9.out.low.setCell (p := ⟨w.heap.size, 0, none⟩) (Nat.le_refl _) _).setCell (p := ⟨w.heap.size, 1, none⟩) (Nat.le_refl _) _).setCell (p := ⟨w.heap.size, 2, none⟩) (Nat.le_refl _) _).setCell (p := ⟨w.heap.size, 3, none⟩) (Nat.le_refl _) _)⟩

end Go.Proofs.YtikplcpghohklaaGreat
