import Derived.Test.YtdhljfblkidohaaApi
import Derived.Test.YtdhljfblkidohaaProg
import Derived.Deep.QuietTactic
import Derived.BigQuiet
namespace Go.Proofs.Ytdhljfblkidohaa
set_option linter.unusedSimpArgs false
set_option linter.unusedVariables false
open Go.RowKit



theorem neq_PropDef (y z : PropDef) (b : Bool) (h : decide (y = z) = !b) (W : World) : (binOp .neq 45 (.agg #[.string y.name, .int .i64 y.type]) (.agg #[.string z.name, .int .i64 z.type])).run Try.prog W = .ok (.bool b) W := by
  obtain ⟨y0, y1⟩ := y
  obtain ⟨z0, z1⟩ := z
  go_simp
  simp only [toList_inj]
  cases b <;> simp at h
  all_goals first
    | (simp [h]; done)
    | (repeat' split
       all_goals simp_all)

theorem neq_KidDef (y z : KidDef) (b : Bool) (h : decide (y = z) = !b) (W : World) : (binOp .neq 47 (.agg #[.string y.role, .string y.concept, .int .i64 y.min, .int .i64 y.max]) (.agg #[.string z.role, .string z.concept, .int .i64 z.min, .int .i64 z.max])).run Try.prog W = .ok (.bool b) W := by
  obtain ⟨y0, y1, y2, y3⟩ := y
  obtain ⟨z0, z1, z2, z3⟩ := z
  go_simp
  simp only [toList_inj]
  cases b <;> simp at h
  all_goals first
    | (simp [h]; done)
    | (repeat' split
       all_goals simp_all)

theorem neq_RefDef (y z : RefDef) (b : Bool) (h : decide (y = z) = !b) (W : World) : (binOp .neq 49 (.agg #[.string y.role, .string y.concept, .bool y.need]) (.agg #[.string z.role, .string z.concept, .bool z.need])).run Try.prog W = .ok (.bool b) W := by
  obtain ⟨y0, y1, y2⟩ := y
  obtain ⟨z0, z1, z2⟩ := z
  go_simp
  simp only [toList_inj]
  cases b <;> simp at h
  all_goals first
    | (simp [h]; done)
    | (repeat' split
       all_goals simp_all)

theorem neq_Rule (y z : Rule) (b : Bool) (h : decide (y = z) = !b) (W : World) : (binOp .neq 63 (.agg #[.string y.concept, .string y.name, .bool y.scope, .string y.expr]) (.agg #[.string z.concept, .string z.name, .bool z.scope, .string z.expr])).run Try.prog W = .ok (.bool b) W := by
  obtain ⟨y0, y1, y2, y3⟩ := y
  obtain ⟨z0, z1, z2, z3⟩ := z
  go_simp
  simp only [toList_inj]
  cases b <;> simp at h
  all_goals first
    | (simp [h]; done)
    | (repeat' split
       all_goals simp_all)

theorem neq_Cell (y z : Cell) (b : Bool) (h : decide (y = z) = !b) (W : World) : (binOp .neq 74 (.agg #[.int .i64 y.kind, .string y.text, .string y.mark]) (.agg #[.int .i64 z.kind, .string z.text, .string z.mark])).run Try.prog W = .ok (.bool b) W := by
  obtain ⟨y0, y1, y2⟩ := y
  obtain ⟨z0, z1, z2⟩ := z
  go_simp
  simp only [toList_inj]
  cases b <;> simp at h
  all_goals first
    | (simp [h]; done)
    | (repeat' split
       all_goals simp_all)

theorem neq_CellP (y z : Cell) (b : Bool) (h : decide (y = z) = !b) (W : World) : (binOp .neq 78 (.agg #[.int .i64 y.kind, .string y.text, .string y.mark]) (.agg #[.int .i64 z.kind, .string z.text, .string z.mark])).run Try.prog W = .ok (.bool b) W := by
  obtain ⟨y0, y1, y2⟩ := y
  obtain ⟨z0, z1, z2⟩ := z
  go_simp
  simp only [toList_inj]
  cases b <;> simp at h
  all_goals first
    | (simp [h]; done)
    | (repeat' split
       all_goals simp_all)

set_option maxHeartbeats 400000 in
theorem equal_text {l m : List ByteArray} {v v' : Value} (w w0 : World)
   (hs : SlR w0 w0.heap.size 1 IsText v l) (ht : SlR w0 w0.heap.size 1 IsText v' m) (hw : Below w0.heap.size w0 w) :
    Calls Try.prog 17 #[v, v'] w fun e w' => e = .returned (.bool (decide (l = m))) ∧ Quiet w w' := by
  obtain ⟨a, c, rfl⟩ : ∃ a c, v = .slice a l.length c := by obtain ⟨a, c, h, _⟩ := hs.form; exact ⟨a, c, h⟩
  obtain ⟨a', c', rfl⟩ : ∃ a c, v' = .slice a m.length c := by obtain ⟨a, c, h, _⟩ := ht.form; exact ⟨a, c, h⟩
  have hn : l.length ≤ 9223372036854775807 := by have := hs.caps; unfold maxLen at this; omega
  rw [← eqBy_eq]
  by_cases hl : l.length = m.length
  · obtain ⟨n, hlen⟩ : ∃ n, l.length = n := ⟨_, rfl⟩
    rw [← hl] at ht ⊢
    rw [hlen] at hs ht hn ⊢
    have Hlen := Lib.hid hlen
    have Hl := Lib.hid hl
    have Hs := Lib.hid hs
    have Ht := Lib.hid ht
    have Hw := Lib.hid hw
    clear hs ht hlen hw hl
    go_enter Try.func17, Try.ntmps17
    go_wp2_with fail
    go_loopw [4, 5, 13] (fun _ _ j wr => ∃ k : Nat, k ≤ n ∧ j = .int .i64 k ∧ Quiet w wr ∧ Hid (∀ i y z, i < k → l[i]? = some y → m[i]? = some z → (fun a b => decide (a = b)) y z = true)) (fun _ _ j _ => n - (intOf j).toNat)
    case atStart => exact ⟨0, Nat.zero_le _, rfl, Quiet.refl _, fun i d _ hi => by omega⟩
    case round =>
      obtain ⟨k, hk, rfl, hq, hf⟩ := hrel
      have hb := hq.below w.heap.size
      by_cases hlt : k < n
      · obtain ⟨y, hd⟩ := get_some Hlen.out hlt
        obtain ⟨z, he⟩ := get_some (Hl.out.symm.trans Hlen.out) hlt
        have hw1 := Hw.out.trans (hb.mono Hw.out.size)
        obtain ⟨b, off, x, rfl, hbB, hxl, ⟨rfl, _⟩, hx⟩ := (Hs.out.below hw1).at_ hd
        obtain ⟨b', off', x', rfl, hbB', hxl', ⟨rfl, _⟩, hx'⟩ := (Ht.out.below hw1).at_ he
        have h0 := hx 0 _ rfl
        have g0 := hx' 0 _ rfl
        simp only [Nat.add_zero, Nat.mul_one] at h0 g0
        have Hd := Lib.hid hd
        have He := Lib.hid he
        clear hd he hx hxl hx' hxl' hw1
        by_cases hyz : y = z
        · subst hyz
          go_wp2_with fail
          go_quiet (fail)
          go_wp2_with fail
          go_roundw
          case rel => exact ⟨k + 1, by omega, by go_num, hq.drewN _, so_far Hd.out He.out (by simp) hf.out⟩
          case measure => simp [intOf]; omega
        · have hne : (y.toList == z.toList) = false := by simpa [toList_inj] using hyz
          have Hyz := Lib.hid hyz
          clear hyz
          go_wp2_with fail
          go_quiet (fail)
          go_wp2_with fail
          go_ret
          exact ⟨by rw [eqBy_no _ l m k y z Hd.out He.out (by simpa using Hyz.out)]; rfl, hq.drewN _⟩
      · have hge : n ≤ k := by omega
        clear hlt
        go_wp2_with fail
        go_ret
        exact ⟨by rw [eqBy_yes _ l m Hl.out (fun i y z hi => hf.out i y z (by have := Hlen.out; omega))]; rfl, hq⟩
  · have hne : ((l.length : Int) != (m.length : Int)) = true := by rw [bne_iff_ne]; omega
    have Hl := Lib.hid hl
    clear hl hs ht hw
    go_enter Try.func17, Try.ntmps17
    go_wp2_with fail
    go_ret
    exact ⟨by rw [eqBy_len _ l m Hl.out]; rfl, Quiet.refl _⟩

set_option maxHeartbeats 400000 in
theorem equal_int {l m : List Int} {v v' : Value} (w w0 : World)
   (hs : SlR w0 w0.heap.size 1 IsInt v l) (ht : SlR w0 w0.heap.size 1 IsInt v' m) (hw : Below w0.heap.size w0 w) :
    Calls Try.prog 49 #[v, v'] w fun e w' => e = .returned (.bool (decide (l = m))) ∧ Quiet w w' := by
  obtain ⟨a, c, rfl⟩ : ∃ a c, v = .slice a l.length c := by obtain ⟨a, c, h, _⟩ := hs.form; exact ⟨a, c, h⟩
  obtain ⟨a', c', rfl⟩ : ∃ a c, v' = .slice a m.length c := by obtain ⟨a, c, h, _⟩ := ht.form; exact ⟨a, c, h⟩
  have hn : l.length ≤ 9223372036854775807 := by have := hs.caps; unfold maxLen at this; omega
  rw [← eqBy_eq]
  by_cases hl : l.length = m.length
  · obtain ⟨n, hlen⟩ : ∃ n, l.length = n := ⟨_, rfl⟩
    rw [← hl] at ht ⊢
    rw [hlen] at hs ht hn ⊢
    have Hlen := Lib.hid hlen
    have Hl := Lib.hid hl
    have Hs := Lib.hid hs
    have Ht := Lib.hid ht
    have Hw := Lib.hid hw
    clear hs ht hlen hw hl
    go_enter Try.func49, Try.ntmps49
    go_wp2_with fail
    go_loopw [4, 5, 13] (fun _ _ j wr => ∃ k : Nat, k ≤ n ∧ j = .int .i64 k ∧ Quiet w wr ∧ Hid (∀ i y z, i < k → l[i]? = some y → m[i]? = some z → (fun a b => decide (a = b)) y z = true)) (fun _ _ j _ => n - (intOf j).toNat)
    case atStart => exact ⟨0, Nat.zero_le _, rfl, Quiet.refl _, fun i d _ hi => by omega⟩
    case round =>
      obtain ⟨k, hk, rfl, hq, hf⟩ := hrel
      have hb := hq.below w.heap.size
      by_cases hlt : k < n
      · obtain ⟨y, hd⟩ := get_some Hlen.out hlt
        obtain ⟨z, he⟩ := get_some (Hl.out.symm.trans Hlen.out) hlt
        have hw1 := Hw.out.trans (hb.mono Hw.out.size)
        obtain ⟨b, off, x, rfl, hbB, hxl, ⟨rfl, _⟩, hx⟩ := (Hs.out.below hw1).at_ hd
        obtain ⟨b', off', x', rfl, hbB', hxl', ⟨rfl, _⟩, hx'⟩ := (Ht.out.below hw1).at_ he
        have h0 := hx 0 _ rfl
        have g0 := hx' 0 _ rfl
        simp only [Nat.add_zero, Nat.mul_one] at h0 g0
        have Hd := Lib.hid hd
        have He := Lib.hid he
        clear hd he hx hxl hx' hxl' hw1
        by_cases hyz : y = z
        · subst hyz
          go_wp2_with fail
          go_quiet (fail)
          go_wp2_with fail
          go_roundw
          case rel => exact ⟨k + 1, by omega, by go_num, hq.drewN _, so_far Hd.out He.out (by simp) hf.out⟩
          case measure => simp [intOf]; omega
        · have hne : (y == z) = false := by simpa using hyz
          have hne' : (y != z) = true := by simpa using hyz
          have Hyz := Lib.hid hyz
          clear hyz
          go_wp2_with fail
          go_quiet (fail)
          go_wp2_with fail
          go_ret
          exact ⟨by rw [eqBy_no _ l m k y z Hd.out He.out (by simpa using Hyz.out)]; rfl, hq.drewN _⟩
      · have hge : n ≤ k := by omega
        clear hlt
        go_wp2_with fail
        go_ret
        exact ⟨by rw [eqBy_yes _ l m Hl.out (fun i y z hi => hf.out i y z (by have := Hlen.out; omega))]; rfl, hq⟩
  · have hne : ((l.length : Int) != (m.length : Int)) = true := by rw [bne_iff_ne]; omega
    have Hl := Lib.hid hl
    clear hl hs ht hw
    go_enter Try.func49, Try.ntmps49
    go_wp2_with fail
    go_ret
    exact ⟨by rw [eqBy_len _ l m Hl.out]; rfl, Quiet.refl _⟩

set_option maxHeartbeats 400000 in
theorem equal_PropDef {l m : List PropDef} {v v' : Value} (w w0 : World)
   (hs : SlR w0 w0.heap.size 2 PropDef.Is v l) (ht : SlR w0 w0.heap.size 2 PropDef.Is v' m) (hw : Below w0.heap.size w0 w) :
    Calls Try.prog 46 #[v, v'] w fun e w' => e = .returned (.bool (decide (l = m))) ∧ Quiet w w' := by
  obtain ⟨a, c, rfl⟩ : ∃ a c, v = .slice a l.length c := by obtain ⟨a, c, h, _⟩ := hs.form; exact ⟨a, c, h⟩
  obtain ⟨a', c', rfl⟩ : ∃ a c, v' = .slice a m.length c := by obtain ⟨a, c, h, _⟩ := ht.form; exact ⟨a, c, h⟩
  have hn : l.length ≤ 9223372036854775807 := by have := hs.caps; unfold maxLen at this; omega
  rw [← eqBy_eq]
  by_cases hl : l.length = m.length
  · obtain ⟨n, hlen⟩ : ∃ n, l.length = n := ⟨_, rfl⟩
    rw [← hl] at ht ⊢
    rw [hlen] at hs ht hn ⊢
    have Hlen := Lib.hid hlen
    have Hl := Lib.hid hl
    have Hs := Lib.hid hs
    have Ht := Lib.hid ht
    have Hw := Lib.hid hw
    clear hs ht hlen hw hl
    go_enter Try.func46, Try.ntmps46
    go_wp2_with fail
    go_loopw [4, 5, 13] (fun _ _ j wr => ∃ k : Nat, k ≤ n ∧ j = .int .i64 k ∧ Quiet w wr ∧ Hid (∀ i y z, i < k → l[i]? = some y → m[i]? = some z → (fun a b => decide (a = b)) y z = true)) (fun _ _ j _ => n - (intOf j).toNat)
    case atStart => exact ⟨0, Nat.zero_le _, rfl, Quiet.refl _, fun i d _ hi => by omega⟩
    case round =>
      obtain ⟨k, hk, rfl, hq, hf⟩ := hrel
      have hb := hq.below w.heap.size
      by_cases hlt : k < n
      · obtain ⟨y, hd⟩ := get_some Hlen.out hlt
        obtain ⟨z, he⟩ := get_some (Hl.out.symm.trans Hlen.out) hlt
        have hw1 := Hw.out.trans (hb.mono Hw.out.size)
        obtain ⟨b, off, x, rfl, hbB, hxl, ⟨rfl, _⟩, hx⟩ := (Hs.out.below hw1).at_ hd
        obtain ⟨b', off', x', rfl, hbB', hxl', ⟨rfl, _⟩, hx'⟩ := (Ht.out.below hw1).at_ he
        have h0 := hx 0 _ rfl
        have h1 := hx 1 _ rfl
        have g0 := hx' 0 _ rfl
        have g1 := hx' 1 _ rfl
        simp only [Nat.add_zero] at h0 g0
        have Hd := Lib.hid hd
        have He := Lib.hid he
        clear hd he hx hxl hx' hxl' hw1
        by_cases hyz : y = z
        · have hne := fun W => neq_PropDef y z false (by simpa using hyz) W
          have Hyz := Lib.hid hyz
          clear hyz
          go_wp2_with fail
          go_quiet (fail)
          go_wp2_with fail
          go_roundw
          case rel => exact ⟨k + 1, by omega, by go_num, hq.drewN _, so_far Hd.out He.out (by simpa using Hyz.out) hf.out⟩
          case measure => simp [intOf]; omega
        · have hne := fun W => neq_PropDef y z true (by simpa using hyz) W
          have Hyz := Lib.hid hyz
          clear hyz
          go_wp2_with fail
          go_quiet (fail)
          go_wp2_with fail
          go_ret
          exact ⟨by rw [eqBy_no _ l m k y z Hd.out He.out (by simpa using Hyz.out)]; rfl, hq.drewN _⟩
      · have hge : n ≤ k := by omega
        clear hlt
        go_wp2_with fail
        go_ret
        exact ⟨by rw [eqBy_yes _ l m Hl.out (fun i y z hi => hf.out i y z (by have := Hlen.out; omega))]; rfl, hq⟩
  · have hne : ((l.length : Int) != (m.length : Int)) = true := by rw [bne_iff_ne]; omega
    have Hl := Lib.hid hl
    clear hl hs ht hw
    go_enter Try.func46, Try.ntmps46
    go_wp2_with fail
    go_ret
    exact ⟨by rw [eqBy_len _ l m Hl.out]; rfl, Quiet.refl _⟩

set_option maxHeartbeats 400000 in
theorem equal_KidDef {l m : List KidDef} {v v' : Value} (w w0 : World)
   (hs : SlR w0 w0.heap.size 4 KidDef.Is v l) (ht : SlR w0 w0.heap.size 4 KidDef.Is v' m) (hw : Below w0.heap.size w0 w) :
    Calls Try.prog 47 #[v, v'] w fun e w' => e = .returned (.bool (decide (l = m))) ∧ Quiet w w' := by
  obtain ⟨a, c, rfl⟩ : ∃ a c, v = .slice a l.length c := by obtain ⟨a, c, h, _⟩ := hs.form; exact ⟨a, c, h⟩
  obtain ⟨a', c', rfl⟩ : ∃ a c, v' = .slice a m.length c := by obtain ⟨a, c, h, _⟩ := ht.form; exact ⟨a, c, h⟩
  have hn : l.length ≤ 9223372036854775807 := by have := hs.caps; unfold maxLen at this; omega
  rw [← eqBy_eq]
  by_cases hl : l.length = m.length
  · obtain ⟨n, hlen⟩ : ∃ n, l.length = n := ⟨_, rfl⟩
    rw [← hl] at ht ⊢
    rw [hlen] at hs ht hn ⊢
    have Hlen := Lib.hid hlen
    have Hl := Lib.hid hl
    have Hs := Lib.hid hs
    have Ht := Lib.hid ht
    have Hw := Lib.hid hw
    clear hs ht hlen hw hl
    go_enter Try.func47, Try.ntmps47
    go_wp2_with fail
    go_loopw [4, 5, 13] (fun _ _ j wr => ∃ k : Nat, k ≤ n ∧ j = .int .i64 k ∧ Quiet w wr ∧ Hid (∀ i y z, i < k → l[i]? = some y → m[i]? = some z → (fun a b => decide (a = b)) y z = true)) (fun _ _ j _ => n - (intOf j).toNat)
    case atStart => exact ⟨0, Nat.zero_le _, rfl, Quiet.refl _, fun i d _ hi => by omega⟩
    case round =>
      obtain ⟨k, hk, rfl, hq, hf⟩ := hrel
      have hb := hq.below w.heap.size
      by_cases hlt : k < n
      · obtain ⟨y, hd⟩ := get_some Hlen.out hlt
        obtain ⟨z, he⟩ := get_some (Hl.out.symm.trans Hlen.out) hlt
        have hw1 := Hw.out.trans (hb.mono Hw.out.size)
        obtain ⟨b, off, x, rfl, hbB, hxl, ⟨rfl, _⟩, hx⟩ := (Hs.out.below hw1).at_ hd
        obtain ⟨b', off', x', rfl, hbB', hxl', ⟨rfl, _⟩, hx'⟩ := (Ht.out.below hw1).at_ he
        have h0 := hx 0 _ rfl
        have h1 := hx 1 _ rfl
        have h2 := hx 2 _ rfl
        have h3 := hx 3 _ rfl
        have g0 := hx' 0 _ rfl
        have g1 := hx' 1 _ rfl
        have g2 := hx' 2 _ rfl
        have g3 := hx' 3 _ rfl
        simp only [Nat.add_zero] at h0 g0
        have Hd := Lib.hid hd
        have He := Lib.hid he
        clear hd he hx hxl hx' hxl' hw1
        by_cases hyz : y = z
        · have hne := fun W => neq_KidDef y z false (by simpa using hyz) W
          have Hyz := Lib.hid hyz
          clear hyz
          go_wp2_with fail
          go_quiet (fail)
          go_wp2_with fail
          go_roundw
          case rel => exact ⟨k + 1, by omega, by go_num, hq.drewN _, so_far Hd.out He.out (by simpa using Hyz.out) hf.out⟩
          case measure => simp [intOf]; omega
        · have hne := fun W => neq_KidDef y z true (by simpa using hyz) W
          have Hyz := Lib.hid hyz
          clear hyz
          go_wp2_with fail
          go_quiet (fail)
          go_wp2_with fail
          go_ret
          exact ⟨by rw [eqBy_no _ l m k y z Hd.out He.out (by simpa using Hyz.out)]; rfl, hq.drewN _⟩
      · have hge : n ≤ k := by omega
        clear hlt
        go_wp2_with fail
        go_ret
        exact ⟨by rw [eqBy_yes _ l m Hl.out (fun i y z hi => hf.out i y z (by have := Hlen.out; omega))]; rfl, hq⟩
  · have hne : ((l.length : Int) != (m.length : Int)) = true := by rw [bne_iff_ne]; omega
    have Hl := Lib.hid hl
    clear hl hs ht hw
    go_enter Try.func47, Try.ntmps47
    go_wp2_with fail
    go_ret
    exact ⟨by rw [eqBy_len _ l m Hl.out]; rfl, Quiet.refl _⟩

set_option maxHeartbeats 400000 in
theorem equal_RefDef {l m : List RefDef} {v v' : Value} (w w0 : World)
   (hs : SlR w0 w0.heap.size 3 RefDef.Is v l) (ht : SlR w0 w0.heap.size 3 RefDef.Is v' m) (hw : Below w0.heap.size w0 w) :
    Calls Try.prog 48 #[v, v'] w fun e w' => e = .returned (.bool (decide (l = m))) ∧ Quiet w w' := by
  obtain ⟨a, c, rfl⟩ : ∃ a c, v = .slice a l.length c := by obtain ⟨a, c, h, _⟩ := hs.form; exact ⟨a, c, h⟩
  obtain ⟨a', c', rfl⟩ : ∃ a c, v' = .slice a m.length c := by obtain ⟨a, c, h, _⟩ := ht.form; exact ⟨a, c, h⟩
  have hn : l.length ≤ 9223372036854775807 := by have := hs.caps; unfold maxLen at this; omega
  rw [← eqBy_eq]
  by_cases hl : l.length = m.length
  · obtain ⟨n, hlen⟩ : ∃ n, l.length = n := ⟨_, rfl⟩
    rw [← hl] at ht ⊢
    rw [hlen] at hs ht hn ⊢
    have Hlen := Lib.hid hlen
    have Hl := Lib.hid hl
    have Hs := Lib.hid hs
    have Ht := Lib.hid ht
    have Hw := Lib.hid hw
    clear hs ht hlen hw hl
    go_enter Try.func48, Try.ntmps48
    go_wp2_with fail
    go_loopw [4, 5, 13] (fun _ _ j wr => ∃ k : Nat, k ≤ n ∧ j = .int .i64 k ∧ Quiet w wr ∧ Hid (∀ i y z, i < k → l[i]? = some y → m[i]? = some z → (fun a b => decide (a = b)) y z = true)) (fun _ _ j _ => n - (intOf j).toNat)
    case atStart => exact ⟨0, Nat.zero_le _, rfl, Quiet.refl _, fun i d _ hi => by omega⟩
    case round =>
      obtain ⟨k, hk, rfl, hq, hf⟩ := hrel
      have hb := hq.below w.heap.size
      by_cases hlt : k < n
      · obtain ⟨y, hd⟩ := get_some Hlen.out hlt
        obtain ⟨z, he⟩ := get_some (Hl.out.symm.trans Hlen.out) hlt
        have hw1 := Hw.out.trans (hb.mono Hw.out.size)
        obtain ⟨b, off, x, rfl, hbB, hxl, ⟨rfl, _⟩, hx⟩ := (Hs.out.below hw1).at_ hd
        obtain ⟨b', off', x', rfl, hbB', hxl', ⟨rfl, _⟩, hx'⟩ := (Ht.out.below hw1).at_ he
        have h0 := hx 0 _ rfl
        have h1 := hx 1 _ rfl
        have h2 := hx 2 _ rfl
        have g0 := hx' 0 _ rfl
        have g1 := hx' 1 _ rfl
        have g2 := hx' 2 _ rfl
        simp only [Nat.add_zero] at h0 g0
        have Hd := Lib.hid hd
        have He := Lib.hid he
        clear hd he hx hxl hx' hxl' hw1
        by_cases hyz : y = z
        · have hne := fun W => neq_RefDef y z false (by simpa using hyz) W
          have Hyz := Lib.hid hyz
          clear hyz
          go_wp2_with fail
          go_quiet (fail)
          go_wp2_with fail
          go_roundw
          case rel => exact ⟨k + 1, by omega, by go_num, hq.drewN _, so_far Hd.out He.out (by simpa using Hyz.out) hf.out⟩
          case measure => simp [intOf]; omega
        · have hne := fun W => neq_RefDef y z true (by simpa using hyz) W
          have Hyz := Lib.hid hyz
          clear hyz
          go_wp2_with fail
          go_quiet (fail)
          go_wp2_with fail
          go_ret
          exact ⟨by rw [eqBy_no _ l m k y z Hd.out He.out (by simpa using Hyz.out)]; rfl, hq.drewN _⟩
      · have hge : n ≤ k := by omega
        clear hlt
        go_wp2_with fail
        go_ret
        exact ⟨by rw [eqBy_yes _ l m Hl.out (fun i y z hi => hf.out i y z (by have := Hlen.out; omega))]; rfl, hq⟩
  · have hne : ((l.length : Int) != (m.length : Int)) = true := by rw [bne_iff_ne]; omega
    have Hl := Lib.hid hl
    clear hl hs ht hw
    go_enter Try.func48, Try.ntmps48
    go_wp2_with fail
    go_ret
    exact ⟨by rw [eqBy_len _ l m Hl.out]; rfl, Quiet.refl _⟩

set_option maxHeartbeats 400000 in
theorem equal_Rule {l m : List Rule} {v v' : Value} (w w0 : World)
   (hs : SlR w0 w0.heap.size 4 Rule.Is v l) (ht : SlR w0 w0.heap.size 4 Rule.Is v' m) (hw : Below w0.heap.size w0 w) :
    Calls Try.prog 20 #[v, v'] w fun e w' => e = .returned (.bool (decide (l = m))) ∧ Quiet w w' := by
  obtain ⟨a, c, rfl⟩ : ∃ a c, v = .slice a l.length c := by obtain ⟨a, c, h, _⟩ := hs.form; exact ⟨a, c, h⟩
  obtain ⟨a', c', rfl⟩ : ∃ a c, v' = .slice a m.length c := by obtain ⟨a, c, h, _⟩ := ht.form; exact ⟨a, c, h⟩
  have hn : l.length ≤ 9223372036854775807 := by have := hs.caps; unfold maxLen at this; omega
  rw [← eqBy_eq]
  by_cases hl : l.length = m.length
  · obtain ⟨n, hlen⟩ : ∃ n, l.length = n := ⟨_, rfl⟩
    rw [← hl] at ht ⊢
    rw [hlen] at hs ht hn ⊢
    have Hlen := Lib.hid hlen
    have Hl := Lib.hid hl
    have Hs := Lib.hid hs
    have Ht := Lib.hid ht
    have Hw := Lib.hid hw
    clear hs ht hlen hw hl
    go_enter Try.func20, Try.ntmps20
    go_wp2_with fail
    go_loopw [4, 5, 13] (fun _ _ j wr => ∃ k : Nat, k ≤ n ∧ j = .int .i64 k ∧ Quiet w wr ∧ Hid (∀ i y z, i < k → l[i]? = some y → m[i]? = some z → (fun a b => decide (a = b)) y z = true)) (fun _ _ j _ => n - (intOf j).toNat)
    case atStart => exact ⟨0, Nat.zero_le _, rfl, Quiet.refl _, fun i d _ hi => by omega⟩
    case round =>
      obtain ⟨k, hk, rfl, hq, hf⟩ := hrel
      have hb := hq.below w.heap.size
      by_cases hlt : k < n
      · obtain ⟨y, hd⟩ := get_some Hlen.out hlt
        obtain ⟨z, he⟩ := get_some (Hl.out.symm.trans Hlen.out) hlt
        have hw1 := Hw.out.trans (hb.mono Hw.out.size)
        obtain ⟨b, off, x, rfl, hbB, hxl, ⟨rfl, _⟩, hx⟩ := (Hs.out.below hw1).at_ hd
        obtain ⟨b', off', x', rfl, hbB', hxl', ⟨rfl, _⟩, hx'⟩ := (Ht.out.below hw1).at_ he
        have h0 := hx 0 _ rfl
        have h1 := hx 1 _ rfl
        have h2 := hx 2 _ rfl
        have h3 := hx 3 _ rfl
        have g0 := hx' 0 _ rfl
        have g1 := hx' 1 _ rfl
        have g2 := hx' 2 _ rfl
        have g3 := hx' 3 _ rfl
        simp only [Nat.add_zero] at h0 g0
        have Hd := Lib.hid hd
        have He := Lib.hid he
        clear hd he hx hxl hx' hxl' hw1
        by_cases hyz : y = z
        · have hne := fun W => neq_Rule y z false (by simpa using hyz) W
          have Hyz := Lib.hid hyz
          clear hyz
          go_wp2_with fail
          go_quiet (fail)
          go_wp2_with fail
          go_roundw
          case rel => exact ⟨k + 1, by omega, by go_num, hq.drewN _, so_far Hd.out He.out (by simpa using Hyz.out) hf.out⟩
          case measure => simp [intOf]; omega
        · have hne := fun W => neq_Rule y z true (by simpa using hyz) W
          have Hyz := Lib.hid hyz
          clear hyz
          go_wp2_with fail
          go_quiet (fail)
          go_wp2_with fail
          go_ret
          exact ⟨by rw [eqBy_no _ l m k y z Hd.out He.out (by simpa using Hyz.out)]; rfl, hq.drewN _⟩
      · have hge : n ≤ k := by omega
        clear hlt
        go_wp2_with fail
        go_ret
        exact ⟨by rw [eqBy_yes _ l m Hl.out (fun i y z hi => hf.out i y z (by have := Hlen.out; omega))]; rfl, hq⟩
  · have hne : ((l.length : Int) != (m.length : Int)) = true := by rw [bne_iff_ne]; omega
    have Hl := Lib.hid hl
    clear hl hs ht hw
    go_enter Try.func20, Try.ntmps20
    go_wp2_with fail
    go_ret
    exact ⟨by rw [eqBy_len _ l m Hl.out]; rfl, Quiet.refl _⟩

set_option maxHeartbeats 400000 in
theorem equal_Cell {l m : List Cell} {v v' : Value} (w w0 : World)
   (hs : SlR w0 w0.heap.size 3 Cell.Is v l) (ht : SlR w0 w0.heap.size 3 Cell.Is v' m) (hw : Below w0.heap.size w0 w) :
    Calls Try.prog 27 #[v, v'] w fun e w' => e = .returned (.bool (decide (l = m))) ∧ Quiet w w' := by
  obtain ⟨a, c, rfl⟩ : ∃ a c, v = .slice a l.length c := by obtain ⟨a, c, h, _⟩ := hs.form; exact ⟨a, c, h⟩
  obtain ⟨a', c', rfl⟩ : ∃ a c, v' = .slice a m.length c := by obtain ⟨a, c, h, _⟩ := ht.form; exact ⟨a, c, h⟩
  have hn : l.length ≤ 9223372036854775807 := by have := hs.caps; unfold maxLen at this; omega
  rw [← eqBy_eq]
  by_cases hl : l.length = m.length
  · obtain ⟨n, hlen⟩ : ∃ n, l.length = n := ⟨_, rfl⟩
    rw [← hl] at ht ⊢
    rw [hlen] at hs ht hn ⊢
    have Hlen := Lib.hid hlen
    have Hl := Lib.hid hl
    have Hs := Lib.hid hs
    have Ht := Lib.hid ht
    have Hw := Lib.hid hw
    clear hs ht hlen hw hl
    go_enter Try.func27, Try.ntmps27
    go_wp2_with fail
    go_loopw [4, 5, 13] (fun _ _ j wr => ∃ k : Nat, k ≤ n ∧ j = .int .i64 k ∧ Quiet w wr ∧ Hid (∀ i y z, i < k → l[i]? = some y → m[i]? = some z → (fun a b => decide (a = b)) y z = true)) (fun _ _ j _ => n - (intOf j).toNat)
    case atStart => exact ⟨0, Nat.zero_le _, rfl, Quiet.refl _, fun i d _ hi => by omega⟩
    case round =>
      obtain ⟨k, hk, rfl, hq, hf⟩ := hrel
      have hb := hq.below w.heap.size
      by_cases hlt : k < n
      · obtain ⟨y, hd⟩ := get_some Hlen.out hlt
        obtain ⟨z, he⟩ := get_some (Hl.out.symm.trans Hlen.out) hlt
        have hw1 := Hw.out.trans (hb.mono Hw.out.size)
        obtain ⟨b, off, x, rfl, hbB, hxl, ⟨rfl, _⟩, hx⟩ := (Hs.out.below hw1).at_ hd
        obtain ⟨b', off', x', rfl, hbB', hxl', ⟨rfl, _⟩, hx'⟩ := (Ht.out.below hw1).at_ he
        have h0 := hx 0 _ rfl
        have h1 := hx 1 _ rfl
        have h2 := hx 2 _ rfl
        have g0 := hx' 0 _ rfl
        have g1 := hx' 1 _ rfl
        have g2 := hx' 2 _ rfl
        simp only [Nat.add_zero] at h0 g0
        have Hd := Lib.hid hd
        have He := Lib.hid he
        clear hd he hx hxl hx' hxl' hw1
        by_cases hyz : y = z
        · have hne := fun W => neq_Cell y z false (by simpa using hyz) W
          have Hyz := Lib.hid hyz
          clear hyz
          go_wp2_with fail
          go_quiet (fail)
          go_wp2_with fail
          go_roundw
          case rel => exact ⟨k + 1, by omega, by go_num, hq.drewN _, so_far Hd.out He.out (by simpa using Hyz.out) hf.out⟩
          case measure => simp [intOf]; omega
        · have hne := fun W => neq_Cell y z true (by simpa using hyz) W
          have Hyz := Lib.hid hyz
          clear hyz
          go_wp2_with fail
          go_quiet (fail)
          go_wp2_with fail
          go_ret
          exact ⟨by rw [eqBy_no _ l m k y z Hd.out He.out (by simpa using Hyz.out)]; rfl, hq.drewN _⟩
      · have hge : n ≤ k := by omega
        clear hlt
        go_wp2_with fail
        go_ret
        exact ⟨by rw [eqBy_yes _ l m Hl.out (fun i y z hi => hf.out i y z (by have := Hlen.out; omega))]; rfl, hq⟩
  · have hne : ((l.length : Int) != (m.length : Int)) = true := by rw [bne_iff_ne]; omega
    have Hl := Lib.hid hl
    clear hl hs ht hw
    go_enter Try.func27, Try.ntmps27
    go_wp2_with fail
    go_ret
    exact ⟨by rw [eqBy_len _ l m Hl.out]; rfl, Quiet.refl _⟩

set_option maxHeartbeats 400000 in
theorem equal_Piece {l m : List Cell} {v v' : Value} (w w0 : World)
   (hs : SlR w0 w0.heap.size 3 Cell.Is v l) (ht : SlR w0 w0.heap.size 3 Cell.Is v' m) (hw : Below w0.heap.size w0 w) :
    Calls Try.prog 30 #[v, v'] w fun e w' => e = .returned (.bool (decide (l = m))) ∧ Quiet w w' := by
  obtain ⟨a, c, rfl⟩ : ∃ a c, v = .slice a l.length c := by obtain ⟨a, c, h, _⟩ := hs.form; exact ⟨a, c, h⟩
  obtain ⟨a', c', rfl⟩ : ∃ a c, v' = .slice a m.length c := by obtain ⟨a, c, h, _⟩ := ht.form; exact ⟨a, c, h⟩
  have hn : l.length ≤ 9223372036854775807 := by have := hs.caps; unfold maxLen at this; omega
  rw [← eqBy_eq]
  by_cases hl : l.length = m.length
  · obtain ⟨n, hlen⟩ : ∃ n, l.length = n := ⟨_, rfl⟩
    rw [← hl] at ht ⊢
    rw [hlen] at hs ht hn ⊢
    have Hlen := Lib.hid hlen
    have Hl := Lib.hid hl
    have Hs := Lib.hid hs
    have Ht := Lib.hid ht
    have Hw := Lib.hid hw
    clear hs ht hlen hw hl
    go_enter Try.func30, Try.ntmps30
    go_wp2_with fail
    go_loopw [4, 5, 13] (fun _ _ j wr => ∃ k : Nat, k ≤ n ∧ j = .int .i64 k ∧ Quiet w wr ∧ Hid (∀ i y z, i < k → l[i]? = some y → m[i]? = some z → (fun a b => decide (a = b)) y z = true)) (fun _ _ j _ => n - (intOf j).toNat)
    case atStart => exact ⟨0, Nat.zero_le _, rfl, Quiet.refl _, fun i d _ hi => by omega⟩
    case round =>
      obtain ⟨k, hk, rfl, hq, hf⟩ := hrel
      have hb := hq.below w.heap.size
      by_cases hlt : k < n
      · obtain ⟨y, hd⟩ := get_some Hlen.out hlt
        obtain ⟨z, he⟩ := get_some (Hl.out.symm.trans Hlen.out) hlt
        have hw1 := Hw.out.trans (hb.mono Hw.out.size)
        obtain ⟨b, off, x, rfl, hbB, hxl, ⟨rfl, _⟩, hx⟩ := (Hs.out.below hw1).at_ hd
        obtain ⟨b', off', x', rfl, hbB', hxl', ⟨rfl, _⟩, hx'⟩ := (Ht.out.below hw1).at_ he
        have h0 := hx 0 _ rfl
        have h1 := hx 1 _ rfl
        have h2 := hx 2 _ rfl
        have g0 := hx' 0 _ rfl
        have g1 := hx' 1 _ rfl
        have g2 := hx' 2 _ rfl
        simp only [Nat.add_zero] at h0 g0
        have Hd := Lib.hid hd
        have He := Lib.hid he
        clear hd he hx hxl hx' hxl' hw1
        by_cases hyz : y = z
        · have hne := fun W => neq_CellP y z false (by simpa using hyz) W
          have Hyz := Lib.hid hyz
          clear hyz
          go_wp2_with fail
          go_quiet (fail)
          go_wp2_with fail
          go_roundw
          case rel => exact ⟨k + 1, by omega, by go_num, hq.drewN _, so_far Hd.out He.out (by simpa using Hyz.out) hf.out⟩
          case measure => simp [intOf]; omega
        · have hne := fun W => neq_CellP y z true (by simpa using hyz) W
          have Hyz := Lib.hid hyz
          clear hyz
          go_wp2_with fail
          go_quiet (fail)
          go_wp2_with fail
          go_ret
          exact ⟨by rw [eqBy_no _ l m k y z Hd.out He.out (by simpa using Hyz.out)]; rfl, hq.drewN _⟩
      · have hge : n ≤ k := by omega
        clear hlt
        go_wp2_with fail
        go_ret
        exact ⟨by rw [eqBy_yes _ l m Hl.out (fun i y z hi => hf.out i y z (by have := Hlen.out; omega))]; rfl, hq⟩
  · have hne : ((l.length : Int) != (m.length : Int)) = true := by rw [bne_iff_ne]; omega
    have Hl := Lib.hid hl
    clear hl hs ht hw
    go_enter Try.func30, Try.ntmps30
    go_wp2_with fail
    go_ret
    exact ⟨by rw [eqBy_len _ l m Hl.out]; rfl, Quiet.refl _⟩

set_option maxHeartbeats 400000 in
theorem ref_texts {l m : List ByteArray} {v v' : Value} (w w0 : World)
   (hs : SlR w0 w0.heap.size 1 IsText v l) (ht : SlR w0 w0.heap.size 1 IsText v' m) (hw : Below w0.heap.size w0 w) :
    Calls Try.prog 13 #[v, v'] w fun e w' => e = .returned (.bool (decide (l = m))) ∧ Quiet w w' := by
  obtain ⟨a, c, rfl⟩ : ∃ a c, v = .slice a l.length c := by obtain ⟨a, c, h, _⟩ := hs.form; exact ⟨a, c, h⟩
  obtain ⟨a', c', rfl⟩ : ∃ a c, v' = .slice a m.length c := by obtain ⟨a, c, h, _⟩ := ht.form; exact ⟨a, c, h⟩
  have hn : l.length ≤ 9223372036854775807 := by have := hs.caps; unfold maxLen at this; omega
  rw [← eqBy_eq]
  by_cases hl : l.length = m.length
  · obtain ⟨n, hlen⟩ : ∃ n, l.length = n := ⟨_, rfl⟩
    rw [← hl] at ht ⊢
    rw [hlen] at hs ht hn ⊢
    have Hlen := Lib.hid hlen
    have Hl := Lib.hid hl
    have Hs := Lib.hid hs
    have Ht := Lib.hid ht
    have Hw := Lib.hid hw
    clear hs ht hlen hw hl
    go_enter Try.func13, Try.ntmps13
    go_wp2_with fail
    go_loopw [4, 5] (fun _ j wr => ∃ k : Nat, k ≤ n ∧ j = .int .i64 k ∧ Quiet w wr ∧ Hid (∀ i y z, i < k → l[i]? = some y → m[i]? = some z → (fun a b => decide (a = b)) y z = true)) (fun _ j _ => n - (intOf j).toNat)
    case atStart => exact ⟨0, Nat.zero_le _, rfl, Quiet.refl _, fun i d _ hi => by omega⟩
    case round =>
      obtain ⟨k, hk, rfl, hq, hf⟩ := hrel
      have hb := hq.below w.heap.size
      by_cases hlt : k < n
      · obtain ⟨y, hd⟩ := get_some Hlen.out hlt
        obtain ⟨z, he⟩ := get_some (Hl.out.symm.trans Hlen.out) hlt
        have hw1 := Hw.out.trans (hb.mono Hw.out.size)
        obtain ⟨b, off, x, rfl, hbB, hxl, ⟨rfl, _⟩, hx⟩ := (Hs.out.below hw1).at_ hd
        obtain ⟨b', off', x', rfl, hbB', hxl', ⟨rfl, _⟩, hx'⟩ := (Ht.out.below hw1).at_ he
        have h0 := hx 0 _ rfl
        have g0 := hx' 0 _ rfl
        simp only [Nat.add_zero, Nat.mul_one] at h0 g0
        have Hd := Lib.hid hd
        have He := Lib.hid he
        clear hd he hx hxl hx' hxl' hw1
        by_cases hyz : y = z
        · subst hyz
          go_wp2_with fail
          go_quiet (fail)
          go_wp2_with fail
          go_roundw
          case rel => exact ⟨k + 1, by omega, by go_num, hq.drewN _, so_far Hd.out He.out (by simp) hf.out⟩
          case measure => simp [intOf]; omega
        · have hne : (y.toList == z.toList) = false := by simpa [toList_inj] using hyz
          have Hyz := Lib.hid hyz
          clear hyz
          go_wp2_with fail
          go_quiet (fail)
          go_wp2_with fail
          go_ret
          exact ⟨by rw [eqBy_no _ l m k y z Hd.out He.out (by simpa using Hyz.out)]; rfl, hq.drewN _⟩
      · have hge : n ≤ k := by omega
        clear hlt
        go_wp2_with fail
        go_ret
        exact ⟨by rw [eqBy_yes _ l m Hl.out (fun i y z hi => hf.out i y z (by have := Hlen.out; omega))]; rfl, hq⟩
  · have hne : ((l.length : Int) != (m.length : Int)) = true := by rw [bne_iff_ne]; omega
    have Hl := Lib.hid hl
    clear hl hs ht hw
    go_enter Try.func13, Try.ntmps13
    go_wp2_with fail
    go_ret
    exact ⟨by rw [eqBy_len _ l m Hl.out]; rfl, Quiet.refl _⟩

set_option maxHeartbeats 400000 in
theorem ref_ints {l m : List Int} {v v' : Value} (w w0 : World)
   (hs : SlR w0 w0.heap.size 1 IsInt v l) (ht : SlR w0 w0.heap.size 1 IsInt v' m) (hw : Below w0.heap.size w0 w) :
    Calls Try.prog 50 #[v, v'] w fun e w' => e = .returned (.bool (decide (l = m))) ∧ Quiet w w' := by
  obtain ⟨a, c, rfl⟩ : ∃ a c, v = .slice a l.length c := by obtain ⟨a, c, h, _⟩ := hs.form; exact ⟨a, c, h⟩
  obtain ⟨a', c', rfl⟩ : ∃ a c, v' = .slice a m.length c := by obtain ⟨a, c, h, _⟩ := ht.form; exact ⟨a, c, h⟩
  have hn : l.length ≤ 9223372036854775807 := by have := hs.caps; unfold maxLen at this; omega
  rw [← eqBy_eq]
  by_cases hl : l.length = m.length
  · obtain ⟨n, hlen⟩ : ∃ n, l.length = n := ⟨_, rfl⟩
    rw [← hl] at ht ⊢
    rw [hlen] at hs ht hn ⊢
    have Hlen := Lib.hid hlen
    have Hl := Lib.hid hl
    have Hs := Lib.hid hs
    have Ht := Lib.hid ht
    have Hw := Lib.hid hw
    clear hs ht hlen hw hl
    go_enter Try.func50, Try.ntmps50
    go_wp2_with fail
    go_loopw [4, 5] (fun _ j wr => ∃ k : Nat, k ≤ n ∧ j = .int .i64 k ∧ Quiet w wr ∧ Hid (∀ i y z, i < k → l[i]? = some y → m[i]? = some z → (fun a b => decide (a = b)) y z = true)) (fun _ j _ => n - (intOf j).toNat)
    case atStart => exact ⟨0, Nat.zero_le _, rfl, Quiet.refl _, fun i d _ hi => by omega⟩
    case round =>
      obtain ⟨k, hk, rfl, hq, hf⟩ := hrel
      have hb := hq.below w.heap.size
      by_cases hlt : k < n
      · obtain ⟨y, hd⟩ := get_some Hlen.out hlt
        obtain ⟨z, he⟩ := get_some (Hl.out.symm.trans Hlen.out) hlt
        have hw1 := Hw.out.trans (hb.mono Hw.out.size)
        obtain ⟨b, off, x, rfl, hbB, hxl, ⟨rfl, _⟩, hx⟩ := (Hs.out.below hw1).at_ hd
        obtain ⟨b', off', x', rfl, hbB', hxl', ⟨rfl, _⟩, hx'⟩ := (Ht.out.below hw1).at_ he
        have h0 := hx 0 _ rfl
        have g0 := hx' 0 _ rfl
        simp only [Nat.add_zero, Nat.mul_one] at h0 g0
        have Hd := Lib.hid hd
        have He := Lib.hid he
        clear hd he hx hxl hx' hxl' hw1
        by_cases hyz : y = z
        · subst hyz
          go_wp2_with fail
          go_quiet (fail)
          go_wp2_with fail
          go_roundw
          case rel => exact ⟨k + 1, by omega, by go_num, hq.drewN _, so_far Hd.out He.out (by simp) hf.out⟩
          case measure => simp [intOf]; omega
        · have hne : (y == z) = false := by simpa using hyz
          have hne' : (y != z) = true := by simpa using hyz
          have Hyz := Lib.hid hyz
          clear hyz
          go_wp2_with fail
          go_quiet (fail)
          go_wp2_with fail
          go_ret
          exact ⟨by rw [eqBy_no _ l m k y z Hd.out He.out (by simpa using Hyz.out)]; rfl, hq.drewN _⟩
      · have hge : n ≤ k := by omega
        clear hlt
        go_wp2_with fail
        go_ret
        exact ⟨by rw [eqBy_yes _ l m Hl.out (fun i y z hi => hf.out i y z (by have := Hlen.out; omega))]; rfl, hq⟩
  · have hne : ((l.length : Int) != (m.length : Int)) = true := by rw [bne_iff_ne]; omega
    have Hl := Lib.hid hl
    clear hl hs ht hw
    go_enter Try.func50, Try.ntmps50
    go_wp2_with fail
    go_ret
    exact ⟨by rw [eqBy_len _ l m Hl.out]; rfl, Quiet.refl _⟩

set_option maxHeartbeats 400000 in
theorem ref_cells {l m : List Cell} {v v' : Value} (w w0 : World)
   (hs : SlR w0 w0.heap.size 3 Cell.Is v l) (ht : SlR w0 w0.heap.size 3 Cell.Is v' m) (hw : Below w0.heap.size w0 w) :
    Calls Try.prog 32 #[v, v'] w fun e w' => e = .returned (.bool (decide (l = m))) ∧ Quiet w w' := by
  obtain ⟨a, c, rfl⟩ : ∃ a c, v = .slice a l.length c := by obtain ⟨a, c, h, _⟩ := hs.form; exact ⟨a, c, h⟩
  obtain ⟨a', c', rfl⟩ : ∃ a c, v' = .slice a m.length c := by obtain ⟨a, c, h, _⟩ := ht.form; exact ⟨a, c, h⟩
  have hn : l.length ≤ 9223372036854775807 := by have := hs.caps; unfold maxLen at this; omega
  rw [← eqBy_eq]
  by_cases hl : l.length = m.length
  · obtain ⟨n, hlen⟩ : ∃ n, l.length = n := ⟨_, rfl⟩
    rw [← hl] at ht ⊢
    rw [hlen] at hs ht hn ⊢
    have Hlen := Lib.hid hlen
    have Hl := Lib.hid hl
    have Hs := Lib.hid hs
    have Ht := Lib.hid ht
    have Hw := Lib.hid hw
    clear hs ht hlen hw hl
    go_enter Try.func32, Try.ntmps32
    go_wp2_with fail
    go_loopw [4, 5] (fun _ j wr => ∃ k : Nat, k ≤ n ∧ j = .int .i64 k ∧ Quiet w wr ∧ Hid (∀ i y z, i < k → l[i]? = some y → m[i]? = some z → (fun a b => decide (a = b)) y z = true)) (fun _ j _ => n - (intOf j).toNat)
    case atStart => exact ⟨0, Nat.zero_le _, rfl, Quiet.refl _, fun i d _ hi => by omega⟩
    case round =>
      obtain ⟨k, hk, rfl, hq, hf⟩ := hrel
      have hb := hq.below w.heap.size
      by_cases hlt : k < n
      · obtain ⟨y, hd⟩ := get_some Hlen.out hlt
        obtain ⟨z, he⟩ := get_some (Hl.out.symm.trans Hlen.out) hlt
        have hw1 := Hw.out.trans (hb.mono Hw.out.size)
        obtain ⟨b, off, x, rfl, hbB, hxl, ⟨rfl, _⟩, hx⟩ := (Hs.out.below hw1).at_ hd
        obtain ⟨b', off', x', rfl, hbB', hxl', ⟨rfl, _⟩, hx'⟩ := (Ht.out.below hw1).at_ he
        have h0 := hx 0 _ rfl
        have h1 := hx 1 _ rfl
        have h2 := hx 2 _ rfl
        have g0 := hx' 0 _ rfl
        have g1 := hx' 1 _ rfl
        have g2 := hx' 2 _ rfl
        simp only [Nat.add_zero] at h0 g0
        have Hd := Lib.hid hd
        have He := Lib.hid he
        clear hd he hx hxl hx' hxl' hw1
        by_cases hyz : y = z
        · have hne := fun W => neq_Cell y z false (by simpa using hyz) W
          have Hyz := Lib.hid hyz
          clear hyz
          go_wp2_with fail
          go_quiet (fail)
          go_wp2_with fail
          go_roundw
          case rel => exact ⟨k + 1, by omega, by go_num, hq.drewN _, so_far Hd.out He.out (by simpa using Hyz.out) hf.out⟩
          case measure => simp [intOf]; omega
        · have hne := fun W => neq_Cell y z true (by simpa using hyz) W
          have Hyz := Lib.hid hyz
          clear hyz
          go_wp2_with fail
          go_quiet (fail)
          go_wp2_with fail
          go_ret
          exact ⟨by rw [eqBy_no _ l m k y z Hd.out He.out (by simpa using Hyz.out)]; rfl, hq.drewN _⟩
      · have hge : n ≤ k := by omega
        clear hlt
        go_wp2_with fail
        go_ret
        exact ⟨by rw [eqBy_yes _ l m Hl.out (fun i y z hi => hf.out i y z (by have := Hlen.out; omega))]; rfl, hq⟩
  · have hne : ((l.length : Int) != (m.length : Int)) = true := by rw [bne_iff_ne]; omega
    have Hl := Lib.hid hl
    clear hl hs ht hw
    go_enter Try.func32, Try.ntmps32
    go_wp2_with fail
    go_ret
    exact ⟨by rw [eqBy_len _ l m Hl.out]; rfl, Quiet.refl _⟩

set_option maxHeartbeats 400000 in
theorem ref_pieces {l m : List Cell} {v v' : Value} (w w0 : World)
   (hs : SlR w0 w0.heap.size 3 Cell.Is v l) (ht : SlR w0 w0.heap.size 3 Cell.Is v' m) (hw : Below w0.heap.size w0 w) :
    Calls Try.prog 33 #[v, v'] w fun e w' => e = .returned (.bool (decide (l = m))) ∧ Quiet w w' := by
  obtain ⟨a, c, rfl⟩ : ∃ a c, v = .slice a l.length c := by obtain ⟨a, c, h, _⟩ := hs.form; exact ⟨a, c, h⟩
  obtain ⟨a', c', rfl⟩ : ∃ a c, v' = .slice a m.length c := by obtain ⟨a, c, h, _⟩ := ht.form; exact ⟨a, c, h⟩
  have hn : l.length ≤ 9223372036854775807 := by have := hs.caps; unfold maxLen at this; omega
  rw [← eqBy_eq]
  by_cases hl : l.length = m.length
  · obtain ⟨n, hlen⟩ : ∃ n, l.length = n := ⟨_, rfl⟩
    rw [← hl] at ht ⊢
    rw [hlen] at hs ht hn ⊢
    have Hlen := Lib.hid hlen
    have Hl := Lib.hid hl
    have Hs := Lib.hid hs
    have Ht := Lib.hid ht
    have Hw := Lib.hid hw
    clear hs ht hlen hw hl
    go_enter Try.func33, Try.ntmps33
    go_wp2_with fail
    go_loopw [4, 5] (fun _ j wr => ∃ k : Nat, k ≤ n ∧ j = .int .i64 k ∧ Quiet w wr ∧ Hid (∀ i y z, i < k → l[i]? = some y → m[i]? = some z → (fun a b => decide (a = b)) y z = true)) (fun _ j _ => n - (intOf j).toNat)
    case atStart => exact ⟨0, Nat.zero_le _, rfl, Quiet.refl _, fun i d _ hi => by omega⟩
    case round =>
      obtain ⟨k, hk, rfl, hq, hf⟩ := hrel
      have hb := hq.below w.heap.size
      by_cases hlt : k < n
      · obtain ⟨y, hd⟩ := get_some Hlen.out hlt
        obtain ⟨z, he⟩ := get_some (Hl.out.symm.trans Hlen.out) hlt
        have hw1 := Hw.out.trans (hb.mono Hw.out.size)
        obtain ⟨b, off, x, rfl, hbB, hxl, ⟨rfl, _⟩, hx⟩ := (Hs.out.below hw1).at_ hd
        obtain ⟨b', off', x', rfl, hbB', hxl', ⟨rfl, _⟩, hx'⟩ := (Ht.out.below hw1).at_ he
        have h0 := hx 0 _ rfl
        have h1 := hx 1 _ rfl
        have h2 := hx 2 _ rfl
        have g0 := hx' 0 _ rfl
        have g1 := hx' 1 _ rfl
        have g2 := hx' 2 _ rfl
        simp only [Nat.add_zero] at h0 g0
        have Hd := Lib.hid hd
        have He := Lib.hid he
        clear hd he hx hxl hx' hxl' hw1
        by_cases hyz : y = z
        · have hne := fun W => neq_CellP y z false (by simpa using hyz) W
          have Hyz := Lib.hid hyz
          clear hyz
          go_wp2_with fail
          go_quiet (fail)
          go_wp2_with fail
          go_roundw
          case rel => exact ⟨k + 1, by omega, by go_num, hq.drewN _, so_far Hd.out He.out (by simpa using Hyz.out) hf.out⟩
          case measure => simp [intOf]; omega
        · have hne := fun W => neq_CellP y z true (by simpa using hyz) W
          have Hyz := Lib.hid hyz
          clear hyz
          go_wp2_with fail
          go_quiet (fail)
          go_wp2_with fail
          go_ret
          exact ⟨by rw [eqBy_no _ l m k y z Hd.out He.out (by simpa using Hyz.out)]; rfl, hq.drewN _⟩
      · have hge : n ≤ k := by omega
        clear hlt
        go_wp2_with fail
        go_ret
        exact ⟨by rw [eqBy_yes _ l m Hl.out (fun i y z hi => hf.out i y z (by have := Hlen.out; omega))]; rfl, hq⟩
  · have hne : ((l.length : Int) != (m.length : Int)) = true := by rw [bne_iff_ne]; omega
    have Hl := Lib.hid hl
    clear hl hs ht hw
    go_enter Try.func33, Try.ntmps33
    go_wp2_with fail
    go_ret
    exact ⟨by rw [eqBy_len _ l m Hl.out]; rfl, Quiet.refl _⟩

end Go.Proofs.Ytdhljfblkidohaa
