/- The program's searches: slices.IndexFunc, ContainsFunc over the lists of a definition; Contains of texts and numbers. -/
import Derived.Test.YtdhljfblkidohaaGreatApi
import Derived.Test.YtdhljfblkidohaaGreatProg
import Derived.Test.YtdhljfblkidohaaGreatChecked
import Derived.WalkSmall
namespace Go.Proofs.YtdhljfblkidohaaGreat
set_option linter.unusedSimpArgs false
set_option linter.unusedVariables false
open Go.RowKit

set_option maxHeartbeats 400000 in
theorem idx_Rule {α : Type} {R : List Value → α → Prop} {l : List α} {v : Value} (g : FuncId) (cap : Array Value) (w w0 : World) (p : α → Bool)
   (hs : SlR w0 w0.heap.size 4 R v l) (hw : Below w0.heap.size w0 w)
   (hcall : ∀ args w, (callFunc g args).run Tryz.prog w = .ok (.enter g args) w)
   (hclos : ∀ x y W, R x y → Below w0.heap.size w0 W → Calls Tryz.prog g (#[(.agg x.toArray)] ++ cap) W fun e W' => e = .returned (.bool (p y)) ∧ Below W.heap.size W W') :
    Calls Tryz.prog 73 #[v, .func (.func g) #[] cap] w fun e w' => e = .returned (.int .i64 (firstAt p l)) ∧ Below w.heap.size w w' := by
  obtain ⟨a, c, rfl⟩ : ∃ a c, v = .slice a l.length c := by obtain ⟨a, c, h, _⟩ := hs.form; exact ⟨a, c, h⟩
  have hn : l.length ≤ 9223372036854775807 := by have := hs.caps; unfold maxLen at this; omega
  obtain ⟨n, hlen⟩ : ∃ n, l.length = n := ⟨_, rfl⟩
  rw [hlen] at hs hn ⊢
  have Hlen := Lib.hid hlen
  have H := Lib.hid hclos
  have Hs := Lib.hid hs
  have Hw := Lib.hid hw
  clear hclos hs hlen hw
  go_enter Tryz.func73, Tryz.ntmps73
  go_wp2_with fail
  go_loopw [4, 5, 8] (fun _ _ j wr => ∃ k : Nat, k ≤ n ∧ j = .int .i64 k ∧ Below w.heap.size w wr ∧ Hid (∀ i d, i < k → l[i]? = some d → p d = false)) (fun _ _ j _ => n - (intOf j).toNat)
  case atStart => exact ⟨0, Nat.zero_le _, rfl, Below.refl _ _, fun i d hi => by omega⟩
  case round =>
    obtain ⟨k, hk, rfl, hb, hf⟩ := hrel
    by_cases hlt : k < n
    · obtain ⟨y, hd⟩ : ∃ d, l[k]? = some d := ⟨_, List.getElem?_eq_getElem (by rw [Hlen.out]; exact hlt)⟩
      have hw1 := Hw.out.trans (hb.mono Hw.out.size)
      obtain ⟨b, off, x, rfl, hbB, hxl, hR, hx⟩ := (Hs.out.below hw1).at_ hd
      obtain ⟨e0, e1, e2, e3, rfl⟩ := len4 hxl
      have h0 := hx 0 _ rfl
      have h1 := hx 1 _ rfl
      have h2 := hx 2 _ rfl
      have h3 := hx 3 _ rfl
      simp only [Nat.add_zero] at h0
      have Hd := Lib.hid hd
      have HR := Lib.hid hR
      have Hw1 := Lib.hid hw1
      clear hd hx hxl hR hw1
      cases hp : p y
      · have Hp := Lib.hid hp
        clear hp
        go_wp2_with (with_reducible refine (H.out [e0, e1, e2, e3] y _ HR.out Hw1.out).mono ?_; rintro e w1 ⟨rfl, hb1⟩; rw [Hp.out])
        go_roundw
        case rel => exact ⟨k + 1, by omega, by go_num, hb.trans (hb1.mono hb.size), fun i d' hi hd' => by
          by_cases e : i = k
          · subst e; obtain rfl : y = d' := by have := Hd.out; rw [hd'] at this; exact (Option.some.inj this).symm
            exact Hp.out
          · exact hf.out i d' (by omega) hd'⟩
        case measure => simp [intOf]; omega
      · have Hp := Lib.hid hp
        clear hp
        go_wp2_with (with_reducible refine (H.out [e0, e1, e2, e3] y _ HR.out Hw1.out).mono ?_; rintro e w1 ⟨rfl, hb1⟩; rw [Hp.out])
        go_ret
        exact ⟨by rw [firstAt_here Hd.out Hp.out hf.out]; rfl, hb.trans (hb1.mono hb.size)⟩
    · have hge : n ≤ k := by omega
      clear hlt
      go_wp2_with fail
      go_ret
      exact ⟨by rw [firstAt_none (fun i d hi => hf.out i d (by have := Hlen.out; omega))]; rfl, hb⟩

theorem any_Rule {α : Type} {R : List Value → α → Prop} {l : List α} {v : Value} (g : FuncId) (cap : Array Value) (w w0 : World) (p : α → Bool)
   (hs : SlR w0 w0.heap.size 4 R v l) (hw : Below w0.heap.size w0 w)
   (hcall : ∀ args w, (callFunc g args).run Tryz.prog w = .ok (.enter g args) w)
   (hclos : ∀ x y W, R x y → Below w0.heap.size w0 W → Calls Tryz.prog g (#[(.agg x.toArray)] ++ cap) W fun e W' => e = .returned (.bool (p y)) ∧ Below W.heap.size W W') :
    Calls Tryz.prog 28 #[v, .func (.func g) #[] cap] w fun e w' => e = .returned (.bool (l.any p)) ∧ Below w.heap.size w w' := by
  have H := Lib.hid (idx_Rule g cap w w0 p hs hw hcall hclos)
  clear hclos hs hw hcall
  go_enter Tryz.func28, Tryz.ntmps28
  go_wp2_with (go_at_call 73; with_reducible refine H.out.mono ?_; rintro e w1 ⟨rfl, hb1⟩)
  go_ret
  exact ⟨by rw [← firstAt_any]; rfl, hb1⟩

set_option maxHeartbeats 400000 in
theorem idx_Editor {α : Type} {R : List Value → α → Prop} {l : List α} {v : Value} (g : FuncId) (cap : Array Value) (w w0 : World) (p : α → Bool)
   (hs : SlR w0 w0.heap.size 2 R v l) (hw : Below w0.heap.size w0 w)
   (hcall : ∀ args w, (callFunc g args).run Tryz.prog w = .ok (.enter g args) w)
   (hclos : ∀ x y W, R x y → Below w0.heap.size w0 W → Calls Tryz.prog g (#[(.agg x.toArray)] ++ cap) W fun e W' => e = .returned (.bool (p y)) ∧ Below W.heap.size W W') :
    Calls Tryz.prog 75 #[v, .func (.func g) #[] cap] w fun e w' => e = .returned (.int .i64 (firstAt p l)) ∧ Below w.heap.size w w' := by
  obtain ⟨a, c, rfl⟩ : ∃ a c, v = .slice a l.length c := by obtain ⟨a, c, h, _⟩ := hs.form; exact ⟨a, c, h⟩
  have hn : l.length ≤ 9223372036854775807 := by have := hs.caps; unfold maxLen at this; omega
  obtain ⟨n, hlen⟩ : ∃ n, l.length = n := ⟨_, rfl⟩
  rw [hlen] at hs hn ⊢
  have Hlen := Lib.hid hlen
  have H := Lib.hid hclos
  have Hs := Lib.hid hs
  have Hw := Lib.hid hw
  clear hclos hs hlen hw
  go_enter Tryz.func75, Tryz.ntmps75
  go_wp2_with fail
  go_loopw [4, 5, 8] (fun _ _ j wr => ∃ k : Nat, k ≤ n ∧ j = .int .i64 k ∧ Below w.heap.size w wr ∧ Hid (∀ i d, i < k → l[i]? = some d → p d = false)) (fun _ _ j _ => n - (intOf j).toNat)
  case atStart => exact ⟨0, Nat.zero_le _, rfl, Below.refl _ _, fun i d hi => by omega⟩
  case round =>
    obtain ⟨k, hk, rfl, hb, hf⟩ := hrel
    by_cases hlt : k < n
    · obtain ⟨y, hd⟩ : ∃ d, l[k]? = some d := ⟨_, List.getElem?_eq_getElem (by rw [Hlen.out]; exact hlt)⟩
      have hw1 := Hw.out.trans (hb.mono Hw.out.size)
      obtain ⟨b, off, x, rfl, hbB, hxl, hR, hx⟩ := (Hs.out.below hw1).at_ hd
      obtain ⟨e0, e1, rfl⟩ := len2 hxl
      have h0 := hx 0 _ rfl
      have h1 := hx 1 _ rfl
      simp only [Nat.add_zero] at h0
      have Hd := Lib.hid hd
      have HR := Lib.hid hR
      have Hw1 := Lib.hid hw1
      clear hd hx hxl hR hw1
      cases hp : p y
      · have Hp := Lib.hid hp
        clear hp
        go_wp2_with (with_reducible refine (H.out [e0, e1] y _ HR.out Hw1.out).mono ?_; rintro e w1 ⟨rfl, hb1⟩; rw [Hp.out])
        go_roundw
        case rel => exact ⟨k + 1, by omega, by go_num, hb.trans (hb1.mono hb.size), fun i d' hi hd' => by
          by_cases e : i = k
          · subst e; obtain rfl : y = d' := by have := Hd.out; rw [hd'] at this; exact (Option.some.inj this).symm
            exact Hp.out
          · exact hf.out i d' (by omega) hd'⟩
        case measure => simp [intOf]; omega
      · have Hp := Lib.hid hp
        clear hp
        go_wp2_with (with_reducible refine (H.out [e0, e1] y _ HR.out Hw1.out).mono ?_; rintro e w1 ⟨rfl, hb1⟩; rw [Hp.out])
        go_ret
        exact ⟨by rw [firstAt_here Hd.out Hp.out hf.out]; rfl, hb.trans (hb1.mono hb.size)⟩
    · have hge : n ≤ k := by omega
      clear hlt
      go_wp2_with fail
      go_ret
      exact ⟨by rw [firstAt_none (fun i d hi => hf.out i d (by have := Hlen.out; omega))]; rfl, hb⟩

theorem any_Editor {α : Type} {R : List Value → α → Prop} {l : List α} {v : Value} (g : FuncId) (cap : Array Value) (w w0 : World) (p : α → Bool)
   (hs : SlR w0 w0.heap.size 2 R v l) (hw : Below w0.heap.size w0 w)
   (hcall : ∀ args w, (callFunc g args).run Tryz.prog w = .ok (.enter g args) w)
   (hclos : ∀ x y W, R x y → Below w0.heap.size w0 W → Calls Tryz.prog g (#[(.agg x.toArray)] ++ cap) W fun e W' => e = .returned (.bool (p y)) ∧ Below W.heap.size W W') :
    Calls Tryz.prog 35 #[v, .func (.func g) #[] cap] w fun e w' => e = .returned (.bool (l.any p)) ∧ Below w.heap.size w w' := by
  have H := Lib.hid (idx_Editor g cap w w0 p hs hw hcall hclos)
  clear hclos hs hw hcall
  go_enter Tryz.func35, Tryz.ntmps35
  go_wp2_with (go_at_call 75; with_reducible refine H.out.mono ?_; rintro e w1 ⟨rfl, hb1⟩)
  go_ret
  exact ⟨by rw [← firstAt_any]; rfl, hb1⟩

set_option maxHeartbeats 400000 in
theorem idx_Template {α : Type} {R : List Value → α → Prop} {l : List α} {v : Value} (g : FuncId) (cap : Array Value) (w w0 : World) (p : α → Bool)
   (hs : SlR w0 w0.heap.size 2 R v l) (hw : Below w0.heap.size w0 w)
   (hcall : ∀ args w, (callFunc g args).run Tryz.prog w = .ok (.enter g args) w)
   (hclos : ∀ x y W, R x y → Below w0.heap.size w0 W → Calls Tryz.prog g (#[(.agg x.toArray)] ++ cap) W fun e W' => e = .returned (.bool (p y)) ∧ Below W.heap.size W W') :
    Calls Tryz.prog 76 #[v, .func (.func g) #[] cap] w fun e w' => e = .returned (.int .i64 (firstAt p l)) ∧ Below w.heap.size w w' := by
  obtain ⟨a, c, rfl⟩ : ∃ a c, v = .slice a l.length c := by obtain ⟨a, c, h, _⟩ := hs.form; exact ⟨a, c, h⟩
  have hn : l.length ≤ 9223372036854775807 := by have := hs.caps; unfold maxLen at this; omega
  obtain ⟨n, hlen⟩ : ∃ n, l.length = n := ⟨_, rfl⟩
  rw [hlen] at hs hn ⊢
  have Hlen := Lib.hid hlen
  have H := Lib.hid hclos
  have Hs := Lib.hid hs
  have Hw := Lib.hid hw
  clear hclos hs hlen hw
  go_enter Tryz.func76, Tryz.ntmps76
  go_wp2_with fail
  go_loopw [4, 5, 8] (fun _ _ j wr => ∃ k : Nat, k ≤ n ∧ j = .int .i64 k ∧ Below w.heap.size w wr ∧ Hid (∀ i d, i < k → l[i]? = some d → p d = false)) (fun _ _ j _ => n - (intOf j).toNat)
  case atStart => exact ⟨0, Nat.zero_le _, rfl, Below.refl _ _, fun i d hi => by omega⟩
  case round =>
    obtain ⟨k, hk, rfl, hb, hf⟩ := hrel
    by_cases hlt : k < n
    · obtain ⟨y, hd⟩ : ∃ d, l[k]? = some d := ⟨_, List.getElem?_eq_getElem (by rw [Hlen.out]; exact hlt)⟩
      have hw1 := Hw.out.trans (hb.mono Hw.out.size)
      obtain ⟨b, off, x, rfl, hbB, hxl, hR, hx⟩ := (Hs.out.below hw1).at_ hd
      obtain ⟨e0, e1, rfl⟩ := len2 hxl
      have h0 := hx 0 _ rfl
      have h1 := hx 1 _ rfl
      simp only [Nat.add_zero] at h0
      have Hd := Lib.hid hd
      have HR := Lib.hid hR
      have Hw1 := Lib.hid hw1
      clear hd hx hxl hR hw1
      cases hp : p y
      · have Hp := Lib.hid hp
        clear hp
        go_wp2_with (with_reducible refine (H.out [e0, e1] y _ HR.out Hw1.out).mono ?_; rintro e w1 ⟨rfl, hb1⟩; rw [Hp.out])
        go_roundw
        case rel => exact ⟨k + 1, by omega, by go_num, hb.trans (hb1.mono hb.size), fun i d' hi hd' => by
          by_cases e : i = k
          · subst e; obtain rfl : y = d' := by have := Hd.out; rw [hd'] at this; exact (Option.some.inj this).symm
            exact Hp.out
          · exact hf.out i d' (by omega) hd'⟩
        case measure => simp [intOf]; omega
      · have Hp := Lib.hid hp
        clear hp
        go_wp2_with (with_reducible refine (H.out [e0, e1] y _ HR.out Hw1.out).mono ?_; rintro e w1 ⟨rfl, hb1⟩; rw [Hp.out])
        go_ret
        exact ⟨by rw [firstAt_here Hd.out Hp.out hf.out]; rfl, hb.trans (hb1.mono hb.size)⟩
    · have hge : n ≤ k := by omega
      clear hlt
      go_wp2_with fail
      go_ret
      exact ⟨by rw [firstAt_none (fun i d hi => hf.out i d (by have := Hlen.out; omega))]; rfl, hb⟩

theorem any_Template {α : Type} {R : List Value → α → Prop} {l : List α} {v : Value} (g : FuncId) (cap : Array Value) (w w0 : World) (p : α → Bool)
   (hs : SlR w0 w0.heap.size 2 R v l) (hw : Below w0.heap.size w0 w)
   (hcall : ∀ args w, (callFunc g args).run Tryz.prog w = .ok (.enter g args) w)
   (hclos : ∀ x y W, R x y → Below w0.heap.size w0 W → Calls Tryz.prog g (#[(.agg x.toArray)] ++ cap) W fun e W' => e = .returned (.bool (p y)) ∧ Below W.heap.size W W') :
    Calls Tryz.prog 41 #[v, .func (.func g) #[] cap] w fun e w' => e = .returned (.bool (l.any p)) ∧ Below w.heap.size w w' := by
  have H := Lib.hid (idx_Template g cap w w0 p hs hw hcall hclos)
  clear hclos hs hw hcall
  go_enter Tryz.func41, Tryz.ntmps41
  go_wp2_with (go_at_call 76; with_reducible refine H.out.mono ?_; rintro e w1 ⟨rfl, hb1⟩)
  go_ret
  exact ⟨by rw [← firstAt_any]; rfl, hb1⟩

set_option maxHeartbeats 400000 in
theorem idx_Concept {α : Type} {R : List Value → α → Prop} {l : List α} {v : Value} (g : FuncId) (cap : Array Value) (w w0 : World) (p : α → Bool)
   (hs : SlR w0 w0.heap.size 6 R v l) (hw : Below w0.heap.size w0 w)
   (hcall : ∀ args w, (callFunc g args).run Tryz.prog w = .ok (.enter g args) w)
   (hclos : ∀ x y W, R x y → Below w0.heap.size w0 W → Calls Tryz.prog g (#[(.agg x.toArray)] ++ cap) W fun e W' => e = .returned (.bool (p y)) ∧ Below W.heap.size W W') :
    Calls Tryz.prog 83 #[v, .func (.func g) #[] cap] w fun e w' => e = .returned (.int .i64 (firstAt p l)) ∧ Below w.heap.size w w' := by
  obtain ⟨a, c, rfl⟩ : ∃ a c, v = .slice a l.length c := by obtain ⟨a, c, h, _⟩ := hs.form; exact ⟨a, c, h⟩
  have hn : l.length ≤ 9223372036854775807 := by have := hs.caps; unfold maxLen at this; omega
  obtain ⟨n, hlen⟩ : ∃ n, l.length = n := ⟨_, rfl⟩
  rw [hlen] at hs hn ⊢
  have Hlen := Lib.hid hlen
  have H := Lib.hid hclos
  have Hs := Lib.hid hs
  have Hw := Lib.hid hw
  clear hclos hs hlen hw
  go_enter Tryz.func83, Tryz.ntmps83
  go_wp2_with fail
  go_loopw [4, 5, 8] (fun _ _ j wr => ∃ k : Nat, k ≤ n ∧ j = .int .i64 k ∧ Below w.heap.size w wr ∧ Hid (∀ i d, i < k → l[i]? = some d → p d = false)) (fun _ _ j _ => n - (intOf j).toNat)
  case atStart => exact ⟨0, Nat.zero_le _, rfl, Below.refl _ _, fun i d hi => by omega⟩
  case round =>
    obtain ⟨k, hk, rfl, hb, hf⟩ := hrel
    by_cases hlt : k < n
    · obtain ⟨y, hd⟩ : ∃ d, l[k]? = some d := ⟨_, List.getElem?_eq_getElem (by rw [Hlen.out]; exact hlt)⟩
      have hw1 := Hw.out.trans (hb.mono Hw.out.size)
      obtain ⟨b, off, x, rfl, hbB, hxl, hR, hx⟩ := (Hs.out.below hw1).at_ hd
      obtain ⟨e0, e1, e2, e3, e4, e5, rfl⟩ := len6 hxl
      have h0 := hx 0 _ rfl
      have h1 := hx 1 _ rfl
      have h2 := hx 2 _ rfl
      have h3 := hx 3 _ rfl
      have h4 := hx 4 _ rfl
      have h5 := hx 5 _ rfl
      simp only [Nat.add_zero] at h0
      have Hd := Lib.hid hd
      have HR := Lib.hid hR
      have Hw1 := Lib.hid hw1
      clear hd hx hxl hR hw1
      cases hp : p y
      · have Hp := Lib.hid hp
        clear hp
        go_wp2_with (with_reducible refine (H.out [e0, e1, e2, e3, e4, e5] y _ HR.out Hw1.out).mono ?_; rintro e w1 ⟨rfl, hb1⟩; rw [Hp.out])
        go_roundw
        case rel => exact ⟨k + 1, by omega, by go_num, hb.trans (hb1.mono hb.size), fun i d' hi hd' => by
          by_cases e : i = k
          · subst e; obtain rfl : y = d' := by have := Hd.out; rw [hd'] at this; exact (Option.some.inj this).symm
            exact Hp.out
          · exact hf.out i d' (by omega) hd'⟩
        case measure => simp [intOf]; omega
      · have Hp := Lib.hid hp
        clear hp
        go_wp2_with (with_reducible refine (H.out [e0, e1, e2, e3, e4, e5] y _ HR.out Hw1.out).mono ?_; rintro e w1 ⟨rfl, hb1⟩; rw [Hp.out])
        go_ret
        exact ⟨by rw [firstAt_here Hd.out Hp.out hf.out]; rfl, hb.trans (hb1.mono hb.size)⟩
    · have hge : n ≤ k := by omega
      clear hlt
      go_wp2_with fail
      go_ret
      exact ⟨by rw [firstAt_none (fun i d hi => hf.out i d (by have := Hlen.out; omega))]; rfl, hb⟩

theorem any_Concept {α : Type} {R : List Value → α → Prop} {l : List α} {v : Value} (g : FuncId) (cap : Array Value) (w w0 : World) (p : α → Bool)
   (hs : SlR w0 w0.heap.size 6 R v l) (hw : Below w0.heap.size w0 w)
   (hcall : ∀ args w, (callFunc g args).run Tryz.prog w = .ok (.enter g args) w)
   (hclos : ∀ x y W, R x y → Below w0.heap.size w0 W → Calls Tryz.prog g (#[(.agg x.toArray)] ++ cap) W fun e W' => e = .returned (.bool (p y)) ∧ Below W.heap.size W W') :
    Calls Tryz.prog 65 #[v, .func (.func g) #[] cap] w fun e w' => e = .returned (.bool (l.any p)) ∧ Below w.heap.size w w' := by
  have H := Lib.hid (idx_Concept g cap w w0 p hs hw hcall hclos)
  clear hclos hs hw hcall
  go_enter Tryz.func65, Tryz.ntmps65
  go_wp2_with (go_at_call 83; with_reducible refine H.out.mono ?_; rintro e w1 ⟨rfl, hb1⟩)
  go_ret
  exact ⟨by rw [← firstAt_any]; rfl, hb1⟩

set_option maxHeartbeats 400000 in
theorem idx_PropDef {α : Type} {R : List Value → α → Prop} {l : List α} {v : Value} (g : FuncId) (cap : Array Value) (w w0 : World) (p : α → Bool)
   (hs : SlR w0 w0.heap.size 2 R v l) (hw : Below w0.heap.size w0 w)
   (hcall : ∀ args w, (callFunc g args).run Tryz.prog w = .ok (.enter g args) w)
   (hclos : ∀ x y W, R x y → Below w0.heap.size w0 W → Calls Tryz.prog g (#[(.agg x.toArray)] ++ cap) W fun e W' => e = .returned (.bool (p y)) ∧ Below W.heap.size W W') :
    Calls Tryz.prog 84 #[v, .func (.func g) #[] cap] w fun e w' => e = .returned (.int .i64 (firstAt p l)) ∧ Below w.heap.size w w' := by
  obtain ⟨a, c, rfl⟩ : ∃ a c, v = .slice a l.length c := by obtain ⟨a, c, h, _⟩ := hs.form; exact ⟨a, c, h⟩
  have hn : l.length ≤ 9223372036854775807 := by have := hs.caps; unfold maxLen at this; omega
  obtain ⟨n, hlen⟩ : ∃ n, l.length = n := ⟨_, rfl⟩
  rw [hlen] at hs hn ⊢
  have Hlen := Lib.hid hlen
  have H := Lib.hid hclos
  have Hs := Lib.hid hs
  have Hw := Lib.hid hw
  clear hclos hs hlen hw
  go_enter Tryz.func84, Tryz.ntmps84
  go_wp2_with fail
  go_loopw [4, 5, 8] (fun _ _ j wr => ∃ k : Nat, k ≤ n ∧ j = .int .i64 k ∧ Below w.heap.size w wr ∧ Hid (∀ i d, i < k → l[i]? = some d → p d = false)) (fun _ _ j _ => n - (intOf j).toNat)
  case atStart => exact ⟨0, Nat.zero_le _, rfl, Below.refl _ _, fun i d hi => by omega⟩
  case round =>
    obtain ⟨k, hk, rfl, hb, hf⟩ := hrel
    by_cases hlt : k < n
    · obtain ⟨y, hd⟩ : ∃ d, l[k]? = some d := ⟨_, List.getElem?_eq_getElem (by rw [Hlen.out]; exact hlt)⟩
      have hw1 := Hw.out.trans (hb.mono Hw.out.size)
      obtain ⟨b, off, x, rfl, hbB, hxl, hR, hx⟩ := (Hs.out.below hw1).at_ hd
      obtain ⟨e0, e1, rfl⟩ := len2 hxl
      have h0 := hx 0 _ rfl
      have h1 := hx 1 _ rfl
      simp only [Nat.add_zero] at h0
      have Hd := Lib.hid hd
      have HR := Lib.hid hR
      have Hw1 := Lib.hid hw1
      clear hd hx hxl hR hw1
      cases hp : p y
      · have Hp := Lib.hid hp
        clear hp
        go_wp2_with (with_reducible refine (H.out [e0, e1] y _ HR.out Hw1.out).mono ?_; rintro e w1 ⟨rfl, hb1⟩; rw [Hp.out])
        go_roundw
        case rel => exact ⟨k + 1, by omega, by go_num, hb.trans (hb1.mono hb.size), fun i d' hi hd' => by
          by_cases e : i = k
          · subst e; obtain rfl : y = d' := by have := Hd.out; rw [hd'] at this; exact (Option.some.inj this).symm
            exact Hp.out
          · exact hf.out i d' (by omega) hd'⟩
        case measure => simp [intOf]; omega
      · have Hp := Lib.hid hp
        clear hp
        go_wp2_with (with_reducible refine (H.out [e0, e1] y _ HR.out Hw1.out).mono ?_; rintro e w1 ⟨rfl, hb1⟩; rw [Hp.out])
        go_ret
        exact ⟨by rw [firstAt_here Hd.out Hp.out hf.out]; rfl, hb.trans (hb1.mono hb.size)⟩
    · have hge : n ≤ k := by omega
      clear hlt
      go_wp2_with fail
      go_ret
      exact ⟨by rw [firstAt_none (fun i d hi => hf.out i d (by have := Hlen.out; omega))]; rfl, hb⟩

theorem any_PropDef {α : Type} {R : List Value → α → Prop} {l : List α} {v : Value} (g : FuncId) (cap : Array Value) (w w0 : World) (p : α → Bool)
   (hs : SlR w0 w0.heap.size 2 R v l) (hw : Below w0.heap.size w0 w)
   (hcall : ∀ args w, (callFunc g args).run Tryz.prog w = .ok (.enter g args) w)
   (hclos : ∀ x y W, R x y → Below w0.heap.size w0 W → Calls Tryz.prog g (#[(.agg x.toArray)] ++ cap) W fun e W' => e = .returned (.bool (p y)) ∧ Below W.heap.size W W') :
    Calls Tryz.prog 67 #[v, .func (.func g) #[] cap] w fun e w' => e = .returned (.bool (l.any p)) ∧ Below w.heap.size w w' := by
  have H := Lib.hid (idx_PropDef g cap w w0 p hs hw hcall hclos)
  clear hclos hs hw hcall
  go_enter Tryz.func67, Tryz.ntmps67
  go_wp2_with (go_at_call 84; with_reducible refine H.out.mono ?_; rintro e w1 ⟨rfl, hb1⟩)
  go_ret
  exact ⟨by rw [← firstAt_any]; rfl, hb1⟩

set_option maxHeartbeats 400000 in
theorem idx_KidDef {α : Type} {R : List Value → α → Prop} {l : List α} {v : Value} (g : FuncId) (cap : Array Value) (w w0 : World) (p : α → Bool)
   (hs : SlR w0 w0.heap.size 4 R v l) (hw : Below w0.heap.size w0 w)
   (hcall : ∀ args w, (callFunc g args).run Tryz.prog w = .ok (.enter g args) w)
   (hclos : ∀ x y W, R x y → Below w0.heap.size w0 W → Calls Tryz.prog g (#[(.agg x.toArray)] ++ cap) W fun e W' => e = .returned (.bool (p y)) ∧ Below W.heap.size W W') :
    Calls Tryz.prog 85 #[v, .func (.func g) #[] cap] w fun e w' => e = .returned (.int .i64 (firstAt p l)) ∧ Below w.heap.size w w' := by
  obtain ⟨a, c, rfl⟩ : ∃ a c, v = .slice a l.length c := by obtain ⟨a, c, h, _⟩ := hs.form; exact ⟨a, c, h⟩
  have hn : l.length ≤ 9223372036854775807 := by have := hs.caps; unfold maxLen at this; omega
  obtain ⟨n, hlen⟩ : ∃ n, l.length = n := ⟨_, rfl⟩
  rw [hlen] at hs hn ⊢
  have Hlen := Lib.hid hlen
  have H := Lib.hid hclos
  have Hs := Lib.hid hs
  have Hw := Lib.hid hw
  clear hclos hs hlen hw
  go_enter Tryz.func85, Tryz.ntmps85
  go_wp2_with fail
  go_loopw [4, 5, 8] (fun _ _ j wr => ∃ k : Nat, k ≤ n ∧ j = .int .i64 k ∧ Below w.heap.size w wr ∧ Hid (∀ i d, i < k → l[i]? = some d → p d = false)) (fun _ _ j _ => n - (intOf j).toNat)
  case atStart => exact ⟨0, Nat.zero_le _, rfl, Below.refl _ _, fun i d hi => by omega⟩
  case round =>
    obtain ⟨k, hk, rfl, hb, hf⟩ := hrel
    by_cases hlt : k < n
    · obtain ⟨y, hd⟩ : ∃ d, l[k]? = some d := ⟨_, List.getElem?_eq_getElem (by rw [Hlen.out]; exact hlt)⟩
      have hw1 := Hw.out.trans (hb.mono Hw.out.size)
      obtain ⟨b, off, x, rfl, hbB, hxl, hR, hx⟩ := (Hs.out.below hw1).at_ hd
      obtain ⟨e0, e1, e2, e3, rfl⟩ := len4 hxl
      have h0 := hx 0 _ rfl
      have h1 := hx 1 _ rfl
      have h2 := hx 2 _ rfl
      have h3 := hx 3 _ rfl
      simp only [Nat.add_zero] at h0
      have Hd := Lib.hid hd
      have HR := Lib.hid hR
      have Hw1 := Lib.hid hw1
      clear hd hx hxl hR hw1
      cases hp : p y
      · have Hp := Lib.hid hp
        clear hp
        go_wp2_with (with_reducible refine (H.out [e0, e1, e2, e3] y _ HR.out Hw1.out).mono ?_; rintro e w1 ⟨rfl, hb1⟩; rw [Hp.out])
        go_roundw
        case rel => exact ⟨k + 1, by omega, by go_num, hb.trans (hb1.mono hb.size), fun i d' hi hd' => by
          by_cases e : i = k
          · subst e; obtain rfl : y = d' := by have := Hd.out; rw [hd'] at this; exact (Option.some.inj this).symm
            exact Hp.out
          · exact hf.out i d' (by omega) hd'⟩
        case measure => simp [intOf]; omega
      · have Hp := Lib.hid hp
        clear hp
        go_wp2_with (with_reducible refine (H.out [e0, e1, e2, e3] y _ HR.out Hw1.out).mono ?_; rintro e w1 ⟨rfl, hb1⟩; rw [Hp.out])
        go_ret
        exact ⟨by rw [firstAt_here Hd.out Hp.out hf.out]; rfl, hb.trans (hb1.mono hb.size)⟩
    · have hge : n ≤ k := by omega
      clear hlt
      go_wp2_with fail
      go_ret
      exact ⟨by rw [firstAt_none (fun i d hi => hf.out i d (by have := Hlen.out; omega))]; rfl, hb⟩

theorem any_KidDef {α : Type} {R : List Value → α → Prop} {l : List α} {v : Value} (g : FuncId) (cap : Array Value) (w w0 : World) (p : α → Bool)
   (hs : SlR w0 w0.heap.size 4 R v l) (hw : Below w0.heap.size w0 w)
   (hcall : ∀ args w, (callFunc g args).run Tryz.prog w = .ok (.enter g args) w)
   (hclos : ∀ x y W, R x y → Below w0.heap.size w0 W → Calls Tryz.prog g (#[(.agg x.toArray)] ++ cap) W fun e W' => e = .returned (.bool (p y)) ∧ Below W.heap.size W W') :
    Calls Tryz.prog 69 #[v, .func (.func g) #[] cap] w fun e w' => e = .returned (.bool (l.any p)) ∧ Below w.heap.size w w' := by
  have H := Lib.hid (idx_KidDef g cap w w0 p hs hw hcall hclos)
  clear hclos hs hw hcall
  go_enter Tryz.func69, Tryz.ntmps69
  go_wp2_with (go_at_call 85; with_reducible refine H.out.mono ?_; rintro e w1 ⟨rfl, hb1⟩)
  go_ret
  exact ⟨by rw [← firstAt_any]; rfl, hb1⟩

set_option maxHeartbeats 400000 in
theorem idx_RefDef {α : Type} {R : List Value → α → Prop} {l : List α} {v : Value} (g : FuncId) (cap : Array Value) (w w0 : World) (p : α → Bool)
   (hs : SlR w0 w0.heap.size 3 R v l) (hw : Below w0.heap.size w0 w)
   (hcall : ∀ args w, (callFunc g args).run Tryz.prog w = .ok (.enter g args) w)
   (hclos : ∀ x y W, R x y → Below w0.heap.size w0 W → Calls Tryz.prog g (#[(.agg x.toArray)] ++ cap) W fun e W' => e = .returned (.bool (p y)) ∧ Below W.heap.size W W') :
    Calls Tryz.prog 86 #[v, .func (.func g) #[] cap] w fun e w' => e = .returned (.int .i64 (firstAt p l)) ∧ Below w.heap.size w w' := by
  obtain ⟨a, c, rfl⟩ : ∃ a c, v = .slice a l.length c := by obtain ⟨a, c, h, _⟩ := hs.form; exact ⟨a, c, h⟩
  have hn : l.length ≤ 9223372036854775807 := by have := hs.caps; unfold maxLen at this; omega
  obtain ⟨n, hlen⟩ : ∃ n, l.length = n := ⟨_, rfl⟩
  rw [hlen] at hs hn ⊢
  have Hlen := Lib.hid hlen
  have H := Lib.hid hclos
  have Hs := Lib.hid hs
  have Hw := Lib.hid hw
  clear hclos hs hlen hw
  go_enter Tryz.func86, Tryz.ntmps86
  go_wp2_with fail
  go_loopw [4, 5, 8] (fun _ _ j wr => ∃ k : Nat, k ≤ n ∧ j = .int .i64 k ∧ Below w.heap.size w wr ∧ Hid (∀ i d, i < k → l[i]? = some d → p d = false)) (fun _ _ j _ => n - (intOf j).toNat)
  case atStart => exact ⟨0, Nat.zero_le _, rfl, Below.refl _ _, fun i d hi => by omega⟩
  case round =>
    obtain ⟨k, hk, rfl, hb, hf⟩ := hrel
    by_cases hlt : k < n
    · obtain ⟨y, hd⟩ : ∃ d, l[k]? = some d := ⟨_, List.getElem?_eq_getElem (by rw [Hlen.out]; exact hlt)⟩
      have hw1 := Hw.out.trans (hb.mono Hw.out.size)
      obtain ⟨b, off, x, rfl, hbB, hxl, hR, hx⟩ := (Hs.out.below hw1).at_ hd
      obtain ⟨e0, e1, e2, rfl⟩ := len3 hxl
      have h0 := hx 0 _ rfl
      have h1 := hx 1 _ rfl
      have h2 := hx 2 _ rfl
      simp only [Nat.add_zero] at h0
      have Hd := Lib.hid hd
      have HR := Lib.hid hR
      have Hw1 := Lib.hid hw1
      clear hd hx hxl hR hw1
      cases hp : p y
      · have Hp := Lib.hid hp
        clear hp
        go_wp2_with (with_reducible refine (H.out [e0, e1, e2] y _ HR.out Hw1.out).mono ?_; rintro e w1 ⟨rfl, hb1⟩; rw [Hp.out])
        go_roundw
        case rel => exact ⟨k + 1, by omega, by go_num, hb.trans (hb1.mono hb.size), fun i d' hi hd' => by
          by_cases e : i = k
          · subst e; obtain rfl : y = d' := by have := Hd.out; rw [hd'] at this; exact (Option.some.inj this).symm
            exact Hp.out
          · exact hf.out i d' (by omega) hd'⟩
        case measure => simp [intOf]; omega
      · have Hp := Lib.hid hp
        clear hp
        go_wp2_with (with_reducible refine (H.out [e0, e1, e2] y _ HR.out Hw1.out).mono ?_; rintro e w1 ⟨rfl, hb1⟩; rw [Hp.out])
        go_ret
        exact ⟨by rw [firstAt_here Hd.out Hp.out hf.out]; rfl, hb.trans (hb1.mono hb.size)⟩
    · have hge : n ≤ k := by omega
      clear hlt
      go_wp2_with fail
      go_ret
      exact ⟨by rw [firstAt_none (fun i d hi => hf.out i d (by have := Hlen.out; omega))]; rfl, hb⟩

theorem any_RefDef {α : Type} {R : List Value → α → Prop} {l : List α} {v : Value} (g : FuncId) (cap : Array Value) (w w0 : World) (p : α → Bool)
   (hs : SlR w0 w0.heap.size 3 R v l) (hw : Below w0.heap.size w0 w)
   (hcall : ∀ args w, (callFunc g args).run Tryz.prog w = .ok (.enter g args) w)
   (hclos : ∀ x y W, R x y → Below w0.heap.size w0 W → Calls Tryz.prog g (#[(.agg x.toArray)] ++ cap) W fun e W' => e = .returned (.bool (p y)) ∧ Below W.heap.size W W') :
    Calls Tryz.prog 71 #[v, .func (.func g) #[] cap] w fun e w' => e = .returned (.bool (l.any p)) ∧ Below w.heap.size w w' := by
  have H := Lib.hid (idx_RefDef g cap w w0 p hs hw hcall hclos)
  clear hclos hs hw hcall
  go_enter Tryz.func71, Tryz.ntmps71
  go_wp2_with (go_at_call 86; with_reducible refine H.out.mono ?_; rintro e w1 ⟨rfl, hb1⟩)
  go_ret
  exact ⟨by rw [← firstAt_any]; rfl, hb1⟩

end Go.Proofs.YtdhljfblkidohaaGreat
