import Derived.Test.YtdhljfblkidohaaGreatEqA
import Derived.Test.YtdhljfblkidohaaGreatProg
import Derived.Deep.QuietTactic
import Derived.BigQuiet
namespace Go.Proofs.YtdhljfblkidohaaGreat
set_option linter.unusedSimpArgs false
set_option linter.unusedVariables false
open Go.RowKit

set_option maxHeartbeats 1000000 in
theorem equalFunc_Side {α β : Type} {R : List Value → α → Prop} {R' : List Value → β → Prop} {l : List α} {m : List β} {v v' : Value} (g : FuncId) (cap : Array Value) (w w0 : World) (p : α → β → Bool)
   (hs : SlR w0 w0.heap.size 4 R v l) (ht : SlR w0 w0.heap.size 4 R' v' m) (hw : Below w0.heap.size w0 w)
   (hshape : ∀ x y, R x y → ∃ e0 e1 e2 e3 en3 ec3, x = [.int .i64 e0, .string e1, .int .i64 e2, .slice e3 en3 ec3]) (hshape' : ∀ x y, R' x y → ∃ f0 f1 f2 f3 fn3 fc3, x = [.int .i64 f0, .string f1, .int .i64 f2, .slice f3 fn3 fc3])
   (hcall : ∀ args w, (callFunc g args).run Tryz.prog w = .ok (.enter g args) w)
   (hclos : ∀ x x' y y' W, R x y → R' x' y' → Below w0.heap.size w0 W → Calls Tryz.prog g (#[(.agg x.toArray), (.agg x'.toArray)] ++ cap) W fun e W' => e = .returned (.bool (p y y')) ∧ Below W.heap.size W W') :
    Calls Tryz.prog 53 #[v, v', .func (.func g) #[] cap] w fun e w' => e = .returned (.bool (eqBy p l m)) ∧ Below w.heap.size w w' := by
  obtain ⟨a, c, rfl⟩ : ∃ a c, v = .slice a l.length c := by obtain ⟨a, c, h, _⟩ := hs.form; exact ⟨a, c, h⟩
  obtain ⟨a', c', rfl⟩ : ∃ a c, v' = .slice a m.length c := by obtain ⟨a, c, h, _⟩ := ht.form; exact ⟨a, c, h⟩
  have hn : l.length ≤ 9223372036854775807 := by have := hs.caps; unfold maxLen at this; omega
  by_cases hl : l.length = m.length
  · obtain ⟨n, hlen⟩ : ∃ n, l.length = n := ⟨_, rfl⟩
    rw [← hl] at ht ⊢
    rw [hlen] at hs ht hn ⊢
    have Hlen := Lib.hid hlen
    have Hl := Lib.hid hl
    have Hs := Lib.hid hs
    have Ht := Lib.hid ht
    have Hw := Lib.hid hw
    have H := Lib.hid hclos
    have Hsh := Lib.hid hshape
    have Hsh' := Lib.hid hshape'
    clear hs ht hlen hw hl hclos hshape hshape'
    go_enter Tryz.func53, Tryz.ntmps53
    go_wp2_with fail
    go_loopw [6, 7, 8, 9, 17] (fun _ _ _ _ j wr => ∃ k : Nat, k ≤ n ∧ j = .int .i64 k ∧ Below w.heap.size w wr ∧ Hid (∀ i y z, i < k → l[i]? = some y → m[i]? = some z → p y z = true)) (fun _ _ _ _ j _ => n - (intOf j).toNat)
    case atStart => exact ⟨0, Nat.zero_le _, rfl, Below.refl _ _, fun i d _ hi => by omega⟩
    case round =>
      obtain ⟨k, hk, rfl, hb, hf⟩ := hrel
      by_cases hlt : k < n
      · obtain ⟨y, hd⟩ := get_some Hlen.out hlt
        obtain ⟨z, he⟩ := get_some (Hl.out.symm.trans Hlen.out) hlt
        have hw1 := Hw.out.trans (hb.mono Hw.out.size)
        obtain ⟨b, off, x, rfl, hbB, hxl, hR, hx⟩ := (Hs.out.below hw1).at_ hd
        obtain ⟨b', off', x', rfl, hbB', hxl', hR', hx'⟩ := (Ht.out.below hw1).at_ he
        have hz1 := hw1.size
        have hbw : b < wr.heap.size := by omega
        have hbw' : b' < wr.heap.size := by omega
        obtain ⟨e0, e1, e2, e3, en3, ec3, rfl⟩ := Hsh.out x y hR
        obtain ⟨f0, f1, f2, f3, fn3, fc3, rfl⟩ := Hsh'.out x' z hR'
        have h0 := hx 0 _ rfl
        have h1 := hx 1 _ rfl
        have h2 := hx 2 _ rfl
        have h3 := hx 3 _ rfl
        have g0 := hx' 0 _ rfl
        have g1 := hx' 1 _ rfl
        have g2 := hx' 2 _ rfl
        have g3 := hx' 3 _ rfl
        simp only [Nat.add_zero] at h0 g0
        have Hd := Lib.hid hd
        have He := Lib.hid he
        have HR := Lib.hid hR
        have HR' := Lib.hid hR'
        have Hw1 := Lib.hid hw1
        clear hd he hx hxl hx' hxl' hw1 hR hR' hz1
        cases hp : p y z
        · have Hp := Lib.hid hp
          clear hp
          go_wp2_with (with_reducible refine (H.out [.int .i64 e0, .string e1, .int .i64 e2, .slice e3 en3 ec3] [.int .i64 f0, .string f1, .int .i64 f2, .slice f3 fn3 fc3] y z _ HR.out HR'.out ((Hw1.out.alloc Hw1.out.size _).alloc (below2 Hw1.out.size) _)).mono ?_; rintro e w1 ⟨rfl, hb1⟩; rw [Hp.out])
          go_ret
          exact ⟨by rw [eqBy_no _ l m k y z Hd.out He.out Hp.out]; rfl, ((hb.alloc hb.size _).alloc (below2 hb.size) _).trans (hb1.mono (below3 hb.size))⟩
        · have Hp := Lib.hid hp
          clear hp
          go_wp2_with (with_reducible refine (H.out [.int .i64 e0, .string e1, .int .i64 e2, .slice e3 en3 ec3] [.int .i64 f0, .string f1, .int .i64 f2, .slice f3 fn3 fc3] y z _ HR.out HR'.out ((Hw1.out.alloc Hw1.out.size _).alloc (below2 Hw1.out.size) _)).mono ?_; rintro e w1 ⟨rfl, hb1⟩; rw [Hp.out])
          go_roundw
          case rel => exact ⟨k + 1, by omega, by go_num, ((hb.alloc hb.size _).alloc (below2 hb.size) _).trans (hb1.mono (below3 hb.size)), so_far Hd.out He.out Hp.out hf.out⟩
          case measure => simp [intOf]; omega
      · have hge : n ≤ k := by omega
        clear hlt
        go_wp2_with fail
        go_ret
        exact ⟨by rw [eqBy_yes _ l m Hl.out (fun i y z hi => hf.out i y z (by have := Hlen.out; omega))]; rfl, hb⟩
  · have hne : ((l.length : Int) != (m.length : Int)) = true := by rw [bne_iff_ne]; omega
    have Hl := Lib.hid hl
    clear hl hs ht hw hclos hshape hshape'
    go_enter Tryz.func53, Tryz.ntmps53
    go_wp2_with fail
    go_ret
    exact ⟨by rw [eqBy_len _ l m Hl.out]; rfl, Below.refl _ _⟩

set_option maxHeartbeats 1000000 in
theorem equalFunc_Concept {α β : Type} {R : List Value → α → Prop} {R' : List Value → β → Prop} {l : List α} {m : List β} {v v' : Value} (g : FuncId) (cap : Array Value) (w w0 : World) (p : α → β → Bool)
   (hs : SlR w0 w0.heap.size 6 R v l) (ht : SlR w0 w0.heap.size 6 R' v' m) (hw : Below w0.heap.size w0 w)
   (hshape : ∀ x y, R x y → ∃ e0 e1 e2 e3 en3 ec3 e4 en4 ec4 e5 en5 ec5, x = [.string e0, .string e1, .bool e2, .slice e3 en3 ec3, .slice e4 en4 ec4, .slice e5 en5 ec5]) (hshape' : ∀ x y, R' x y → ∃ f0 f1 f2 f3 fn3 fc3 f4 fn4 fc4 f5 fn5 fc5, x = [.string f0, .string f1, .bool f2, .slice f3 fn3 fc3, .slice f4 fn4 fc4, .slice f5 fn5 fc5])
   (hcall : ∀ args w, (callFunc g args).run Tryz.prog w = .ok (.enter g args) w)
   (hclos : ∀ x x' y y' W, R x y → R' x' y' → Below w0.heap.size w0 W → Calls Tryz.prog g (#[(.agg x.toArray), (.agg x'.toArray)] ++ cap) W fun e W' => e = .returned (.bool (p y y')) ∧ Below W.heap.size W W') :
    Calls Tryz.prog 48 #[v, v', .func (.func g) #[] cap] w fun e w' => e = .returned (.bool (eqBy p l m)) ∧ Below w.heap.size w w' := by
  obtain ⟨a, c, rfl⟩ : ∃ a c, v = .slice a l.length c := by obtain ⟨a, c, h, _⟩ := hs.form; exact ⟨a, c, h⟩
  obtain ⟨a', c', rfl⟩ : ∃ a c, v' = .slice a m.length c := by obtain ⟨a, c, h, _⟩ := ht.form; exact ⟨a, c, h⟩
  have hn : l.length ≤ 9223372036854775807 := by have := hs.caps; unfold maxLen at this; omega
  by_cases hl : l.length = m.length
  · obtain ⟨n, hlen⟩ : ∃ n, l.length = n := ⟨_, rfl⟩
    rw [← hl] at ht ⊢
    rw [hlen] at hs ht hn ⊢
    have Hlen := Lib.hid hlen
    have Hl := Lib.hid hl
    have Hs := Lib.hid hs
    have Ht := Lib.hid ht
    have Hw := Lib.hid hw
    have H := Lib.hid hclos
    have Hsh := Lib.hid hshape
    have Hsh' := Lib.hid hshape'
    clear hs ht hlen hw hl hclos hshape hshape'
    go_enter Tryz.func48, Tryz.ntmps48
    go_wp2_with fail
    go_loopw [6, 7, 8, 9, 17] (fun _ _ _ _ j wr => ∃ k : Nat, k ≤ n ∧ j = .int .i64 k ∧ Below w.heap.size w wr ∧ Hid (∀ i y z, i < k → l[i]? = some y → m[i]? = some z → p y z = true)) (fun _ _ _ _ j _ => n - (intOf j).toNat)
    case atStart => exact ⟨0, Nat.zero_le _, rfl, Below.refl _ _, fun i d _ hi => by omega⟩
    case round =>
      obtain ⟨k, hk, rfl, hb, hf⟩ := hrel
      by_cases hlt : k < n
      · obtain ⟨y, hd⟩ := get_some Hlen.out hlt
        obtain ⟨z, he⟩ := get_some (Hl.out.symm.trans Hlen.out) hlt
        have hw1 := Hw.out.trans (hb.mono Hw.out.size)
        obtain ⟨b, off, x, rfl, hbB, hxl, hR, hx⟩ := (Hs.out.below hw1).at_ hd
        obtain ⟨b', off', x', rfl, hbB', hxl', hR', hx'⟩ := (Ht.out.below hw1).at_ he
        have hz1 := hw1.size
        have hbw : b < wr.heap.size := by omega
        have hbw' : b' < wr.heap.size := by omega
        obtain ⟨e0, e1, e2, e3, en3, ec3, e4, en4, ec4, e5, en5, ec5, rfl⟩ := Hsh.out x y hR
        obtain ⟨f0, f1, f2, f3, fn3, fc3, f4, fn4, fc4, f5, fn5, fc5, rfl⟩ := Hsh'.out x' z hR'
        have h0 := hx 0 _ rfl
        have h1 := hx 1 _ rfl
        have h2 := hx 2 _ rfl
        have h3 := hx 3 _ rfl
        have h4 := hx 4 _ rfl
        have h5 := hx 5 _ rfl
        have g0 := hx' 0 _ rfl
        have g1 := hx' 1 _ rfl
        have g2 := hx' 2 _ rfl
        have g3 := hx' 3 _ rfl
        have g4 := hx' 4 _ rfl
        have g5 := hx' 5 _ rfl
        simp only [Nat.add_zero] at h0 g0
        have Hd := Lib.hid hd
        have He := Lib.hid he
        have HR := Lib.hid hR
        have HR' := Lib.hid hR'
        have Hw1 := Lib.hid hw1
        clear hd he hx hxl hx' hxl' hw1 hR hR' hz1
        cases hp : p y z
        · have Hp := Lib.hid hp
          clear hp
          go_wp2_with (with_reducible refine (H.out [.string e0, .string e1, .bool e2, .slice e3 en3 ec3, .slice e4 en4 ec4, .slice e5 en5 ec5] [.string f0, .string f1, .bool f2, .slice f3 fn3 fc3, .slice f4 fn4 fc4, .slice f5 fn5 fc5] y z _ HR.out HR'.out ((Hw1.out.alloc Hw1.out.size _).alloc (below2 Hw1.out.size) _)).mono ?_; rintro e w1 ⟨rfl, hb1⟩; rw [Hp.out])
          go_ret
          exact ⟨by rw [eqBy_no _ l m k y z Hd.out He.out Hp.out]; rfl, ((hb.alloc hb.size _).alloc (below2 hb.size) _).trans (hb1.mono (below3 hb.size))⟩
        · have Hp := Lib.hid hp
          clear hp
          go_wp2_with (with_reducible refine (H.out [.string e0, .string e1, .bool e2, .slice e3 en3 ec3, .slice e4 en4 ec4, .slice e5 en5 ec5] [.string f0, .string f1, .bool f2, .slice f3 fn3 fc3, .slice f4 fn4 fc4, .slice f5 fn5 fc5] y z _ HR.out HR'.out ((Hw1.out.alloc Hw1.out.size _).alloc (below2 Hw1.out.size) _)).mono ?_; rintro e w1 ⟨rfl, hb1⟩; rw [Hp.out])
          go_roundw
          case rel => exact ⟨k + 1, by omega, by go_num, ((hb.alloc hb.size _).alloc (below2 hb.size) _).trans (hb1.mono (below3 hb.size)), so_far Hd.out He.out Hp.out hf.out⟩
          case measure => simp [intOf]; omega
      · have hge : n ≤ k := by omega
        clear hlt
        go_wp2_with fail
        go_ret
        exact ⟨by rw [eqBy_yes _ l m Hl.out (fun i y z hi => hf.out i y z (by have := Hlen.out; omega))]; rfl, hb⟩
  · have hne : ((l.length : Int) != (m.length : Int)) = true := by rw [bne_iff_ne]; omega
    have Hl := Lib.hid hl
    clear hl hs ht hw hclos hshape hshape'
    go_enter Tryz.func48, Tryz.ntmps48
    go_wp2_with fail
    go_ret
    exact ⟨by rw [eqBy_len _ l m Hl.out]; rfl, Below.refl _ _⟩

set_option maxHeartbeats 1000000 in
theorem equalFunc_Equation {α β : Type} {R : List Value → α → Prop} {R' : List Value → β → Prop} {l : List α} {m : List β} {v v' : Value} (g : FuncId) (cap : Array Value) (w w0 : World) (p : α → β → Bool)
   (hs : SlR w0 w0.heap.size 3 R v l) (ht : SlR w0 w0.heap.size 3 R' v' m) (hw : Below w0.heap.size w0 w)
   (hshape : ∀ x y, R x y → ∃ e0 e1 en1 ec1 e2 en2 ec2, x = [.string e0, .slice e1 en1 ec1, .slice e2 en2 ec2]) (hshape' : ∀ x y, R' x y → ∃ f0 f1 fn1 fc1 f2 fn2 fc2, x = [.string f0, .slice f1 fn1 fc1, .slice f2 fn2 fc2])
   (hcall : ∀ args w, (callFunc g args).run Tryz.prog w = .ok (.enter g args) w)
   (hclos : ∀ x x' y y' W, R x y → R' x' y' → Below w0.heap.size w0 W → Calls Tryz.prog g (#[(.agg x.toArray), (.agg x'.toArray)] ++ cap) W fun e W' => e = .returned (.bool (p y y')) ∧ Below W.heap.size W W') :
    Calls Tryz.prog 51 #[v, v', .func (.func g) #[] cap] w fun e w' => e = .returned (.bool (eqBy p l m)) ∧ Below w.heap.size w w' := by
  obtain ⟨a, c, rfl⟩ : ∃ a c, v = .slice a l.length c := by obtain ⟨a, c, h, _⟩ := hs.form; exact ⟨a, c, h⟩
  obtain ⟨a', c', rfl⟩ : ∃ a c, v' = .slice a m.length c := by obtain ⟨a, c, h, _⟩ := ht.form; exact ⟨a, c, h⟩
  have hn : l.length ≤ 9223372036854775807 := by have := hs.caps; unfold maxLen at this; omega
  by_cases hl : l.length = m.length
  · obtain ⟨n, hlen⟩ : ∃ n, l.length = n := ⟨_, rfl⟩
    rw [← hl] at ht ⊢
    rw [hlen] at hs ht hn ⊢
    have Hlen := Lib.hid hlen
    have Hl := Lib.hid hl
    have Hs := Lib.hid hs
    have Ht := Lib.hid ht
    have Hw := Lib.hid hw
    have H := Lib.hid hclos
    have Hsh := Lib.hid hshape
    have Hsh' := Lib.hid hshape'
    clear hs ht hlen hw hl hclos hshape hshape'
    go_enter Tryz.func51, Tryz.ntmps51
    go_wp2_with fail
    go_loopw [6, 7, 8, 9, 17] (fun _ _ _ _ j wr => ∃ k : Nat, k ≤ n ∧ j = .int .i64 k ∧ Below w.heap.size w wr ∧ Hid (∀ i y z, i < k → l[i]? = some y → m[i]? = some z → p y z = true)) (fun _ _ _ _ j _ => n - (intOf j).toNat)
    case atStart => exact ⟨0, Nat.zero_le _, rfl, Below.refl _ _, fun i d _ hi => by omega⟩
    case round =>
      obtain ⟨k, hk, rfl, hb, hf⟩ := hrel
      by_cases hlt : k < n
      · obtain ⟨y, hd⟩ := get_some Hlen.out hlt
        obtain ⟨z, he⟩ := get_some (Hl.out.symm.trans Hlen.out) hlt
        have hw1 := Hw.out.trans (hb.mono Hw.out.size)
        obtain ⟨b, off, x, rfl, hbB, hxl, hR, hx⟩ := (Hs.out.below hw1).at_ hd
        obtain ⟨b', off', x', rfl, hbB', hxl', hR', hx'⟩ := (Ht.out.below hw1).at_ he
        have hz1 := hw1.size
        have hbw : b < wr.heap.size := by omega
        have hbw' : b' < wr.heap.size := by omega
        obtain ⟨e0, e1, en1, ec1, e2, en2, ec2, rfl⟩ := Hsh.out x y hR
        obtain ⟨f0, f1, fn1, fc1, f2, fn2, fc2, rfl⟩ := Hsh'.out x' z hR'
        have h0 := hx 0 _ rfl
        have h1 := hx 1 _ rfl
        have h2 := hx 2 _ rfl
        have g0 := hx' 0 _ rfl
        have g1 := hx' 1 _ rfl
        have g2 := hx' 2 _ rfl
        simp only [Nat.add_zero] at h0 g0
        have Hd := Lib.hid hd
        have He := Lib.hid he
        have HR := Lib.hid hR
        have HR' := Lib.hid hR'
        have Hw1 := Lib.hid hw1
        clear hd he hx hxl hx' hxl' hw1 hR hR' hz1
        cases hp : p y z
        · have Hp := Lib.hid hp
          clear hp
          go_wp2_with (with_reducible refine (H.out [.string e0, .slice e1 en1 ec1, .slice e2 en2 ec2] [.string f0, .slice f1 fn1 fc1, .slice f2 fn2 fc2] y z _ HR.out HR'.out ((Hw1.out.alloc Hw1.out.size _).alloc (below2 Hw1.out.size) _)).mono ?_; rintro e w1 ⟨rfl, hb1⟩; rw [Hp.out])
          go_ret
          exact ⟨by rw [eqBy_no _ l m k y z Hd.out He.out Hp.out]; rfl, ((hb.alloc hb.size _).alloc (below2 hb.size) _).trans (hb1.mono (below3 hb.size))⟩
        · have Hp := Lib.hid hp
          clear hp
          go_wp2_with (with_reducible refine (H.out [.string e0, .slice e1 en1 ec1, .slice e2 en2 ec2] [.string f0, .slice f1 fn1 fc1, .slice f2 fn2 fc2] y z _ HR.out HR'.out ((Hw1.out.alloc Hw1.out.size _).alloc (below2 Hw1.out.size) _)).mono ?_; rintro e w1 ⟨rfl, hb1⟩; rw [Hp.out])
          go_roundw
          case rel => exact ⟨k + 1, by omega, by go_num, ((hb.alloc hb.size _).alloc (below2 hb.size) _).trans (hb1.mono (below3 hb.size)), so_far Hd.out He.out Hp.out hf.out⟩
          case measure => simp [intOf]; omega
      · have hge : n ≤ k := by omega
        clear hlt
        go_wp2_with fail
        go_ret
        exact ⟨by rw [eqBy_yes _ l m Hl.out (fun i y z hi => hf.out i y z (by have := Hlen.out; omega))]; rfl, hb⟩
  · have hne : ((l.length : Int) != (m.length : Int)) = true := by rw [bne_iff_ne]; omega
    have Hl := Lib.hid hl
    clear hl hs ht hw hclos hshape hshape'
    go_enter Tryz.func51, Tryz.ntmps51
    go_wp2_with fail
    go_ret
    exact ⟨by rw [eqBy_len _ l m Hl.out]; rfl, Below.refl _ _⟩

set_option maxHeartbeats 1000000 in
theorem equalFunc_Editor {α β : Type} {R : List Value → α → Prop} {R' : List Value → β → Prop} {l : List α} {m : List β} {v v' : Value} (g : FuncId) (cap : Array Value) (w w0 : World) (p : α → β → Bool)
   (hs : SlR w0 w0.heap.size 2 R v l) (ht : SlR w0 w0.heap.size 2 R' v' m) (hw : Below w0.heap.size w0 w)
   (hshape : ∀ x y, R x y → ∃ e0 e1 en1 ec1, x = [.string e0, .slice e1 en1 ec1]) (hshape' : ∀ x y, R' x y → ∃ f0 f1 fn1 fc1, x = [.string f0, .slice f1 fn1 fc1])
   (hcall : ∀ args w, (callFunc g args).run Tryz.prog w = .ok (.enter g args) w)
   (hclos : ∀ x x' y y' W, R x y → R' x' y' → Below w0.heap.size w0 W → Calls Tryz.prog g (#[(.agg x.toArray), (.agg x'.toArray)] ++ cap) W fun e W' => e = .returned (.bool (p y y')) ∧ Below W.heap.size W W') :
    Calls Tryz.prog 55 #[v, v', .func (.func g) #[] cap] w fun e w' => e = .returned (.bool (eqBy p l m)) ∧ Below w.heap.size w w' := by
  obtain ⟨a, c, rfl⟩ : ∃ a c, v = .slice a l.length c := by obtain ⟨a, c, h, _⟩ := hs.form; exact ⟨a, c, h⟩
  obtain ⟨a', c', rfl⟩ : ∃ a c, v' = .slice a m.length c := by obtain ⟨a, c, h, _⟩ := ht.form; exact ⟨a, c, h⟩
  have hn : l.length ≤ 9223372036854775807 := by have := hs.caps; unfold maxLen at this; omega
  by_cases hl : l.length = m.length
  · obtain ⟨n, hlen⟩ : ∃ n, l.length = n := ⟨_, rfl⟩
    rw [← hl] at ht ⊢
    rw [hlen] at hs ht hn ⊢
    have Hlen := Lib.hid hlen
    have Hl := Lib.hid hl
    have Hs := Lib.hid hs
    have Ht := Lib.hid ht
    have Hw := Lib.hid hw
    have H := Lib.hid hclos
    have Hsh := Lib.hid hshape
    have Hsh' := Lib.hid hshape'
    clear hs ht hlen hw hl hclos hshape hshape'
    go_enter Tryz.func55, Tryz.ntmps55
    go_wp2_with fail
    go_loopw [6, 7, 8, 9, 17] (fun _ _ _ _ j wr => ∃ k : Nat, k ≤ n ∧ j = .int .i64 k ∧ Below w.heap.size w wr ∧ Hid (∀ i y z, i < k → l[i]? = some y → m[i]? = some z → p y z = true)) (fun _ _ _ _ j _ => n - (intOf j).toNat)
    case atStart => exact ⟨0, Nat.zero_le _, rfl, Below.refl _ _, fun i d _ hi => by omega⟩
    case round =>
      obtain ⟨k, hk, rfl, hb, hf⟩ := hrel
      by_cases hlt : k < n
      · obtain ⟨y, hd⟩ := get_some Hlen.out hlt
        obtain ⟨z, he⟩ := get_some (Hl.out.symm.trans Hlen.out) hlt
        have hw1 := Hw.out.trans (hb.mono Hw.out.size)
        obtain ⟨b, off, x, rfl, hbB, hxl, hR, hx⟩ := (Hs.out.below hw1).at_ hd
        obtain ⟨b', off', x', rfl, hbB', hxl', hR', hx'⟩ := (Ht.out.below hw1).at_ he
        have hz1 := hw1.size
        have hbw : b < wr.heap.size := by omega
        have hbw' : b' < wr.heap.size := by omega
        obtain ⟨e0, e1, en1, ec1, rfl⟩ := Hsh.out x y hR
        obtain ⟨f0, f1, fn1, fc1, rfl⟩ := Hsh'.out x' z hR'
        have h0 := hx 0 _ rfl
        have h1 := hx 1 _ rfl
        have g0 := hx' 0 _ rfl
        have g1 := hx' 1 _ rfl
        simp only [Nat.add_zero] at h0 g0
        have Hd := Lib.hid hd
        have He := Lib.hid he
        have HR := Lib.hid hR
        have HR' := Lib.hid hR'
        have Hw1 := Lib.hid hw1
        clear hd he hx hxl hx' hxl' hw1 hR hR' hz1
        cases hp : p y z
        · have Hp := Lib.hid hp
          clear hp
          go_wp2_with (with_reducible refine (H.out [.string e0, .slice e1 en1 ec1] [.string f0, .slice f1 fn1 fc1] y z _ HR.out HR'.out ((Hw1.out.alloc Hw1.out.size _).alloc (below2 Hw1.out.size) _)).mono ?_; rintro e w1 ⟨rfl, hb1⟩; rw [Hp.out])
          go_ret
          exact ⟨by rw [eqBy_no _ l m k y z Hd.out He.out Hp.out]; rfl, ((hb.alloc hb.size _).alloc (below2 hb.size) _).trans (hb1.mono (below3 hb.size))⟩
        · have Hp := Lib.hid hp
          clear hp
          go_wp2_with (with_reducible refine (H.out [.string e0, .slice e1 en1 ec1] [.string f0, .slice f1 fn1 fc1] y z _ HR.out HR'.out ((Hw1.out.alloc Hw1.out.size _).alloc (below2 Hw1.out.size) _)).mono ?_; rintro e w1 ⟨rfl, hb1⟩; rw [Hp.out])
          go_roundw
          case rel => exact ⟨k + 1, by omega, by go_num, ((hb.alloc hb.size _).alloc (below2 hb.size) _).trans (hb1.mono (below3 hb.size)), so_far Hd.out He.out Hp.out hf.out⟩
          case measure => simp [intOf]; omega
      · have hge : n ≤ k := by omega
        clear hlt
        go_wp2_with fail
        go_ret
        exact ⟨by rw [eqBy_yes _ l m Hl.out (fun i y z hi => hf.out i y z (by have := Hlen.out; omega))]; rfl, hb⟩
  · have hne : ((l.length : Int) != (m.length : Int)) = true := by rw [bne_iff_ne]; omega
    have Hl := Lib.hid hl
    clear hl hs ht hw hclos hshape hshape'
    go_enter Tryz.func55, Tryz.ntmps55
    go_wp2_with fail
    go_ret
    exact ⟨by rw [eqBy_len _ l m Hl.out]; rfl, Below.refl _ _⟩

set_option maxHeartbeats 1000000 in
theorem equalFunc_Template {α β : Type} {R : List Value → α → Prop} {R' : List Value → β → Prop} {l : List α} {m : List β} {v v' : Value} (g : FuncId) (cap : Array Value) (w w0 : World) (p : α → β → Bool)
   (hs : SlR w0 w0.heap.size 2 R v l) (ht : SlR w0 w0.heap.size 2 R' v' m) (hw : Below w0.heap.size w0 w)
   (hshape : ∀ x y, R x y → ∃ e0 e1 en1 ec1, x = [.string e0, .slice e1 en1 ec1]) (hshape' : ∀ x y, R' x y → ∃ f0 f1 fn1 fc1, x = [.string f0, .slice f1 fn1 fc1])
   (hcall : ∀ args w, (callFunc g args).run Tryz.prog w = .ok (.enter g args) w)
   (hclos : ∀ x x' y y' W, R x y → R' x' y' → Below w0.heap.size w0 W → Calls Tryz.prog g (#[(.agg x.toArray), (.agg x'.toArray)] ++ cap) W fun e W' => e = .returned (.bool (p y y')) ∧ Below W.heap.size W W') :
    Calls Tryz.prog 58 #[v, v', .func (.func g) #[] cap] w fun e w' => e = .returned (.bool (eqBy p l m)) ∧ Below w.heap.size w w' := by
  obtain ⟨a, c, rfl⟩ : ∃ a c, v = .slice a l.length c := by obtain ⟨a, c, h, _⟩ := hs.form; exact ⟨a, c, h⟩
  obtain ⟨a', c', rfl⟩ : ∃ a c, v' = .slice a m.length c := by obtain ⟨a, c, h, _⟩ := ht.form; exact ⟨a, c, h⟩
  have hn : l.length ≤ 9223372036854775807 := by have := hs.caps; unfold maxLen at this; omega
  by_cases hl : l.length = m.length
  · obtain ⟨n, hlen⟩ : ∃ n, l.length = n := ⟨_, rfl⟩
    rw [← hl] at ht ⊢
    rw [hlen] at hs ht hn ⊢
    have Hlen := Lib.hid hlen
    have Hl := Lib.hid hl
    have Hs := Lib.hid hs
    have Ht := Lib.hid ht
    have Hw := Lib.hid hw
    have H := Lib.hid hclos
    have Hsh := Lib.hid hshape
    have Hsh' := Lib.hid hshape'
    clear hs ht hlen hw hl hclos hshape hshape'
    go_enter Tryz.func58, Tryz.ntmps58
    go_wp2_with fail
    go_loopw [6, 7, 8, 9, 17] (fun _ _ _ _ j wr => ∃ k : Nat, k ≤ n ∧ j = .int .i64 k ∧ Below w.heap.size w wr ∧ Hid (∀ i y z, i < k → l[i]? = some y → m[i]? = some z → p y z = true)) (fun _ _ _ _ j _ => n - (intOf j).toNat)
    case atStart => exact ⟨0, Nat.zero_le _, rfl, Below.refl _ _, fun i d _ hi => by omega⟩
    case round =>
      obtain ⟨k, hk, rfl, hb, hf⟩ := hrel
      by_cases hlt : k < n
      · obtain ⟨y, hd⟩ := get_some Hlen.out hlt
        obtain ⟨z, he⟩ := get_some (Hl.out.symm.trans Hlen.out) hlt
        have hw1 := Hw.out.trans (hb.mono Hw.out.size)
        obtain ⟨b, off, x, rfl, hbB, hxl, hR, hx⟩ := (Hs.out.below hw1).at_ hd
        obtain ⟨b', off', x', rfl, hbB', hxl', hR', hx'⟩ := (Ht.out.below hw1).at_ he
        have hz1 := hw1.size
        have hbw : b < wr.heap.size := by omega
        have hbw' : b' < wr.heap.size := by omega
        obtain ⟨e0, e1, en1, ec1, rfl⟩ := Hsh.out x y hR
        obtain ⟨f0, f1, fn1, fc1, rfl⟩ := Hsh'.out x' z hR'
        have h0 := hx 0 _ rfl
        have h1 := hx 1 _ rfl
        have g0 := hx' 0 _ rfl
        have g1 := hx' 1 _ rfl
        simp only [Nat.add_zero] at h0 g0
        have Hd := Lib.hid hd
        have He := Lib.hid he
        have HR := Lib.hid hR
        have HR' := Lib.hid hR'
        have Hw1 := Lib.hid hw1
        clear hd he hx hxl hx' hxl' hw1 hR hR' hz1
        cases hp : p y z
        · have Hp := Lib.hid hp
          clear hp
          go_wp2_with (with_reducible refine (H.out [.string e0, .slice e1 en1 ec1] [.string f0, .slice f1 fn1 fc1] y z _ HR.out HR'.out ((Hw1.out.alloc Hw1.out.size _).alloc (below2 Hw1.out.size) _)).mono ?_; rintro e w1 ⟨rfl, hb1⟩; rw [Hp.out])
          go_ret
          exact ⟨by rw [eqBy_no _ l m k y z Hd.out He.out Hp.out]; rfl, ((hb.alloc hb.size _).alloc (below2 hb.size) _).trans (hb1.mono (below3 hb.size))⟩
        · have Hp := Lib.hid hp
          clear hp
          go_wp2_with (with_reducible refine (H.out [.string e0, .slice e1 en1 ec1] [.string f0, .slice f1 fn1 fc1] y z _ HR.out HR'.out ((Hw1.out.alloc Hw1.out.size _).alloc (below2 Hw1.out.size) _)).mono ?_; rintro e w1 ⟨rfl, hb1⟩; rw [Hp.out])
          go_roundw
          case rel => exact ⟨k + 1, by omega, by go_num, ((hb.alloc hb.size _).alloc (below2 hb.size) _).trans (hb1.mono (below3 hb.size)), so_far Hd.out He.out Hp.out hf.out⟩
          case measure => simp [intOf]; omega
      · have hge : n ≤ k := by omega
        clear hlt
        go_wp2_with fail
        go_ret
        exact ⟨by rw [eqBy_yes _ l m Hl.out (fun i y z hi => hf.out i y z (by have := Hlen.out; omega))]; rfl, hb⟩
  · have hne : ((l.length : Int) != (m.length : Int)) = true := by rw [bne_iff_ne]; omega
    have Hl := Lib.hid hl
    clear hl hs ht hw hclos hshape hshape'
    go_enter Tryz.func58, Tryz.ntmps58
    go_wp2_with fail
    go_ret
    exact ⟨by rw [eqBy_len _ l m Hl.out]; rfl, Below.refl _ _⟩

end Go.Proofs.YtdhljfblkidohaaGreat
