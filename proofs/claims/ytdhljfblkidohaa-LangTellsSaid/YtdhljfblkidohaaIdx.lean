/- The program's searches: slices.IndexFunc, ContainsFunc over the lists of a definition; Contains of texts and numbers. -/
import Derived.Test.YtdhljfblkidohaaApi
import Derived.Test.YtdhljfblkidohaaProg
import Derived.Test.YtdhljfblkidohaaChecked
import Derived.WalkSmall
namespace Go.Proofs.Ytdhljfblkidohaa
set_option linter.unusedSimpArgs false
set_option linter.unusedVariables false
open Go.RowKit

set_option maxHeartbeats 400000 in
theorem idx_Concept {α : Type} {R : List Value → α → Prop} {l : List α} {v : Value} (g : FuncId) (cap : Array Value) (w w0 : World) (p : α → Bool)
   (hs : SlR w0 w0.heap.size 6 R v l) (hw : Below w0.heap.size w0 w)
   (hcall : ∀ args w, (callFunc g args).run Try.prog w = .ok (.enter g args) w)
   (hclos : ∀ x y W, R x y → Below w0.heap.size w0 W → Calls Try.prog g (#[(.agg x.toArray)] ++ cap) W fun e W' => e = .returned (.bool (p y)) ∧ Below W.heap.size W W') :
    Calls Try.prog 36 #[v, .func (.func g) #[] cap] w fun e w' => e = .returned (.int .i64 (firstAt p l)) ∧ Below w.heap.size w w' := by
  obtain ⟨a, c, rfl⟩ : ∃ a c, v = .slice a l.length c := by obtain ⟨a, c, h, _⟩ := hs.form; exact ⟨a, c, h⟩
  have hn : l.length ≤ 9223372036854775807 := by have := hs.caps; unfold maxLen at this; omega
  obtain ⟨n, hlen⟩ : ∃ n, l.length = n := ⟨_, rfl⟩
  rw [hlen] at hs hn ⊢
  have Hlen := Lib.hid hlen
  have H := Lib.hid hclos
  have Hs := Lib.hid hs
  have Hw := Lib.hid hw
  clear hclos hs hlen hw
  go_enter Try.func36, Try.ntmps36
  go_wp2_with fail
  go_loopw [4, 5, 8] (fun _ _ j wr => ∃ k : Nat, k ≤ n ∧ j = .int .i64 k ∧ Below w.heap.size w wr ∧ Hid (∀ i d, i < k → l[i]? = some d → p d = false)) (fun _ _ j _ => n - (intOf j).toNat)
  case atStart => exact ⟨0, Nat.zero_le _, rfl, Below.refl _ _, fun i d hi => by omega⟩
  case round =>
    obtain ⟨k, hk, rfl, hb, hf⟩ := hrel
    by_cases hlt : k < n
    · obtain ⟨y, hd⟩ : ∃ d, l[k]? = some d := ⟨_, List.getElem?_eq_getElem (by rw [Hlen.out]; exact hlt)⟩
      have hw1 := Hw.out.trans (hb.mono Hw.out.size)
      obtain ⟨b, off, x, rfl, hbB, hxl, hR, hx⟩ := (Hs.out.below hw1).at_ hd
      obtain ⟨e0, e1, e2, e3, e4, e5, rfl⟩ := len6 hxl
      have h0 := hx 0 _ rfl
      have h1 := hx 1 _ rfl
      have h2 := hx 2 _ rfl
      have h3 := hx 3 _ rfl
      have h4 := hx 4 _ rfl
      have h5 := hx 5 _ rfl
      simp only [Nat.add_zero] at h0
      have Hd := Lib.hid hd
      have HR := Lib.hid hR
      have Hw1 := Lib.hid hw1
      clear hd hx hxl hR hw1
      cases hp : p y
      · have Hp := Lib.hid hp
        clear hp
        go_wp2_with (with_reducible refine (H.out [e0, e1, e2, e3, e4, e5] y _ HR.out Hw1.out).mono ?_; rintro e w1 ⟨rfl, hb1⟩; rw [Hp.out])
        go_roundw
        case rel => exact ⟨k + 1, by omega, by go_num, hb.trans (hb1.mono hb.size), fun i d' hi hd' => by
          by_cases e : i = k
          · subst e; obtain rfl : y = d' := by have := Hd.out; rw [hd'] at this; exact (Option.some.inj this).symm
            exact Hp.out
          · exact hf.out i d' (by omega) hd'⟩
        case measure => simp [intOf]; omega
      · have Hp := Lib.hid hp
        clear hp
        go_wp2_with (with_reducible refine (H.out [e0, e1, e2, e3, e4, e5] y _ HR.out Hw1.out).mono ?_; rintro e w1 ⟨rfl, hb1⟩; rw [Hp.out])
        go_ret
        exact ⟨by rw [firstAt_here Hd.out Hp.out hf.out]; rfl, hb.trans (hb1.mono hb.size)⟩
    · have hge : n ≤ k := by omega
      clear hlt
      go_wp2_with fail
      go_ret
      exact ⟨by rw [firstAt_none (fun i d hi => hf.out i d (by have := Hlen.out; omega))]; rfl, hb⟩

end Go.Proofs.Ytdhljfblkidohaa
