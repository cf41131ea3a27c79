/- The program's searches, further: Contains of texts and of numbers; a search by a closure that changes what it has captured. -/
import Derived.Test.YtdhljfblkidohaaGreatApi
import Derived.Test.YtdhljfblkidohaaGreatProg
import Derived.Test.YtdhljfblkidohaaGreatChecked
import Derived.WalkSmall
namespace Go.Proofs.YtdhljfblkidohaaGreat
set_option linter.unusedSimpArgs false
set_option linter.unusedVariables false
open Go.RowKit

section
variable {α : Type} {w w' : World} {B B' size : Nat} {R R' : List Value → α → Prop} {v : Value} {l : List α}
/-- the first i of them -/
theorem SlR.take {a : Option Addr} {n c i : Nat} (h : SlR w B size R (.slice a n c) l) (hi : i ≤ l.length) : SlR w B size R (.slice a i c) (l.take i) := by
  have hc := h.caps
  have hn := h.len
  obtain ⟨a', c', hv, h1, h2, h3⟩ := h
  injection hv with e1 e2 e3
  subst e1 e3
  have hlt : (l.take i).length = i := by rw [List.length_take, Nat.min_eq_left hi]
  refine ⟨a, c, by rw [hlt], by omega, h2, fun hl => ?_⟩
  obtain ⟨b, off, ha, hb, hc⟩ := h3 (by omega)
  refine ⟨b, off, ha, hb, fun j y hy => hc j y ?_⟩
  have hj : j < (l.take i).length := (List.getElem?_eq_some_iff.1 hy).1
  rw [List.getElem?_take_of_lt (by omega)] at hy
  exact hy
end

set_option maxHeartbeats 400000 in
theorem index_text {l : List ByteArray} {v : Value} (s : ByteArray) (w w0 : World)
   (hs : SlR w0 w0.heap.size 1 IsText v l) (hw : Below w0.heap.size w0 w) :
    Calls Tryz.prog 64 #[v, .string s] w fun e w' => e = .returned (.int .i64 (firstAt (fun x => decide (x = s)) l)) ∧ Quiet w w' := by
  obtain ⟨a, c, rfl⟩ : ∃ a c, v = .slice a l.length c := by obtain ⟨a, c, h, _⟩ := hs.form; exact ⟨a, c, h⟩
  have hn : l.length ≤ 9223372036854775807 := by have := hs.caps; unfold maxLen at this; omega
  obtain ⟨n, hlen⟩ : ∃ n, l.length = n := ⟨_, rfl⟩
  rw [hlen] at hs hn ⊢
  have Hlen := Lib.hid hlen
  have Hs := Lib.hid hs
  have Hw := Lib.hid hw
  clear hs hlen hw
  go_enter Tryz.func64, Tryz.ntmps64
  go_wp2_with fail
  go_loopw [4, 5, 8] (fun _ _ j wr => ∃ k : Nat, k ≤ n ∧ j = .int .i64 k ∧ Quiet w wr ∧ Hid (∀ i d, i < k → l[i]? = some d → (fun x => decide (x = s)) d = false)) (fun _ _ j _ => n - (intOf j).toNat)
  case atStart => exact ⟨0, Nat.zero_le _, rfl, Quiet.refl _, fun i d hi => by omega⟩
  case round =>
    obtain ⟨k, hk, rfl, hq, hf⟩ := hrel
    have hb := hq.below w.heap.size
    by_cases hlt : k < n
    · obtain ⟨y, hd⟩ := get_some Hlen.out hlt
      have hw1 := Hw.out.trans (hb.mono Hw.out.size)
      obtain ⟨b, off, x, rfl, hbB, hxl, ⟨rfl, _⟩, hx⟩ := (Hs.out.below hw1).at_ hd
      have h0 := hx 0 _ rfl
      simp only [Nat.add_zero, Nat.mul_one] at h0
      have Hd := Lib.hid hd
      clear hd hx hxl hw1
      by_cases hys : y = s
      · subst hys
        go_wp2_with fail
        go_ret
        exact ⟨by rw [firstAt_here Hd.out (by simp) hf.out]; rfl, hq⟩
      · have hne : (s.toList == y.toList) = false := by simpa [toList_inj] using fun e => hys e.symm
        have Hp := Lib.hid (show (fun x => decide (x = s)) y = false by simpa using hys)
        clear hys
        go_wp2_with fail
        go_roundw
        case rel => exact ⟨k + 1, by omega, by go_num, hq, so_far1 Hd.out Hp.out hf.out⟩
        case measure => simp [intOf]; omega
    · have hge : n ≤ k := by omega
      clear hlt
      go_wp2_with fail
      go_ret
      exact ⟨by rw [firstAt_none (fun i d hi => hf.out i d (by have := Hlen.out; omega))]; rfl, hq⟩
theorem contains_text {l : List ByteArray} {v : Value} (s : ByteArray) (w w0 : World)
   (hs : SlR w0 w0.heap.size 1 IsText v l) (hw : Below w0.heap.size w0 w) :
    Calls Tryz.prog 22 #[v, .string s] w fun e w' => e = .returned (.bool (l.any (fun x => decide (x = s)))) ∧ Quiet w w' := by
  have H := Lib.hid (index_text s w w0 hs hw)
  clear hs hw
  go_enter Tryz.func22, Tryz.ntmps22
  go_wp2_with (go_at_call 64; with_reducible refine H.out.mono ?_; rintro e w1 ⟨rfl, hb1⟩)
  go_ret
  exact ⟨by rw [← firstAt_any]; rfl, hb1⟩

set_option maxHeartbeats 400000 in
theorem idxInt_st {l : List Int} {v : Value} (g : FuncId) (cap : Array Value) (w : World) (B : Nat) (I : Nat → World → Prop) (J : World → Prop) (hv : ∃ a c, v = .slice a l.length c) (hn : l.length ≤ 9223372036854775807)
   (hs : ∀ k W, I k W → SlR W B 1 IsInt v l)
   (hcall : ∀ args w, (callFunc g args).run Tryz.prog w = .ok (.enter g args) w)
   (hclos : ∀ k y W, l[k]? = some y → I k W → Calls Tryz.prog g (#[.int .i64 y] ++ cap) W fun e W' => (e = .returned (.bool false) ∧ I (k + 1) W') ∨ (e = .returned (.bool true) ∧ J W')) (h0 : I 0 w) :
    Calls Tryz.prog 101 #[v, .func (.func g) #[] cap] w fun e w' => (e = .returned (.int .i64 (-1)) ∧ I l.length w') ∨ (∃ k : Nat, k < l.length ∧ e = .returned (.int .i64 k) ∧ J w') := by
  obtain ⟨a, c, rfl⟩ := hv
  obtain ⟨n, hlen⟩ : ∃ n, l.length = n := ⟨_, rfl⟩
  rw [hlen] at hs hn ⊢
  have Hlen := Lib.hid hlen
  have H := Lib.hid hclos
  have Hs := Lib.hid hs
  have H0 := Lib.hid h0
  clear hclos hs hlen h0
  go_enter Tryz.func101, Tryz.ntmps101
  go_wp2_with fail
  go_loopw [4, 5, 8] (fun _ _ j wr => ∃ k : Nat, k ≤ n ∧ j = .int .i64 k ∧ Hid (I k wr)) (fun _ _ j _ => n - (intOf j).toNat)
  case atStart => exact ⟨0, Nat.zero_le _, rfl, H0⟩
  case round =>
    obtain ⟨k, hk, rfl, hI⟩ := hrel
    by_cases hlt : k < n
    · obtain ⟨y, hd⟩ := get_some Hlen.out hlt
      obtain ⟨b, off, x, rfl, hbB, hxl, ⟨rfl, _⟩, hx⟩ := (Hs.out k wr hI.out).at_ hd
      have h0 := hx 0 _ rfl
      simp only [Nat.add_zero, Nat.mul_one] at h0
      have HC := Lib.hid (H.out k y wr hd hI.out)
      clear hd hx hxl
      go_wp2_with (refine HC.out.mono ?_; rintro e w1 (⟨rfl, h1⟩ | ⟨rfl, h1⟩))
      · go_roundw
        case rel => exact ⟨k + 1, by omega, by go_num, h1⟩
        case measure => simp [intOf]; omega
      · go_ret
        exact .inr ⟨k, hlt, rfl, h1⟩
    · have hge : n = k := by omega
      clear hlt
      have hI' := Lib.hid (show I n wr by rw [hge]; exact hI.out)
      have hge : n ≤ k := by omega
      go_wp2_with fail
      go_ret
      exact .inl ⟨rfl, hI'.out⟩
theorem anyInt_st {l : List Int} {v : Value} (g : FuncId) (cap : Array Value) (w : World) (B : Nat) (I : Nat → World → Prop) (J : World → Prop) (hv : ∃ a c, v = .slice a l.length c) (hn : l.length ≤ 9223372036854775807)
   (hs : ∀ k W, I k W → SlR W B 1 IsInt v l)
   (hcall : ∀ args w, (callFunc g args).run Tryz.prog w = .ok (.enter g args) w)
   (hclos : ∀ k y W, l[k]? = some y → I k W → Calls Tryz.prog g (#[.int .i64 y] ++ cap) W fun e W' => (e = .returned (.bool false) ∧ I (k + 1) W') ∨ (e = .returned (.bool true) ∧ J W')) (h0 : I 0 w) :
    Calls Tryz.prog 88 #[v, .func (.func g) #[] cap] w fun e w' => (e = .returned (.bool false) ∧ I l.length w') ∨ (e = .returned (.bool true) ∧ J w') := by
  have H := Lib.hid (idxInt_st g cap w B I J hv hn hs hcall hclos h0)
  clear hs hcall hclos h0 hv
  go_enter Tryz.func88, Tryz.ntmps88
  go_wp2_with (go_at_call 101; with_reducible refine H.out.mono ?_; rintro e w1 (⟨rfl, h1⟩ | ⟨k, hk, rfl, h1⟩))
  · go_ret
    exact .inl ⟨rfl, h1⟩
  · go_ret
    exact .inr ⟨by simp, h1⟩
end Go.Proofs.YtdhljfblkidohaaGreat
