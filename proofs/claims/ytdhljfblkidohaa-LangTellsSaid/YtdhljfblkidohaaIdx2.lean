/- The program's searches, further: Contains of texts and of numbers; a search by a closure that changes what it has captured. -/
import Derived.Test.YtdhljfblkidohaaApi
import Derived.Test.YtdhljfblkidohaaProg
import Derived.Test.YtdhljfblkidohaaChecked
import Derived.WalkSmall
namespace Go.Proofs.Ytdhljfblkidohaa
set_option linter.unusedSimpArgs false
set_option linter.unusedVariables false
open Go.RowKit

section
variable {α : Type} {w w' : World} {B B' size : Nat} {R R' : List Value → α → Prop} {v : Value} {l : List α}
/-- the first i of them -/
theorem SlR.take {a : Option Addr} {n c i : Nat} (h : SlR w B size R (.slice a n c) l) (hi : i ≤ l.length) : SlR w B size R (.slice a i c) (l.take i) := by
  have hc := h.caps
  have hn := h.len
  obtain ⟨a', c', hv, h1, h2, h3⟩ := h
  injection hv with e1 e2 e3
  subst e1 e3
  have hlt : (l.take i).length = i := by rw [List.length_take, Nat.min_eq_left hi]
  refine ⟨a, c, by rw [hlt], by omega, h2, fun hl => ?_⟩
  obtain ⟨b, off, ha, hb, hc⟩ := h3 (by omega)
  refine ⟨b, off, ha, hb, fun j y hy => hc j y ?_⟩
  have hj : j < (l.take i).length := (List.getElem?_eq_some_iff.1 hy).1
  rw [List.getElem?_take_of_lt (by omega)] at hy
  exact hy
end

set_option maxHeartbeats 400000 in
theorem idxInt_st {l : List Int} {v : Value} (g : FuncId) (cap : Array Value) (w : World) (B : Nat) (I : Nat → World → Prop) (J : World → Prop) (hv : ∃ a c, v = .slice a l.length c) (hn : l.length ≤ 9223372036854775807)
   (hs : ∀ k W, I k W → SlR W B 1 IsInt v l)
   (hcall : ∀ args w, (callFunc g args).run Try.prog w = .ok (.enter g args) w)
   (hclos : ∀ k y W, l[k]? = some y → I k W → Calls Try.prog g (#[.int .i64 y] ++ cap) W fun e W' => (e = .returned (.bool false) ∧ I (k + 1) W') ∨ (e = .returned (.bool true) ∧ J W')) (h0 : I 0 w) :
    Calls Try.prog 53 #[v, .func (.func g) #[] cap] w fun e w' => (e = .returned (.int .i64 (-1)) ∧ I l.length w') ∨ (∃ k : Nat, k < l.length ∧ e = .returned (.int .i64 k) ∧ J w') := by
  obtain ⟨a, c, rfl⟩ := hv
  obtain ⟨n, hlen⟩ : ∃ n, l.length = n := ⟨_, rfl⟩
  rw [hlen] at hs hn ⊢
  have Hlen := Lib.hid hlen
  have H := Lib.hid hclos
  have Hs := Lib.hid hs
  have H0 := Lib.hid h0
  clear hclos hs hlen h0
  go_enter Try.func53, Try.ntmps53
  go_wp2_with fail
  go_loopw [4, 5, 8] (fun _ _ j wr => ∃ k : Nat, k ≤ n ∧ j = .int .i64 k ∧ Hid (I k wr)) (fun _ _ j _ => n - (intOf j).toNat)
  case atStart => exact ⟨0, Nat.zero_le _, rfl, H0⟩
  case round =>
    obtain ⟨k, hk, rfl, hI⟩ := hrel
    by_cases hlt : k < n
    · obtain ⟨y, hd⟩ := get_some Hlen.out hlt
      obtain ⟨b, off, x, rfl, hbB, hxl, ⟨rfl, _⟩, hx⟩ := (Hs.out k wr hI.out).at_ hd
      have h0 := hx 0 _ rfl
      simp only [Nat.add_zero, Nat.mul_one] at h0
      have HC := Lib.hid (H.out k y wr hd hI.out)
      clear hd hx hxl
      go_wp2_with (refine HC.out.mono ?_; rintro e w1 (⟨rfl, h1⟩ | ⟨rfl, h1⟩))
      · go_roundw
        case rel => exact ⟨k + 1, by omega, by go_num, h1⟩
        case measure => simp [intOf]; omega
      · go_ret
        exact .inr ⟨k, hlt, rfl, h1⟩
    · have hge : n = k := by omega
      clear hlt
      have hI' := Lib.hid (show I n wr by rw [hge]; exact hI.out)
      have hge : n ≤ k := by omega
      go_wp2_with fail
      go_ret
      exact .inl ⟨rfl, hI'.out⟩
theorem anyInt_st {l : List Int} {v : Value} (g : FuncId) (cap : Array Value) (w : World) (B : Nat) (I : Nat → World → Prop) (J : World → Prop) (hv : ∃ a c, v = .slice a l.length c) (hn : l.length ≤ 9223372036854775807)
   (hs : ∀ k W, I k W → SlR W B 1 IsInt v l)
   (hcall : ∀ args w, (callFunc g args).run Try.prog w = .ok (.enter g args) w)
   (hclos : ∀ k y W, l[k]? = some y → I k W → Calls Try.prog g (#[.int .i64 y] ++ cap) W fun e W' => (e = .returned (.bool false) ∧ I (k + 1) W') ∨ (e = .returned (.bool true) ∧ J W')) (h0 : I 0 w) :
    Calls Try.prog 44 #[v, .func (.func g) #[] cap] w fun e w' => (e = .returned (.bool false) ∧ I l.length w') ∨ (e = .returned (.bool true) ∧ J w') := by
  have H := Lib.hid (idxInt_st g cap w B I J hv hn hs hcall hclos h0)
  clear hs hcall hclos h0 hv
  go_enter Try.func44, Try.ntmps44
  go_wp2_with (go_at_call 53; with_reducible refine H.out.mono ?_; rintro e w1 (⟨rfl, h1⟩ | ⟨k, hk, rfl, h1⟩))
  · go_ret
    exact .inl ⟨rfl, h1⟩
  · go_ret
    exact .inr ⟨by simp, h1⟩
end Go.Proofs.Ytdhljfblkidohaa
