/- The chapter's rows that each statement asks first. -/
import Derived.Test.YtlenenfgedgmhaaDoorTl3
namespace Go.Proofs.YtlenenfgedgmhaaDoor
set_option linter.unusedSimpArgs false
set_option linter.unusedVariables false
open Go.RowKit

def awE : List EN := [⟨21, [], 0, [1, 4]⟩, ⟨21, [], 0, [2, 3]⟩, ⟨7, [97], 0, []⟩, ⟨1, [], -5, []⟩, ⟨7, [98], 0, []⟩]
theorem aw_parse1 : parseN [97, 32, 45, 32, 45, 53, 32, 45, 32, 98] = (awE, 0, 0) := by decide +kernel
theorem aw_parse2 : parseN [105, 102, 32, 97, 32, 116, 104, 101, 110, 32, 98, 32, 101, 108, 115, 101, 32, 99] = ([], 18, 80) := by decide +kernel
theorem aw_right : rightE (awE.map EN.nd) = 0 := by decide +kernel
theorem aw_right0 : rightE [] = 80 := by decide +kernel
theorem aw_tell : tellN (awE.map EN.nd) 5 0 0 = [97, 32, 45, 32, 45, 53, 32, 45, 32, 98] := by decide +kernel
theorem aw_print : printE (awE.map EN.nd) = ([97, 32, 45, 32, 45, 53, 32, 45, 32, 98], 0) := by
  unfold printE
  rw [if_neg (by rw [aw_right]; simp), if_neg (by decide +kernel)]
  have h : tellN (awE.map EN.nd) (awE.map EN.nd).length 0 0 = [97, 32, 45, 32, 45, 53, 32, 45, 32, 98] := aw_tell
  rw [h]
  decide +kernel
theorem aw_ok : ∀ d ∈ awE.map EN.nd, NdOk d := by unfold NdOk Bytes; decide +kernel
set_option maxRecDepth 100000 in
set_option maxHeartbeats 8000000 in
theorem awake_any (w : World) (hm : Marks w) (hp : Pow w) (hg : Signs w) : Calls Tryd.prog 20 #[] w fun e w' => e = .returned (.bool true) ∧ Below w.heap.size w w' := by
  have g1 : 1 < w.heap.size := by
    obtain ⟨_, _, h⟩ := signs_block hg
    rcases Nat.lt_or_ge 1 w.heap.size with h0 | h0
    · exact h0
    · rw [Array.getElem?_eq_none h0] at h; cases h
  have HA : Hid (Calls Tryd.prog 9 #[.string ⟨#[97, 32, 45, 32, 45, 53, 32, 45, 32, 98]⟩] w (ParseIs w (awE, 0, 0))) := Lib.hid (by
    have h := parse_any (⟨#[97, 32, 45, 32, 45, 53, 32, 45, 32, 98]⟩ : ByteArray) (by decide) w hm hg
    rw [show bs (⟨#[97, 32, 45, 32, 45, 53, 32, 45, 32, 98]⟩ : ByteArray) = [97, 32, 45, 32, 45, 53, 32, 45, 32, 98] by decide, aw_parse1] at h
    exact h)
  have HB : Hid (∀ W, Below w.heap.size w W → Calls Tryd.prog 9 #[.string ⟨#[105, 102, 32, 97, 32, 116, 104, 101, 110, 32, 98, 32, 101, 108, 115, 101, 32, 99]⟩] W (ParseIs W ([], 18, 80))) := Lib.hid (fun W hW => by
    have h := parse_any (⟨#[105, 102, 32, 97, 32, 116, 104, 101, 110, 32, 98, 32, 101, 108, 115, 101, 32, 99]⟩ : ByteArray) (by decide) W (hm.below hW) (hg.of_block (hW.block 1 g1))
    rw [show bs (⟨#[105, 102, 32, 97, 32, 116, 104, 101, 110, 32, 98, 32, 101, 108, 115, 101, 32, 99]⟩ : ByteArray) = [105, 102, 32, 97, 32, 116, 104, 101, 110, 32, 98, 32, 101, 108, 115, 101, 32, 99] by decide, aw_parse2] at h
    exact h)
  have HC : Hid (∀ (W : World) (a : Option Addr) (c : Nat), Below w.heap.size w W → SlR W W.heap.size 4 (ND.Is W W.heap.size) (.slice a 5 c) (awE.map EN.nd) → Calls Tryd.prog 14 #[.agg #[.slice a 5 c]] W fun e w' => e = .returned (.tuple #[.string ⟨#[97, 32, 45, 32, 45, 53, 32, 45, 32, 98]⟩, .int .i64 0]) ∧ Below W.heap.size W w') := Lib.hid (fun W a c hW hs => by
    have h := print_e W W hs aw_ok (hm.below hW) (hp.below hW) (hg.of_block (hW.block 1 g1)) (Below.refl _ _)
    rw [aw_print] at h
    rw [show (⟨#[97, 32, 45, 32, 45, 53, 32, 45, 32, 98]⟩ : ByteArray) = txt [97, 32, 45, 32, 45, 53, 32, 45, 32, 98] by decide]
    exact h)
  have HD : Hid (∀ W, Below w.heap.size w W → Calls Tryd.prog 18 #[.agg #[.slice none 0 0]] W fun e w' => e = .returned (.int .i64 80) ∧ Below W.heap.size W w') := Lib.hid (fun W hW => by
    have h := right_e W W (l := []) (v := .slice none 0 0) (SlR.nil_ _ (by unfold maxLen; omega) _) (fun d hd => by cases hd) (hm.below hW) (hp.below hW) (Below.refl _ _)
    rw [aw_right0] at h
    exact h)
  clear hm hp hg g1
  go_enter Tryd.func20, Tryd.ntmps20
  go_wp2_with (first
    | (go_at_call 9; (with_reducible refine HA.out.mono ?_); rintro e w1 ⟨v1, rfl, h1, b1⟩; obtain ⟨a1, c1, hv1, _⟩ := h1.form; subst hv1; have S1 := Lib.hid (And.intro (h1.map_ EN.nd (fun x y h => ENode.nd h)) b1); clear h1 b1; show _)
    | (go_at_call 14; have BX := (Below.refl w1.heap.size w1).alloc (Nat.le_refl _) (.cells #[.slice a1 5 c1] 24); refine (HC.out _ _ _ (S1.out.2.trans (BX.mono S1.out.2.size)) (ndRead S1.out.1 BX)).mono ?_; rintro e w2 ⟨rfl, b2⟩; have B2 := Lib.hid (And.intro (BX.trans (b2.mono (by rw [World.size_alloc]; omega))) (((Blk.new w1 24 #[.slice a1 5 c1]).below b2 (by simp)))); clear b2 BX)
    | (go_at_call 9; (with_reducible refine (HB.out _ (S1.out.2.trans (B2.out.1.mono S1.out.2.size))).mono ?_); rintro e w3 ⟨v3, rfl, h3, b3⟩; obtain ⟨a3, c3, hv3, _⟩ := h3.form; subst hv3; have B3 := Lib.hid (And.intro (B2.out.1.trans (b3.mono B2.out.1.size)) (B2.out.2.below b3 B2.out.2.lt)); clear h3 b3; obtain ⟨b0, off, x0, ha0, _, _, ⟨kv0, hx0, _⟩, hc0⟩ := (S1.out.1.below B3.out.1).at_ (show (awE.map EN.nd)[0]? = some ⟨21, [], 0, [1, 4]⟩ from rfl); subst hx0 ha0; obtain ⟨b0', off', x3, ha3, _, _, ⟨kv3, hx3, _⟩, hc3⟩ := (S1.out.1.below B3.out.1).at_ (show (awE.map EN.nd)[3]? = some ⟨1, [], -5, []⟩ from rfl); injection ha3 with ha3; injection ha3 with e1 e2; subst e1 e2 hx3; have f0 : w3.cell? ⟨b0, off, none⟩ = some (.int .i64 21) := hc0 0 _ rfl; have f3 : w3.cell? ⟨b0, off + 3 * 4 + 2, none⟩ = some (.int .i64 (-5)) := hc3 2 _ rfl; have f3' : w3.cell? ⟨b0, off + 14, none⟩ = some (.int .i64 (-5)) := f3; have c0 : w3.cell? ⟨w1.heap.size, 0, none⟩ = some (.slice (some ⟨b0, off, none⟩) 5 c1) := B3.out.2.cell rfl; have lb := cell_lt f0; have lc := cell_lt c0; clear hc0 hc3)
    | (go_at_call 18; have BY := (Below.refl w3.heap.size w3).alloc (Nat.le_refl _) (.cells #[.slice a3 0 c3] 24); have BZ := Lib.hid (S1.out.2.trans ((B3.out.1.trans (BY.mono B3.out.1.size)).mono S1.out.2.size)); refine (HD.out _ BZ.out).mono ?_; rintro e w4 ⟨rfl, b4⟩; have B4 := Lib.hid (BZ.out.trans (b4.mono BZ.out.size)); clear b4))
  go_ret
  exact ⟨rfl, B4.out⟩
end Go.Proofs.YtlenenfgedgmhaaDoor
