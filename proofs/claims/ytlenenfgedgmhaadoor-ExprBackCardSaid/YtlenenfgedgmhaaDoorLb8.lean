/- The law's walk: 'topiarylaw08.ExprBack' returns true whatever the nodes; the variables hold what the texts lay. -/
import Derived.Test.YtlenenfgedgmhaaDoorRt4
import Derived.Test.YtlenenfgedgmhaaDoorAwk
import Derived.Test.YtlenenfgedgmhaaDoorSameN
import Derived.Test.YtlenenfgedgmhaaDoorGr8
namespace Go.Proofs.YtlenenfgedgmhaaDoor
set_option linter.unusedSimpArgs false
set_option linter.unusedVariables false
open Go.RowKit
set_option maxRecDepth 100000 in
set_option maxHeartbeats 40000000 in
theorem back_walk {l : List ND} {v : Value} (w : World) (hs : SlR w w.heap.size 4 (ND.Is w w.heap.size) v l) (hok : ∀ d ∈ l, NdOk d) (hm : Marks w) (hp : Pow w) (hg : Signs w) :
    Calls Tryd.prog 5 #[.agg #[v]] w fun e w' => e = .returned (.bool true) ∧ Below w.heap.size w w' := by
  have g1 : 1 < w.heap.size := by
    obtain ⟨_, _, h⟩ := signs_block hg
    rcases Nat.lt_or_ge 1 w.heap.size with h0 | h0
    · exact h0
    · rw [Array.getElem?_eq_none h0] at h; cases h
  have AWK : Hid (∀ W, Below w.heap.size w W → Calls Tryd.prog 20 #[] W fun e w' => e = .returned (.bool true) ∧ Below W.heap.size W w') := Lib.hid (fun W hW => awake_any W (hm.below hW) (hp.below hW) (hg.of_block (hW.block 1 g1)))
  have GRT := Lib.hid (fun W (hW : Below w.heap.size w W) => great_any W w hs hW)
  have PRT := Lib.hid (fun W (hW : Below w.heap.size w W) => print_e W w hs hok hm hp hg hW)
  have SAM : Hid (∀ (W : World) (W0 : World) (v2 : Value), SlR W0 W0.heap.size 4 (ND.Is W0 W0.heap.size) v2 l → Below w.heap.size w W0 → Below W0.heap.size W0 W → Calls Tryd.prog 11 #[.agg #[v2], .agg #[v]] W fun e w' => e = .returned (.bool true) ∧ Below W.heap.size W w') := Lib.hid (fun W W0 v2 h2 hW0 hW => by
    have := ref8_any W W0 h2 (ndRead hs hW0) hW
    rw [decide_eq_true rfl] at this
    exact this)
  have RGT : Hid (∀ (W : World) (v2 : Value), Below w.heap.size w W → SlR W W.heap.size 4 (ND.Is W W.heap.size) v2 l → Calls Tryd.prog 18 #[.agg #[v2]] W fun e w' => e = .returned (.int .i64 (rightE l : Int)) ∧ Below W.heap.size W w') := Lib.hid (fun W v2 hW h2 => right_e W W h2 hok (hm.below hW) (hp.below hW) (Below.refl _ _))
  have PA0 : Hid (∀ (x : List Nat) (W : World), Bytes x → x.length ≤ 4096 → Below w.heap.size w W → Calls Tryd.prog 9 #[.string (txt x)] W (ParseIs W (parseN x))) := Lib.hid (fun x W hb hx hW => by
    have := parse_any (txt x) (by rw [txt_size]; unfold maxLen; omega) W (hm.below hW) (hg.of_block (hW.block 1 g1))
    rw [bs_txt hb] at this
    exact this)
  obtain ⟨a, c, rfl⟩ : ∃ a c, v = .slice a l.length c := by obtain ⟨a, c, h, _⟩ := hs.form; exact ⟨a, c, h⟩
  obtain ⟨hb1, hb2⟩ := print_back hok
  obtain ⟨⟨s, f⟩, hP⟩ : ∃ P, printE l = P := ⟨_, rfl⟩
  rw [hP] at hb1 hb2 PRT
  dsimp only at hb1 hb2 PRT
  obtain ⟨n, hn⟩ : ∃ n, l.length = n := ⟨_, rfl⟩
  have HN := Lib.hid hn
  rw [hn] at GRT PRT SAM ⊢
  have B0 : Hid (Below w.heap.size w (w.alloc (.cells #[.slice a n c] 24))) := Lib.hid ((Below.refl _ _).alloc (Nat.le_refl _) _)
  have K0 : Hid (Blk (w.alloc (.cells #[.slice a n c] 24)) w.heap.size 24 #[.slice a n c]) := Lib.hid (Blk.new _ _ _)
  by_cases hf : f = 0
  · subst hf
    obtain ⟨hbs, hl4, es, he, hes, hr⟩ := hb2 rfl
    have hne : es.length = n := by rw [← hn, ← hes, List.length_map]
    have PAR : Hid (∀ W, Below w.heap.size w W → Calls Tryd.prog 9 #[.string (txt s)] W (ParseIs W (es, 0, 0))) := Lib.hid (fun W hW => by
      have := PA0.out s W hbs hl4 hW
      rw [he] at this
      exact this)
    rw [hr] at RGT
    subst hes
    have HNE := Lib.hid hne
    clear hs hok hm hp hg g1 hb1 hb2 hP hn hbs hl4 he hr hne PA0
    go_enter Tryd.func5, Tryd.ntmps5
    go_wp2_with (first
    | (go_at_call 20
       refine (AWK.out _ B0.out).mono ?_
       rintro e w1 ⟨rfl, b1⟩
       have B1 := Lib.hid (B0.out.trans (b1.mono B0.out.size))
       have K1 := Lib.hid (K0.out.below b1 K0.out.lt)
       have e1 : w1.cell? ⟨w.heap.size, 0, none⟩ = some (.slice a n c) := K1.out.cell (i := 0) rfl
       clear b1)
    | (go_at_call 12
       refine (GRT.out _ B1.out).mono ?_
       rintro e w2 ⟨⟨g, rfl⟩, b2⟩
       have B2 := Lib.hid (B1.out.trans (b2.mono B1.out.size))
       have K2 := Lib.hid (K1.out.below b2 K1.out.lt)
       have e2 : w2.cell? ⟨w.heap.size, 0, none⟩ = some (.slice a n c) := K2.out.cell (i := 0) rfl
       clear b2
       cases g)
    | (go_at_call 14
       refine (PRT.out _ B2.out).mono ?_
       rintro e w3 ⟨rfl, b3⟩
       have B3 := Lib.hid (B2.out.trans (b3.mono B2.out.size))
       have K3 := Lib.hid (K2.out.below b3 K2.out.lt)
       clear b3)
    | (go_at_call 9
       refine (PAR.out _ B3.out).mono ?_
       rintro e w4 ⟨v4, rfl, h4, b4⟩
       obtain ⟨a4, c4, hv4, _⟩ := h4.form
       subst hv4
       rw [HNE.out]
       have S4 := Lib.hid (HNE.out ▸ (h4.map_ EN.nd (fun x y h => ENode.nd h)) : SlR w4 w4.heap.size 4 (ND.Is w4 w4.heap.size) (.slice a4 n c4) (es.map EN.nd))
       have B4 := Lib.hid (B3.out.trans (b4.mono B3.out.size))
       have k4 := K3.out.below b4 K3.out.lt
       have e4 : w4.cell? ⟨w.heap.size, 0, none⟩ = some (.slice a n c) := k4.cell (i := 0) rfl
       have lw := k4.lt
       have K4 := Lib.hid (k4.alloc (.cells #[.slice a4 n c4] 24))
       have BA := Lib.hid (B4.out.alloc B4.out.size (.cells #[.slice a4 n c4] 24))
       have BX := Lib.hid ((Below.refl w4.heap.size w4).alloc (Nat.le_refl _) (.cells #[.slice a4 n c4] 24))
       clear h4 b4 k4)
    | (go_at_call 11
       refine (SAM.out _ _ _ (ndRead S4.out BX.out) BA.out (Below.refl _ _)).mono ?_
       rintro e w5 ⟨rfl, b5⟩
       have B5 := Lib.hid (BA.out.trans (b5.mono BA.out.size))
       have KX : w5.cell? ⟨w4.heap.size, 0, none⟩ = some (.slice a4 n c4) := (((Blk.new w4 24 #[.slice a4 n c4]).below b5 (by simp))).cell (i := 0) rfl
       have BX5 := Lib.hid (BX.out.trans (b5.mono BX.out.size))
       clear b5)
    | (go_at_call 18
       refine (RGT.out _ _ B5.out (ndRead S4.out BX5.out)).mono ?_
       rintro e w6 ⟨rfl, b6⟩
       have B6 := Lib.hid (B5.out.trans (b6.mono B5.out.size))
       clear b6))
    · go_ret
      exact ⟨rfl, B6.out⟩
    · go_ret
      exact ⟨rfl, B2.out⟩
  · obtain rfl : s = [] := hb1 hf
    have hz : (txt [] : ByteArray) = ⟨#[]⟩ := rfl
    rw [hz] at PRT
    have i1 : ((f : Int) != 0) = true := by simpa using hf
    have i2 : ((f : Int) == 0) = false := by simpa using hf
    clear hs hok hm hp hg g1 hb1 hb2 hP hn hf hz PA0 SAM RGT
    go_enter Tryd.func5, Tryd.ntmps5
    go_wp2_with (first
    | (go_at_call 20
       refine (AWK.out _ B0.out).mono ?_
       rintro e w1 ⟨rfl, b1⟩
       have B1 := Lib.hid (B0.out.trans (b1.mono B0.out.size))
       have K1 := Lib.hid (K0.out.below b1 K0.out.lt)
       have e1 : w1.cell? ⟨w.heap.size, 0, none⟩ = some (.slice a n c) := K1.out.cell (i := 0) rfl
       clear b1)
    | (go_at_call 12
       refine (GRT.out _ B1.out).mono ?_
       rintro e w2 ⟨⟨g, rfl⟩, b2⟩
       have B2 := Lib.hid (B1.out.trans (b2.mono B1.out.size))
       have K2 := Lib.hid (K1.out.below b2 K1.out.lt)
       have e2 : w2.cell? ⟨w.heap.size, 0, none⟩ = some (.slice a n c) := K2.out.cell (i := 0) rfl
       clear b2
       cases g)
    | (go_at_call 14
       refine (PRT.out _ B2.out).mono ?_
       rintro e w3 ⟨rfl, b3⟩
       have B3 := Lib.hid (B2.out.trans (b3.mono B2.out.size))
       have K3 := Lib.hid (K2.out.below b3 K2.out.lt)
       clear b3))
    · go_ret
      exact ⟨rfl, B3.out⟩
    · go_ret
      exact ⟨rfl, B2.out⟩
end Go.Proofs.YtlenenfgedgmhaaDoor
