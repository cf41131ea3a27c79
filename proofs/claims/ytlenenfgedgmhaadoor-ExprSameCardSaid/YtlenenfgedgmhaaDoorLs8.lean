/- The law's walk: 'topiarylaw08.ExprSame' returns true whatever the text; the variables hold what the texts lay. -/
import Derived.Test.YtlenenfgedgmhaaDoorRt4
import Derived.Test.YtlenenfgedgmhaaDoorAwk
import Derived.Test.YtlenenfgedgmhaaDoorSameN
namespace Go.Proofs.YtlenenfgedgmhaaDoor
set_option linter.unusedSimpArgs false
set_option linter.unusedVariables false
open Go.RowKit
theorem parse_none {s : List Nat} (h : (parseN s).2.2 ≠ 0) : (parseN s).1 = [] := by
  unfold parseN at h ⊢
  split
  · rfl
  · rename_i h0
    rw [if_neg h0] at h
    cases hp : parseT (scanN s).1 with
    | out => rfl
    | no i => rfl
    | ok t j =>
      rw [hp] at h
      simp only at h ⊢
      split at h
      · rename_i hb; rw [if_pos hb]
      · exact absurd rfl h
set_option maxRecDepth 100000 in
set_option maxHeartbeats 40000000 in
theorem same_walk (s : ByteArray) (hss : s.size ≤ maxLen) (w : World) (hm : Marks w) (hp : Pow w) (hg : Signs w) :
    Calls Tryd.prog 6 #[.string s] w fun e w' => e = .returned (.bool true) ∧ Below w.heap.size w w' := by
  have g1 : 1 < w.heap.size := by
    obtain ⟨_, _, h⟩ := signs_block hg
    rcases Nat.lt_or_ge 1 w.heap.size with h0 | h0
    · exact h0
    · rw [Array.getElem?_eq_none h0] at h; cases h
  have AWK : Hid (∀ W, Below w.heap.size w W → Calls Tryd.prog 20 #[] W fun e w' => e = .returned (.bool true) ∧ Below W.heap.size W w') := Lib.hid (fun W hW => awake_any W (hm.below hW) (hp.below hW) (hg.of_block (hW.block 1 g1)))
  have SC : Hid (∀ (x : ByteArray) (W : World), x.size ≤ maxLen → Below w.heap.size w W → Calls Tryd.prog 9 #[.string x] W (ParseIs W (parseN (bs x)))) := Lib.hid (fun x W hx hW => parse_any x hx W (hm.below hW) (hg.of_block (hW.block 1 g1)))
  have hsb := fun es he => same_back (s := bs s) (bs_bytes s) (es := es) he
  have hnone := parse_none (s := bs s)
  obtain ⟨⟨es, at_, er⟩, hP⟩ : ∃ P, parseN (bs s) = P := ⟨_, rfl⟩
  have SP : Hid (∀ W, Below w.heap.size w W → Calls Tryd.prog 9 #[.string s] W (ParseIs W (es, at_, er))) := Lib.hid (fun W hW => hP ▸ SC.out s W hss hW)
  rw [hP] at hsb hnone
  dsimp only at hsb hnone
  obtain ⟨n, hn⟩ : ∃ z, es.length = z := ⟨_, rfl⟩
  have HL := Lib.hid hn
  have tok1 : True := trivial
  have tok2 : True := trivial
  have tok3 : True := trivial
  have tok4 : True := trivial
  by_cases h0 : er = 0
  · subst h0
    obtain ⟨hr, hok, hno, hyes⟩ := hsb es rfl rfl
    have PR0 : Hid (∀ (W : World) (v2 : Value), Below w.heap.size w W → SlR W W.heap.size 4 (ND.Is W W.heap.size) v2 (es.map EN.nd) → Calls Tryd.prog 14 #[.agg #[v2]] W fun e w' => e = .returned (.tuple #[.string (txt (printE (es.map EN.nd)).1), .int .i64 ((printE (es.map EN.nd)).2 : Int)]) ∧ Below W.heap.size W w') := Lib.hid (fun W v2 hW h2 => print_e W W h2 hok (hm.below hW) (hp.below hW) (hg.of_block (hW.block 1 g1)) (Below.refl _ _))
    obtain ⟨⟨t, f⟩, hT⟩ : ∃ P, printE (es.map EN.nd) = P := ⟨_, rfl⟩
    rw [hT] at PR0 hno hyes
    dsimp only at PR0 hno hyes
    by_cases hf : f = 0
    · subst hf
      obtain ⟨tne, tb, t4, tp⟩ := hyes rfl
      have htz : (txt t).size = t.length := txt_size t
      have SQ0 := SC.out (txt t) 
      rw [bs_txt tb, tp] at SQ0
      obtain ⟨tx, htx⟩ : ∃ z, txt t = z := ⟨_, rfl⟩
      rw [htx] at PR0 SQ0 htz
      have SQ : Hid (∀ W, Below w.heap.size w W → Calls Tryd.prog 9 #[.string tx] W (ParseIs W (es, 0, 0))) := Lib.hid (fun W hW => SQ0 W (by rw [htz]; unfold maxLen; omega) hW)
      have PR := PR0
      have tpos : 0 < t.length := List.length_pos_iff.2 tne
      have d1 : decide (0 < (tx.size : Int)) = true := decide_eq_true (by omega)
      have d2 : decide (0 < tx.size) = true := decide_eq_true (by omega)
      have d4 : (tx.toList == tx.toList) = true := beq_self_eq_true _
      have HSZ : (tx.size : Int) ≤ 4096 := by omega
      clear hm hp hg g1 hsb hnone hP hn hr hok hno hyes hT PR0 SQ0 SC tne tb t4 tp htz htx tpos
      go_enter Tryd.func6, Tryd.ntmps6
      go_wp2_with (first
    | (go_at_call 20
       refine (AWK.out _ (Below.refl _ _)).mono ?_
       rintro e w1 ⟨rfl, b1⟩
       have B1 := Lib.hid b1
       clear b1)
    | (go_at_call 9
       have _t := tok1
       refine (SP.out _ B1.out).mono ?_
       rintro e w2 ⟨v2, rfl, h2, b2⟩
       obtain ⟨a2, c2, hv2, _⟩ := h2.form
       subst hv2
       rw [HL.out]
       have S2 := Lib.hid (HL.out ▸ (h2.map_ EN.nd (fun x y h => ENode.nd h)) : SlR w2 w2.heap.size 4 (ND.Is w2 w2.heap.size) (.slice a2 n c2) (es.map EN.nd))
       have B2 := Lib.hid (B1.out.trans (b2.mono B1.out.size))
       have K2 := Lib.hid (Blk.new w2 24 #[.slice a2 n c2])
       have BA2 := Lib.hid (B2.out.alloc B2.out.size (.cells #[.slice a2 n c2] 24))
       have BX2 := Lib.hid ((Below.refl w2.heap.size w2).alloc (Nat.le_refl _) (.cells #[.slice a2 n c2] 24))
       clear h2 b2 tok1 _t)
    | (go_at_call 14
       have _t := tok2
       refine (PR.out _ _ BA2.out (ndRead S2.out BX2.out)).mono ?_
       rintro e w3 ⟨rfl, b3⟩
       have B3 := Lib.hid (BA2.out.trans (b3.mono BA2.out.size))
       have BX3 := Lib.hid (BX2.out.trans (b3.mono BX2.out.size))
       have K3 := Lib.hid (K2.out.below b3 K2.out.lt)
       clear b3 tok2 _t)
    | (go_at_call 9
       have _t := tok3
       refine (SQ.out _ B3.out).mono ?_
       rintro e w4 ⟨v4, rfl, h4, b4⟩
       obtain ⟨a4, c4, hv4, _⟩ := h4.form
       subst hv4
       rw [HL.out]
       have S4 := Lib.hid (HL.out ▸ (h4.map_ EN.nd (fun x y h => ENode.nd h)) : SlR w4 w4.heap.size 4 (ND.Is w4 w4.heap.size) (.slice a4 n c4) (es.map EN.nd))
       have B4 := Lib.hid (B3.out.trans (b4.mono B3.out.size))
       have BX4 := Lib.hid (BX3.out.trans (b4.mono BX3.out.size))
       have K4 := Lib.hid ((K3.out.below b4 K3.out.lt).alloc (.cells #[.slice a4 n c4] 24))
       have J4 := Lib.hid (Blk.new w4 24 #[.slice a4 n c4])
       have BA4 := Lib.hid (B4.out.alloc B4.out.size (.cells #[.slice a4 n c4] 24))
       have BY4 := Lib.hid ((Below.refl w4.heap.size w4).alloc (Nat.le_refl _) (.cells #[.slice a4 n c4] 24))
       have BZ4 := Lib.hid (BX4.out.alloc BX4.out.size (.cells #[.slice a4 n c4] 24))
       clear h4 b4 tok3 _t)
    | (go_at_call 14
       have _t := tok4
       refine (PR.out _ _ BA4.out (ndRead S4.out BY4.out)).mono ?_
       rintro e w5 ⟨rfl, b5⟩
       have B5 := Lib.hid (BA4.out.trans (b5.mono BA4.out.size))
       have BY5 := Lib.hid (BY4.out.trans (b5.mono BY4.out.size))
       have BZ5 := Lib.hid (BZ4.out.trans (b5.mono BZ4.out.size))
       have K5 := Lib.hid (K4.out.below b5 K4.out.lt)
       have J5 := Lib.hid (J4.out.below b5 J4.out.lt)
       have e5 : w5.cell? ⟨w2.heap.size, 0, none⟩ = some (.slice a2 n c2) := K5.out.cell (i := 0) rfl
       have f5 : w5.cell? ⟨w4.heap.size, 0, none⟩ = some (.slice a4 n c4) := J5.out.cell (i := 0) rfl
       have l5 := K5.out.lt
       clear b5 tok4 _t)
    | (go_at_call 11
       have BS := Lib.hid (ref8_any w5 w5 (ndRead S4.out BY5.out) (ndRead S2.out BZ5.out) (Below.refl _ _))
       rw [decide_eq_true rfl] at BS
       refine BS.out.mono ?_
       rintro e w6 ⟨rfl, b6⟩
       have B6 := Lib.hid (B5.out.trans (b6.mono B5.out.size))
       clear b6))
      go_ret
      exact ⟨rfl, B6.out⟩
    · have hno := hno hf
      injection hno with ht hf3
      subst ht hf3
      have hz : (txt [] : ByteArray) = ⟨#[]⟩ := rfl
      rw [hz] at PR0
      have PR := PR0
      clear hm hp hg g1 hsb hnone hP hn hr hok hyes hT PR0 SC hf hz
      go_enter Tryd.func6, Tryd.ntmps6
      go_wp2_with (first
    | (go_at_call 20
       refine (AWK.out _ (Below.refl _ _)).mono ?_
       rintro e w1 ⟨rfl, b1⟩
       have B1 := Lib.hid b1
       clear b1)
    | (go_at_call 9
       have _t := tok1
       refine (SP.out _ B1.out).mono ?_
       rintro e w2 ⟨v2, rfl, h2, b2⟩
       obtain ⟨a2, c2, hv2, _⟩ := h2.form
       subst hv2
       rw [HL.out]
       have S2 := Lib.hid (HL.out ▸ (h2.map_ EN.nd (fun x y h => ENode.nd h)) : SlR w2 w2.heap.size 4 (ND.Is w2 w2.heap.size) (.slice a2 n c2) (es.map EN.nd))
       have B2 := Lib.hid (B1.out.trans (b2.mono B1.out.size))
       have K2 := Lib.hid (Blk.new w2 24 #[.slice a2 n c2])
       have BA2 := Lib.hid (B2.out.alloc B2.out.size (.cells #[.slice a2 n c2] 24))
       have BX2 := Lib.hid ((Below.refl w2.heap.size w2).alloc (Nat.le_refl _) (.cells #[.slice a2 n c2] 24))
       clear h2 b2 tok1 _t)
    | (go_at_call 14
       have _t := tok2
       refine (PR.out _ _ BA2.out (ndRead S2.out BX2.out)).mono ?_
       rintro e w3 ⟨rfl, b3⟩
       have B3 := Lib.hid (BA2.out.trans (b3.mono BA2.out.size))
       have BX3 := Lib.hid (BX2.out.trans (b3.mono BX2.out.size))
       have K3 := Lib.hid (K2.out.below b3 K2.out.lt)
       clear b3 tok2 _t))
      go_ret
      exact ⟨rfl, B3.out⟩
  · have he := hnone h0
    subst he
    have hn0 : n = 0 := by rw [← hn]; rfl
    subst hn0
    have i1 : ((er : Int) != 0) = true := by simpa using h0
    have i2 : ((er : Int) == 0) = false := by simpa using h0
    clear hm hp hg g1 hsb hnone hP hn SC h0
    go_enter Tryd.func6, Tryd.ntmps6
    go_wp2_with (first
    | (go_at_call 20
       refine (AWK.out _ (Below.refl _ _)).mono ?_
       rintro e w1 ⟨rfl, b1⟩
       have B1 := Lib.hid b1
       clear b1)
    | (go_at_call 9
       have _t := tok1
       refine (SP.out _ B1.out).mono ?_
       rintro e w2 ⟨v2, rfl, h2, b2⟩
       obtain ⟨a2, c2, hv2, _⟩ := h2.form
       subst hv2
       rw [HL.out]
       have S2 := Lib.hid (HL.out ▸ (h2.map_ EN.nd (fun x y h => ENode.nd h)) : SlR w2 w2.heap.size 4 (ND.Is w2 w2.heap.size) (.slice a2 0 c2) (([] : List EN).map EN.nd))
       have B2 := Lib.hid (B1.out.trans (b2.mono B1.out.size))
       have K2 := Lib.hid (Blk.new w2 24 #[.slice a2 0 c2])
       have BA2 := Lib.hid (B2.out.alloc B2.out.size (.cells #[.slice a2 0 c2] 24))
       have BX2 := Lib.hid ((Below.refl w2.heap.size w2).alloc (Nat.le_refl _) (.cells #[.slice a2 0 c2] 24))
       clear h2 b2 tok1 _t))
    go_ret
    exact ⟨rfl, BA2.out⟩
end Go.Proofs.YtlenenfgedgmhaaDoor
