/- The law's walk: 'topiarylaw08.ExprBrackets' returns true whatever the text; the variables hold what the texts lay. -/
import Derived.Test.YtlenenfgedgmhaaDoorBr4
import Derived.Test.YtlenenfgedgmhaaDoorAwk
import Derived.Test.YtlenenfgedgmhaaDoorSame8
namespace Go.Proofs.YtlenenfgedgmhaaDoor
set_option linter.unusedSimpArgs false
set_option linter.unusedVariables false
open Go.RowKit

theorem readE' {X Y : World} {v : Value} {l : List EN} (h : SlR X X.heap.size 4 (ENode.Is X X.heap.size) v l) (hb : Below X.heap.size X Y) : SlR Y Y.heap.size 4 (ENode.Is Y Y.heap.size) v l := by
  have h1 := h.below hb
  obtain ⟨a, c, e1, e2, e3, e4⟩ := h1
  refine ⟨a, c, e1, e2, e3, fun hl => ?_⟩
  obtain ⟨b, off, k1, k2, k3⟩ := e4 hl
  refine ⟨b, off, k1, Nat.lt_of_lt_of_le k2 hb.size, fun i y hy => ?_⟩
  obtain ⟨x, m1, m2, m3⟩ := k3 i y hy
  obtain ⟨kv, n1, n2⟩ := m2
  exact ⟨x, m1, ⟨kv, n1, (n2.below hb).more hb.size⟩, m3⟩
set_option maxRecDepth 100000 in
set_option maxHeartbeats 40000000 in
theorem brackets_walk (s : ByteArray) (hss : s.size ≤ 140737488355328) (w : World) (hm : Marks w) (hp : Pow w) (hg : Signs w) :
    Calls Tryd.prog 7 #[.string s] w fun e w' => e = .returned (.bool true) ∧ Below w.heap.size w w' := by
  have AW := Lib.hid (awake_any w hm hp hg)
  have g1 : 1 < w.heap.size := by
    obtain ⟨_, _, h⟩ := signs_block hg
    rcases Nat.lt_or_ge 1 w.heap.size with h0 | h0
    · exact h0
    · rw [Array.getElem?_eq_none h0] at h; cases h
  have SC : Hid (∀ (x : ByteArray) (W : World), x.size ≤ maxLen → Below w.heap.size w W → Calls Tryd.prog 9 #[.string x] W (ParseIs W (parseN (bs x)))) := Lib.hid (fun x W hx hW => parse_any x hx W (hm.below hW) (hg.of_block (hW.block 1 g1)))
  obtain ⟨n, hn⟩ : ∃ n, s.size = n := ⟨_, rfl⟩
  have hln : (bs s).length = n := by rw [bs_len, hn]
  have hn' : (s.size : Int) = (n : Int) := by rw [hn]
  have hbr := brackets_law (bs_bytes s)
  have hcl := cut_law (bs_bytes s)
  rw [hln] at hbr hcl
  have hcat : bs (⟨#[40]⟩ ++ s ++ ⟨#[41]⟩) = 40 :: (bs s ++ [41]) := by rw [bs_append, bs_append]; rfl
  obtain ⟨P, hP⟩ : ∃ P, parseN (bs s) = P := ⟨_, rfl⟩
  obtain ⟨Q, hQ⟩ : ∃ Q, parseN (40 :: (bs s ++ [41])) = Q := ⟨_, rfl⟩
  have SP : Hid (∀ W, Below w.heap.size w W → Calls Tryd.prog 9 #[.string s] W (ParseIs W P)) := Lib.hid (fun W hW => hP ▸ SC.out s W (by unfold maxLen; omega) hW)
  have SQ : Hid (n + 2 ≤ 4096 → ∀ W, Below w.heap.size w W → Calls Tryd.prog 9 #[.string (⟨#[40]⟩ ++ s ++ ⟨#[41]⟩)] W (ParseIs W Q)) := Lib.hid (fun h W hW => by
    have := SC.out (⟨#[40]⟩ ++ s ++ ⟨#[41]⟩) W (by rw [← bs_len, hcat, List.length_cons, List.length_append, bs_len, hn, List.length_singleton]; unfold maxLen; omega) hW
    rw [hcat, hQ] at this
    exact this)
  rw [hP] at hbr hcl
  rw [hQ] at hbr
  obtain ⟨es, at_, er⟩ := P
  obtain ⟨es2, at2, er2⟩ := Q
  dsimp only at hbr hcl
  have tok1 : True := trivial
  have tok2 : True := trivial
  have tok3 : True := trivial
  rw [hn] at hss
  have Hn := Lib.hid hn
  obtain ⟨n1, hn1⟩ : ∃ z, es.length = z := ⟨_, rfl⟩
  obtain ⟨n2, hn2⟩ : ∃ z, es2.length = z := ⟨_, rfl⟩
  have HL1 := Lib.hid hn1
  have HL2 := Lib.hid hn2
  clear hm hp hg g1 hP hQ hln hn hcat hn1 hn2
  have hcut : er = 80 → ∃ U : List EN × Nat × Nat, at_ ≤ n ∧ (U.2.2 ≠ 80 ∨ U.2.1 = at_) ∧ Hid (∀ W, Below w.heap.size w W → Calls Tryd.prog 9 #[.string (s.extract 0 at_)] W (ParseIs W U)) := fun h => by
    obtain ⟨g1, g2⟩ := hcl h
    have hcut : bs (s.extract 0 at_) = (bs s).take at_ := by rw [bs_extract, List.drop_zero]
    have hcs : (s.extract 0 at_).size = at_ := by rw [← bs_len, hcut, List.length_take, bs_len, Hn.out]; omega
    refine ⟨_, g1, g2, Lib.hid (fun W hW => ?_)⟩
    have := SC.out (s.extract 0 at_) W (by rw [hcs]; unfold maxLen; omega) hW
    rw [hcut] at this
    exact this
  clear hcl
  have hz : ((0 : Nat) : Int) = 0 := rfl
  by_cases h2 : n + 2 ≤ 4096
  · have d2 : decide ((n : Int) + 2 ≤ 4096) = true := by simp only [decide_eq_true_eq]; omega
    obtain ⟨p1, p2, p3⟩ := hbr h2
    by_cases h0 : er = 0
    · subst h0
      have e := p1 rfl
      injection e with e1 e
      injection e with e2 e3
      subst e1 e2 e3
      have q := HL1.out.symm.trans HL2.out
      subst q
      clear p1 p2 p3 hbr hcut
      go_enter Tryd.func7, Tryd.ntmps7
      go_wp2_with (first
    | (go_at_call 20
       refine AW.out.mono ?_
       rintro e w0 ⟨rfl, b0⟩
       have B0 := Lib.hid b0
       clear b0)
    | (go_at_call 9
       have _t := tok1
       refine (SP.out _ B0.out).mono ?_
       rintro e w1 ⟨v1, rfl, h1, b1⟩
       obtain ⟨a1, c1, hv1, _⟩ := h1.form
       subst hv1
       rw [HL1.out]
       have S1 := Lib.hid (HL1.out ▸ h1 : SlR w1 w1.heap.size 4 (ENode.Is w1 w1.heap.size) (.slice a1 n1 c1) _)
       have D1 := Lib.hid b1
       have B1 : Hid (Below w.heap.size w w1) := Lib.hid ((B0.out).trans (b1.mono (B0.out).size))
       have BA1 : Hid (Below w.heap.size w (w1.alloc (.cells #[.slice a1 n1 c1] 24))) := Lib.hid (B1.out.alloc B1.out.size _)
       clear h1 b1 tok1 _t)
    | (go_at_call 9
       have _t := tok2
       refine ((SQ.out h2) _ BA1.out).mono ?_
       rintro e w2 ⟨v2, rfl, h2, b2⟩
       obtain ⟨a2, c2, hv2, _⟩ := h2.form
       subst hv2
       rw [HL2.out]
       have S2 := Lib.hid (HL2.out ▸ h2 : SlR w2 w2.heap.size 4 (ENode.Is w2 w2.heap.size) (.slice a2 n1 c2) _)
       have D2 := Lib.hid b2
       have B2 : Hid (Below w.heap.size w w2) := Lib.hid ((BA1.out).trans (b2.mono (BA1.out).size))
       have BA2 : Hid (Below w.heap.size w (w2.alloc (.cells #[.slice a2 n1 c2] 24))) := Lib.hid (B2.out.alloc B2.out.size _)
       have c0 : w2.cell? ⟨w1.heap.size, 0, none⟩ = some (.slice a1 n1 c1) := ((Blk.new w1 24 #[.slice a1 n1 c1]).below b2 (by simp)).cell rfl
       have lb : w1.heap.size < w2.heap.size := cell_lt c0
       clear h2 b2 tok2 _t)
    | (go_at_call 11
       have BX := (Below.refl w2.heap.size w2).alloc (Nat.le_refl _) (.cells #[.slice a2 n1 c2] 24)
       have BY := ((Below.refl w1.heap.size w1).alloc (Nat.le_refl _) (.cells #[.slice a1 n1 c1] 24)).trans (D2.out.mono (by rw [World.size_alloc]; omega))
       refine (ref8_same _ _ (readE' S2.out BX) (readE' (readE' S1.out BY) BX) (Below.refl _ _)).mono ?_
       rw [decide_eq_true rfl]
       rintro e w4 ⟨rfl, b4⟩
       have B4 : Hid (Below w.heap.size w w4) := Lib.hid (BA2.out.trans (b4.mono BA2.out.size))
       clear b4 BX BY))
      go_ret
      exact ⟨rfl, B4.out⟩
    by_cases h4 : er = 4
    · subst h4
      have e := p2 rfl
      injection e with e1 e
      injection e with e2 e3
      subst e1 e2 e3
      clear p1 p2 p3 hbr hcut h0
      go_enter Tryd.func7, Tryd.ntmps7
      go_wp2_with (first
    | (go_at_call 20
       refine AW.out.mono ?_
       rintro e w0 ⟨rfl, b0⟩
       have B0 := Lib.hid b0
       clear b0)
    | (go_at_call 9
       have _t := tok1
       refine (SP.out _ B0.out).mono ?_
       rintro e w1 ⟨v1, rfl, h1, b1⟩
       obtain ⟨a1, c1, hv1, _⟩ := h1.form
       subst hv1
       rw [HL1.out]
       have S1 := Lib.hid (HL1.out ▸ h1 : SlR w1 w1.heap.size 4 (ENode.Is w1 w1.heap.size) (.slice a1 n1 c1) _)
       have D1 := Lib.hid b1
       have B1 : Hid (Below w.heap.size w w1) := Lib.hid ((B0.out).trans (b1.mono (B0.out).size))
       have BA1 : Hid (Below w.heap.size w (w1.alloc (.cells #[.slice a1 n1 c1] 24))) := Lib.hid (B1.out.alloc B1.out.size _)
       clear h1 b1 tok1 _t)
    | (go_at_call 9
       have _t := tok2
       refine ((SQ.out h2) _ BA1.out).mono ?_
       rintro e w2 ⟨v2, rfl, h2, b2⟩
       obtain ⟨a2, c2, hv2, _⟩ := h2.form
       subst hv2
       rw [HL2.out]
       have S2 := Lib.hid (HL2.out ▸ h2 : SlR w2 w2.heap.size 4 (ENode.Is w2 w2.heap.size) (.slice a2 n2 c2) _)
       have D2 := Lib.hid b2
       have B2 : Hid (Below w.heap.size w w2) := Lib.hid ((BA1.out).trans (b2.mono (BA1.out).size))
       have BA2 : Hid (Below w.heap.size w (w2.alloc (.cells #[.slice a2 n2 c2] 24))) := Lib.hid (B2.out.alloc B2.out.size _)
       have c0 : w2.cell? ⟨w1.heap.size, 0, none⟩ = some (.slice a1 n1 c1) := ((Blk.new w1 24 #[.slice a1 n1 c1]).below b2 (by simp)).cell rfl
       have lb : w1.heap.size < w2.heap.size := cell_lt c0
       clear h2 b2 tok2 _t))
      go_ret
      exact ⟨rfl, BA2.out⟩
    have i1 : ((er : Int) == 0) = false := by simp; omega
    have i2 : ((er : Int) != 0) = true := by simp; omega
    have i3 : ((er : Int) == 4) = false := by simp; omega
    by_cases h8 : er = 80
    · subst h8
      obtain ⟨⟨es3, at3, er3⟩, u1, u2, SU⟩ := hcut rfl
      dsimp only at u2
      obtain ⟨n3, hn3⟩ : ∃ z, es3.length = z := ⟨_, rfl⟩
      have HL3 := Lib.hid hn3
      have e1 : decide ((at_ : Int) < 0) = false := by simp only [decide_eq_false_iff_not]; omega
      have e2 : decide ((n : Int) < (at_ : Int)) = false := by simp; omega
      have e3 : decide (n < at_) = false := by simp; omega
      clear p1 p2 p3 hbr hcut h0 h4 hn3
      have two : ∀ b : Bool, ((er2 : Int) == 0) = b → Calls Tryd.prog 7 #[.string s] w fun e w' => e = .returned (.bool true) ∧ Below w.heap.size w w' := by
        intro b hb
        by_cases hu : er3 = 80
        · subst hu
          have hu2 : at3 = at_ := by rcases u2 with h | h; exact absurd rfl h; exact h
          subst hu2
          have e4 : ((at3 : Int) == (at3 : Int)) = true := by simp
          clear u2
          cases b
          · go_enter Tryd.func7, Tryd.ntmps7
            go_wp2_with (first
    | (go_at_call 20
       refine AW.out.mono ?_
       rintro e w0 ⟨rfl, b0⟩
       have B0 := Lib.hid b0
       clear b0)
    | (go_at_call 9
       have _t := tok1
       refine (SP.out _ B0.out).mono ?_
       rintro e w1 ⟨v1, rfl, h1, b1⟩
       obtain ⟨a1, c1, hv1, _⟩ := h1.form
       subst hv1
       rw [HL1.out]
       have S1 := Lib.hid (HL1.out ▸ h1 : SlR w1 w1.heap.size 4 (ENode.Is w1 w1.heap.size) (.slice a1 n1 c1) _)
       have D1 := Lib.hid b1
       have B1 : Hid (Below w.heap.size w w1) := Lib.hid ((B0.out).trans (b1.mono (B0.out).size))
       have BA1 : Hid (Below w.heap.size w (w1.alloc (.cells #[.slice a1 n1 c1] 24))) := Lib.hid (B1.out.alloc B1.out.size _)
       clear h1 b1 tok1 _t)
    | (go_at_call 9
       have _t := tok2
       refine ((SQ.out h2) _ BA1.out).mono ?_
       rintro e w2 ⟨v2, rfl, h2, b2⟩
       obtain ⟨a2, c2, hv2, _⟩ := h2.form
       subst hv2
       rw [HL2.out]
       have S2 := Lib.hid (HL2.out ▸ h2 : SlR w2 w2.heap.size 4 (ENode.Is w2 w2.heap.size) (.slice a2 n2 c2) _)
       have D2 := Lib.hid b2
       have B2 : Hid (Below w.heap.size w w2) := Lib.hid ((BA1.out).trans (b2.mono (BA1.out).size))
       have BA2 : Hid (Below w.heap.size w (w2.alloc (.cells #[.slice a2 n2 c2] 24))) := Lib.hid (B2.out.alloc B2.out.size _)
       have c0 : w2.cell? ⟨w1.heap.size, 0, none⟩ = some (.slice a1 n1 c1) := ((Blk.new w1 24 #[.slice a1 n1 c1]).below b2 (by simp)).cell rfl
       have lb : w1.heap.size < w2.heap.size := cell_lt c0
       clear h2 b2 tok2 _t)
    | (go_at_call 9
       have _t := tok3
       refine (SU.out _ BA2.out).mono ?_
       rintro e w3 ⟨v3, rfl, h3, b3⟩
       obtain ⟨a3, c3, hv3, _⟩ := h3.form
       subst hv3
       rw [HL3.out]
       have S3 := Lib.hid (HL3.out ▸ h3 : SlR w3 w3.heap.size 4 (ENode.Is w3 w3.heap.size) (.slice a3 n3 c3) _)
       have D3 := Lib.hid b3
       have B3 : Hid (Below w.heap.size w w3) := Lib.hid ((BA2.out).trans (b3.mono (BA2.out).size))
       have BA3 : Hid (Below w.heap.size w (w3.alloc (.cells #[.slice a3 n3 c3] 24))) := Lib.hid (B3.out.alloc B3.out.size _)
       clear h3 b3 tok3 _t))
            go_ret
            exact ⟨rfl, BA3.out⟩
          · go_enter Tryd.func7, Tryd.ntmps7
            go_wp2_with (first
    | (go_at_call 20
       refine AW.out.mono ?_
       rintro e w0 ⟨rfl, b0⟩
       have B0 := Lib.hid b0
       clear b0)
    | (go_at_call 9
       have _t := tok1
       refine (SP.out _ B0.out).mono ?_
       rintro e w1 ⟨v1, rfl, h1, b1⟩
       obtain ⟨a1, c1, hv1, _⟩ := h1.form
       subst hv1
       rw [HL1.out]
       have S1 := Lib.hid (HL1.out ▸ h1 : SlR w1 w1.heap.size 4 (ENode.Is w1 w1.heap.size) (.slice a1 n1 c1) _)
       have D1 := Lib.hid b1
       have B1 : Hid (Below w.heap.size w w1) := Lib.hid ((B0.out).trans (b1.mono (B0.out).size))
       have BA1 : Hid (Below w.heap.size w (w1.alloc (.cells #[.slice a1 n1 c1] 24))) := Lib.hid (B1.out.alloc B1.out.size _)
       clear h1 b1 tok1 _t)
    | (go_at_call 9
       have _t := tok2
       refine ((SQ.out h2) _ BA1.out).mono ?_
       rintro e w2 ⟨v2, rfl, h2, b2⟩
       obtain ⟨a2, c2, hv2, _⟩ := h2.form
       subst hv2
       rw [HL2.out]
       have S2 := Lib.hid (HL2.out ▸ h2 : SlR w2 w2.heap.size 4 (ENode.Is w2 w2.heap.size) (.slice a2 n2 c2) _)
       have D2 := Lib.hid b2
       have B2 : Hid (Below w.heap.size w w2) := Lib.hid ((BA1.out).trans (b2.mono (BA1.out).size))
       have BA2 : Hid (Below w.heap.size w (w2.alloc (.cells #[.slice a2 n2 c2] 24))) := Lib.hid (B2.out.alloc B2.out.size _)
       have c0 : w2.cell? ⟨w1.heap.size, 0, none⟩ = some (.slice a1 n1 c1) := ((Blk.new w1 24 #[.slice a1 n1 c1]).below b2 (by simp)).cell rfl
       have lb : w1.heap.size < w2.heap.size := cell_lt c0
       clear h2 b2 tok2 _t)
    | (go_at_call 9
       have _t := tok3
       refine (SU.out _ BA2.out).mono ?_
       rintro e w3 ⟨v3, rfl, h3, b3⟩
       obtain ⟨a3, c3, hv3, _⟩ := h3.form
       subst hv3
       rw [HL3.out]
       have S3 := Lib.hid (HL3.out ▸ h3 : SlR w3 w3.heap.size 4 (ENode.Is w3 w3.heap.size) (.slice a3 n3 c3) _)
       have D3 := Lib.hid b3
       have B3 : Hid (Below w.heap.size w w3) := Lib.hid ((BA2.out).trans (b3.mono (BA2.out).size))
       have BA3 : Hid (Below w.heap.size w (w3.alloc (.cells #[.slice a3 n3 c3] 24))) := Lib.hid (B3.out.alloc B3.out.size _)
       clear h3 b3 tok3 _t))
            go_ret
            exact ⟨rfl, BA3.out⟩
        · have e4 : ((er3 : Int) != 80) = true := by simp; omega
          clear u2 hu
          cases b
          · go_enter Tryd.func7, Tryd.ntmps7
            go_wp2_with (first
    | (go_at_call 20
       refine AW.out.mono ?_
       rintro e w0 ⟨rfl, b0⟩
       have B0 := Lib.hid b0
       clear b0)
    | (go_at_call 9
       have _t := tok1
       refine (SP.out _ B0.out).mono ?_
       rintro e w1 ⟨v1, rfl, h1, b1⟩
       obtain ⟨a1, c1, hv1, _⟩ := h1.form
       subst hv1
       rw [HL1.out]
       have S1 := Lib.hid (HL1.out ▸ h1 : SlR w1 w1.heap.size 4 (ENode.Is w1 w1.heap.size) (.slice a1 n1 c1) _)
       have D1 := Lib.hid b1
       have B1 : Hid (Below w.heap.size w w1) := Lib.hid ((B0.out).trans (b1.mono (B0.out).size))
       have BA1 : Hid (Below w.heap.size w (w1.alloc (.cells #[.slice a1 n1 c1] 24))) := Lib.hid (B1.out.alloc B1.out.size _)
       clear h1 b1 tok1 _t)
    | (go_at_call 9
       have _t := tok2
       refine ((SQ.out h2) _ BA1.out).mono ?_
       rintro e w2 ⟨v2, rfl, h2, b2⟩
       obtain ⟨a2, c2, hv2, _⟩ := h2.form
       subst hv2
       rw [HL2.out]
       have S2 := Lib.hid (HL2.out ▸ h2 : SlR w2 w2.heap.size 4 (ENode.Is w2 w2.heap.size) (.slice a2 n2 c2) _)
       have D2 := Lib.hid b2
       have B2 : Hid (Below w.heap.size w w2) := Lib.hid ((BA1.out).trans (b2.mono (BA1.out).size))
       have BA2 : Hid (Below w.heap.size w (w2.alloc (.cells #[.slice a2 n2 c2] 24))) := Lib.hid (B2.out.alloc B2.out.size _)
       have c0 : w2.cell? ⟨w1.heap.size, 0, none⟩ = some (.slice a1 n1 c1) := ((Blk.new w1 24 #[.slice a1 n1 c1]).below b2 (by simp)).cell rfl
       have lb : w1.heap.size < w2.heap.size := cell_lt c0
       clear h2 b2 tok2 _t)
    | (go_at_call 9
       have _t := tok3
       refine (SU.out _ BA2.out).mono ?_
       rintro e w3 ⟨v3, rfl, h3, b3⟩
       obtain ⟨a3, c3, hv3, _⟩ := h3.form
       subst hv3
       rw [HL3.out]
       have S3 := Lib.hid (HL3.out ▸ h3 : SlR w3 w3.heap.size 4 (ENode.Is w3 w3.heap.size) (.slice a3 n3 c3) _)
       have D3 := Lib.hid b3
       have B3 : Hid (Below w.heap.size w w3) := Lib.hid ((BA2.out).trans (b3.mono (BA2.out).size))
       have BA3 : Hid (Below w.heap.size w (w3.alloc (.cells #[.slice a3 n3 c3] 24))) := Lib.hid (B3.out.alloc B3.out.size _)
       clear h3 b3 tok3 _t))
            go_ret
            exact ⟨rfl, BA3.out⟩
          · go_enter Tryd.func7, Tryd.ntmps7
            go_wp2_with (first
    | (go_at_call 20
       refine AW.out.mono ?_
       rintro e w0 ⟨rfl, b0⟩
       have B0 := Lib.hid b0
       clear b0)
    | (go_at_call 9
       have _t := tok1
       refine (SP.out _ B0.out).mono ?_
       rintro e w1 ⟨v1, rfl, h1, b1⟩
       obtain ⟨a1, c1, hv1, _⟩ := h1.form
       subst hv1
       rw [HL1.out]
       have S1 := Lib.hid (HL1.out ▸ h1 : SlR w1 w1.heap.size 4 (ENode.Is w1 w1.heap.size) (.slice a1 n1 c1) _)
       have D1 := Lib.hid b1
       have B1 : Hid (Below w.heap.size w w1) := Lib.hid ((B0.out).trans (b1.mono (B0.out).size))
       have BA1 : Hid (Below w.heap.size w (w1.alloc (.cells #[.slice a1 n1 c1] 24))) := Lib.hid (B1.out.alloc B1.out.size _)
       clear h1 b1 tok1 _t)
    | (go_at_call 9
       have _t := tok2
       refine ((SQ.out h2) _ BA1.out).mono ?_
       rintro e w2 ⟨v2, rfl, h2, b2⟩
       obtain ⟨a2, c2, hv2, _⟩ := h2.form
       subst hv2
       rw [HL2.out]
       have S2 := Lib.hid (HL2.out ▸ h2 : SlR w2 w2.heap.size 4 (ENode.Is w2 w2.heap.size) (.slice a2 n2 c2) _)
       have D2 := Lib.hid b2
       have B2 : Hid (Below w.heap.size w w2) := Lib.hid ((BA1.out).trans (b2.mono (BA1.out).size))
       have BA2 : Hid (Below w.heap.size w (w2.alloc (.cells #[.slice a2 n2 c2] 24))) := Lib.hid (B2.out.alloc B2.out.size _)
       have c0 : w2.cell? ⟨w1.heap.size, 0, none⟩ = some (.slice a1 n1 c1) := ((Blk.new w1 24 #[.slice a1 n1 c1]).below b2 (by simp)).cell rfl
       have lb : w1.heap.size < w2.heap.size := cell_lt c0
       clear h2 b2 tok2 _t)
    | (go_at_call 9
       have _t := tok3
       refine (SU.out _ BA2.out).mono ?_
       rintro e w3 ⟨v3, rfl, h3, b3⟩
       obtain ⟨a3, c3, hv3, _⟩ := h3.form
       subst hv3
       rw [HL3.out]
       have S3 := Lib.hid (HL3.out ▸ h3 : SlR w3 w3.heap.size 4 (ENode.Is w3 w3.heap.size) (.slice a3 n3 c3) _)
       have D3 := Lib.hid b3
       have B3 : Hid (Below w.heap.size w w3) := Lib.hid ((BA2.out).trans (b3.mono (BA2.out).size))
       have BA3 : Hid (Below w.heap.size w (w3.alloc (.cells #[.slice a3 n3 c3] 24))) := Lib.hid (B3.out.alloc B3.out.size _)
       clear h3 b3 tok3 _t))
            go_ret
            exact ⟨rfl, BA3.out⟩
      exact two _ rfl
    · have hne := p3 h0 h8
      have i4 : ((er2 : Int) == 0) = false := by simp; omega
      have i5 : ((er : Int) != 80) = true := by simp; omega
      clear p1 p2 p3 hbr hcut h0 h4 h8 hne
      go_enter Tryd.func7, Tryd.ntmps7
      go_wp2_with (first
    | (go_at_call 20
       refine AW.out.mono ?_
       rintro e w0 ⟨rfl, b0⟩
       have B0 := Lib.hid b0
       clear b0)
    | (go_at_call 9
       have _t := tok1
       refine (SP.out _ B0.out).mono ?_
       rintro e w1 ⟨v1, rfl, h1, b1⟩
       obtain ⟨a1, c1, hv1, _⟩ := h1.form
       subst hv1
       rw [HL1.out]
       have S1 := Lib.hid (HL1.out ▸ h1 : SlR w1 w1.heap.size 4 (ENode.Is w1 w1.heap.size) (.slice a1 n1 c1) _)
       have D1 := Lib.hid b1
       have B1 : Hid (Below w.heap.size w w1) := Lib.hid ((B0.out).trans (b1.mono (B0.out).size))
       have BA1 : Hid (Below w.heap.size w (w1.alloc (.cells #[.slice a1 n1 c1] 24))) := Lib.hid (B1.out.alloc B1.out.size _)
       clear h1 b1 tok1 _t)
    | (go_at_call 9
       have _t := tok2
       refine ((SQ.out h2) _ BA1.out).mono ?_
       rintro e w2 ⟨v2, rfl, h2, b2⟩
       obtain ⟨a2, c2, hv2, _⟩ := h2.form
       subst hv2
       rw [HL2.out]
       have S2 := Lib.hid (HL2.out ▸ h2 : SlR w2 w2.heap.size 4 (ENode.Is w2 w2.heap.size) (.slice a2 n2 c2) _)
       have D2 := Lib.hid b2
       have B2 : Hid (Below w.heap.size w w2) := Lib.hid ((BA1.out).trans (b2.mono (BA1.out).size))
       have BA2 : Hid (Below w.heap.size w (w2.alloc (.cells #[.slice a2 n2 c2] 24))) := Lib.hid (B2.out.alloc B2.out.size _)
       have c0 : w2.cell? ⟨w1.heap.size, 0, none⟩ = some (.slice a1 n1 c1) := ((Blk.new w1 24 #[.slice a1 n1 c1]).below b2 (by simp)).cell rfl
       have lb : w1.heap.size < w2.heap.size := cell_lt c0
       clear h2 b2 tok2 _t))
      go_ret
      exact ⟨rfl, BA2.out⟩
  · have d2 : decide ((n : Int) + 2 ≤ 4096) = false := by simp only [decide_eq_false_iff_not]; omega
    have n63 : (n : Int) ≤ 9223372036854775000 := by omega
    have n0 : (0 : Int) ≤ (n : Int) := Int.natCast_nonneg _
    clear hbr
    by_cases h8 : er = 80
    · subst h8
      obtain ⟨⟨es3, at3, er3⟩, u1, u2, SU⟩ := hcut rfl
      dsimp only at u2
      obtain ⟨n3, hn3⟩ : ∃ z, es3.length = z := ⟨_, rfl⟩
      have HL3 := Lib.hid hn3
      have e1 : decide ((at_ : Int) < 0) = false := by simp only [decide_eq_false_iff_not]; omega
      have e2 : decide ((n : Int) < (at_ : Int)) = false := by simp; omega
      have e3 : decide (n < at_) = false := by simp; omega
      clear hcut hn3
      by_cases hu : er3 = 80
      · subst hu
        have hu2 : at3 = at_ := by rcases u2 with h | h; exact absurd rfl h; exact h
        subst hu2
        have e4 : ((at3 : Int) == (at3 : Int)) = true := by simp
        clear u2
        go_enter Tryd.func7, Tryd.ntmps7
        go_wp2_with (first
    | (go_at_call 20
       refine AW.out.mono ?_
       rintro e w0 ⟨rfl, b0⟩
       have B0 := Lib.hid b0
       clear b0)
    | (go_at_call 9
       have _t := tok1
       refine (SP.out _ B0.out).mono ?_
       rintro e w1 ⟨v1, rfl, h1, b1⟩
       obtain ⟨a1, c1, hv1, _⟩ := h1.form
       subst hv1
       rw [HL1.out]
       have S1 := Lib.hid (HL1.out ▸ h1 : SlR w1 w1.heap.size 4 (ENode.Is w1 w1.heap.size) (.slice a1 n1 c1) _)
       have D1 := Lib.hid b1
       have B1 : Hid (Below w.heap.size w w1) := Lib.hid ((B0.out).trans (b1.mono (B0.out).size))
       have BA1 : Hid (Below w.heap.size w (w1.alloc (.cells #[.slice a1 n1 c1] 24))) := Lib.hid (B1.out.alloc B1.out.size _)
       clear h1 b1 tok1 _t)
    | (go_at_call 9
       have _t := tok3
       refine (SU.out _ BA1.out).mono ?_
       rintro e w3 ⟨v3, rfl, h3, b3⟩
       obtain ⟨a3, c3, hv3, _⟩ := h3.form
       subst hv3
       rw [HL3.out]
       have S3 := Lib.hid (HL3.out ▸ h3 : SlR w3 w3.heap.size 4 (ENode.Is w3 w3.heap.size) (.slice a3 n3 c3) _)
       have D3 := Lib.hid b3
       have B3 : Hid (Below w.heap.size w w3) := Lib.hid ((BA1.out).trans (b3.mono (BA1.out).size))
       have BA3 : Hid (Below w.heap.size w (w3.alloc (.cells #[.slice a3 n3 c3] 24))) := Lib.hid (B3.out.alloc B3.out.size _)
       clear h3 b3 tok3 _t))
        go_ret
        exact ⟨rfl, BA3.out⟩
      · have e4 : ((er3 : Int) != 80) = true := by simp; omega
        clear u2 hu
        go_enter Tryd.func7, Tryd.ntmps7
        go_wp2_with (first
    | (go_at_call 20
       refine AW.out.mono ?_
       rintro e w0 ⟨rfl, b0⟩
       have B0 := Lib.hid b0
       clear b0)
    | (go_at_call 9
       have _t := tok1
       refine (SP.out _ B0.out).mono ?_
       rintro e w1 ⟨v1, rfl, h1, b1⟩
       obtain ⟨a1, c1, hv1, _⟩ := h1.form
       subst hv1
       rw [HL1.out]
       have S1 := Lib.hid (HL1.out ▸ h1 : SlR w1 w1.heap.size 4 (ENode.Is w1 w1.heap.size) (.slice a1 n1 c1) _)
       have D1 := Lib.hid b1
       have B1 : Hid (Below w.heap.size w w1) := Lib.hid ((B0.out).trans (b1.mono (B0.out).size))
       have BA1 : Hid (Below w.heap.size w (w1.alloc (.cells #[.slice a1 n1 c1] 24))) := Lib.hid (B1.out.alloc B1.out.size _)
       clear h1 b1 tok1 _t)
    | (go_at_call 9
       have _t := tok3
       refine (SU.out _ BA1.out).mono ?_
       rintro e w3 ⟨v3, rfl, h3, b3⟩
       obtain ⟨a3, c3, hv3, _⟩ := h3.form
       subst hv3
       rw [HL3.out]
       have S3 := Lib.hid (HL3.out ▸ h3 : SlR w3 w3.heap.size 4 (ENode.Is w3 w3.heap.size) (.slice a3 n3 c3) _)
       have D3 := Lib.hid b3
       have B3 : Hid (Below w.heap.size w w3) := Lib.hid ((BA1.out).trans (b3.mono (BA1.out).size))
       have BA3 : Hid (Below w.heap.size w (w3.alloc (.cells #[.slice a3 n3 c3] 24))) := Lib.hid (B3.out.alloc B3.out.size _)
       clear h3 b3 tok3 _t))
        go_ret
        exact ⟨rfl, BA3.out⟩
    · have i5 : ((er : Int) != 80) = true := by simp; omega
      clear hcut h8
      go_enter Tryd.func7, Tryd.ntmps7
      go_wp2_with (first
    | (go_at_call 20
       refine AW.out.mono ?_
       rintro e w0 ⟨rfl, b0⟩
       have B0 := Lib.hid b0
       clear b0)
    | (go_at_call 9
       have _t := tok1
       refine (SP.out _ B0.out).mono ?_
       rintro e w1 ⟨v1, rfl, h1, b1⟩
       obtain ⟨a1, c1, hv1, _⟩ := h1.form
       subst hv1
       rw [HL1.out]
       have S1 := Lib.hid (HL1.out ▸ h1 : SlR w1 w1.heap.size 4 (ENode.Is w1 w1.heap.size) (.slice a1 n1 c1) _)
       have D1 := Lib.hid b1
       have B1 : Hid (Below w.heap.size w w1) := Lib.hid ((B0.out).trans (b1.mono (B0.out).size))
       have BA1 : Hid (Below w.heap.size w (w1.alloc (.cells #[.slice a1 n1 c1] 24))) := Lib.hid (B1.out.alloc B1.out.size _)
       clear h1 b1 tok1 _t))
      go_ret
      exact ⟨rfl, BA1.out⟩
end Go.Proofs.YtlenenfgedgmhaaDoor
