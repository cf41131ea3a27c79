/- The reference's side, equation, rule, editor, template. -/
import Derived.Test.YtikplcpghohklaaGreatRTree
import Derived.Test.YtikplcpghohklaaGreatSmallChk
namespace Go.Proofs.YtikplcpghohklaaGreat
set_option linter.unusedSimpArgs false
set_option linter.unusedVariables false
open Go.RowKit

set_option maxRecDepth 100000 in
set_option maxHeartbeats 4000000 in
theorem r_side {l : List Side} {v : Value} (w w0 : World) (hs : SlR w0 w0.heap.size 4 (Side.Is w0 w0.heap.size) v l) (hw : Below w0.heap.size w0 w) :
    Calls Tryz.prog 184 #[v] w fun e w' => e = .returned (.int .i64 (sideE l : Int)) ∧ Below w.heap.size w w' := by
  obtain ⟨a, c, rfl⟩ : ∃ a c, v = .slice a l.length c := by obtain ⟨a, c, h, _⟩ := hs.form; exact ⟨a, c, h⟩
  have hn : l.length ≤ 9223372036854775807 := by have := hs.caps; unfold maxLen at this; omega
  obtain ⟨n, hlen⟩ : ∃ n, l.length = n := ⟨_, rfl⟩
  rw [hlen] at hs hn ⊢
  have Hlen := Lib.hid hlen
  have Hs := Lib.hid hs
  have Hw := Lib.hid hw
  clear hs hw hlen
  by_cases h64 : 64 < n
  · have hv : sideE l = 4 := by unfold sideE; rw [if_pos (by rw [Hlen.out]; exact h64)]
    rw [hv]; clear hv
    have d64 : decide (64 < (n : Int)) = true := by simp; omega
    go_enter Tryz.func184, Tryz.ntmps184
    go_wp2_with fail
    go_ret
    exact ⟨rfl, Below.refl _ _⟩
  have d64 : decide (64 < (n : Int)) = false := by simp; omega
  have hn64 : n ≤ 64 := by omega
  have HB : Hid (∀ (k : Nat) (y : Side), l[k]? = some y → badSide y = true → sideE l = 2) := by
    intro k y hy hb
    unfold sideE
    rw [if_neg (by rw [Hlen.out]; exact h64), if_pos (List.any_eq_true.2 ⟨y, List.mem_iff_getElem?.2 ⟨k, hy⟩, hb⟩)]
  have HT : Hid ((∀ (i : Nat) (y : Side), i < n → l[i]? = some y → badSide y = false) → sideE l = if treeB l = false then 2 else 0) := by
    intro hb
    unfold sideE
    rw [if_neg (by rw [Hlen.out]; exact h64), if_neg]
    rw [Bool.not_eq_true, List.any_eq_false]
    intro y hy
    obtain ⟨i, hi⟩ := List.mem_iff_getElem?.1 hy
    rw [hb i y (by rw [← Hlen.out]; exact (List.getElem?_eq_some_iff.1 hi).1) hi]
    simp
  clear h64
  go_enter Tryz.func184, Tryz.ntmps184
  go_wp2_with fail
  go_loopw [3, 4] (fun j _ wr => ∃ k : Nat, k ≤ n ∧ j = .int .i64 (k : Int) ∧ Hid (Below w.heap.size w wr) ∧ Hid (∀ (i : Nat) (y : Side), i < k → l[i]? = some y → badSide y = false)) (fun j _ _ => n - (intOf j).toNat)
  case atStart => exact ⟨0, Nat.zero_le _, rfl, Below.refl _ _, fun i y hi => by omega⟩
  case round =>
    obtain ⟨k, hk, rfl, hb, hf⟩ := hrel
    by_cases hlt : k < n
    · obtain ⟨⟨sk, sn, su, sa⟩, hd⟩ : ∃ y : Side, l[k]? = some y := get_some Hlen.out hlt
      have hw1 := Hw.out.trans (hb.out.mono Hw.out.size)
      obtain ⟨b, off, x, rfl, hbB, hxl, ⟨u, rfl, s1, f1, o1, o2, o3⟩, hx⟩ := (Hs.out.below hw1).at_ hd
      simp only at s1 f1 o1 o2 o3 hx
      obtain ⟨m, hm⟩ : ∃ m, sa.length = m := ⟨_, rfl⟩
      obtain ⟨ua, uc, rfl⟩ : ∃ a c, u = .slice a m c := by obtain ⟨a, c, h, _⟩ := s1.form; exact ⟨a, c, by rw [h, hm]⟩
      have h0 := hx 0 _ rfl
      have h1 := hx 1 _ rfl
      have h2 := hx 2 _ rfl
      have h3 := hx 3 _ rfl
      simp only [Nat.add_zero] at h0
      have Hbad : Hid (badSide ⟨sk, sn, su, sa⟩ = true → sideE l = 2) := HB.out k _ hd
      have Hgood : Hid (badSide ⟨sk, sn, su, sa⟩ = false → ∀ (i : Nat) (y : Side), i < k + 1 → l[i]? = some y → badSide y = false) := fun h => so_far1 hd h hf.out
      have hbs : badSide ⟨sk, sn, su, sa⟩ = (decide (sk < 1 ∨ 5 < sk) || (if sk = 1 then decide (sn.size ≠ 0) else !okName sn) || decide (su < 0) || (decide (su ≠ 0) && decide (sk ≠ 2)) || (decide (m ≠ 0) && decide (sk ≠ 4))) := by rw [← hm]; rfl
      have Hbs := Lib.hid hbs
      clear hd hx hxl hw1 s1 f1 o1 o3 hm hbs
      by_cases t1 : sk < 1
      · have t1' : decide (sk < 1) = true := by simpa using t1
        have hz := Hbad.out (by rw [Hbs.out]; simp [t1])
        have HZ := Lib.hid hz
        clear hz
        go_wp2_with fail
        go_ret
        exact ⟨by rw [HZ.out]; rfl, hb.out.trans (((Below.refl wr.heap.size wr).alloc (Nat.le_refl _) _).mono hb.out.size)⟩
      have t1' : decide (sk < 1) = false := by simpa using t1
      have t1b : 1 ≤ sk := by omega
      by_cases t2 : 5 < sk
      · have t2' : decide (5 < sk) = true := by simpa using t2
        have hz := Hbad.out (by rw [Hbs.out]; simp [t2])
        have HZ := Lib.hid hz
        clear hz
        go_wp2_with fail
        go_ret
        exact ⟨by rw [HZ.out]; rfl, hb.out.trans (((Below.refl wr.heap.size wr).alloc (Nat.le_refl _) _).mono hb.out.size)⟩
      have t2' : decide (5 < sk) = false := by simpa using t2
      have t2b : sk ≤ 5 := by omega
      by_cases tk : sk = 1
      · subst tk
        by_cases te : sn.size = 0
        · obtain rfl := empty_txt te
          by_cases t5 : su < 0
          · have t5' : decide (su < 0) = true := by simpa using t5
            have hz := Hbad.out (by rw [Hbs.out]; simp [t5])
            have HZ := Lib.hid hz
            clear hz
            go_wp2_with fail
            go_ret
            exact ⟨by rw [HZ.out]; rfl, hb.out.trans (((Below.refl wr.heap.size wr).alloc (Nat.le_refl _) _).mono hb.out.size)⟩
          have t5' : decide (su < 0) = false := by simpa using t5
          by_cases t6 : su = 0
          rotate_left
          · have t6' : (su != 0) = true := by simpa using t6
            have hz := Hbad.out (by rw [Hbs.out]; simp [t6])
            have HZ := Lib.hid hz
            clear hz
            go_wp2_with fail
            go_ret
            exact ⟨by rw [HZ.out]; rfl, hb.out.trans (((Below.refl wr.heap.size wr).alloc (Nat.le_refl _) _).mono hb.out.size)⟩
          subst t6
          by_cases t8 : 0 < m
          · have t8b : ¬ m = 0 := by omega
            have t8' : decide (0 < (m : Int)) = true := by simp; omega
            have hz := Hbad.out (by rw [Hbs.out]; simp [t8b])
            have HZ := Lib.hid hz
            clear hz
            go_wp2_with fail
            go_ret
            exact ⟨by rw [HZ.out]; rfl, hb.out.trans (((Below.refl wr.heap.size wr).alloc (Nat.le_refl _) _).mono hb.out.size)⟩
          have t8b : m = 0 := by omega
          have t8' : decide (0 < (m : Int)) = false := by simp; omega
          have hz := Hgood.out (by rw [Hbs.out]; first | (simp [t8b]; done) | (simp [t8b]; rfl))
          have HZ := Lib.hid hz
          clear hz
          go_wp2_with fail
          go_roundw
          case rel => exact ⟨k + 1, by omega, by go_num, hb.out.trans (((Below.refl wr.heap.size wr).alloc (Nat.le_refl _) _).mono hb.out.size), HZ.out⟩
          case measure => simp [intOf]; omega
        have te1 : ¬ sn.toList = [] := ne_empty te
        have te2 : (sn.toList == []) = false := by simpa using te1
        have hz := Hbad.out (by rw [Hbs.out]; simp [te])
        have HZ := Lib.hid hz
        clear hz
        go_wp2_with fail
        go_ret
        exact ⟨by rw [HZ.out]; rfl, hb.out.trans (((Below.refl wr.heap.size wr).alloc (Nat.le_refl _) _).mono hb.out.size)⟩
      have ek : (sk == 1) = false := by simpa using tk
      have ek' : (sk != 1) = true := by simpa using tk
      rcases hR : okName sn with _ | _
      · have RN := Lib.hid (fun W => rright_of sn o2 false hR W)
        have hz := Hbad.out (by rw [Hbs.out]; simp [tk, hR])
        have HZ := Lib.hid hz
        clear hz
        go_wp2_with (first | (go_at_call 122; with_reducible refine (RN.out _).mono ?_; rintro e w1 ⟨rfl, q1⟩; have B1 : Hid (Below wr.heap.size wr w1) := Lib.hid (((Below.refl _ _).alloc (Nat.le_refl _) _).trans (q1.below _)); obtain ⟨g1, _⟩ := bcell (q1.below (wr.heap.size + 1))))
        go_ret
        exact ⟨by rw [HZ.out]; rfl, hb.out.trans (B1.out.mono hb.out.size)⟩
      have RN := Lib.hid (fun W => rright_of sn o2 true hR W)
      by_cases t5 : su < 0
      · have t5' : decide (su < 0) = true := by simpa using t5
        have hz := Hbad.out (by rw [Hbs.out]; simp [t5])
        have HZ := Lib.hid hz
        clear hz
        go_wp2_with (first | (go_at_call 122; with_reducible refine (RN.out _).mono ?_; rintro e w1 ⟨rfl, q1⟩; have B1 : Hid (Below wr.heap.size wr w1) := Lib.hid (((Below.refl _ _).alloc (Nat.le_refl _) _).trans (q1.below _)); obtain ⟨g1, _⟩ := bcell (q1.below (wr.heap.size + 1))))
        go_ret
        exact ⟨by rw [HZ.out]; rfl, hb.out.trans (B1.out.mono hb.out.size)⟩
      have t5' : decide (su < 0) = false := by simpa using t5
      by_cases t7 : sk = 2
      · subst t7
        by_cases t8 : 0 < m
        · have t8b : ¬ m = 0 := by omega
          have t8' : decide (0 < (m : Int)) = true := by simp; omega
          have hz := Hbad.out (by rw [Hbs.out]; simp [t8b])
          have HZ := Lib.hid hz
          clear hz
          go_wp2_with (first | (go_at_call 122; with_reducible refine (RN.out _).mono ?_; rintro e w1 ⟨rfl, q1⟩; have B1 : Hid (Below wr.heap.size wr w1) := Lib.hid (((Below.refl _ _).alloc (Nat.le_refl _) _).trans (q1.below _)); obtain ⟨g1, _⟩ := bcell (q1.below (wr.heap.size + 1))))
          go_ret
          exact ⟨by rw [HZ.out]; rfl, hb.out.trans (B1.out.mono hb.out.size)⟩
        have t8b : m = 0 := by omega
        have t8' : decide (0 < (m : Int)) = false := by simp; omega
        have hz := Hgood.out (by rw [Hbs.out]; simp [hR, t8b, t5])
        have HZ := Lib.hid hz
        clear hz
        go_wp2_with (first | (go_at_call 122; with_reducible refine (RN.out _).mono ?_; rintro e w1 ⟨rfl, q1⟩; have B1 : Hid (Below wr.heap.size wr w1) := Lib.hid (((Below.refl _ _).alloc (Nat.le_refl _) _).trans (q1.below _)); obtain ⟨g1, _⟩ := bcell (q1.below (wr.heap.size + 1))))
        go_roundw
        case rel => exact ⟨k + 1, by omega, by go_num, hb.out.trans (B1.out.mono hb.out.size), HZ.out⟩
        case measure => simp [intOf]; omega
      have t7' : (sk != 2) = true := by simpa using t7
      by_cases t6 : su = 0
      rotate_left
      · have t6' : (su != 0) = true := by simpa using t6
        have hz := Hbad.out (by rw [Hbs.out]; simp [t6, t7])
        have HZ := Lib.hid hz
        clear hz
        go_wp2_with (first | (go_at_call 122; with_reducible refine (RN.out _).mono ?_; rintro e w1 ⟨rfl, q1⟩; have B1 : Hid (Below wr.heap.size wr w1) := Lib.hid (((Below.refl _ _).alloc (Nat.le_refl _) _).trans (q1.below _)); obtain ⟨g1, _⟩ := bcell (q1.below (wr.heap.size + 1))))
        go_ret
        exact ⟨by rw [HZ.out]; rfl, hb.out.trans (B1.out.mono hb.out.size)⟩
      subst t6
      by_cases t9 : sk = 4
      · subst t9
        have hz := Hgood.out (by rw [Hbs.out]; simp [hR])
        have HZ := Lib.hid hz
        clear hz
        go_wp2_with (first | (go_at_call 122; with_reducible refine (RN.out _).mono ?_; rintro e w1 ⟨rfl, q1⟩; have B1 : Hid (Below wr.heap.size wr w1) := Lib.hid (((Below.refl _ _).alloc (Nat.le_refl _) _).trans (q1.below _)); obtain ⟨g1, _⟩ := bcell (q1.below (wr.heap.size + 1))))
        go_roundw
        case rel => exact ⟨k + 1, by omega, by go_num, hb.out.trans (B1.out.mono hb.out.size), HZ.out⟩
        case measure => simp [intOf]; omega
      have t9' : (sk != 4) = true := by simpa using t9
      by_cases t8 : 0 < m
      · have t8b : ¬ m = 0 := by omega
        have t8' : decide (0 < (m : Int)) = true := by simp; omega
        have hz := Hbad.out (by rw [Hbs.out]; simp [t8b, t9])
        have HZ := Lib.hid hz
        clear hz
        go_wp2_with (first | (go_at_call 122; with_reducible refine (RN.out _).mono ?_; rintro e w1 ⟨rfl, q1⟩; have B1 : Hid (Below wr.heap.size wr w1) := Lib.hid (((Below.refl _ _).alloc (Nat.le_refl _) _).trans (q1.below _)); obtain ⟨g1, _⟩ := bcell (q1.below (wr.heap.size + 1))))
        go_ret
        exact ⟨by rw [HZ.out]; rfl, hb.out.trans (B1.out.mono hb.out.size)⟩
      have t8b : m = 0 := by omega
      have t8' : decide (0 < (m : Int)) = false := by simp; omega
      have hz := Hgood.out (by rw [Hbs.out]; simp [hR, t8b, t1, t2, tk])
      have HZ := Lib.hid hz
      clear hz
      go_wp2_with (first | (go_at_call 122; with_reducible refine (RN.out _).mono ?_; rintro e w1 ⟨rfl, q1⟩; have B1 : Hid (Below wr.heap.size wr w1) := Lib.hid (((Below.refl _ _).alloc (Nat.le_refl _) _).trans (q1.below _)); obtain ⟨g1, _⟩ := bcell (q1.below (wr.heap.size + 1))))
      go_roundw
      case rel => exact ⟨k + 1, by omega, by go_num, hb.out.trans (B1.out.mono hb.out.size), HZ.out⟩
      case measure => simp [intOf]; omega
    · have hge : n ≤ k := by omega
      clear hlt
      have hz := HT.out (fun i y hi => hf.out i y (by omega))
      have HZ := Lib.hid hz
      have HTr := Lib.hid (r_tree wr w0 Hs.out (Hw.out.trans (hb.out.mono Hw.out.size)) (by rw [Hlen.out]; omega))
      clear hz
      rcases hT : treeB l with _ | _
      · rw [hT] at HTr HZ
        clear hT
        go_wp2_with (go_at_call 209; with_reducible refine HTr.out.mono ?_; rintro e w1 ⟨rfl, b1⟩)
        go_ret
        exact ⟨by rw [HZ.out]; rfl, hb.out.trans (b1.mono hb.out.size)⟩
      · rw [hT] at HTr HZ
        clear hT
        go_wp2_with (go_at_call 209; with_reducible refine HTr.out.mono ?_; rintro e w1 ⟨rfl, b1⟩)
        go_ret
        exact ⟨by rw [HZ.out]; rfl, hb.out.trans (b1.mono hb.out.size)⟩

set_option maxRecDepth 100000 in
set_option maxHeartbeats 4000000 in
theorem r_equation (i : Nat) (y : Equation) (x : List Value) (w0 W : World) (hw : Below w0.heap.size w0 W) (hx : Equation.Is w0 w0.heap.size x y) :
    Calls Tryz.prog 127 #[.agg x.toArray, .int .i64 (i : Int)] W (ConPost (eM 256 equationE i y) W) := by
  have HW := Lib.hid hw
  obtain ⟨yc, yl, yr⟩ := y
  obtain ⟨v1, v2, rfl, s1, s2, _, _, o1⟩ := hx
  simp only at s1 s2 o1
  have S1 := Lib.hid (fun W' (h : Below w0.heap.size w0 W') => r_side W' w0 s1 h)
  have S2 := Lib.hid (fun W' (h : Below w0.heap.size w0 W') => r_side W' w0 s2 h)
  obtain ⟨a1, n1, c1, rfl⟩ := s1.form'
  obtain ⟨a2, n2, c2, rfl⟩ := s2.form'
  by_cases hi : 256 ≤ i
  · have hv : eM 256 equationE i ⟨yc, yl, yr⟩ = (0, 4) := by unfold eM; rw [if_pos hi]
    rw [hv]; clear hv
    have di : decide (256 ≤ (i : Int)) = true := by simp; omega
    clear s1 s2 hw
    go_enter Tryz.func127, Tryz.ntmps127
    go_wp2_with fail
    go_ret2
    exact ⟨⟨_, rfl, fun _ => rfl⟩, (Kept.new W _ _).low⟩
  have di : decide (256 ≤ (i : Int)) = false := by simp; omega
  have HR : Hid (eM 256 equationE i ⟨yc, yl, yr⟩ = if okName yc = false then (0, 2) else if sideE yl ≠ 0 then (1, sideE yl) else if sideE yr ≠ 0 then (2, sideE yr) else (0, 0)) := by show _ = _; unfold eM; rw [if_neg hi]; rfl
  clear s1 s2 hw
  rcases hR : okName yc with _ | _
  · have hv : eM 256 equationE i ⟨yc, yl, yr⟩ = (0, 2) := by rw [HR.out, if_pos hR]
    rw [hv]; clear hv
    have RR := Lib.hid (fun W => rright_of yc o1 false hR W)
    clear hR
    go_enter Tryz.func127, Tryz.ntmps127
    go_wp2_with (first | (go_at_call 122; with_reducible refine (RR.out _).mono ?_; rintro e w1 ⟨rfl, q1⟩; have K1 : Hid (Kept W W.heap.size 160 #[.string yc, .slice a1 n1 c1, .slice a2 n2 c2] w1) := Lib.hid ((Kept.new W _ _).step (q1.below _)); obtain ⟨g1, _⟩ := bcell (q1.below (W.heap.size + 1)); have B1 : Hid (Below W.heap.size W w1) := Lib.hid K1.out.low))
    go_ret2
    exact ⟨⟨_, rfl, fun _ => rfl⟩, B1.out⟩
  have RR := Lib.hid (fun W => rright_of yc o1 true hR W)
  obtain ⟨e1, he1⟩ : ∃ e, sideE yl = e := ⟨_, rfl⟩
  obtain ⟨e2, he2⟩ : ∃ e, sideE yr = e := ⟨_, rfl⟩
  rw [he1, he2] at HR
  rw [he1] at S1
  rw [he2] at S2
  by_cases h1 : e1 = 0
  rotate_left
  · have hv : eM 256 equationE i ⟨yc, yl, yr⟩ = (1, e1) := by rw [HR.out, if_neg (by rw [hR]; simp), if_pos h1]
    rw [hv]; clear hv
    have n1' : ¬ (e1 : Int) = 0 := by omega
    have n1b : ((e1 : Int) != 0) = true := by simpa using n1'
    clear hR he1 he2
    go_enter Tryz.func127, Tryz.ntmps127
    go_wp2_with (first | (go_at_call 122; with_reducible refine (RR.out _).mono ?_; rintro e w1 ⟨rfl, q1⟩; have K1 : Hid (Kept W W.heap.size 160 #[.string yc, .slice a1 n1 c1, .slice a2 n2 c2] w1) := Lib.hid ((Kept.new W _ _).step (q1.below _)); obtain ⟨g1, _⟩ := bcell (q1.below (W.heap.size + 1)); have B1 : Hid (Below W.heap.size W w1) := Lib.hid K1.out.low) | (go_at_call 184; with_reducible refine (S1.out _ (HW.out.trans (B1.out.mono HW.out.size))).mono ?_; rintro e w2 ⟨rfl, b2⟩; have K2 : Hid (Kept W W.heap.size 160 #[.string yc, .slice a1 n1 c1, .slice a2 n2 c2] w2) := Lib.hid (K1.out.step b2); obtain ⟨g2, _⟩ := bcell (b2.mono K1.out.blk.lt); have B2 : Hid (Below W.heap.size W w2) := Lib.hid K2.out.low))
    go_ret2
    exact ⟨⟨_, rfl, fun _ => rfl⟩, B2.out⟩
  subst h1
  by_cases h2 : e2 = 0
  · subst h2
    have hv : eM 256 equationE i ⟨yc, yl, yr⟩ = (0, 0) := by rw [HR.out, if_neg (by rw [hR]; simp), if_neg (by simp), if_neg (by simp)]
    rw [hv]; clear hv
    clear hR he1 he2
    go_enter Tryz.func127, Tryz.ntmps127
    go_wp2_with (first | (go_at_call 122; with_reducible refine (RR.out _).mono ?_; rintro e w1 ⟨rfl, q1⟩; have K1 : Hid (Kept W W.heap.size 160 #[.string yc, .slice a1 n1 c1, .slice a2 n2 c2] w1) := Lib.hid ((Kept.new W _ _).step (q1.below _)); obtain ⟨g1, _⟩ := bcell (q1.below (W.heap.size + 1)); have B1 : Hid (Below W.heap.size W w1) := Lib.hid K1.out.low) | (go_at_call 184; with_reducible refine (S1.out _ (HW.out.trans (B1.out.mono HW.out.size))).mono ?_; rintro e w2 ⟨rfl, b2⟩; have K2 : Hid (Kept W W.heap.size 160 #[.string yc, .slice a1 n1 c1, .slice a2 n2 c2] w2) := Lib.hid (K1.out.step b2); obtain ⟨g2, _⟩ := bcell (b2.mono K1.out.blk.lt); have B2 : Hid (Below W.heap.size W w2) := Lib.hid K2.out.low) | (go_at_call 184; with_reducible refine (S2.out _ (HW.out.trans (B2.out.mono HW.out.size))).mono ?_; rintro e w3 ⟨rfl, b3⟩; have B3 : Hid (Below W.heap.size W w3) := Lib.hid (K2.out.step b3).low))
    go_ret2
    exact ⟨⟨_, rfl, fun h => absurd rfl h⟩, B3.out⟩
  · have hv : eM 256 equationE i ⟨yc, yl, yr⟩ = (2, e2) := by rw [HR.out, if_neg (by rw [hR]; simp), if_neg (by simp), if_pos h2]
    rw [hv]; clear hv
    have n1' : ¬ (e2 : Int) = 0 := by omega
    have n1b : ((e2 : Int) != 0) = true := by simpa using n1'
    clear hR he1 he2
    go_enter Tryz.func127, Tryz.ntmps127
    go_wp2_with (first | (go_at_call 122; with_reducible refine (RR.out _).mono ?_; rintro e w1 ⟨rfl, q1⟩; have K1 : Hid (Kept W W.heap.size 160 #[.string yc, .slice a1 n1 c1, .slice a2 n2 c2] w1) := Lib.hid ((Kept.new W _ _).step (q1.below _)); obtain ⟨g1, _⟩ := bcell (q1.below (W.heap.size + 1)); have B1 : Hid (Below W.heap.size W w1) := Lib.hid K1.out.low) | (go_at_call 184; with_reducible refine (S1.out _ (HW.out.trans (B1.out.mono HW.out.size))).mono ?_; rintro e w2 ⟨rfl, b2⟩; have K2 : Hid (Kept W W.heap.size 160 #[.string yc, .slice a1 n1 c1, .slice a2 n2 c2] w2) := Lib.hid (K1.out.step b2); obtain ⟨g2, _⟩ := bcell (b2.mono K1.out.blk.lt); have B2 : Hid (Below W.heap.size W w2) := Lib.hid K2.out.low) | (go_at_call 184; with_reducible refine (S2.out _ (HW.out.trans (B2.out.mono HW.out.size))).mono ?_; rintro e w3 ⟨rfl, b3⟩; have B3 : Hid (Below W.heap.size W w3) := Lib.hid (K2.out.step b3).low))
    go_ret2
    exact ⟨⟨_, rfl, fun _ => rfl⟩, B3.out⟩

set_option maxRecDepth 100000 in
set_option maxHeartbeats 4000000 in
theorem r_rule {l : Language} {x : List Value} (w w0 : World) (k : Nat) (y : Rule) (hx : Language.Is w0 w0.heap.size x l) (hw : Below w0.heap.size w0 w) (hd : l.rules[k]? = some y) :
    Calls Tryz.prog 126 #[.agg x.toArray, .int .i64 (k : Int)] w fun e w' => e = .returned (.int .i64 ((eM 256 (ruleE l.rules) k y).2 : Int)) ∧ Below w.heap.size w w' := by
  obtain ⟨v1, v2, v3, v4, v5, v6, rfl, s1, s2, s3, s4, s5, s6, _, oN, _⟩ := hx
  obtain ⟨a1, n1, c1, rfl⟩ := s1.form'
  obtain ⟨a2, n2, c2, rfl⟩ := s2.form'
  obtain ⟨a3, n3, c3, rfl⟩ := s3.form'
  obtain ⟨a4, n4, c4, rfl⟩ := s4.form'
  obtain ⟨a5, n5, c5, rfl⟩ := s5.form'
  obtain ⟨a6, n6, c6, rfl⟩ := s6.form'
  have HW := Lib.hid hw
  have S := Lib.hid s3
  have hk : k < n3 := by have := s3.len; have := (List.getElem?_eq_some_iff.1 hd).1; omega
  have hcap := s3.caps
  have HN := Lib.hid (show l.rules.length = n3 from s3.len.symm)
  obtain ⟨b, off, xx, rfl, hbB, hxl, hR, hxx⟩ := (s3.below hw).at_ hd
  obtain ⟨yc, yn, ys, ye⟩ := y
  obtain ⟨rfl, p1, p2, p3⟩ := hR
  simp only [Rule.cells] at hxx p1 p2 p3
  have h0 := hxx 0 _ rfl
  have h1 := hxx 1 _ rfl
  have h2 := hxx 2 _ rfl
  have h3 := hxx 3 _ rfl
  simp only [Nat.add_zero] at h0
  have hn63 : n3 ≤ 9223372036854775807 := by unfold maxLen at hcap; omega
  have lb : b < w.heap.size := by have := hw.size; omega
  clear s1 s2 s3 s4 s5 s6 hw hd hxx hxl hcap
  by_cases h8 : 256 ≤ k
  · have hv : (eM 256 (ruleE l.rules) k ⟨yc, yn, ys, ye⟩).2 = 4 := by unfold eM; rw [if_pos h8]
    rw [hv]; clear hv
    have d8 : decide (256 ≤ (k : Int)) = true := by simp; omega
    go_enter Tryz.func126, Tryz.ntmps126
    go_wp2_with fail
    go_ret
    exact ⟨rfl, (Kept2.new w _ _ _ _).low⟩
  have d8 : decide (256 ≤ (k : Int)) = false := by simp; omega
  have HV : Hid ((eM 256 (ruleE l.rules) k ⟨yc, yn, ys, ye⟩).2 = if okName yc = false ∨ okName yn = false then 2 else if (l.rules.take k).any (fun x => decide (x.concept = yc) && decide (x.name = yn) && decide (x.scope = ys)) then 40 else if 4096 < ye.size then 3 else 0) := by
    show _ = _
    unfold eM
    rw [if_neg h8]
    unfold ruleE
    split
    · rfl
    · split
      · rfl
      · split <;> rfl
  clear h8
  rcases hR : okName yc with _ | _
  · have hv : (eM 256 (ruleE l.rules) k ⟨yc, yn, ys, ye⟩).2 = 2 := by rw [HV.out, if_pos (.inl hR)]
    rw [hv]; clear hv HV
    have RR := Lib.hid (fun W => rright_of yc p1 false hR W)
    clear hR
    go_enter Tryz.func126, Tryz.ntmps126
    go_wp2_with (first | (go_at_call 122; with_reducible refine (RR.out _).mono ?_; rintro e w1 ⟨rfl, q1⟩; have K1 : Hid (Kept2 w 39 #[.string l.name, .int .i64 l.version, .slice a1 n1 c1, .slice a2 n2 c2, .slice (some ⟨b, off, none⟩) n3 c3, .slice a4 n4 c4, .slice a5 n5 c5, .slice a6 n6 c6] 137 #[.string yc, .string yn, .bool ys, .string ye] w1) := Lib.hid ((Kept2.new w _ _ _ _).step (q1.below _)); obtain ⟨g1, _⟩ := bcell (q1.below (w.heap.size + 2))))
    go_ret
    exact ⟨rfl, K1.out.low⟩
  have RR := Lib.hid (fun W => rright_of yc p1 true hR W)
  rcases hR2 : okName yn with _ | _
  · have hv : (eM 256 (ruleE l.rules) k ⟨yc, yn, ys, ye⟩).2 = 2 := by rw [HV.out, if_pos (.inr hR2)]
    rw [hv]; clear hv HV
    have RC := Lib.hid (fun W => rright_of yn p2 false hR2 W)
    clear hR hR2
    go_enter Tryz.func126, Tryz.ntmps126
    go_wp2_with (first | (go_at_call 122; with_reducible refine (RR.out _).mono ?_; rintro e w1 ⟨rfl, q1⟩; have K1 : Hid (Kept2 w 39 #[.string l.name, .int .i64 l.version, .slice a1 n1 c1, .slice a2 n2 c2, .slice (some ⟨b, off, none⟩) n3 c3, .slice a4 n4 c4, .slice a5 n5 c5, .slice a6 n6 c6] 137 #[.string yc, .string yn, .bool ys, .string ye] w1) := Lib.hid ((Kept2.new w _ _ _ _).step (q1.below _)); obtain ⟨g1, _⟩ := bcell (q1.below (w.heap.size + 2))) | (go_at_call 122; with_reducible refine (RC.out _).mono ?_; rintro e w2 ⟨rfl, q2⟩; have K2 : Hid (Kept2 w 39 #[.string l.name, .int .i64 l.version, .slice a1 n1 c1, .slice a2 n2 c2, .slice (some ⟨b, off, none⟩) n3 c3, .slice a4 n4 c4, .slice a5 n5 c5, .slice a6 n6 c6] 137 #[.string yc, .string yn, .bool ys, .string ye] w2) := Lib.hid (K1.out.step (q2.below _)); obtain ⟨g2, _⟩ := bcell (q2.below (w.heap.size + 2))))
    go_ret
    exact ⟨rfl, K2.out.low⟩
  have RC := Lib.hid (fun W => rright_of yn p2 true hR2 W)
  have HV2 : Hid ((eM 256 (ruleE l.rules) k ⟨yc, yn, ys, ye⟩).2 = if (l.rules.take k).any (fun x => decide (x.concept = yc) && decide (x.name = yn) && decide (x.scope = ys)) then 40 else if 4096 < ye.size then 3 else 0) := by show _ = _; rw [HV.out, if_neg (by rw [hR, hR2]; simp)]
  clear hR hR2 HV
  go_enter Tryz.func126, Tryz.ntmps126
  go_wp2_with (first | (go_at_call 122; with_reducible refine (RR.out _).mono ?_; rintro e w1 ⟨rfl, q1⟩; have K1 : Hid (Kept2 w 39 #[.string l.name, .int .i64 l.version, .slice a1 n1 c1, .slice a2 n2 c2, .slice (some ⟨b, off, none⟩) n3 c3, .slice a4 n4 c4, .slice a5 n5 c5, .slice a6 n6 c6] 137 #[.string yc, .string yn, .bool ys, .string ye] w1) := Lib.hid ((Kept2.new w _ _ _ _).step (q1.below _)); obtain ⟨g1, _⟩ := bcell (q1.below (w.heap.size + 2))) | (go_at_call 122; with_reducible refine (RC.out _).mono ?_; rintro e w2 ⟨rfl, q2⟩; have K2 : Hid (Kept2 w 39 #[.string l.name, .int .i64 l.version, .slice a1 n1 c1, .slice a2 n2 c2, .slice (some ⟨b, off, none⟩) n3 c3, .slice a4 n4 c4, .slice a5 n5 c5, .slice a6 n6 c6] 137 #[.string yc, .string yn, .bool ys, .string ye] w2) := Lib.hid (K1.out.step (q2.below _)); obtain ⟨g2, _⟩ := bcell (q2.below (w.heap.size + 2))))
  go_loopw [6, 7] (fun j _ wr => ∃ i : Nat, i ≤ k ∧ j = .int .i64 (i : Int) ∧ Hid (Kept2 w 39 #[.string l.name, .int .i64 l.version, .slice a1 n1 c1, .slice a2 n2 c2, .slice (some ⟨b, off, none⟩) n3 c3, .slice a4 n4 c4, .slice a5 n5 c5, .slice a6 n6 c6] 137 #[.string yc, .string yn, .bool ys, .string ye] wr) ∧ Hid (∀ (a : Nat) (d : Rule), a < i → l.rules[a]? = some d → (fun x : Rule => decide (x.concept = yc) && decide (x.name = yn) && decide (x.scope = ys)) d = false)) (fun j _ _ => k - (intOf j).toNat)
  case atStart => exact ⟨0, Nat.zero_le _, rfl, K2, fun a d ha => by omega⟩
  case round =>
    obtain ⟨i, hi, rfl, hK, hf⟩ := hrel
    have hWr := HW.out.trans (hK.out.low.mono HW.out.size)
    have kk : wr.cell? ⟨w.heap.size, 4, none⟩ = some (.slice (some ⟨b, off, none⟩) n3 c3) := hK.out.b1.cell rfl
    have k0 : wr.cell? ⟨w.heap.size + 1, 0, none⟩ = some (.string yc) := hK.out.b2.cell rfl
    have k1 : wr.cell? ⟨w.heap.size + 1, 1, none⟩ = some (.string yn) := hK.out.b2.cell rfl
    have k2 : wr.cell? ⟨w.heap.size + 1, 2, none⟩ = some (.bool ys) := hK.out.b2.cell rfl
    have k3 : wr.cell? ⟨w.heap.size + 1, 3, none⟩ = some (.string ye) := hK.out.b2.cell rfl
    have lw : w.heap.size < wr.heap.size := hK.out.b1.lt
    have lw1 : w.heap.size + 1 < wr.heap.size := hK.out.b2.lt
    have lbr : b < wr.heap.size := by omega
    by_cases hlt : i < k
    · obtain ⟨⟨zc, zn, zs, ze⟩, he⟩ : ∃ z : Rule, l.rules[i]? = some z := get_some HN.out (show i < n3 by omega)
      obtain ⟨_, xz, hzl, ⟨rfl, _⟩, hxz⟩ := (S.out.below hWr).at2 he
      simp only [Rule.cells] at hxz
      have z0 := hxz 0 _ rfl
      have z1 := hxz 1 _ rfl
      have z2 := hxz 2 _ rfl
      have z3 := hxz 3 _ rfl
      simp only [Nat.add_zero] at z0
      have He := Lib.hid he
      have hin : i < n3 := by omega
      have HK := hK
      have Hno : Hid ((fun x : Rule => decide (x.concept = yc) && decide (x.name = yn) && decide (x.scope = ys)) ⟨zc, zn, zs, ze⟩ = (decide (zc = yc) && decide (zn = yn) && decide (zs = ys))) := Lib.hid rfl
      clear he hxz hzl hWr hK
      by_cases e0 : zc = yc
      rotate_left
      · have e0' : (zc.toList == yc.toList) = false := by simpa [toList_inj] using e0
        have Hz : Hid ((fun x : Rule => decide (x.concept = yc) && decide (x.name = yn) && decide (x.scope = ys)) ⟨zc, zn, zs, ze⟩ = false) := by show _ = _; rw [Hno.out]; simp [e0]
        go_wp2_with fail
        go_roundw
        case rel => exact ⟨i + 1, by omega, by go_num, Lib.hid (HK.out.step ((Below.refl _ _).alloc (Nat.le_refl _) _)), so_far1 He.out Hz.out hf.out⟩
        case measure => simp [intOf]; omega
      have e0' : (zc.toList == yc.toList) = true := by rw [e0]; simp
      by_cases e1 : zn = yn
      rotate_left
      · have e1' : (zn.toList == yn.toList) = false := by simpa [toList_inj] using e1
        have Hz : Hid ((fun x : Rule => decide (x.concept = yc) && decide (x.name = yn) && decide (x.scope = ys)) ⟨zc, zn, zs, ze⟩ = false) := by show _ = _; rw [Hno.out]; simp [e1]
        go_wp2_with fail
        go_roundw
        case rel => exact ⟨i + 1, by omega, by go_num, Lib.hid (HK.out.step ((Below.refl _ _).alloc (Nat.le_refl _) _)), so_far1 He.out Hz.out hf.out⟩
        case measure => simp [intOf]; omega
      have e1' : (zn.toList == yn.toList) = true := by rw [e1]; simp
      by_cases e2 : zs = ys
      rotate_left
      · have e2' : (zs == ys) = false := by simpa using e2
        have Hz : Hid ((fun x : Rule => decide (x.concept = yc) && decide (x.name = yn) && decide (x.scope = ys)) ⟨zc, zn, zs, ze⟩ = false) := by show _ = _; rw [Hno.out]; simp [e2]
        go_wp2_with fail
        go_roundw
        case rel => exact ⟨i + 1, by omega, by go_num, Lib.hid (HK.out.step ((Below.refl _ _).alloc (Nat.le_refl _) _)), so_far1 He.out Hz.out hf.out⟩
        case measure => simp [intOf]; omega
      have e2' : (zs == ys) = true := by rw [e2]; simp
      have hv : (eM 256 (ruleE l.rules) k ⟨yc, yn, ys, ye⟩).2 = 40 := by rw [HV2.out, if_pos (any_yes hlt He.out (by rw [e0, e1, e2]; simp))]
      have HV3 := Lib.hid hv
      clear hv HV2
      go_wp2_with fail
      go_ret
      exact ⟨by rw [HV3.out]; rfl, HK.out.low.alloc HK.out.low.size _⟩
    · obtain rfl : k = i := by omega
      have hv : (eM 256 (ruleE l.rules) k ⟨yc, yn, ys, ye⟩).2 = if 4096 < ye.size then 3 else 0 := by rw [HV2.out, if_neg (by rw [any_no (by rw [HN.out]; omega) hf.out]; simp)]
      have HV3 := Lib.hid hv
      have HK := hK
      clear hlt hv HV2 hWr hK hf
      by_cases t : 4096 < ye.size
      · have d4 : decide (4096 < (ye.size : Int)) = true := by simp; omega
        have hz := HV3.out
        rw [if_pos t] at hz
        have HZ := Lib.hid hz
        clear hz HV3
        go_wp2_with fail
        go_ret
        exact ⟨by rw [HZ.out]; rfl, HK.out.low⟩
      · have d4 : decide (4096 < (ye.size : Int)) = false := by simp; omega
        have hz := HV3.out
        rw [if_neg t] at hz
        have HZ := Lib.hid hz
        clear hz HV3
        go_wp2_with fail
        go_ret
        exact ⟨by rw [HZ.out]; rfl, HK.out.low⟩

set_option maxRecDepth 100000 in
set_option maxHeartbeats 4000000 in
theorem r_Editor {l : Language} {x : List Value} (w w0 : World) (k : Nat) (y : Editor) (hx : Language.Is w0 w0.heap.size x l) (hw : Below w0.heap.size w0 w) (hd : l.editors[k]? = some y) :
    Calls Tryz.prog 128 #[.agg x.toArray, .int .i64 (k : Int)] w (ConPost (eM 256 (editorE l.editors) k y) w) := by
  obtain ⟨v1, v2, v3, v4, v5, v6, rfl, s1, s2, s3, s4, s5, s6, _, oN, _⟩ := hx
  obtain ⟨a1, n1, c1, rfl⟩ := s1.form'
  obtain ⟨a2, n2, c2, rfl⟩ := s2.form'
  obtain ⟨a3, n3, c3, rfl⟩ := s3.form'
  obtain ⟨a4, n4, c4, rfl⟩ := s4.form'
  obtain ⟨a5, n5, c5, rfl⟩ := s5.form'
  obtain ⟨a6, n6, c6, rfl⟩ := s6.form'
  have HW := Lib.hid hw
  have S := Lib.hid s5
  have hk : k < n5 := by have := s5.len; have := (List.getElem?_eq_some_iff.1 hd).1; omega
  have hcap := s5.caps
  have HN := Lib.hid (show l.editors.length = n5 from s5.len.symm)
  obtain ⟨b, off, xx, rfl, hbB, hxl, hR, hxx⟩ := s5.at_ hd
  obtain ⟨yc, yl⟩ := y
  obtain ⟨v, rfl, t1, _, p1⟩ := hR
  simp only at t1 p1 hxx
  obtain ⟨yn, hyn⟩ : ∃ n, yl.length = n := ⟨_, rfl⟩
  obtain ⟨ya, ycp, rfl⟩ : ∃ a c, v = .slice a yn c := by obtain ⟨a, c, h, _⟩ := t1.form; exact ⟨a, c, by rw [h, hyn]⟩
  have SY := Lib.hid t1
  have HY := Lib.hid hyn
  have h0 : w.cell? ⟨b, off + k * 2, none⟩ = some (.string yc) := by have := (hw.cell (p := ⟨b, off + k * 2 + 0, none⟩) hbB).trans (hxx 0 _ rfl); simpa using this
  have h1 : w.cell? ⟨b, off + k * 2 + 1, none⟩ = some (.slice ya yn ycp) := (hw.cell (p := ⟨b, off + k * 2 + 1, none⟩) hbB).trans (hxx 1 _ rfl)
  have hn63 : n5 ≤ 9223372036854775807 := by unfold maxLen at hcap; omega
  have lb : b < w.heap.size := by have := hw.size; omega
  clear s1 s2 s3 s4 s5 s6 hw hd hxx hxl hcap t1 hyn
  by_cases h8 : 256 ≤ k
  · have hv : eM 256 (editorE l.editors) k ⟨yc, yl⟩ = (0, 4) := by unfold eM; rw [if_pos h8]
    rw [hv]; clear hv
    have d8 : decide (256 ≤ (k : Int)) = true := by simp; omega
    go_enter Tryz.func128, Tryz.ntmps128
    go_wp2_with fail
    go_ret2
    exact ⟨⟨_, rfl, fun _ => rfl⟩, (Kept2.new w _ _ _ _).low⟩
  have d8 : decide (256 ≤ (k : Int)) = false := by simp; omega
  have HV : Hid (eM 256 (editorE l.editors) k ⟨yc, yl⟩ = if okName yc = false then (0, 2) else if (l.editors.take k).any (fun x => decide (x.concept = yc)) then (0, 40) else if 64 < yn then (65, 4) else match firstE (fun _ c => cellE 6 c) 0 yl with | some (k, e) => (k + 1, e) | none => (0, 0)) := by
    show _ = _
    unfold eM
    rw [if_neg h8]
    unfold editorE rowE
    rw [HY.out]
    rfl
  clear h8
  rcases hR : okName yc with _ | _
  · have hv : eM 256 (editorE l.editors) k ⟨yc, yl⟩ = (0, 2) := by rw [HV.out, if_pos hR]
    rw [hv]; clear hv HV
    have RR := Lib.hid (fun W => rright_of yc p1 false hR W)
    clear hR
    go_enter Tryz.func128, Tryz.ntmps128
    go_wp2_with (first | (go_at_call 122; with_reducible refine (RR.out _).mono ?_; rintro e w1 ⟨rfl, q1⟩; have K1 : Hid (Kept2 w 39 #[.string l.name, .int .i64 l.version, .slice a1 n1 c1, .slice a2 n2 c2, .slice a3 n3 c3, .slice a4 n4 c4, .slice (some ⟨b, off, none⟩) n5 c5, .slice a6 n6 c6] 163 #[.string yc, .slice ya yn ycp] w1) := Lib.hid ((Kept2.new w _ _ _ _).step (q1.below _)); obtain ⟨g1, _⟩ := bcell (q1.below (w.heap.size + 2))))
    go_ret2
    exact ⟨⟨_, rfl, fun _ => rfl⟩, K1.out.low⟩
  have RR := Lib.hid (fun W => rright_of yc p1 true hR W)
  have HV2 : Hid (eM 256 (editorE l.editors) k ⟨yc, yl⟩ = if (l.editors.take k).any (fun x => decide (x.concept = yc)) then (0, 40) else if 64 < yn then (65, 4) else match firstE (fun _ c => cellE 6 c) 0 yl with | some (k, e) => (k + 1, e) | none => (0, 0)) := by show _ = _; rw [HV.out, if_neg (by rw [hR]; simp)]
  clear hR HV
  go_enter Tryz.func128, Tryz.ntmps128
  go_wp2_with (first | (go_at_call 122; with_reducible refine (RR.out _).mono ?_; rintro e w1 ⟨rfl, q1⟩; have K1 : Hid (Kept2 w 39 #[.string l.name, .int .i64 l.version, .slice a1 n1 c1, .slice a2 n2 c2, .slice a3 n3 c3, .slice a4 n4 c4, .slice (some ⟨b, off, none⟩) n5 c5, .slice a6 n6 c6] 163 #[.string yc, .slice ya yn ycp] w1) := Lib.hid ((Kept2.new w _ _ _ _).step (q1.below _)); obtain ⟨g1, _⟩ := bcell (q1.below (w.heap.size + 2))))
  go_loopw [7] (fun j wr => ∃ i : Nat, i ≤ k ∧ j = .int .i64 (i : Int) ∧ Hid (Kept2 w 39 #[.string l.name, .int .i64 l.version, .slice a1 n1 c1, .slice a2 n2 c2, .slice a3 n3 c3, .slice a4 n4 c4, .slice (some ⟨b, off, none⟩) n5 c5, .slice a6 n6 c6] 163 #[.string yc, .slice ya yn ycp] wr) ∧ Hid (∀ (a : Nat) (d : Editor), a < i → l.editors[a]? = some d → (fun x : Editor => decide (x.concept = yc)) d = false)) (fun j _ => k - (intOf j).toNat)
  case atStart => exact ⟨0, Nat.zero_le _, rfl, K1, fun a d ha => by omega⟩
  case round =>
    obtain ⟨i, hi, rfl, hK, hf⟩ := hrel
    have hWr := HW.out.trans (hK.out.low.mono HW.out.size)
    have kk : wr.cell? ⟨w.heap.size, 6, none⟩ = some (.slice (some ⟨b, off, none⟩) n5 c5) := hK.out.b1.cell rfl
    have k0 : wr.cell? ⟨w.heap.size + 1, 0, none⟩ = some (.string yc) := hK.out.b2.cell rfl
    have k1 : wr.cell? ⟨w.heap.size + 1, 1, none⟩ = some (.slice ya yn ycp) := hK.out.b2.cell rfl
    have lw : w.heap.size < wr.heap.size := hK.out.b1.lt
    have lw1 : w.heap.size + 1 < wr.heap.size := hK.out.b2.lt
    have lbr : b < wr.heap.size := by omega
    by_cases hlt : i < k
    · obtain ⟨z, he⟩ := get_some HN.out (show i < n5 by omega)
      obtain ⟨_, xz, hzl, ⟨vz, rfl, _⟩, hxz⟩ := (S.out.below hWr).at2 he
      have z0 := hxz 0 _ rfl
      simp only [Nat.add_zero] at z0
      have He := Lib.hid he
      have hin : i < n5 := by omega
      have HK := hK
      obtain ⟨zc, hzc⟩ : ∃ t, z.concept = t := ⟨_, rfl⟩
      have Hzc := Lib.hid hzc
      rw [hzc] at z0
      clear he hxz hzl hWr hK hzc
      by_cases e0 : zc = yc
      · subst e0
        have hv : eM 256 (editorE l.editors) k ⟨zc, yl⟩ = (0, 40) := by rw [HV2.out, if_pos (any_yes hlt He.out (by simp [Hzc.out]))]
        rw [hv]
        clear hv HV2
        go_wp2_with fail
        go_quiet (fail)
        go_wp2_with fail
        go_ret2
        exact ⟨⟨_, rfl, fun _ => rfl⟩, below_drewN HK.out.low _⟩
      · have e0' : (zc.toList == yc.toList) = false := by simpa [toList_inj] using e0
        have HE0 := Lib.hid e0
        clear e0
        go_wp2_with fail
        go_quiet (fail)
        go_wp2_with fail
        go_roundw
        case rel => exact ⟨i + 1, by omega, by go_num, Lib.hid (HK.out.step (below_drewN (Below.refl _ _) _)), so_far1 He.out (by simp [Hzc.out, HE0.out]) hf.out⟩
        case measure => simp [intOf]; omega
    · obtain rfl : k = i := by omega
      have HV3 : Hid (eM 256 (editorE l.editors) k ⟨yc, yl⟩ = if 64 < yn then (65, 4) else match firstE (fun _ c => cellE 6 c) 0 yl with | some (k, e) => (k + 1, e) | none => (0, 0)) := by show _ = _; rw [HV2.out, if_neg (by rw [any_no (by rw [HN.out]; omega) hf.out]; simp)]
      have HK := hK
      clear hlt HV2 hWr hK hf
      by_cases h64 : 64 < yn
      · have hv : eM 256 (editorE l.editors) k ⟨yc, yl⟩ = (65, 4) := by rw [HV3.out, if_pos h64]
        have HZ := Lib.hid hv
        clear hv HV3
        have d64 : decide (64 < (yn : Int)) = true := by simp; omega
        go_wp2_with fail
        go_ret2
        exact ⟨⟨65, by rw [HZ.out]; rfl, fun _ => by rw [HZ.out]; rfl⟩, HK.out.low⟩
      have d64 : decide (64 < (yn : Int)) = false := by simp; omega
      have HV4 : Hid (eM 256 (editorE l.editors) k ⟨yc, yl⟩ = match firstE (fun _ c => cellE 6 c) 0 yl with | some (k, e) => (k + 1, e) | none => (0, 0)) := by show _ = _; rw [HV3.out, if_neg h64]
      have hn64 : yn ≤ 64 := by omega
      clear HV3 h64
      go_wp2_with fail
      obtain ⟨wo, hwo⟩ : ∃ wo, wo = wr := ⟨wr, rfl⟩
      subst hwo
      go_loopw [8] (fun j wr => ∃ i : Nat, i ≤ yn ∧ j = .int .i64 (i : Int) ∧ Hid (Kept2 w 39 #[.string l.name, .int .i64 l.version, .slice a1 n1 c1, .slice a2 n2 c2, .slice a3 n3 c3, .slice a4 n4 c4, .slice (some ⟨b, off, none⟩) n5 c5, .slice a6 n6 c6] 163 #[.string yc, .slice ya yn ycp] wr) ∧ Hid (firstE (fun _ c => cellE 6 c) 0 yl = firstE (fun _ c => cellE 6 c) i (yl.drop i))) (fun j _ => yn - (intOf j).toNat)
      case atStart => exact ⟨0, Nat.zero_le _, rfl, HK, Lib.hid (by rw [List.drop_zero])⟩
      case round =>
        obtain ⟨i, hi2, rfl, hK, hf⟩ := hrel
        have hWr := HW.out.trans (hK.out.low.mono HW.out.size)
        have k1' : wr.cell? ⟨w.heap.size + 1, 1, none⟩ = some (.slice ya yn ycp) := hK.out.b2.cell rfl
        by_cases hlt : i < yn
        · obtain ⟨y, hd⟩ := get_some HY.out hlt
          obtain ⟨b2, off2, x2, rfl, hb2, hx2l, ⟨rfl, _⟩, hx2⟩ := (SY.out.below hWr).at_ hd
          simp only [Cell.cells] at hx2
          have y0 := hx2 0 _ rfl
          have y1 := hx2 1 _ rfl
          have y2 := hx2 2 _ rfl
          simp only [Nat.add_zero] at y0
          have hst := firstE_step (f := fun _ c => cellE 6 c) hd
          rw [← hf.out] at hst
          have Hst := Lib.hid hst
          have Hbad : Hid (∀ e, cellE 6 y = e → e ≠ 0 → eM 256 (editorE l.editors) k ⟨yc, yl⟩ = (i + 1, e)) := by
            intro e he h0
            rw [HV4.out, show firstE (fun _ c => cellE 6 c) 0 yl = some (i, e) by rw [Hst.out, if_pos (by rw [he]; exact h0), he]]
          have Hgood : Hid (cellE 6 y = 0 → firstE (fun _ c => cellE 6 c) 0 yl = firstE (fun _ c => cellE 6 c) (i + 1) (yl.drop (i + 1))) := by
            intro he
            rw [Hst.out, if_neg (by rw [he]; simp)]
          have Hce : Hid (cellE 6 y = if y.kind < 1 ∨ 6 < y.kind then 2 else if 4096 < wrap64 ((y.text.size : Int) + (y.mark.size : Int)) then 3 else 0) := Lib.hid rfl
          obtain ⟨kd, tx, mk⟩ := y
          simp only at y0 y1 y2 Hce
          obtain ⟨zz, hzz⟩ : ∃ z, wrap64 ((tx.size : Int) + (mk.size : Int)) = z := ⟨_, rfl⟩
          rw [hzz] at Hce
          have HK := hK
          clear hd hx2 hx2l hst hf Hst hWr hK
          by_cases t1 : kd < 1
          · have hz := Hbad.out 2 (by rw [Hce.out, if_pos (.inl t1)]) (by omega)
            rw [hz]; clear hz Hbad Hgood Hce
            have t1' : decide (kd < 1) = true := by simpa using t1
            go_wp2_with fail
            go_ret2
            exact ⟨⟨_, rfl, fun _ => by first | (simp; done) | (simp; omega)⟩, HK.out.low⟩
          have t1' : decide (kd < 1) = false := by simpa using t1
          by_cases t2 : 6 < kd
          · have hz := Hbad.out 2 (by rw [Hce.out, if_pos (.inr t2)]) (by omega)
            rw [hz]; clear hz Hbad Hgood Hce
            have t2' : decide (6 < kd) = true := by simpa using t2
            go_wp2_with fail
            go_ret2
            exact ⟨⟨_, rfl, fun _ => by first | (simp; done) | (simp; omega)⟩, HK.out.low⟩
          have t2' : decide (6 < kd) = false := by simpa using t2
          by_cases t3 : 4096 < zz
          · have hz := Hbad.out 3 (by rw [Hce.out, if_neg (by omega), if_pos t3]) (by omega)
            rw [hz]; clear hz Hbad Hgood Hce
            go_wp2_with fail
            go_quiet (fail)
            go_wp2_with fail
            go_ret2
            exact ⟨⟨_, rfl, fun _ => by first | (simp; done) | (simp; omega)⟩, below_drewN HK.out.low _⟩
          have hz := Hgood.out (by rw [Hce.out, if_neg (by omega), if_neg t3])
          have HZ := Lib.hid hz
          clear hz Hbad Hgood Hce
          go_wp2_with fail
          go_quiet (fail)
          go_wp2_with fail
          go_roundw
          case rel => exact ⟨i + 1, by omega, by go_num, Lib.hid (HK.out.step (below_drewN (Below.refl _ _) _)), HZ⟩
          case measure => simp [intOf]; omega
        · obtain rfl : yn = i := by omega
          clear hlt
          have hz : eM 256 (editorE l.editors) k ⟨yc, yl⟩ = (0, 0) := by rw [HV4.out, hf.out, firstE_end (by rw [HY.out]; exact Nat.le_refl _)]
          have HZ := Lib.hid hz
          clear hz
          go_wp2_with fail
          go_ret2
          exact ⟨⟨0, by rw [HZ.out]; rfl, fun h => absurd (by rw [HZ.out]) h⟩, hK.out.low⟩

set_option maxRecDepth 100000 in
set_option maxHeartbeats 4000000 in
theorem r_Template {l : Language} {x : List Value} (w w0 : World) (k : Nat) (y : Template) (hx : Language.Is w0 w0.heap.size x l) (hw : Below w0.heap.size w0 w) (hd : l.templates[k]? = some y) :
    Calls Tryz.prog 129 #[.agg x.toArray, .int .i64 (k : Int)] w (ConPost (eM 256 (templateE l.templates) k y) w) := by
  obtain ⟨v1, v2, v3, v4, v5, v6, rfl, s1, s2, s3, s4, s5, s6, _, oN, _⟩ := hx
  obtain ⟨a1, n1, c1, rfl⟩ := s1.form'
  obtain ⟨a2, n2, c2, rfl⟩ := s2.form'
  obtain ⟨a3, n3, c3, rfl⟩ := s3.form'
  obtain ⟨a4, n4, c4, rfl⟩ := s4.form'
  obtain ⟨a5, n5, c5, rfl⟩ := s5.form'
  obtain ⟨a6, n6, c6, rfl⟩ := s6.form'
  have HW := Lib.hid hw
  have S := Lib.hid s6
  have hk : k < n6 := by have := s6.len; have := (List.getElem?_eq_some_iff.1 hd).1; omega
  have hcap := s6.caps
  have HN := Lib.hid (show l.templates.length = n6 from s6.len.symm)
  obtain ⟨b, off, xx, rfl, hbB, hxl, hR, hxx⟩ := s6.at_ hd
  obtain ⟨yc, yl⟩ := y
  obtain ⟨v, rfl, t1, _, p1⟩ := hR
  simp only at t1 p1 hxx
  obtain ⟨yn, hyn⟩ : ∃ n, yl.length = n := ⟨_, rfl⟩
  obtain ⟨ya, ycp, rfl⟩ : ∃ a c, v = .slice a yn c := by obtain ⟨a, c, h, _⟩ := t1.form; exact ⟨a, c, by rw [h, hyn]⟩
  have SY := Lib.hid t1
  have HY := Lib.hid hyn
  have h0 : w.cell? ⟨b, off + k * 2, none⟩ = some (.string yc) := by have := (hw.cell (p := ⟨b, off + k * 2 + 0, none⟩) hbB).trans (hxx 0 _ rfl); simpa using this
  have h1 : w.cell? ⟨b, off + k * 2 + 1, none⟩ = some (.slice ya yn ycp) := (hw.cell (p := ⟨b, off + k * 2 + 1, none⟩) hbB).trans (hxx 1 _ rfl)
  have hn63 : n6 ≤ 9223372036854775807 := by unfold maxLen at hcap; omega
  have lb : b < w.heap.size := by have := hw.size; omega
  clear s1 s2 s3 s4 s5 s6 hw hd hxx hxl hcap t1 hyn
  by_cases h8 : 256 ≤ k
  · have hv : eM 256 (templateE l.templates) k ⟨yc, yl⟩ = (0, 4) := by unfold eM; rw [if_pos h8]
    rw [hv]; clear hv
    have d8 : decide (256 ≤ (k : Int)) = true := by simp; omega
    go_enter Tryz.func129, Tryz.ntmps129
    go_wp2_with fail
    go_ret2
    exact ⟨⟨_, rfl, fun _ => rfl⟩, (Kept2.new w _ _ _ _).low⟩
  have d8 : decide (256 ≤ (k : Int)) = false := by simp; omega
  have HV : Hid (eM 256 (templateE l.templates) k ⟨yc, yl⟩ = if okName yc = false then (0, 2) else if (l.templates.take k).any (fun x => decide (x.concept = yc)) then (0, 40) else if 64 < yn then (65, 4) else match firstE (fun _ c => cellE 5 c) 0 yl with | some (k, e) => (k + 1, e) | none => (0, 0)) := by
    show _ = _
    unfold eM
    rw [if_neg h8]
    unfold templateE rowE
    rw [HY.out]
    rfl
  clear h8
  rcases hR : okName yc with _ | _
  · have hv : eM 256 (templateE l.templates) k ⟨yc, yl⟩ = (0, 2) := by rw [HV.out, if_pos hR]
    rw [hv]; clear hv HV
    have RR := Lib.hid (fun W => rright_of yc p1 false hR W)
    clear hR
    go_enter Tryz.func129, Tryz.ntmps129
    go_wp2_with (first | (go_at_call 122; with_reducible refine (RR.out _).mono ?_; rintro e w1 ⟨rfl, q1⟩; have K1 : Hid (Kept2 w 39 #[.string l.name, .int .i64 l.version, .slice a1 n1 c1, .slice a2 n2 c2, .slice a3 n3 c3, .slice a4 n4 c4, .slice a5 n5 c5, .slice (some ⟨b, off, none⟩) n6 c6] 166 #[.string yc, .slice ya yn ycp] w1) := Lib.hid ((Kept2.new w _ _ _ _).step (q1.below _)); obtain ⟨g1, _⟩ := bcell (q1.below (w.heap.size + 2))))
    go_ret2
    exact ⟨⟨_, rfl, fun _ => rfl⟩, K1.out.low⟩
  have RR := Lib.hid (fun W => rright_of yc p1 true hR W)
  have HV2 : Hid (eM 256 (templateE l.templates) k ⟨yc, yl⟩ = if (l.templates.take k).any (fun x => decide (x.concept = yc)) then (0, 40) else if 64 < yn then (65, 4) else match firstE (fun _ c => cellE 5 c) 0 yl with | some (k, e) => (k + 1, e) | none => (0, 0)) := by show _ = _; rw [HV.out, if_neg (by rw [hR]; simp)]
  clear hR HV
  go_enter Tryz.func129, Tryz.ntmps129
  go_wp2_with (first | (go_at_call 122; with_reducible refine (RR.out _).mono ?_; rintro e w1 ⟨rfl, q1⟩; have K1 : Hid (Kept2 w 39 #[.string l.name, .int .i64 l.version, .slice a1 n1 c1, .slice a2 n2 c2, .slice a3 n3 c3, .slice a4 n4 c4, .slice a5 n5 c5, .slice (some ⟨b, off, none⟩) n6 c6] 166 #[.string yc, .slice ya yn ycp] w1) := Lib.hid ((Kept2.new w _ _ _ _).step (q1.below _)); obtain ⟨g1, _⟩ := bcell (q1.below (w.heap.size + 2))))
  go_loopw [7] (fun j wr => ∃ i : Nat, i ≤ k ∧ j = .int .i64 (i : Int) ∧ Hid (Kept2 w 39 #[.string l.name, .int .i64 l.version, .slice a1 n1 c1, .slice a2 n2 c2, .slice a3 n3 c3, .slice a4 n4 c4, .slice a5 n5 c5, .slice (some ⟨b, off, none⟩) n6 c6] 166 #[.string yc, .slice ya yn ycp] wr) ∧ Hid (∀ (a : Nat) (d : Template), a < i → l.templates[a]? = some d → (fun x : Template => decide (x.concept = yc)) d = false)) (fun j _ => k - (intOf j).toNat)
  case atStart => exact ⟨0, Nat.zero_le _, rfl, K1, fun a d ha => by omega⟩
  case round =>
    obtain ⟨i, hi, rfl, hK, hf⟩ := hrel
    have hWr := HW.out.trans (hK.out.low.mono HW.out.size)
    have kk : wr.cell? ⟨w.heap.size, 7, none⟩ = some (.slice (some ⟨b, off, none⟩) n6 c6) := hK.out.b1.cell rfl
    have k0 : wr.cell? ⟨w.heap.size + 1, 0, none⟩ = some (.string yc) := hK.out.b2.cell rfl
    have k1 : wr.cell? ⟨w.heap.size + 1, 1, none⟩ = some (.slice ya yn ycp) := hK.out.b2.cell rfl
    have lw : w.heap.size < wr.heap.size := hK.out.b1.lt
    have lw1 : w.heap.size + 1 < wr.heap.size := hK.out.b2.lt
    have lbr : b < wr.heap.size := by omega
    by_cases hlt : i < k
    · obtain ⟨z, he⟩ := get_some HN.out (show i < n6 by omega)
      obtain ⟨_, xz, hzl, ⟨vz, rfl, _⟩, hxz⟩ := (S.out.below hWr).at2 he
      have z0 := hxz 0 _ rfl
      simp only [Nat.add_zero] at z0
      have He := Lib.hid he
      have hin : i < n6 := by omega
      have HK := hK
      obtain ⟨zc, hzc⟩ : ∃ t, z.concept = t := ⟨_, rfl⟩
      have Hzc := Lib.hid hzc
      rw [hzc] at z0
      clear he hxz hzl hWr hK hzc
      by_cases e0 : zc = yc
      · subst e0
        have hv : eM 256 (templateE l.templates) k ⟨zc, yl⟩ = (0, 40) := by rw [HV2.out, if_pos (any_yes hlt He.out (by simp [Hzc.out]))]
        rw [hv]
        clear hv HV2
        go_wp2_with fail
        go_quiet (fail)
        go_wp2_with fail
        go_ret2
        exact ⟨⟨_, rfl, fun _ => rfl⟩, below_drewN HK.out.low _⟩
      · have e0' : (zc.toList == yc.toList) = false := by simpa [toList_inj] using e0
        have HE0 := Lib.hid e0
        clear e0
        go_wp2_with fail
        go_quiet (fail)
        go_wp2_with fail
        go_roundw
        case rel => exact ⟨i + 1, by omega, by go_num, Lib.hid (HK.out.step (below_drewN (Below.refl _ _) _)), so_far1 He.out (by simp [Hzc.out, HE0.out]) hf.out⟩
        case measure => simp [intOf]; omega
    · obtain rfl : k = i := by omega
      have HV3 : Hid (eM 256 (templateE l.templates) k ⟨yc, yl⟩ = if 64 < yn then (65, 4) else match firstE (fun _ c => cellE 5 c) 0 yl with | some (k, e) => (k + 1, e) | none => (0, 0)) := by show _ = _; rw [HV2.out, if_neg (by rw [any_no (by rw [HN.out]; omega) hf.out]; simp)]
      have HK := hK
      clear hlt HV2 hWr hK hf
      by_cases h64 : 64 < yn
      · have hv : eM 256 (templateE l.templates) k ⟨yc, yl⟩ = (65, 4) := by rw [HV3.out, if_pos h64]
        have HZ := Lib.hid hv
        clear hv HV3
        have d64 : decide (64 < (yn : Int)) = true := by simp; omega
        go_wp2_with fail
        go_ret2
        exact ⟨⟨65, by rw [HZ.out]; rfl, fun _ => by rw [HZ.out]; rfl⟩, HK.out.low⟩
      have d64 : decide (64 < (yn : Int)) = false := by simp; omega
      have HV4 : Hid (eM 256 (templateE l.templates) k ⟨yc, yl⟩ = match firstE (fun _ c => cellE 5 c) 0 yl with | some (k, e) => (k + 1, e) | none => (0, 0)) := by show _ = _; rw [HV3.out, if_neg h64]
      have hn64 : yn ≤ 64 := by omega
      clear HV3 h64
      go_wp2_with fail
      obtain ⟨wo, hwo⟩ : ∃ wo, wo = wr := ⟨wr, rfl⟩
      subst hwo
      go_loopw [8] (fun j wr => ∃ i : Nat, i ≤ yn ∧ j = .int .i64 (i : Int) ∧ Hid (Kept2 w 39 #[.string l.name, .int .i64 l.version, .slice a1 n1 c1, .slice a2 n2 c2, .slice a3 n3 c3, .slice a4 n4 c4, .slice a5 n5 c5, .slice (some ⟨b, off, none⟩) n6 c6] 166 #[.string yc, .slice ya yn ycp] wr) ∧ Hid (firstE (fun _ c => cellE 5 c) 0 yl = firstE (fun _ c => cellE 5 c) i (yl.drop i))) (fun j _ => yn - (intOf j).toNat)
      case atStart => exact ⟨0, Nat.zero_le _, rfl, HK, Lib.hid (by rw [List.drop_zero])⟩
      case round =>
        obtain ⟨i, hi2, rfl, hK, hf⟩ := hrel
        have hWr := HW.out.trans (hK.out.low.mono HW.out.size)
        have k1' : wr.cell? ⟨w.heap.size + 1, 1, none⟩ = some (.slice ya yn ycp) := hK.out.b2.cell rfl
        by_cases hlt : i < yn
        · obtain ⟨y, hd⟩ := get_some HY.out hlt
          obtain ⟨b2, off2, x2, rfl, hb2, hx2l, ⟨rfl, _⟩, hx2⟩ := (SY.out.below hWr).at_ hd
          simp only [Cell.cells] at hx2
          have y0 := hx2 0 _ rfl
          have y1 := hx2 1 _ rfl
          have y2 := hx2 2 _ rfl
          simp only [Nat.add_zero] at y0
          have hst := firstE_step (f := fun _ c => cellE 5 c) hd
          rw [← hf.out] at hst
          have Hst := Lib.hid hst
          have Hbad : Hid (∀ e, cellE 5 y = e → e ≠ 0 → eM 256 (templateE l.templates) k ⟨yc, yl⟩ = (i + 1, e)) := by
            intro e he h0
            rw [HV4.out, show firstE (fun _ c => cellE 5 c) 0 yl = some (i, e) by rw [Hst.out, if_pos (by rw [he]; exact h0), he]]
          have Hgood : Hid (cellE 5 y = 0 → firstE (fun _ c => cellE 5 c) 0 yl = firstE (fun _ c => cellE 5 c) (i + 1) (yl.drop (i + 1))) := by
            intro he
            rw [Hst.out, if_neg (by rw [he]; simp)]
          have Hce : Hid (cellE 5 y = if y.kind < 1 ∨ 5 < y.kind then 2 else if 4096 < wrap64 ((y.text.size : Int) + (y.mark.size : Int)) then 3 else 0) := Lib.hid rfl
          obtain ⟨kd, tx, mk⟩ := y
          simp only at y0 y1 y2 Hce
          obtain ⟨zz, hzz⟩ : ∃ z, wrap64 ((tx.size : Int) + (mk.size : Int)) = z := ⟨_, rfl⟩
          rw [hzz] at Hce
          have HK := hK
          clear hd hx2 hx2l hst hf Hst hWr hK
          by_cases t1 : kd < 1
          · have hz := Hbad.out 2 (by rw [Hce.out, if_pos (.inl t1)]) (by omega)
            rw [hz]; clear hz Hbad Hgood Hce
            have t1' : decide (kd < 1) = true := by simpa using t1
            go_wp2_with fail
            go_ret2
            exact ⟨⟨_, rfl, fun _ => by first | (simp; done) | (simp; omega)⟩, HK.out.low⟩
          have t1' : decide (kd < 1) = false := by simpa using t1
          by_cases t2 : 5 < kd
          · have hz := Hbad.out 2 (by rw [Hce.out, if_pos (.inr t2)]) (by omega)
            rw [hz]; clear hz Hbad Hgood Hce
            have t2' : decide (5 < kd) = true := by simpa using t2
            go_wp2_with fail
            go_ret2
            exact ⟨⟨_, rfl, fun _ => by first | (simp; done) | (simp; omega)⟩, HK.out.low⟩
          have t2' : decide (5 < kd) = false := by simpa using t2
          by_cases t3 : 4096 < zz
          · have hz := Hbad.out 3 (by rw [Hce.out, if_neg (by omega), if_pos t3]) (by omega)
            rw [hz]; clear hz Hbad Hgood Hce
            go_wp2_with fail
            go_quiet (fail)
            go_wp2_with fail
            go_ret2
            exact ⟨⟨_, rfl, fun _ => by first | (simp; done) | (simp; omega)⟩, below_drewN HK.out.low _⟩
          have hz := Hgood.out (by rw [Hce.out, if_neg (by omega), if_neg t3])
          have HZ := Lib.hid hz
          clear hz Hbad Hgood Hce
          go_wp2_with fail
          go_quiet (fail)
          go_wp2_with fail
          go_roundw
          case rel => exact ⟨i + 1, by omega, by go_num, Lib.hid (HK.out.step (below_drewN (Below.refl _ _) _)), HZ⟩
          case measure => simp [intOf]; omega
        · obtain rfl : yn = i := by omega
          clear hlt
          have hz : eM 256 (templateE l.templates) k ⟨yc, yl⟩ = (0, 0) := by rw [HV4.out, hf.out, firstE_end (by rw [HY.out]; exact Nat.le_refl _)]
          have HZ := Lib.hid hz
          clear hz
          go_wp2_with fail
          go_ret2
          exact ⟨⟨0, by rw [HZ.out]; rfl, fun h => absurd (by rw [HZ.out]) h⟩, hK.out.low⟩

end Go.Proofs.YtikplcpghohklaaGreat
