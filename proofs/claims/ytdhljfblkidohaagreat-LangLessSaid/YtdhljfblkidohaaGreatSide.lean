/- lang.side: what is wrong with a side of an equation; lang.row: with a row of cells. -/
import Derived.Test.YtdhljfblkidohaaGreatTree
import Derived.Test.YtdhljfblkidohaaGreatConA
namespace Go.Proofs.YtdhljfblkidohaaGreat
set_option linter.unusedSimpArgs false
set_option linter.unusedVariables false
open Go.RowKit

set_option maxRecDepth 100000 in
set_option maxHeartbeats 4000000 in
theorem side_any {l : List Side} {v : Value} (w w0 : World) (hs : SlR w0 w0.heap.size 4 (Side.Is w0 w0.heap.size) v l) (hw : Below w0.heap.size w0 w) :
    Calls Tryz.prog 32 #[v] w fun e w' => e = .returned (.int .i64 (sideE l : Int)) ∧ Below w.heap.size w w' := by
  obtain ⟨a, c, rfl⟩ : ∃ a c, v = .slice a l.length c := by obtain ⟨a, c, h, _⟩ := hs.form; exact ⟨a, c, h⟩
  have hn : l.length ≤ 9223372036854775807 := by have := hs.caps; unfold maxLen at this; omega
  obtain ⟨n, hlen⟩ : ∃ n, l.length = n := ⟨_, rfl⟩
  rw [hlen] at hs hn ⊢
  have Hlen := Lib.hid hlen
  have Hs := Lib.hid hs
  have Hw := Lib.hid hw
  clear hs hw hlen
  by_cases h64 : 64 < n
  · have hv : sideE l = 4 := by unfold sideE; rw [if_pos (by rw [Hlen.out]; exact h64)]
    rw [hv]; clear hv
    have d64 : decide (64 < (n : Int)) = true := by simp; omega
    go_enter Tryz.func32, Tryz.ntmps32
    go_wp2_with fail
    go_ret
    exact ⟨rfl, Below.refl _ _⟩
  have d64 : decide (64 < (n : Int)) = false := by simp; omega
  have HB : Hid (∀ (k : Nat) (y : Side), l[k]? = some y → badSide y = true → sideE l = 2) := by
    intro k y hy hb
    unfold sideE
    rw [if_neg (by rw [Hlen.out]; exact h64), if_pos (List.any_eq_true.2 ⟨y, List.mem_iff_getElem?.2 ⟨k, hy⟩, hb⟩)]
  have HT : Hid ((∀ (i : Nat) (y : Side), i < n → l[i]? = some y → badSide y = false) → sideE l = if treeB l = false then 2 else 0) := by
    intro hb
    unfold sideE
    rw [if_neg (by rw [Hlen.out]; exact h64), if_neg]
    rw [Bool.not_eq_true, List.any_eq_false]
    intro y hy
    obtain ⟨i, hi⟩ := List.mem_iff_getElem?.1 hy
    rw [hb i y (by rw [← Hlen.out]; exact (List.getElem?_eq_some_iff.1 hi).1) hi]
    simp
  clear h64
  go_enter Tryz.func32, Tryz.ntmps32
  go_wp2_with fail
  go_loopw [4, 5, 11] (fun _ _ j wr => ∃ k : Nat, k ≤ n ∧ j = .int .i64 (k : Int) ∧ Hid (Below w.heap.size w wr) ∧ Hid (∀ (i : Nat) (y : Side), i < k → l[i]? = some y → badSide y = false)) (fun _ _ j _ => n - (intOf j).toNat)
  case atStart => exact ⟨0, Nat.zero_le _, rfl, Below.refl _ _, fun i y hi => by omega⟩
  case round =>
    obtain ⟨k, hk, rfl, hb, hf⟩ := hrel
    by_cases hlt : k < n
    · obtain ⟨⟨sk, sn, su, sa⟩, hd⟩ : ∃ y : Side, l[k]? = some y := get_some Hlen.out hlt
      have hw1 := Hw.out.trans (hb.out.mono Hw.out.size)
      obtain ⟨b, off, x, rfl, hbB, hxl, ⟨u, rfl, s1, f1, o1, o2, o3⟩, hx⟩ := (Hs.out.below hw1).at_ hd
      simp only at s1 f1 o1 o2 o3 hx
      obtain ⟨m, hm⟩ : ∃ m, sa.length = m := ⟨_, rfl⟩
      obtain ⟨ua, uc, rfl⟩ : ∃ a c, u = .slice a m c := by obtain ⟨a, c, h, _⟩ := s1.form; exact ⟨a, c, by rw [h, hm]⟩
      have h0 := hx 0 _ rfl
      have h1 := hx 1 _ rfl
      have h2 := hx 2 _ rfl
      have h3 := hx 3 _ rfl
      simp only [Nat.add_zero] at h0
      have RN := Lib.hid (fun W => right_of sn o2 _ rfl W)
      have Hbad : Hid (badSide ⟨sk, sn, su, sa⟩ = true → sideE l = 2) := HB.out k _ hd
      have Hgood : Hid (badSide ⟨sk, sn, su, sa⟩ = false → ∀ (i : Nat) (y : Side), i < k + 1 → l[i]? = some y → badSide y = false) := fun h => so_far1 hd h hf.out
      have hbs : badSide ⟨sk, sn, su, sa⟩ = (decide (sk < 1 ∨ 5 < sk) || (if sk = 1 then decide (sn.size ≠ 0) else !okName sn) || decide (su < 0) || (decide (su ≠ 0) && decide (sk ≠ 2)) || (decide (m ≠ 0) && decide (sk ≠ 4))) := by rw [← hm]; rfl
      have Hbs := Lib.hid hbs
      clear hd hx hxl hw1 s1 f1 o1 o2 o3 hm hbs
      by_cases tk : sk = 1
      · subst tk
        by_cases te : sn.size = 0
        · obtain rfl := empty_txt te
          by_cases t5 : su < 0
          · skip
            have hz := Hbad.out (by rw [Hbs.out]; simp [t5])
            have HZ := Lib.hid hz
            clear hz
            go_wp2_with (first
                  | (go_at_call 18
                     with_reducible refine (RN.out _).mono ?_
                     rintro e w1 ⟨rfl, q1⟩
                     have B1 : Hid (Below wr.heap.size wr w1) := Lib.hid (((Below.refl _ _).alloc (Nat.le_refl _) _).trans (q1.below _))
                     obtain ⟨g1, _⟩ := bcell (q1.below (wr.heap.size + 1))))
            go_ret
            exact ⟨by rw [HZ.out]; rfl, hb.out.trans (B1.out.mono hb.out.size)⟩
          by_cases t6 : 0 < su
          · have t6b : ¬ su = 0 := by omega
            have hz := Hbad.out (by rw [Hbs.out]; simp [t6b])
            have HZ := Lib.hid hz
            clear hz
            go_wp2_with (first
                  | (go_at_call 18
                     with_reducible refine (RN.out _).mono ?_
                     rintro e w1 ⟨rfl, q1⟩
                     have B1 : Hid (Below wr.heap.size wr w1) := Lib.hid (((Below.refl _ _).alloc (Nat.le_refl _) _).trans (q1.below _))
                     obtain ⟨g1, _⟩ := bcell (q1.below (wr.heap.size + 1))))
            go_ret
            exact ⟨by rw [HZ.out]; rfl, hb.out.trans (B1.out.mono hb.out.size)⟩
          have t6b : su = 0 := by omega
          by_cases t8 : 0 < m
          · have t8b : ¬ m = 0 := by omega
            have hz := Hbad.out (by rw [Hbs.out]; simp [t8b])
            have HZ := Lib.hid hz
            clear hz
            go_wp2_with (first
                  | (go_at_call 18
                     with_reducible refine (RN.out _).mono ?_
                     rintro e w1 ⟨rfl, q1⟩
                     have B1 : Hid (Below wr.heap.size wr w1) := Lib.hid (((Below.refl _ _).alloc (Nat.le_refl _) _).trans (q1.below _))
                     obtain ⟨g1, _⟩ := bcell (q1.below (wr.heap.size + 1))))
            go_ret
            exact ⟨by rw [HZ.out]; rfl, hb.out.trans (B1.out.mono hb.out.size)⟩
          have t8b : m = 0 := by omega
          have hz := Hgood.out (by rw [Hbs.out]; simp [t6b, t8b, *])
          have HZ := Lib.hid hz
          clear hz
          go_wp2_with (first
                | (go_at_call 18
                   with_reducible refine (RN.out _).mono ?_
                   rintro e w1 ⟨rfl, q1⟩
                   have B1 : Hid (Below wr.heap.size wr w1) := Lib.hid (((Below.refl _ _).alloc (Nat.le_refl _) _).trans (q1.below _))
                   obtain ⟨g1, _⟩ := bcell (q1.below (wr.heap.size + 1))))
          go_roundw
          case rel => exact ⟨k + 1, by omega, by go_num, hb.out.trans (B1.out.mono hb.out.size), HZ.out⟩
          case measure => simp [intOf]; omega
        have te1 : ¬ sn.toList = [] := ne_empty te
        have te2 : (sn.toList == []) = false := by simpa using te1
        have hz := Hbad.out (by rw [Hbs.out]; simp [te])
        have HZ := Lib.hid hz
        clear hz
        go_wp2_with (first
              | (go_at_call 18
                 with_reducible refine (RN.out _).mono ?_
                 rintro e w1 ⟨rfl, q1⟩
                 have B1 : Hid (Below wr.heap.size wr w1) := Lib.hid (((Below.refl _ _).alloc (Nat.le_refl _) _).trans (q1.below _))
                 obtain ⟨g1, _⟩ := bcell (q1.below (wr.heap.size + 1))))
        go_ret
        exact ⟨by rw [HZ.out]; rfl, hb.out.trans (B1.out.mono hb.out.size)⟩
      have ek : (sk == 1) = false := by simpa using tk
      by_cases t1 : sk < 1
      · skip
        have hz := Hbad.out (by rw [Hbs.out]; simp [t1])
        have HZ := Lib.hid hz
        clear hz
        go_wp2_with (first
              | (go_at_call 18
                 with_reducible refine (RN.out _).mono ?_
                 rintro e w1 ⟨rfl, q1⟩
                 have B1 : Hid (Below wr.heap.size wr w1) := Lib.hid (((Below.refl _ _).alloc (Nat.le_refl _) _).trans (q1.below _))
                 obtain ⟨g1, _⟩ := bcell (q1.below (wr.heap.size + 1))))
        go_ret
        exact ⟨by rw [HZ.out]; rfl, hb.out.trans (B1.out.mono hb.out.size)⟩
      by_cases t2 : 5 < sk
      · skip
        have hz := Hbad.out (by rw [Hbs.out]; simp [t2])
        have HZ := Lib.hid hz
        clear hz
        go_wp2_with (first
              | (go_at_call 18
                 with_reducible refine (RN.out _).mono ?_
                 rintro e w1 ⟨rfl, q1⟩
                 have B1 : Hid (Below wr.heap.size wr w1) := Lib.hid (((Below.refl _ _).alloc (Nat.le_refl _) _).trans (q1.below _))
                 obtain ⟨g1, _⟩ := bcell (q1.below (wr.heap.size + 1))))
        go_ret
        exact ⟨by rw [HZ.out]; rfl, hb.out.trans (B1.out.mono hb.out.size)⟩
      have t1b : 1 ≤ sk := by omega
      have t2b : sk ≤ 5 := by omega
      rcases hR : okName sn with _ | _
      · rw [hR] at RN
        have hz := Hbad.out (by rw [Hbs.out]; simp [tk, hR])
        have HZ := Lib.hid hz
        clear hz
        go_wp2_with (first
              | (go_at_call 18
                 with_reducible refine (RN.out _).mono ?_
                 rintro e w1 ⟨rfl, q1⟩
                 have B1 : Hid (Below wr.heap.size wr w1) := Lib.hid (((Below.refl _ _).alloc (Nat.le_refl _) _).trans (q1.below _))
                 obtain ⟨g1, _⟩ := bcell (q1.below (wr.heap.size + 1))))
        go_ret
        exact ⟨by rw [HZ.out]; rfl, hb.out.trans (B1.out.mono hb.out.size)⟩
      rw [hR] at RN
      by_cases t5 : su < 0
      · skip
        have hz := Hbad.out (by rw [Hbs.out]; simp [t5])
        have HZ := Lib.hid hz
        clear hz
        go_wp2_with (first
              | (go_at_call 18
                 with_reducible refine (RN.out _).mono ?_
                 rintro e w1 ⟨rfl, q1⟩
                 have B1 : Hid (Below wr.heap.size wr w1) := Lib.hid (((Below.refl _ _).alloc (Nat.le_refl _) _).trans (q1.below _))
                 obtain ⟨g1, _⟩ := bcell (q1.below (wr.heap.size + 1))))
        go_ret
        exact ⟨by rw [HZ.out]; rfl, hb.out.trans (B1.out.mono hb.out.size)⟩
      by_cases t6 : 0 < su
      · have t6b : ¬ su = 0 := by omega
        by_cases t7 : sk = 2
        · subst t7
          by_cases t8 : 0 < m
          · have t8b : ¬ m = 0 := by omega
            have hz := Hbad.out (by rw [Hbs.out]; simp [t8b])
            have HZ := Lib.hid hz
            clear hz
            go_wp2_with (first
                  | (go_at_call 18
                     with_reducible refine (RN.out _).mono ?_
                     rintro e w1 ⟨rfl, q1⟩
                     have B1 : Hid (Below wr.heap.size wr w1) := Lib.hid (((Below.refl _ _).alloc (Nat.le_refl _) _).trans (q1.below _))
                     obtain ⟨g1, _⟩ := bcell (q1.below (wr.heap.size + 1))))
            go_ret
            exact ⟨by rw [HZ.out]; rfl, hb.out.trans (B1.out.mono hb.out.size)⟩
          have t8b : m = 0 := by omega
          have hz := Hgood.out (by rw [Hbs.out]; simp [hR, t8b, t5])
          have HZ := Lib.hid hz
          clear hz
          go_wp2_with (first
                | (go_at_call 18
                   with_reducible refine (RN.out _).mono ?_
                   rintro e w1 ⟨rfl, q1⟩
                   have B1 : Hid (Below wr.heap.size wr w1) := Lib.hid (((Below.refl _ _).alloc (Nat.le_refl _) _).trans (q1.below _))
                   obtain ⟨g1, _⟩ := bcell (q1.below (wr.heap.size + 1))))
          go_roundw
          case rel => exact ⟨k + 1, by omega, by go_num, hb.out.trans (B1.out.mono hb.out.size), HZ.out⟩
          case measure => simp [intOf]; omega
        have e7 : (sk == 2) = false := by simpa using t7
        have e7b : (sk != 2) = true := by simpa using t7
        have hz := Hbad.out (by rw [Hbs.out]; simp [t6b, t7])
        have HZ := Lib.hid hz
        clear hz
        go_wp2_with (first
              | (go_at_call 18
                 with_reducible refine (RN.out _).mono ?_
                 rintro e w1 ⟨rfl, q1⟩
                 have B1 : Hid (Below wr.heap.size wr w1) := Lib.hid (((Below.refl _ _).alloc (Nat.le_refl _) _).trans (q1.below _))
                 obtain ⟨g1, _⟩ := bcell (q1.below (wr.heap.size + 1))))
        go_ret
        exact ⟨by rw [HZ.out]; rfl, hb.out.trans (B1.out.mono hb.out.size)⟩
      have t6b : su = 0 := by omega
      by_cases t8 : 0 < m
      · have t8b : ¬ m = 0 := by omega
        by_cases t9 : sk = 4
        · subst t9
          have hz := Hgood.out (by rw [Hbs.out]; simp [hR, t6b])
          have HZ := Lib.hid hz
          clear hz
          go_wp2_with (first
                | (go_at_call 18
                   with_reducible refine (RN.out _).mono ?_
                   rintro e w1 ⟨rfl, q1⟩
                   have B1 : Hid (Below wr.heap.size wr w1) := Lib.hid (((Below.refl _ _).alloc (Nat.le_refl _) _).trans (q1.below _))
                   obtain ⟨g1, _⟩ := bcell (q1.below (wr.heap.size + 1))))
          go_roundw
          case rel => exact ⟨k + 1, by omega, by go_num, hb.out.trans (B1.out.mono hb.out.size), HZ.out⟩
          case measure => simp [intOf]; omega
        have e9 : (sk == 4) = false := by simpa using t9
        have e9b : (sk != 4) = true := by simpa using t9
        have hz := Hbad.out (by rw [Hbs.out]; simp [t8b, t9])
        have HZ := Lib.hid hz
        clear hz
        go_wp2_with (first
              | (go_at_call 18
                 with_reducible refine (RN.out _).mono ?_
                 rintro e w1 ⟨rfl, q1⟩
                 have B1 : Hid (Below wr.heap.size wr w1) := Lib.hid (((Below.refl _ _).alloc (Nat.le_refl _) _).trans (q1.below _))
                 obtain ⟨g1, _⟩ := bcell (q1.below (wr.heap.size + 1))))
        go_ret
        exact ⟨by rw [HZ.out]; rfl, hb.out.trans (B1.out.mono hb.out.size)⟩
      have t8b : m = 0 := by omega
      have hz := Hgood.out (by rw [Hbs.out]; simp [hR, t6b, t8b, t1, t2, tk])
      have HZ := Lib.hid hz
      clear hz
      go_wp2_with (first
            | (go_at_call 18
               with_reducible refine (RN.out _).mono ?_
               rintro e w1 ⟨rfl, q1⟩
               have B1 : Hid (Below wr.heap.size wr w1) := Lib.hid (((Below.refl _ _).alloc (Nat.le_refl _) _).trans (q1.below _))
               obtain ⟨g1, _⟩ := bcell (q1.below (wr.heap.size + 1))))
      go_roundw
      case rel => exact ⟨k + 1, by omega, by go_num, hb.out.trans (B1.out.mono hb.out.size), HZ.out⟩
      case measure => simp [intOf]; omega
    · have hge : n ≤ k := by omega
      clear hlt
      have hz := HT.out (fun i y hi => hf.out i y (by omega))
      have HZ := Lib.hid hz
      have HTr := Lib.hid (tree_any wr w0 Hs.out (Hw.out.trans (hb.out.mono Hw.out.size)))
      clear hz
      rcases hT : treeB l with _ | _
      · rw [hT] at HTr HZ
        clear hT
        go_wp2_with (go_at_call 74; with_reducible refine HTr.out.mono ?_; rintro e w1 ⟨rfl, b1⟩)
        go_ret
        exact ⟨by rw [HZ.out]; rfl, hb.out.trans (b1.mono hb.out.size)⟩
      · rw [hT] at HTr HZ
        clear hT
        go_wp2_with (go_at_call 74; with_reducible refine HTr.out.mono ?_; rintro e w1 ⟨rfl, b1⟩)
        go_ret
        exact ⟨by rw [HZ.out]; rfl, hb.out.trans (b1.mono hb.out.size)⟩

set_option maxRecDepth 100000 in
set_option maxHeartbeats 4000000 in
theorem row_any (l : List Cell) (concept : ByteArray) (had : Bool) (n : Nat) (most : Int) (g : FuncId) (cap : Array Value) (w : World) (hc : concept.size ≤ maxLen) (hlen : l.length = n)
    (hcall : ∀ args w, (callFunc g args).run Tryz.prog w = .ok (.enter g args) w)
    (hat : ∀ (k : Nat) (c : Cell) (W : World), l[k]? = some c → Below w.heap.size w W → Calls Tryz.prog g (#[.int .i64 (k : Int)] ++ cap) W fun e W' => e = .returned (.tuple #[.int .i64 c.kind, .int .i64 (sumC c)]) ∧ Below W.heap.size W W') :
    Calls Tryz.prog 37 #[.string concept, .bool had, .int .i64 (n : Int), .func (.func g) #[] cap, .int .i64 most] w (ConPost (rowE most concept had l) w) := by
  have Hlen := Lib.hid hlen
  have H := Lib.hid hat
  clear hlen hat
  rcases hR : okName concept with _ | _
  · have hv : rowE most concept had l = (0, 2) := by unfold rowE; rw [if_pos hR]
    rw [hv]; clear hv
    have RR := Lib.hid (fun W => right_of concept hc false hR W)
    clear hR
    go_enter Tryz.func37, Tryz.ntmps37
    go_wp2_with (go_at_call 18; with_reducible refine (RR.out _).mono ?_; rintro e w1 ⟨rfl, q1⟩)
    go_ret2
    exact ⟨⟨_, rfl, fun _ => rfl⟩, q1.below _⟩
  have RR := Lib.hid (fun W => right_of concept hc true hR W)
  rcases had with _ | _
  rotate_left
  · have hv : rowE most concept true l = (0, 40) := by unfold rowE; rw [if_neg (by rw [hR]; simp), if_pos rfl]
    rw [hv]; clear hv
    clear hR
    go_enter Tryz.func37, Tryz.ntmps37
    go_wp2_with (go_at_call 18; with_reducible refine (RR.out _).mono ?_; rintro e w1 ⟨rfl, q1⟩)
    go_ret2
    exact ⟨⟨_, rfl, fun _ => rfl⟩, q1.below _⟩
  by_cases h64 : 64 < n
  · have hv : rowE most concept false l = (65, 4) := by unfold rowE; rw [if_neg (by rw [hR]; simp), if_neg (by simp), if_pos (by rw [Hlen.out]; exact h64)]
    rw [hv]; clear hv
    have d64 : decide (64 < (n : Int)) = true := by simp; omega
    clear hR
    go_enter Tryz.func37, Tryz.ntmps37
    go_wp2_with (go_at_call 18; with_reducible refine (RR.out _).mono ?_; rintro e w1 ⟨rfl, q1⟩)
    go_ret2
    exact ⟨⟨_, rfl, fun _ => rfl⟩, q1.below _⟩
  have d64 : decide (64 < (n : Int)) = false := by simp; omega
  have hv : rowE most concept false l = match firstE (fun _ c => cellE most c) 0 l with
    | some (k, e) => (k + 1, e)
    | none => (0, 0) := by unfold rowE; rw [if_neg (by rw [hR]; simp), if_neg (by simp), if_neg (by rw [Hlen.out]; exact h64)]; rfl
  have HV := Lib.hid hv
  have hn64 : n ≤ 64 := by omega
  clear hv hR h64
  go_enter Tryz.func37, Tryz.ntmps37
  go_wp2_with (go_at_call 18; with_reducible refine (RR.out _).mono ?_; rintro e w1 ⟨rfl, q1⟩)
  go_loopw [12, 13, 14, 22] (fun _ _ _ j wr => ∃ k : Nat, k ≤ n ∧ j = .int .i64 (k : Int) ∧ Hid (Below w.heap.size w wr) ∧ Hid (firstE (fun _ c => cellE most c) 0 l = firstE (fun _ c => cellE most c) k (l.drop k))) (fun _ _ _ j _ => n - (intOf j).toNat)
  case atStart => exact ⟨0, Nat.zero_le _, rfl, q1.below _, Lib.hid (by rw [List.drop_zero])⟩
  case round =>
    obtain ⟨k, hk, rfl, hb, hf⟩ := hrel
    by_cases hlt : k < n
    · obtain ⟨y, hd⟩ := get_some Hlen.out hlt
      have hst := firstE_step (f := fun _ c => cellE most c) hd
      rw [← hf.out] at hst
      have Hst := Lib.hid hst
      have HC := Lib.hid (H.out k y wr hd hb.out)
      have Hbad : Hid (∀ e, cellE most y = e → e ≠ 0 → rowE most concept false l = (k + 1, e)) := by
        intro e he h0
        rw [HV.out, show firstE (fun _ c => cellE most c) 0 l = some (k, e) by rw [Hst.out, if_pos (by rw [he]; exact h0), he]]
      have Hgood : Hid (cellE most y = 0 → firstE (fun _ c => cellE most c) 0 l = firstE (fun _ c => cellE most c) (k + 1) (l.drop (k + 1))) := by
        intro he
        rw [Hst.out, if_neg (by rw [he]; simp)]
      have Hce : Hid (cellE most y = if y.kind < 1 ∨ most < y.kind then 2 else if 4096 < sumC y then 3 else 0) := Lib.hid rfl
      obtain ⟨z, hz⟩ : ∃ z, sumC y = z := ⟨_, rfl⟩
      obtain ⟨kd, hkd⟩ : ∃ z, y.kind = z := ⟨_, rfl⟩
      rw [hz, hkd] at HC Hce
      clear hd hst hf Hst hz hkd
      by_cases t1 : kd < 1
      · have hz := Hbad.out 2 (by rw [Hce.out, if_pos (.inl t1)]) (by omega)
        rw [hz]; clear hz Hbad Hgood
        go_wp2_with (refine HC.out.mono ?_; rintro e w2 ⟨rfl, b2⟩)
        go_ret2
        exact ⟨⟨_, rfl, fun _ => by first | (simp; done) | (simp; omega)⟩, hb.out.trans (b2.mono hb.out.size)⟩
      by_cases t2 : most < kd
      · have hz := Hbad.out 2 (by rw [Hce.out, if_pos (.inr t2)]) (by omega)
        rw [hz]; clear hz Hbad Hgood
        go_wp2_with (refine HC.out.mono ?_; rintro e w2 ⟨rfl, b2⟩)
        go_ret2
        exact ⟨⟨_, rfl, fun _ => by first | (simp; done) | (simp; omega)⟩, hb.out.trans (b2.mono hb.out.size)⟩
      by_cases t3 : 4096 < z
      · have hz := Hbad.out 3 (by rw [Hce.out, if_neg (by omega), if_pos t3]) (by omega)
        rw [hz]; clear hz Hbad Hgood
        go_wp2_with (refine HC.out.mono ?_; rintro e w2 ⟨rfl, b2⟩)
        go_ret2
        exact ⟨⟨_, rfl, fun _ => by first | (simp; done) | (simp; omega)⟩, hb.out.trans (b2.mono hb.out.size)⟩
      have hz := Hgood.out (by rw [Hce.out, if_neg (by omega), if_neg t3])
      have HZ := Lib.hid hz
      clear hz Hbad Hgood
      go_wp2_with (refine HC.out.mono ?_; rintro e w2 ⟨rfl, b2⟩)
      go_roundw
      case rel => exact ⟨k + 1, by omega, by go_num, hb.out.trans (b2.mono hb.out.size), HZ⟩
      case measure => simp [intOf]; omega
    · obtain rfl : n = k := by omega
      clear hlt
      have hz : rowE most concept false l = (0, 0) := by rw [HV.out, hf.out, firstE_end (by rw [Hlen.out]; exact Nat.le_refl _)]
      have HZ := Lib.hid hz
      clear hz
      go_wp2_with fail
      go_ret2
      exact ⟨⟨0, by rw [HZ.out]; rfl, fun h => absurd (by rw [HZ.out]) h⟩, hb.out⟩
end Go.Proofs.YtdhljfblkidohaaGreat
