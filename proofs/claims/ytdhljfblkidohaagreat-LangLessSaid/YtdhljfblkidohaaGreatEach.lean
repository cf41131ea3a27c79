/- lang.each: the first of a list that is wrong is thrown. -/
import Derived.Test.YtdhljfblkidohaaGreatSmallChk
import Derived.Test.YtdhljfblkidohaaGreatChkPlain
namespace Go.Proofs.YtdhljfblkidohaaGreat
set_option linter.unusedSimpArgs false
set_option linter.unusedVariables false
open Go.RowKit

/-- how 'each' ends: what is wrong is thrown -/
def eachEnd (inn : Nat) : Option (Nat × Nat × Nat) → Ending
  | none => .returned (.tuple #[])
  | some (k, p, e) => .panicked (thrown (fltV inn k p e))

set_option maxRecDepth 100000 in
theorem each_text {l : List ByteArray} {v : Value} (f : Nat → ByteArray → Nat × Nat) (g : FuncId) (cap : Array Value) (inn most : Nat) (w w0 : World) (hin : inn ≤ 6) (hmost : most ≤ 256)
   (hs : SlR w0 w0.heap.size 1 (IsText) v l) (hw : Below w0.heap.size w0 w)
   (hcall : ∀ args w, (callFunc g args).run Tryz.prog w = .ok (.enter g args) w)
   (hclos : ∀ (i : Nat) x y W, l[i]? = some y → i < most → IsText x y → Below w0.heap.size w0 W → Calls Tryz.prog g (#[.int .i64 (i : Int), (x.headD undef)] ++ cap) W fun e W' => (∃ p : Int, e = .returned (.tuple #[.int .i64 p, .int .i64 ((f i y).2 : Int)]) ∧ ((f i y).2 ≠ 0 → p = ((f i y).1 : Int))) ∧ Below W.heap.size W W') :
    Calls Tryz.prog 19 #[.int .i64 (inn : Int), .int .i64 (most : Int), v, .func (.func g) #[] cap] w fun e w' => e = eachEnd inn (eachE most f 0 l) ∧ Below w.heap.size w w' := by
  obtain ⟨a, c, rfl⟩ : ∃ a c, v = .slice a l.length c := by obtain ⟨a, c, h, _⟩ := hs.form; exact ⟨a, c, h⟩
  have hn : l.length ≤ 9223372036854775807 := by have := hs.caps; unfold maxLen at this; omega
  obtain ⟨n, hlen⟩ : ∃ n, l.length = n := ⟨_, rfl⟩
  rw [hlen] at hs hn ⊢
  have Hlen := Lib.hid hlen
  have H := Lib.hid hclos
  have Hs := Lib.hid hs
  have Hw := Lib.hid hw
  clear hclos hs hlen hw
  go_enter Tryz.func19, Tryz.ntmps19
  go_wp2_with fail
  go_loopw [8, 9, 10, 11, 14] (fun _ _ _ _ j wr => ∃ k : Nat, k ≤ n ∧ j = .int .i64 k ∧ Below w.heap.size w wr ∧ Hid (eachE most f 0 l = eachE most f k (l.drop k))) (fun _ _ _ _ j _ => n - (intOf j).toNat)
  case atStart => exact ⟨0, Nat.zero_le _, rfl, Below.refl _ _, Lib.hid (by rw [List.drop_zero])⟩
  case round =>
    obtain ⟨k, hk, rfl, hb, hf⟩ := hrel
    by_cases hlt : k < n
    · obtain ⟨y, hd⟩ := get_some Hlen.out hlt
      have hw1 := Hw.out.trans (hb.mono Hw.out.size)
      obtain ⟨b, off, x, rfl, hbB, hxl, hR, hx⟩ := (Hs.out.below hw1).at_ hd
      have HR := Lib.hid hR
      obtain ⟨rfl, _⟩ := id hR
      have h0 := hx 0 _ rfl
      simp only [Nat.add_zero, Nat.mul_one] at h0
      have hst := eachE_step (most := most) (f := f) hd
      rw [← hf.out] at hst
      have Hst := Lib.hid hst
      have Hd := Lib.hid hd
      have Hw1 := Lib.hid hw1
      clear hd hx hxl hR hw1 hf hst
      have c0 : (0 : Int) ≤ (k : Int) := Int.natCast_nonneg _
      by_cases hm : k < most
      · have d1 : decide ((k : Int) < (most : Int)) = true := by simp; omega
        obtain ⟨⟨pp, pe⟩, hfk⟩ : ∃ q, f k y = q := ⟨_, rfl⟩
        rw [if_neg (by omega), hfk] at Hst
        have HC := Lib.hid (fun W hW => H.out k _ y W Hd.out hm HR.out hW)
        rw [hfk] at HC
        clear hfk
        by_cases he : pe = 0
        · subst he
          go_wp2_with (first
            | (go_at_call 17
               with_reducible refine (must_yes _ _ _ _ _).mono ?_
               rintro e w1 ⟨rfl, b1⟩
               have B1 := Lib.hid b1
               clear b1)
            | (refine (HC.out _ (Hw1.out.trans (B1.out.mono Hw1.out.size))).mono ?_
               rintro e w2 ⟨⟨p2, rfl, _⟩, b2⟩
               have B2 := Lib.hid (B1.out.trans (b2.mono B1.out.size))
               clear b2))
          go_roundw
          case rel => exact ⟨k + 1, by omega, by go_num, (hb.trans (B2.out.mono hb.size)).trans (B1.out.mono (Nat.le_trans hb.size B2.out.size)), Lib.hid (by rw [Hst.out, if_neg (by simp)])⟩
          case measure => simp [intOf]; omega
        · have e1 : ((pe : Int) == 0) = false := by simp; omega
          have e2 : ¬ ((pe : Int) = 0) := by omega
          have e3 : decide ((pe : Int) = 0) = false := by simp; omega
          go_wp2_with (first
            | (go_at_call 17
               with_reducible refine (must_yes _ _ _ _ _).mono ?_
               rintro e w1 ⟨rfl, b1⟩
               have B1 := Lib.hid b1
               clear b1)
            | (go_at_call 17
               with_reducible refine (must_no _ _ _ _ _).mono ?_
               rintro e w3 ⟨rfl, b1⟩
               have B1 := Lib.hid b1
               clear b1)
            | (refine (HC.out _ (Hw1.out.trans (B1.out.mono Hw1.out.size))).mono ?_
               rintro e w2 ⟨⟨p2, rfl, hp2⟩, b2⟩
               have hp3 := hp2 he
               subst hp3
               have B2 := Lib.hid (B1.out.trans (b2.mono B1.out.size))
               clear b2 hp2))
          exact ⟨rfl, by rw [Hst.out, if_pos he]; rfl, (hb.trans (B2.out.mono hb.size)).trans (B1.out.mono (Nat.le_trans hb.size B2.out.size))⟩
      · have d1 : decide ((k : Int) < (most : Int)) = false := by simp; omega
        rw [if_pos (by omega)] at Hst
        go_wp2_with (first
          | (go_at_call 17
             with_reducible refine (must_no _ _ _ _ _).mono ?_
             rintro e w1 ⟨rfl, b1⟩
             have B1 : Hid (Below wr.heap.size wr w1) := Lib.hid (b1)
             clear b1))
        exact ⟨rfl, by rw [Hst.out]; rfl, hb.trans (B1.out.mono hb.size)⟩
    · have hge : n ≤ k := by omega
      clear hlt
      have he := hf.out
      rw [eachE_end (by rw [Hlen.out]; exact hge)] at he
      have He := Lib.hid he
      clear he
      go_wp2_with fail
      go_end0
      exact ⟨by rw [He.out]; rfl, hb⟩

set_option maxRecDepth 100000 in
theorem each_concept {l : List Concept} {v : Value} (f : Nat → Concept → Nat × Nat) (g : FuncId) (cap : Array Value) (inn most : Nat) (w w0 : World) (hin : inn ≤ 6) (hmost : most ≤ 256)
   (hs : SlR w0 w0.heap.size 6 (Concept.Is w0 w0.heap.size) v l) (hw : Below w0.heap.size w0 w)
   (hcall : ∀ args w, (callFunc g args).run Tryz.prog w = .ok (.enter g args) w)
   (hclos : ∀ (i : Nat) x y W, l[i]? = some y → i < most → Concept.Is w0 w0.heap.size x y → Below w0.heap.size w0 W → Calls Tryz.prog g (#[.int .i64 (i : Int), (.agg x.toArray)] ++ cap) W fun e W' => (∃ p : Int, e = .returned (.tuple #[.int .i64 p, .int .i64 ((f i y).2 : Int)]) ∧ ((f i y).2 ≠ 0 → p = ((f i y).1 : Int))) ∧ Below W.heap.size W W') :
    Calls Tryz.prog 23 #[.int .i64 (inn : Int), .int .i64 (most : Int), v, .func (.func g) #[] cap] w fun e w' => e = eachEnd inn (eachE most f 0 l) ∧ Below w.heap.size w w' := by
  obtain ⟨a, c, rfl⟩ : ∃ a c, v = .slice a l.length c := by obtain ⟨a, c, h, _⟩ := hs.form; exact ⟨a, c, h⟩
  have hn : l.length ≤ 9223372036854775807 := by have := hs.caps; unfold maxLen at this; omega
  obtain ⟨n, hlen⟩ : ∃ n, l.length = n := ⟨_, rfl⟩
  rw [hlen] at hs hn ⊢
  have Hlen := Lib.hid hlen
  have H := Lib.hid hclos
  have Hs := Lib.hid hs
  have Hw := Lib.hid hw
  clear hclos hs hlen hw
  go_enter Tryz.func23, Tryz.ntmps23
  go_wp2_with fail
  go_loopw [8, 9, 10, 11, 14] (fun _ _ _ _ j wr => ∃ k : Nat, k ≤ n ∧ j = .int .i64 k ∧ Below w.heap.size w wr ∧ Hid (eachE most f 0 l = eachE most f k (l.drop k))) (fun _ _ _ _ j _ => n - (intOf j).toNat)
  case atStart => exact ⟨0, Nat.zero_le _, rfl, Below.refl _ _, Lib.hid (by rw [List.drop_zero])⟩
  case round =>
    obtain ⟨k, hk, rfl, hb, hf⟩ := hrel
    by_cases hlt : k < n
    · obtain ⟨y, hd⟩ := get_some Hlen.out hlt
      have hw1 := Hw.out.trans (hb.mono Hw.out.size)
      obtain ⟨b, off, x, rfl, hbB, hxl, hR, hx⟩ := (Hs.out.below hw1).at_ hd
      have HR := Lib.hid hR
      obtain ⟨v0, v1, v2, rfl, s0, s1, s2, _⟩ := id hR
      obtain ⟨qa0, qn0, qc0, rfl⟩ := s0.form'
      clear s0
      obtain ⟨qa1, qn1, qc1, rfl⟩ := s1.form'
      clear s1
      obtain ⟨qa2, qn2, qc2, rfl⟩ := s2.form'
      clear s2
      have h0 := hx 0 _ rfl
      have h1 := hx 1 _ rfl
      have h2 := hx 2 _ rfl
      have h3 := hx 3 _ rfl
      have h4 := hx 4 _ rfl
      have h5 := hx 5 _ rfl
      simp only [Nat.add_zero, Nat.mul_one] at h0
      have hst := eachE_step (most := most) (f := f) hd
      rw [← hf.out] at hst
      have Hst := Lib.hid hst
      have Hd := Lib.hid hd
      have Hw1 := Lib.hid hw1
      clear hd hx hxl hR hw1 hf hst
      have c0 : (0 : Int) ≤ (k : Int) := Int.natCast_nonneg _
      by_cases hm : k < most
      · have d1 : decide ((k : Int) < (most : Int)) = true := by simp; omega
        obtain ⟨⟨pp, pe⟩, hfk⟩ : ∃ q, f k y = q := ⟨_, rfl⟩
        rw [if_neg (by omega), hfk] at Hst
        have HC := Lib.hid (fun W hW => H.out k _ y W Hd.out hm HR.out hW)
        rw [hfk] at HC
        clear hfk
        by_cases he : pe = 0
        · subst he
          go_wp2_with (first
            | (go_at_call 17
               with_reducible refine (must_yes _ _ _ _ _).mono ?_
               rintro e w1 ⟨rfl, b1⟩
               have hM1 := b1
               simp only [World.size_alloc] at hM1
               obtain ⟨q1, _⟩ := bcell hM1
               have B1 : Hid (Below wr.heap.size wr w1) := Lib.hid (((Below.refl _ _).alloc (Nat.le_refl _) _).trans (hM1.mono (Nat.le_succ _)))
               clear b1 hM1)
            | (go_at_call 17
               with_reducible refine (must_yes _ _ _ _ _).mono ?_
               rintro e w3 ⟨rfl, b3⟩
               have B1 := Lib.hid b3
               clear b3)
            | (refine (HC.out _ (Hw1.out.trans (B1.out.mono Hw1.out.size))).mono ?_
               rintro e w2 ⟨⟨p2, rfl, _⟩, b2⟩
               have B2 := Lib.hid (B1.out.trans (b2.mono B1.out.size))
               clear b2))
          go_roundw
          case rel => exact ⟨k + 1, by omega, by go_num, (hb.trans (B2.out.mono hb.size)).trans (B1.out.mono (Nat.le_trans hb.size B2.out.size)), Lib.hid (by rw [Hst.out, if_neg (by simp)])⟩
          case measure => simp [intOf]; omega
        · have e1 : ((pe : Int) == 0) = false := by simp; omega
          have e2 : ¬ ((pe : Int) = 0) := by omega
          have e3 : decide ((pe : Int) = 0) = false := by simp; omega
          go_wp2_with (first
            | (go_at_call 17
               with_reducible refine (must_yes _ _ _ _ _).mono ?_
               rintro e w1 ⟨rfl, b1⟩
               have hM1 := b1
               simp only [World.size_alloc] at hM1
               obtain ⟨q1, _⟩ := bcell hM1
               have B1 : Hid (Below wr.heap.size wr w1) := Lib.hid (((Below.refl _ _).alloc (Nat.le_refl _) _).trans (hM1.mono (Nat.le_succ _)))
               clear b1 hM1)
            | (go_at_call 17
               with_reducible refine (must_no _ _ _ _ _).mono ?_
               rintro e w3 ⟨rfl, b1⟩
               have B1 := Lib.hid b1
               clear b1)
            | (refine (HC.out _ (Hw1.out.trans (B1.out.mono Hw1.out.size))).mono ?_
               rintro e w2 ⟨⟨p2, rfl, hp2⟩, b2⟩
               have hp3 := hp2 he
               subst hp3
               have B2 := Lib.hid (B1.out.trans (b2.mono B1.out.size))
               clear b2 hp2))
          exact ⟨rfl, by rw [Hst.out, if_pos he]; rfl, (hb.trans (B2.out.mono hb.size)).trans (B1.out.mono (Nat.le_trans hb.size B2.out.size))⟩
      · have d1 : decide ((k : Int) < (most : Int)) = false := by simp; omega
        rw [if_pos (by omega)] at Hst
        go_wp2_with (first
          | (go_at_call 17
             with_reducible refine (must_no _ _ _ _ _).mono ?_
             rintro e w1 ⟨rfl, b1⟩
             have B1 : Hid (Below wr.heap.size wr w1) := Lib.hid ((((Below.refl _ _).alloc (Nat.le_refl _) _).trans (b1.mono (below2 (Nat.le_refl _)))))
             clear b1))
        exact ⟨rfl, by rw [Hst.out]; rfl, hb.trans (B1.out.mono hb.size)⟩
    · have hge : n ≤ k := by omega
      clear hlt
      have he := hf.out
      rw [eachE_end (by rw [Hlen.out]; exact hge)] at he
      have He := Lib.hid he
      clear he
      go_wp2_with fail
      go_end0
      exact ⟨by rw [He.out]; rfl, hb⟩

set_option maxRecDepth 100000 in
theorem each_rule {l : List Rule} {v : Value} (f : Nat → Rule → Nat × Nat) (g : FuncId) (cap : Array Value) (inn most : Nat) (w w0 : World) (hin : inn ≤ 6) (hmost : most ≤ 256)
   (hs : SlR w0 w0.heap.size 4 (Rule.Is) v l) (hw : Below w0.heap.size w0 w)
   (hcall : ∀ args w, (callFunc g args).run Tryz.prog w = .ok (.enter g args) w)
   (hclos : ∀ (i : Nat) x y W, l[i]? = some y → i < most → Rule.Is x y → Below w0.heap.size w0 W → Calls Tryz.prog g (#[.int .i64 (i : Int), (.agg x.toArray)] ++ cap) W fun e W' => (∃ p : Int, e = .returned (.tuple #[.int .i64 p, .int .i64 ((f i y).2 : Int)]) ∧ ((f i y).2 ≠ 0 → p = ((f i y).1 : Int))) ∧ Below W.heap.size W W') :
    Calls Tryz.prog 26 #[.int .i64 (inn : Int), .int .i64 (most : Int), v, .func (.func g) #[] cap] w fun e w' => e = eachEnd inn (eachE most f 0 l) ∧ Below w.heap.size w w' := by
  obtain ⟨a, c, rfl⟩ : ∃ a c, v = .slice a l.length c := by obtain ⟨a, c, h, _⟩ := hs.form; exact ⟨a, c, h⟩
  have hn : l.length ≤ 9223372036854775807 := by have := hs.caps; unfold maxLen at this; omega
  obtain ⟨n, hlen⟩ : ∃ n, l.length = n := ⟨_, rfl⟩
  rw [hlen] at hs hn ⊢
  have Hlen := Lib.hid hlen
  have H := Lib.hid hclos
  have Hs := Lib.hid hs
  have Hw := Lib.hid hw
  clear hclos hs hlen hw
  go_enter Tryz.func26, Tryz.ntmps26
  go_wp2_with fail
  go_loopw [8, 9, 10, 11, 14] (fun _ _ _ _ j wr => ∃ k : Nat, k ≤ n ∧ j = .int .i64 k ∧ Below w.heap.size w wr ∧ Hid (eachE most f 0 l = eachE most f k (l.drop k))) (fun _ _ _ _ j _ => n - (intOf j).toNat)
  case atStart => exact ⟨0, Nat.zero_le _, rfl, Below.refl _ _, Lib.hid (by rw [List.drop_zero])⟩
  case round =>
    obtain ⟨k, hk, rfl, hb, hf⟩ := hrel
    by_cases hlt : k < n
    · obtain ⟨y, hd⟩ := get_some Hlen.out hlt
      have hw1 := Hw.out.trans (hb.mono Hw.out.size)
      obtain ⟨b, off, x, rfl, hbB, hxl, hR, hx⟩ := (Hs.out.below hw1).at_ hd
      have HR := Lib.hid hR
      obtain ⟨rfl, _⟩ := id hR
      simp only [Rule.cells] at hx HR hxl ⊢
      have h0 := hx 0 _ rfl
      have h1 := hx 1 _ rfl
      have h2 := hx 2 _ rfl
      have h3 := hx 3 _ rfl
      simp only [Nat.add_zero, Nat.mul_one] at h0
      have hst := eachE_step (most := most) (f := f) hd
      rw [← hf.out] at hst
      have Hst := Lib.hid hst
      have Hd := Lib.hid hd
      have Hw1 := Lib.hid hw1
      clear hd hx hxl hR hw1 hf hst
      have c0 : (0 : Int) ≤ (k : Int) := Int.natCast_nonneg _
      by_cases hm : k < most
      · have d1 : decide ((k : Int) < (most : Int)) = true := by simp; omega
        obtain ⟨⟨pp, pe⟩, hfk⟩ : ∃ q, f k y = q := ⟨_, rfl⟩
        rw [if_neg (by omega), hfk] at Hst
        have HC := Lib.hid (fun W hW => H.out k _ y W Hd.out hm HR.out hW)
        rw [hfk] at HC
        clear hfk
        by_cases he : pe = 0
        · subst he
          go_wp2_with (first
            | (go_at_call 17
               with_reducible refine (must_yes _ _ _ _ _).mono ?_
               rintro e w1 ⟨rfl, b1⟩
               have hM1 := b1
               simp only [World.size_alloc] at hM1
               obtain ⟨q1, _⟩ := bcell hM1
               have B1 : Hid (Below wr.heap.size wr w1) := Lib.hid (((Below.refl _ _).alloc (Nat.le_refl _) _).trans (hM1.mono (Nat.le_succ _)))
               clear b1 hM1)
            | (go_at_call 17
               with_reducible refine (must_yes _ _ _ _ _).mono ?_
               rintro e w3 ⟨rfl, b3⟩
               have B1 := Lib.hid b3
               clear b3)
            | (refine (HC.out _ (Hw1.out.trans (B1.out.mono Hw1.out.size))).mono ?_
               rintro e w2 ⟨⟨p2, rfl, _⟩, b2⟩
               have B2 := Lib.hid (B1.out.trans (b2.mono B1.out.size))
               clear b2))
          go_roundw
          case rel => exact ⟨k + 1, by omega, by go_num, (hb.trans (B2.out.mono hb.size)).trans (B1.out.mono (Nat.le_trans hb.size B2.out.size)), Lib.hid (by rw [Hst.out, if_neg (by simp)])⟩
          case measure => simp [intOf]; omega
        · have e1 : ((pe : Int) == 0) = false := by simp; omega
          have e2 : ¬ ((pe : Int) = 0) := by omega
          have e3 : decide ((pe : Int) = 0) = false := by simp; omega
          go_wp2_with (first
            | (go_at_call 17
               with_reducible refine (must_yes _ _ _ _ _).mono ?_
               rintro e w1 ⟨rfl, b1⟩
               have hM1 := b1
               simp only [World.size_alloc] at hM1
               obtain ⟨q1, _⟩ := bcell hM1
               have B1 : Hid (Below wr.heap.size wr w1) := Lib.hid (((Below.refl _ _).alloc (Nat.le_refl _) _).trans (hM1.mono (Nat.le_succ _)))
               clear b1 hM1)
            | (go_at_call 17
               with_reducible refine (must_no _ _ _ _ _).mono ?_
               rintro e w3 ⟨rfl, b1⟩
               have B1 := Lib.hid b1
               clear b1)
            | (refine (HC.out _ (Hw1.out.trans (B1.out.mono Hw1.out.size))).mono ?_
               rintro e w2 ⟨⟨p2, rfl, hp2⟩, b2⟩
               have hp3 := hp2 he
               subst hp3
               have B2 := Lib.hid (B1.out.trans (b2.mono B1.out.size))
               clear b2 hp2))
          exact ⟨rfl, by rw [Hst.out, if_pos he]; rfl, (hb.trans (B2.out.mono hb.size)).trans (B1.out.mono (Nat.le_trans hb.size B2.out.size))⟩
      · have d1 : decide ((k : Int) < (most : Int)) = false := by simp; omega
        rw [if_pos (by omega)] at Hst
        go_wp2_with (first
          | (go_at_call 17
             with_reducible refine (must_no _ _ _ _ _).mono ?_
             rintro e w1 ⟨rfl, b1⟩
             have B1 : Hid (Below wr.heap.size wr w1) := Lib.hid ((((Below.refl _ _).alloc (Nat.le_refl _) _).trans (b1.mono (below2 (Nat.le_refl _)))))
             clear b1))
        exact ⟨rfl, by rw [Hst.out]; rfl, hb.trans (B1.out.mono hb.size)⟩
    · have hge : n ≤ k := by omega
      clear hlt
      have he := hf.out
      rw [eachE_end (by rw [Hlen.out]; exact hge)] at he
      have He := Lib.hid he
      clear he
      go_wp2_with fail
      go_end0
      exact ⟨by rw [He.out]; rfl, hb⟩

set_option maxRecDepth 100000 in
theorem each_equation {l : List Equation} {v : Value} (f : Nat → Equation → Nat × Nat) (g : FuncId) (cap : Array Value) (inn most : Nat) (w w0 : World) (hin : inn ≤ 6) (hmost : most ≤ 256)
   (hs : SlR w0 w0.heap.size 3 (Equation.Is w0 w0.heap.size) v l) (hw : Below w0.heap.size w0 w)
   (hcall : ∀ args w, (callFunc g args).run Tryz.prog w = .ok (.enter g args) w)
   (hclos : ∀ (i : Nat) x y W, l[i]? = some y → i < most → Equation.Is w0 w0.heap.size x y → Below w0.heap.size w0 W → Calls Tryz.prog g (#[.int .i64 (i : Int), (.agg x.toArray)] ++ cap) W fun e W' => (∃ p : Int, e = .returned (.tuple #[.int .i64 p, .int .i64 ((f i y).2 : Int)]) ∧ ((f i y).2 ≠ 0 → p = ((f i y).1 : Int))) ∧ Below W.heap.size W W') :
    Calls Tryz.prog 30 #[.int .i64 (inn : Int), .int .i64 (most : Int), v, .func (.func g) #[] cap] w fun e w' => e = eachEnd inn (eachE most f 0 l) ∧ Below w.heap.size w w' := by
  obtain ⟨a, c, rfl⟩ : ∃ a c, v = .slice a l.length c := by obtain ⟨a, c, h, _⟩ := hs.form; exact ⟨a, c, h⟩
  have hn : l.length ≤ 9223372036854775807 := by have := hs.caps; unfold maxLen at this; omega
  obtain ⟨n, hlen⟩ : ∃ n, l.length = n := ⟨_, rfl⟩
  rw [hlen] at hs hn ⊢
  have Hlen := Lib.hid hlen
  have H := Lib.hid hclos
  have Hs := Lib.hid hs
  have Hw := Lib.hid hw
  clear hclos hs hlen hw
  go_enter Tryz.func30, Tryz.ntmps30
  go_wp2_with fail
  go_loopw [8, 9, 10, 11, 14] (fun _ _ _ _ j wr => ∃ k : Nat, k ≤ n ∧ j = .int .i64 k ∧ Below w.heap.size w wr ∧ Hid (eachE most f 0 l = eachE most f k (l.drop k))) (fun _ _ _ _ j _ => n - (intOf j).toNat)
  case atStart => exact ⟨0, Nat.zero_le _, rfl, Below.refl _ _, Lib.hid (by rw [List.drop_zero])⟩
  case round =>
    obtain ⟨k, hk, rfl, hb, hf⟩ := hrel
    by_cases hlt : k < n
    · obtain ⟨y, hd⟩ := get_some Hlen.out hlt
      have hw1 := Hw.out.trans (hb.mono Hw.out.size)
      obtain ⟨b, off, x, rfl, hbB, hxl, hR, hx⟩ := (Hs.out.below hw1).at_ hd
      have HR := Lib.hid hR
      obtain ⟨v0, v1, rfl, s0, s1, _⟩ := id hR
      obtain ⟨qa0, qn0, qc0, rfl⟩ := s0.form'
      clear s0
      obtain ⟨qa1, qn1, qc1, rfl⟩ := s1.form'
      clear s1
      have h0 := hx 0 _ rfl
      have h1 := hx 1 _ rfl
      have h2 := hx 2 _ rfl
      simp only [Nat.add_zero, Nat.mul_one] at h0
      have hst := eachE_step (most := most) (f := f) hd
      rw [← hf.out] at hst
      have Hst := Lib.hid hst
      have Hd := Lib.hid hd
      have Hw1 := Lib.hid hw1
      clear hd hx hxl hR hw1 hf hst
      have c0 : (0 : Int) ≤ (k : Int) := Int.natCast_nonneg _
      by_cases hm : k < most
      · have d1 : decide ((k : Int) < (most : Int)) = true := by simp; omega
        obtain ⟨⟨pp, pe⟩, hfk⟩ : ∃ q, f k y = q := ⟨_, rfl⟩
        rw [if_neg (by omega), hfk] at Hst
        have HC := Lib.hid (fun W hW => H.out k _ y W Hd.out hm HR.out hW)
        rw [hfk] at HC
        clear hfk
        by_cases he : pe = 0
        · subst he
          go_wp2_with (first
            | (go_at_call 17
               with_reducible refine (must_yes _ _ _ _ _).mono ?_
               rintro e w1 ⟨rfl, b1⟩
               have hM1 := b1
               simp only [World.size_alloc] at hM1
               obtain ⟨q1, _⟩ := bcell hM1
               have B1 : Hid (Below wr.heap.size wr w1) := Lib.hid (((Below.refl _ _).alloc (Nat.le_refl _) _).trans (hM1.mono (Nat.le_succ _)))
               clear b1 hM1)
            | (go_at_call 17
               with_reducible refine (must_yes _ _ _ _ _).mono ?_
               rintro e w3 ⟨rfl, b3⟩
               have B1 := Lib.hid b3
               clear b3)
            | (refine (HC.out _ (Hw1.out.trans (B1.out.mono Hw1.out.size))).mono ?_
               rintro e w2 ⟨⟨p2, rfl, _⟩, b2⟩
               have B2 := Lib.hid (B1.out.trans (b2.mono B1.out.size))
               clear b2))
          go_roundw
          case rel => exact ⟨k + 1, by omega, by go_num, (hb.trans (B2.out.mono hb.size)).trans (B1.out.mono (Nat.le_trans hb.size B2.out.size)), Lib.hid (by rw [Hst.out, if_neg (by simp)])⟩
          case measure => simp [intOf]; omega
        · have e1 : ((pe : Int) == 0) = false := by simp; omega
          have e2 : ¬ ((pe : Int) = 0) := by omega
          have e3 : decide ((pe : Int) = 0) = false := by simp; omega
          go_wp2_with (first
            | (go_at_call 17
               with_reducible refine (must_yes _ _ _ _ _).mono ?_
               rintro e w1 ⟨rfl, b1⟩
               have hM1 := b1
               simp only [World.size_alloc] at hM1
               obtain ⟨q1, _⟩ := bcell hM1
               have B1 : Hid (Below wr.heap.size wr w1) := Lib.hid (((Below.refl _ _).alloc (Nat.le_refl _) _).trans (hM1.mono (Nat.le_succ _)))
               clear b1 hM1)
            | (go_at_call 17
               with_reducible refine (must_no _ _ _ _ _).mono ?_
               rintro e w3 ⟨rfl, b1⟩
               have B1 := Lib.hid b1
               clear b1)
            | (refine (HC.out _ (Hw1.out.trans (B1.out.mono Hw1.out.size))).mono ?_
               rintro e w2 ⟨⟨p2, rfl, hp2⟩, b2⟩
               have hp3 := hp2 he
               subst hp3
               have B2 := Lib.hid (B1.out.trans (b2.mono B1.out.size))
               clear b2 hp2))
          exact ⟨rfl, by rw [Hst.out, if_pos he]; rfl, (hb.trans (B2.out.mono hb.size)).trans (B1.out.mono (Nat.le_trans hb.size B2.out.size))⟩
      · have d1 : decide ((k : Int) < (most : Int)) = false := by simp; omega
        rw [if_pos (by omega)] at Hst
        go_wp2_with (first
          | (go_at_call 17
             with_reducible refine (must_no _ _ _ _ _).mono ?_
             rintro e w1 ⟨rfl, b1⟩
             have B1 : Hid (Below wr.heap.size wr w1) := Lib.hid ((((Below.refl _ _).alloc (Nat.le_refl _) _).trans (b1.mono (below2 (Nat.le_refl _)))))
             clear b1))
        exact ⟨rfl, by rw [Hst.out]; rfl, hb.trans (B1.out.mono hb.size)⟩
    · have hge : n ≤ k := by omega
      clear hlt
      have he := hf.out
      rw [eachE_end (by rw [Hlen.out]; exact hge)] at he
      have He := Lib.hid he
      clear he
      go_wp2_with fail
      go_end0
      exact ⟨by rw [He.out]; rfl, hb⟩

set_option maxRecDepth 100000 in
theorem each_editor {l : List Editor} {v : Value} (f : Nat → Editor → Nat × Nat) (g : FuncId) (cap : Array Value) (inn most : Nat) (w w0 : World) (hin : inn ≤ 6) (hmost : most ≤ 256)
   (hs : SlR w0 w0.heap.size 2 (Editor.Is w0 w0.heap.size) v l) (hw : Below w0.heap.size w0 w)
   (hcall : ∀ args w, (callFunc g args).run Tryz.prog w = .ok (.enter g args) w)
   (hclos : ∀ (i : Nat) x y W, l[i]? = some y → i < most → Editor.Is w0 w0.heap.size x y → Below w0.heap.size w0 W → Calls Tryz.prog g (#[.int .i64 (i : Int), (.agg x.toArray)] ++ cap) W fun e W' => (∃ p : Int, e = .returned (.tuple #[.int .i64 p, .int .i64 ((f i y).2 : Int)]) ∧ ((f i y).2 ≠ 0 → p = ((f i y).1 : Int))) ∧ Below W.heap.size W W') :
    Calls Tryz.prog 33 #[.int .i64 (inn : Int), .int .i64 (most : Int), v, .func (.func g) #[] cap] w fun e w' => e = eachEnd inn (eachE most f 0 l) ∧ Below w.heap.size w w' := by
  obtain ⟨a, c, rfl⟩ : ∃ a c, v = .slice a l.length c := by obtain ⟨a, c, h, _⟩ := hs.form; exact ⟨a, c, h⟩
  have hn : l.length ≤ 9223372036854775807 := by have := hs.caps; unfold maxLen at this; omega
  obtain ⟨n, hlen⟩ : ∃ n, l.length = n := ⟨_, rfl⟩
  rw [hlen] at hs hn ⊢
  have Hlen := Lib.hid hlen
  have H := Lib.hid hclos
  have Hs := Lib.hid hs
  have Hw := Lib.hid hw
  clear hclos hs hlen hw
  go_enter Tryz.func33, Tryz.ntmps33
  go_wp2_with fail
  go_loopw [8, 9, 10, 11, 14] (fun _ _ _ _ j wr => ∃ k : Nat, k ≤ n ∧ j = .int .i64 k ∧ Below w.heap.size w wr ∧ Hid (eachE most f 0 l = eachE most f k (l.drop k))) (fun _ _ _ _ j _ => n - (intOf j).toNat)
  case atStart => exact ⟨0, Nat.zero_le _, rfl, Below.refl _ _, Lib.hid (by rw [List.drop_zero])⟩
  case round =>
    obtain ⟨k, hk, rfl, hb, hf⟩ := hrel
    by_cases hlt : k < n
    · obtain ⟨y, hd⟩ := get_some Hlen.out hlt
      have hw1 := Hw.out.trans (hb.mono Hw.out.size)
      obtain ⟨b, off, x, rfl, hbB, hxl, hR, hx⟩ := (Hs.out.below hw1).at_ hd
      have HR := Lib.hid hR
      obtain ⟨v0, rfl, s0, _⟩ := id hR
      obtain ⟨qa0, qn0, qc0, rfl⟩ := s0.form'
      clear s0
      have h0 := hx 0 _ rfl
      have h1 := hx 1 _ rfl
      simp only [Nat.add_zero, Nat.mul_one] at h0
      have hst := eachE_step (most := most) (f := f) hd
      rw [← hf.out] at hst
      have Hst := Lib.hid hst
      have Hd := Lib.hid hd
      have Hw1 := Lib.hid hw1
      clear hd hx hxl hR hw1 hf hst
      have c0 : (0 : Int) ≤ (k : Int) := Int.natCast_nonneg _
      by_cases hm : k < most
      · have d1 : decide ((k : Int) < (most : Int)) = true := by simp; omega
        obtain ⟨⟨pp, pe⟩, hfk⟩ : ∃ q, f k y = q := ⟨_, rfl⟩
        rw [if_neg (by omega), hfk] at Hst
        have HC := Lib.hid (fun W hW => H.out k _ y W Hd.out hm HR.out hW)
        rw [hfk] at HC
        clear hfk
        by_cases he : pe = 0
        · subst he
          go_wp2_with (first
            | (go_at_call 17
               with_reducible refine (must_yes _ _ _ _ _).mono ?_
               rintro e w1 ⟨rfl, b1⟩
               have hM1 := b1
               simp only [World.size_alloc] at hM1
               obtain ⟨q1, _⟩ := bcell hM1
               have B1 : Hid (Below wr.heap.size wr w1) := Lib.hid (((Below.refl _ _).alloc (Nat.le_refl _) _).trans (hM1.mono (Nat.le_succ _)))
               clear b1 hM1)
            | (go_at_call 17
               with_reducible refine (must_yes _ _ _ _ _).mono ?_
               rintro e w3 ⟨rfl, b3⟩
               have B1 := Lib.hid b3
               clear b3)
            | (refine (HC.out _ (Hw1.out.trans (B1.out.mono Hw1.out.size))).mono ?_
               rintro e w2 ⟨⟨p2, rfl, _⟩, b2⟩
               have B2 := Lib.hid (B1.out.trans (b2.mono B1.out.size))
               clear b2))
          go_roundw
          case rel => exact ⟨k + 1, by omega, by go_num, (hb.trans (B2.out.mono hb.size)).trans (B1.out.mono (Nat.le_trans hb.size B2.out.size)), Lib.hid (by rw [Hst.out, if_neg (by simp)])⟩
          case measure => simp [intOf]; omega
        · have e1 : ((pe : Int) == 0) = false := by simp; omega
          have e2 : ¬ ((pe : Int) = 0) := by omega
          have e3 : decide ((pe : Int) = 0) = false := by simp; omega
          go_wp2_with (first
            | (go_at_call 17
               with_reducible refine (must_yes _ _ _ _ _).mono ?_
               rintro e w1 ⟨rfl, b1⟩
               have hM1 := b1
               simp only [World.size_alloc] at hM1
               obtain ⟨q1, _⟩ := bcell hM1
               have B1 : Hid (Below wr.heap.size wr w1) := Lib.hid (((Below.refl _ _).alloc (Nat.le_refl _) _).trans (hM1.mono (Nat.le_succ _)))
               clear b1 hM1)
            | (go_at_call 17
               with_reducible refine (must_no _ _ _ _ _).mono ?_
               rintro e w3 ⟨rfl, b1⟩
               have B1 := Lib.hid b1
               clear b1)
            | (refine (HC.out _ (Hw1.out.trans (B1.out.mono Hw1.out.size))).mono ?_
               rintro e w2 ⟨⟨p2, rfl, hp2⟩, b2⟩
               have hp3 := hp2 he
               subst hp3
               have B2 := Lib.hid (B1.out.trans (b2.mono B1.out.size))
               clear b2 hp2))
          exact ⟨rfl, by rw [Hst.out, if_pos he]; rfl, (hb.trans (B2.out.mono hb.size)).trans (B1.out.mono (Nat.le_trans hb.size B2.out.size))⟩
      · have d1 : decide ((k : Int) < (most : Int)) = false := by simp; omega
        rw [if_pos (by omega)] at Hst
        go_wp2_with (first
          | (go_at_call 17
             with_reducible refine (must_no _ _ _ _ _).mono ?_
             rintro e w1 ⟨rfl, b1⟩
             have B1 : Hid (Below wr.heap.size wr w1) := Lib.hid ((((Below.refl _ _).alloc (Nat.le_refl _) _).trans (b1.mono (below2 (Nat.le_refl _)))))
             clear b1))
        exact ⟨rfl, by rw [Hst.out]; rfl, hb.trans (B1.out.mono hb.size)⟩
    · have hge : n ≤ k := by omega
      clear hlt
      have he := hf.out
      rw [eachE_end (by rw [Hlen.out]; exact hge)] at he
      have He := Lib.hid he
      clear he
      go_wp2_with fail
      go_end0
      exact ⟨by rw [He.out]; rfl, hb⟩

set_option maxRecDepth 100000 in
theorem each_template {l : List Template} {v : Value} (f : Nat → Template → Nat × Nat) (g : FuncId) (cap : Array Value) (inn most : Nat) (w w0 : World) (hin : inn ≤ 6) (hmost : most ≤ 256)
   (hs : SlR w0 w0.heap.size 2 (Template.Is w0 w0.heap.size) v l) (hw : Below w0.heap.size w0 w)
   (hcall : ∀ args w, (callFunc g args).run Tryz.prog w = .ok (.enter g args) w)
   (hclos : ∀ (i : Nat) x y W, l[i]? = some y → i < most → Template.Is w0 w0.heap.size x y → Below w0.heap.size w0 W → Calls Tryz.prog g (#[.int .i64 (i : Int), (.agg x.toArray)] ++ cap) W fun e W' => (∃ p : Int, e = .returned (.tuple #[.int .i64 p, .int .i64 ((f i y).2 : Int)]) ∧ ((f i y).2 ≠ 0 → p = ((f i y).1 : Int))) ∧ Below W.heap.size W W') :
    Calls Tryz.prog 39 #[.int .i64 (inn : Int), .int .i64 (most : Int), v, .func (.func g) #[] cap] w fun e w' => e = eachEnd inn (eachE most f 0 l) ∧ Below w.heap.size w w' := by
  obtain ⟨a, c, rfl⟩ : ∃ a c, v = .slice a l.length c := by obtain ⟨a, c, h, _⟩ := hs.form; exact ⟨a, c, h⟩
  have hn : l.length ≤ 9223372036854775807 := by have := hs.caps; unfold maxLen at this; omega
  obtain ⟨n, hlen⟩ : ∃ n, l.length = n := ⟨_, rfl⟩
  rw [hlen] at hs hn ⊢
  have Hlen := Lib.hid hlen
  have H := Lib.hid hclos
  have Hs := Lib.hid hs
  have Hw := Lib.hid hw
  clear hclos hs hlen hw
  go_enter Tryz.func39, Tryz.ntmps39
  go_wp2_with fail
  go_loopw [8, 9, 10, 11, 14] (fun _ _ _ _ j wr => ∃ k : Nat, k ≤ n ∧ j = .int .i64 k ∧ Below w.heap.size w wr ∧ Hid (eachE most f 0 l = eachE most f k (l.drop k))) (fun _ _ _ _ j _ => n - (intOf j).toNat)
  case atStart => exact ⟨0, Nat.zero_le _, rfl, Below.refl _ _, Lib.hid (by rw [List.drop_zero])⟩
  case round =>
    obtain ⟨k, hk, rfl, hb, hf⟩ := hrel
    by_cases hlt : k < n
    · obtain ⟨y, hd⟩ := get_some Hlen.out hlt
      have hw1 := Hw.out.trans (hb.mono Hw.out.size)
      obtain ⟨b, off, x, rfl, hbB, hxl, hR, hx⟩ := (Hs.out.below hw1).at_ hd
      have HR := Lib.hid hR
      obtain ⟨v0, rfl, s0, _⟩ := id hR
      obtain ⟨qa0, qn0, qc0, rfl⟩ := s0.form'
      clear s0
      have h0 := hx 0 _ rfl
      have h1 := hx 1 _ rfl
      simp only [Nat.add_zero, Nat.mul_one] at h0
      have hst := eachE_step (most := most) (f := f) hd
      rw [← hf.out] at hst
      have Hst := Lib.hid hst
      have Hd := Lib.hid hd
      have Hw1 := Lib.hid hw1
      clear hd hx hxl hR hw1 hf hst
      have c0 : (0 : Int) ≤ (k : Int) := Int.natCast_nonneg _
      by_cases hm : k < most
      · have d1 : decide ((k : Int) < (most : Int)) = true := by simp; omega
        obtain ⟨⟨pp, pe⟩, hfk⟩ : ∃ q, f k y = q := ⟨_, rfl⟩
        rw [if_neg (by omega), hfk] at Hst
        have HC := Lib.hid (fun W hW => H.out k _ y W Hd.out hm HR.out hW)
        rw [hfk] at HC
        clear hfk
        by_cases he : pe = 0
        · subst he
          go_wp2_with (first
            | (go_at_call 17
               with_reducible refine (must_yes _ _ _ _ _).mono ?_
               rintro e w1 ⟨rfl, b1⟩
               have hM1 := b1
               simp only [World.size_alloc] at hM1
               obtain ⟨q1, _⟩ := bcell hM1
               have B1 : Hid (Below wr.heap.size wr w1) := Lib.hid (((Below.refl _ _).alloc (Nat.le_refl _) _).trans (hM1.mono (Nat.le_succ _)))
               clear b1 hM1)
            | (go_at_call 17
               with_reducible refine (must_yes _ _ _ _ _).mono ?_
               rintro e w3 ⟨rfl, b3⟩
               have B1 := Lib.hid b3
               clear b3)
            | (refine (HC.out _ (Hw1.out.trans (B1.out.mono Hw1.out.size))).mono ?_
               rintro e w2 ⟨⟨p2, rfl, _⟩, b2⟩
               have B2 := Lib.hid (B1.out.trans (b2.mono B1.out.size))
               clear b2))
          go_roundw
          case rel => exact ⟨k + 1, by omega, by go_num, (hb.trans (B2.out.mono hb.size)).trans (B1.out.mono (Nat.le_trans hb.size B2.out.size)), Lib.hid (by rw [Hst.out, if_neg (by simp)])⟩
          case measure => simp [intOf]; omega
        · have e1 : ((pe : Int) == 0) = false := by simp; omega
          have e2 : ¬ ((pe : Int) = 0) := by omega
          have e3 : decide ((pe : Int) = 0) = false := by simp; omega
          go_wp2_with (first
            | (go_at_call 17
               with_reducible refine (must_yes _ _ _ _ _).mono ?_
               rintro e w1 ⟨rfl, b1⟩
               have hM1 := b1
               simp only [World.size_alloc] at hM1
               obtain ⟨q1, _⟩ := bcell hM1
               have B1 : Hid (Below wr.heap.size wr w1) := Lib.hid (((Below.refl _ _).alloc (Nat.le_refl _) _).trans (hM1.mono (Nat.le_succ _)))
               clear b1 hM1)
            | (go_at_call 17
               with_reducible refine (must_no _ _ _ _ _).mono ?_
               rintro e w3 ⟨rfl, b1⟩
               have B1 := Lib.hid b1
               clear b1)
            | (refine (HC.out _ (Hw1.out.trans (B1.out.mono Hw1.out.size))).mono ?_
               rintro e w2 ⟨⟨p2, rfl, hp2⟩, b2⟩
               have hp3 := hp2 he
               subst hp3
               have B2 := Lib.hid (B1.out.trans (b2.mono B1.out.size))
               clear b2 hp2))
          exact ⟨rfl, by rw [Hst.out, if_pos he]; rfl, (hb.trans (B2.out.mono hb.size)).trans (B1.out.mono (Nat.le_trans hb.size B2.out.size))⟩
      · have d1 : decide ((k : Int) < (most : Int)) = false := by simp; omega
        rw [if_pos (by omega)] at Hst
        go_wp2_with (first
          | (go_at_call 17
             with_reducible refine (must_no _ _ _ _ _).mono ?_
             rintro e w1 ⟨rfl, b1⟩
             have B1 : Hid (Below wr.heap.size wr w1) := Lib.hid ((((Below.refl _ _).alloc (Nat.le_refl _) _).trans (b1.mono (below2 (Nat.le_refl _)))))
             clear b1))
        exact ⟨rfl, by rw [Hst.out]; rfl, hb.trans (B1.out.mono hb.size)⟩
    · have hge : n ≤ k := by omega
      clear hlt
      have he := hf.out
      rw [eachE_end (by rw [Hlen.out]; exact hge)] at he
      have He := Lib.hid he
      clear he
      go_wp2_with fail
      go_end0
      exact ⟨by rw [He.out]; rfl, hb⟩

end Go.Proofs.YtdhljfblkidohaaGreat
