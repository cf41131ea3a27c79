/- The law's walk: 'topiarylaw01.NamesBack' returns true whatever the texts and the number; the library's variables hold what they began with. -/
import Derived.Test.YtffhogadgjnkkaaDoorNbPlain
import Derived.Test.YtffhogadgjnkkaaDoorAwake
namespace Go.Proofs.YtffhogadgjnkkaaDoor
open Go.RowKit

theorem bs_app (a b : ByteArray) : bs (a ++ b) = bs a ++ bs b := bs_append a b

set_option maxHeartbeats 4000000 in
set_option maxRecDepth 100000 in
theorem back_walk (s ahead behind t : ByteArray) (n : Int) (hs : s.size ≤ 140737488351232) (ha : ahead.size ≤ 140737488351232) (hbh : behind.size ≤ 140737488351232) (ht : t.size ≤ 140737488351232) (h0 : -9223372036854775808 ≤ n) (h1 : n ≤ 9223372036854775807) (w : World) (hv : Vars w) :
    Calls Tryd.prog 5 #[.string s, .string ahead, .string behind, .string t, .int .i64 n] w fun e w' => e = .returned (.bool true) ∧ Below w.heap.size w w' := by
  have AW := Lib.hid (awake_any w hv)
  by_cases g1 : 1048576 < s.size
  · clear hv
    go_enter Tryd.func5, Tryd.ntmps5
    go_wp2_with (go_at_call 18; refine AW.out.mono ?_; rintro e w1 ⟨rfl, b1⟩)
    go_ret
    exact ⟨rfl, b1⟩
  have g1' : decide (1048576 < (s.size : Int)) = false := by simp; omega
  by_cases g2 : 1048576 < ahead.size
  · clear hv
    go_enter Tryd.func5, Tryd.ntmps5
    go_wp2_with (go_at_call 18; refine AW.out.mono ?_; rintro e w1 ⟨rfl, b1⟩)
    go_ret
    exact ⟨rfl, b1⟩
  have g2' : decide (1048576 < (ahead.size : Int)) = false := by simp; omega
  by_cases g3 : 1048576 < behind.size
  · clear hv
    go_enter Tryd.func5, Tryd.ntmps5
    go_wp2_with (go_at_call 18; refine AW.out.mono ?_; rintro e w1 ⟨rfl, b1⟩)
    go_ret
    exact ⟨rfl, b1⟩
  have g3' : decide (1048576 < (behind.size : Int)) = false := by simp; omega
  -- the quotes, and what is read of them
  have hfl := flat_len (bs s)
  rw [bs_len] at hfl
  have hql := quote_len (bs s)
  have Q1 := Lib.hid (fun W => quote_any s (by omega) W)
  have hbq : bs (txt (quoteN (bs s))) = quoteN (bs s) := bs_txt (quote_bytes (bs_bytes s))
  have hsq : (txt (quoteN (bs s))).size = (quoteN (bs s)).length := txt_size _
  have hX : bs (ahead ++ txt (quoteN (bs s)) ++ behind) = bs ahead ++ quoteN (bs s) ++ bs behind := by rw [bs_app, bs_app, hbq]
  have hXs : (ahead ++ txt (quoteN (bs s)) ++ behind).size ≤ 140737488355320 := by
    rw [← bs_len, hX, List.length_append, List.length_append, bs_len, bs_len]; omega
  have hU : unquoteN (bs (ahead ++ txt (quoteN (bs s)) ++ behind)) (ahead.size : Int) = (bs s, ((ahead.size + (quoteN (bs s)).length : Nat) : Int), 0) := by
    rw [hX]
    have := unquote_quote (bs ahead) (bs s) (bs behind) (bs_bytes s)
    rw [bs_len] at this
    exact this
  have wfa : (Lit.int .i64 (ahead.size : Int)).wf = true := by
    have e1 : IntKind.i64.min = -9223372036854775808 := rfl
    have e2 : IntKind.i64.max = 9223372036854775807 := rfl
    simp [Lit.wf, e1, e2]; omega
  have U1 := Lib.hid (fun W => unquote_any (ahead ++ txt (quoteN (bs s)) ++ behind) (ahead.size : Int) wfa hXs W)
  rw [hU] at U1
  simp only [unqV, txt_bs] at U1
  rw [show ((0 : Nat) : Int) = 0 from rfl] at U1
  obtain ⟨L, hL⟩ : ∃ L, (quoteN (bs s)).length = L := ⟨_, rfl⟩
  rw [hL] at U1 hsq hql
  have eL : ((ahead.size + L : Nat) : Int) = (ahead.size : Int) + (L : Int) := by omega
  rw [eL] at U1
  generalize txt (quoteN (bs s)) = q at Q1 U1 hsq
  have hqs : q.size ≤ 4194306 := by omega
  clear hfl hbq hX hXs hU wfa hL eL hql
  -- the number's text
  have S1 : Hid (∀ W, Below w.heap.size w W → Calls Tryd.prog 10 #[.int .i64 n] W fun e w' => e = .returned (.string (txt (showN n))) ∧ Below W.heap.size W w') := Lib.hid (fun W hW => show_any n h0 h1 W (hv.below hW))
  have hsn : intN (bs (txt (showN n))) = some n := by
    rw [bs_txt]
    · exact intN_show h0 h1
    · intro c hc
      rw [← show_lib, List.mem_map] at hc
      obtain ⟨b, _, rfl⟩ := hc
      exact b.toNat_lt
  have hss : (txt (showN n)).size ≤ 281474976710656 := by
    have := (intN_some hsn).2.2.2
    rw [bs_len] at this
    omega
  have I1 : Hid (∀ W, Below w.heap.size w W → Calls Tryd.prog 8 #[.string (txt (showN n))] W fun e w' => e = .returned (.tuple #[.int .i64 n, .int .i64 0]) ∧ Below W.heap.size W w') := Lib.hid (fun W hW => by have := int_any (txt (showN n)) hss W (hv.below hW); rw [hsn] at this; exact this)
  generalize txt (showN n) = sn at S1 I1
  clear hsn hss
  -- the other text
  have U2 := Lib.hid (fun W => unquote_any t 0 (by decide) (by omega) W)
  have I2 : Hid (∀ W, Below w.heap.size w W → Calls Tryd.prog 8 #[.string t] W fun e w' => e = .returned (intV (intN (bs t))) ∧ Below W.heap.size W w') := Lib.hid (fun W hW => int_any t (by omega) W (hv.below hW))
  have hint : intN (bs t) = none ∨ ∃ v, intN (bs t) = some v ∧ -9223372036854775808 ≤ v ∧ v ≤ 9223372036854775807 ∧ txt (showN v) = t := by
    cases h : intN (bs t) with
    | none => exact Or.inl rfl
    | some v =>
      obtain ⟨x1, x2, x3, _⟩ := intN_some h
      exact Or.inr ⟨v, rfl, x1, x2, by rw [x3, txt_bs]⟩
  have hun : (∃ (y : List Nat) (k : Nat), unquoteN (bs t) 0 = (y, (k : Int), 0) ∧ 2 ≤ k ∧ k ≤ t.size ∧ t.extract 0 k = txt (quoteN y) ∧ (quoteN y).length ≤ 140737488355320 ∧ Bytes y) ∨ (∃ (y : List Nat) (k : Int) (e : Nat), unquoteN (bs t) 0 = (y, k, e) ∧ e ≠ 0) := by
    rcases h : unquoteN (bs t) 0 with ⟨y, k, e⟩
    by_cases he : e = 0
    · subst he
      obtain ⟨k', rfl, x1, x2, x3, x4⟩ := unquote_ok (bs_bytes t) h
      rw [bs_len] at x2
      refine Or.inl ⟨y, k', rfl, x1, x2, ?_, ?_, x4⟩
      · apply bs_inj
        rw [bs_extract, List.drop_zero, x3, bs_txt (quote_bytes x4)]
      · rw [← x3, List.length_take]; omega
    · exact Or.inr ⟨y, k, e, rfl, he⟩
  have tokI : True := trivial
  have tokU : True := trivial
  have tokS : True := trivial
  rcases hun with ⟨y, k, hu, k2, kt, hx, hyl, hyb⟩ | ⟨y, k, e, hu, he⟩
  · rw [hu] at U2
    simp only [unqV] at U2
    rw [show ((0 : Nat) : Int) = 0 from rfl] at U2
    have Q2 := Lib.hid (fun W => quote_any (txt y) (by rw [bs_txt hyb]; exact hyl) W)
    rw [bs_txt hyb] at Q2
    generalize txt (quoteN y) = qy at Q2 hx
    generalize txt y = ty at Q2 U2
    have kk : ¬ (k : Int) < 2 := by omega
    have kk2 : ¬ (t.size : Int) < (k : Int) := by omega
    have kk' : decide ((k : Int) < 2) = false := by simp; omega
    have kk2' : decide ((t.size : Int) < (k : Int)) = false := by simp; omega
    have kn : decide (k < 2) = false := by simp; omega
    have kn2 : decide (t.size < k) = false := by simp; omega
    clear hu hyl hyb
    rcases hint with hint | ⟨v, hint, v1, v2, v3⟩
    · rw [hint] at I2
      simp only [intV] at I2
      clear hint hv h0 h1
      go_enter Tryd.func5, Tryd.ntmps5
      go_wp2_with (first
        | (go_at_call 18; refine AW.out.mono ?_; rintro e w1 ⟨rfl, b1⟩; have B1 : Hid (Below w.heap.size w w1) := Lib.hid b1; clear b1)
        | (go_at_call 19; refine (Q1.out _).mono ?_; rintro e w2 ⟨rfl, b2⟩; have B2 : Hid (Below w.heap.size w w2) := Lib.hid (B1.out.trans (b2.mono B1.out.size)); clear b2)
        | (go_at_call 20; have _t := tokU; refine (U1.out _).mono ?_; rintro e w3 ⟨rfl, b3⟩; have B3 : Hid (Below w.heap.size w w3) := Lib.hid (B2.out.trans (b3.mono B2.out.size)); clear b3 tokU _t)
        | (go_at_call 20; refine (U2.out _).mono ?_; rintro e w4 ⟨rfl, b4⟩; have B4 : Hid (Below w.heap.size w w4) := Lib.hid (B3.out.trans (b4.mono B3.out.size)); clear b4))
      have B4d : Hid (Below w.heap.size w w4.drew) := Lib.hid B4.out.drew
      go_region_held3 (fun _ => True)
        (trivial)
        (first
            | (go_at_call 19; refine (Q2.out _).mono ?_; rintro e w5 ⟨rfl, b5⟩; have B5 : Hid (Below w.heap.size w w5) := Lib.hid (B4d.out.trans (b5.mono B4d.out.size)); clear b5)
            | fail)
      all_goals
        go_wp2_with (first
          | (go_at_call 10; have _t := tokS; refine (S1.out _ B5.out).mono ?_; rintro e w6 ⟨rfl, b6⟩; have B6 : Hid (Below w.heap.size w w6) := Lib.hid (B5.out.trans (b6.mono B5.out.size)); clear b6 tokS _t)
          | (go_at_call 8; have _t := tokI; refine (I1.out _ B6.out).mono ?_; rintro e w7 ⟨rfl, b7⟩; have B7 : Hid (Below w.heap.size w w7) := Lib.hid (B6.out.trans (b7.mono B6.out.size)); clear b7 tokI _t)
          | (go_at_call 8; refine (I2.out _ B7.out).mono ?_; rintro e w8 ⟨rfl, b8⟩; have B8 : Hid (Below w.heap.size w w8) := Lib.hid (B7.out.trans (b8.mono B7.out.size)); clear b8))
        go_ret
        exact ⟨rfl, B8.out⟩
    · rw [hint] at I2
      simp only [intV] at I2
      have S2 : Hid (∀ W, Below w.heap.size w W → Calls Tryd.prog 10 #[.int .i64 v] W fun e w' => e = .returned (.string t) ∧ Below W.heap.size W w') := Lib.hid (fun W hW => by have := show_any v v1 v2 W (hv.below hW); rw [v3] at this; exact this)
      clear hint hv h0 h1 v3
      go_enter Tryd.func5, Tryd.ntmps5
      go_wp2_with (first
        | (go_at_call 18; refine AW.out.mono ?_; rintro e w1 ⟨rfl, b1⟩; have B1 : Hid (Below w.heap.size w w1) := Lib.hid b1; clear b1)
        | (go_at_call 19; refine (Q1.out _).mono ?_; rintro e w2 ⟨rfl, b2⟩; have B2 : Hid (Below w.heap.size w w2) := Lib.hid (B1.out.trans (b2.mono B1.out.size)); clear b2)
        | (go_at_call 20; have _t := tokU; refine (U1.out _).mono ?_; rintro e w3 ⟨rfl, b3⟩; have B3 : Hid (Below w.heap.size w w3) := Lib.hid (B2.out.trans (b3.mono B2.out.size)); clear b3 tokU _t)
        | (go_at_call 20; refine (U2.out _).mono ?_; rintro e w4 ⟨rfl, b4⟩; have B4 : Hid (Below w.heap.size w w4) := Lib.hid (B3.out.trans (b4.mono B3.out.size)); clear b4))
      have B4d : Hid (Below w.heap.size w w4.drew) := Lib.hid B4.out.drew
      go_region_held3 (fun _ => True)
        (trivial)
        (first
            | (go_at_call 19; refine (Q2.out _).mono ?_; rintro e w5 ⟨rfl, b5⟩; have B5 : Hid (Below w.heap.size w w5) := Lib.hid (B4d.out.trans (b5.mono B4d.out.size)); clear b5)
            | fail)
      all_goals
        go_wp2_with (first
          | (go_at_call 10; have _t := tokS; refine (S1.out _ B5.out).mono ?_; rintro e w6 ⟨rfl, b6⟩; have B6 : Hid (Below w.heap.size w w6) := Lib.hid (B5.out.trans (b6.mono B5.out.size)); clear b6 tokS _t)
          | (go_at_call 8; have _t := tokI; refine (I1.out _ B6.out).mono ?_; rintro e w7 ⟨rfl, b7⟩; have B7 : Hid (Below w.heap.size w w7) := Lib.hid (B6.out.trans (b7.mono B6.out.size)); clear b7 tokI _t)
          | (go_at_call 8; refine (I2.out _ B7.out).mono ?_; rintro e w8 ⟨rfl, b8⟩; have B8 : Hid (Below w.heap.size w w8) := Lib.hid (B7.out.trans (b8.mono B7.out.size)); clear b8)
          | (go_at_call 10; refine (S2.out _ B8.out).mono ?_; rintro e w9 ⟨rfl, b9⟩; have B9 : Hid (Below w.heap.size w w9) := Lib.hid (B8.out.trans (b9.mono B8.out.size)); clear b9))
        go_ret
        exact ⟨rfl, B9.out⟩
  · rw [hu] at U2
    simp only [unqV] at U2
    generalize txt y = ty at U2
    obtain ⟨ei, hei⟩ : ∃ ei : Int, (e : Int) = ei := ⟨_, rfl⟩
    rw [hei] at U2
    have ee : (ei == 0) = false := by simp; omega
    have ee2 : ¬ ei = 0 := by omega
    have ee3 : decide (ei = 0) = false := by simp; omega
    clear hu hei he
    rcases hint with hint | ⟨v, hint, v1, v2, v3⟩
    · rw [hint] at I2
      simp only [intV] at I2
      clear hint hv h0 h1
      go_enter Tryd.func5, Tryd.ntmps5
      go_wp2_with (first
        | (go_at_call 18; refine AW.out.mono ?_; rintro e w1 ⟨rfl, b1⟩; have B1 : Hid (Below w.heap.size w w1) := Lib.hid b1; clear b1)
        | (go_at_call 19; refine (Q1.out _).mono ?_; rintro e w2 ⟨rfl, b2⟩; have B2 : Hid (Below w.heap.size w w2) := Lib.hid (B1.out.trans (b2.mono B1.out.size)); clear b2)
        | (go_at_call 20; have _t := tokU; refine (U1.out _).mono ?_; rintro e w3 ⟨rfl, b3⟩; have B3 : Hid (Below w.heap.size w w3) := Lib.hid (B2.out.trans (b3.mono B2.out.size)); clear b3 tokU _t)
        | (go_at_call 20; refine (U2.out _).mono ?_; rintro e w4 ⟨rfl, b4⟩; have B4 : Hid (Below w.heap.size w w4) := Lib.hid (B3.out.trans (b4.mono B3.out.size)); clear b4))
      go_quiet (fail)
      all_goals
        go_wp2_with (first
          | (go_at_call 10; have _t := tokS; refine (S1.out _ (below_drewN B4.out _)).mono ?_; rintro e w6 ⟨rfl, b6⟩; have B6 : Hid (Below w.heap.size w w6) := Lib.hid ((below_drewN B4.out _).trans (b6.mono B4.out.size)); clear b6 tokS _t)
          | (go_at_call 8; have _t := tokI; refine (I1.out _ B6.out).mono ?_; rintro e w7 ⟨rfl, b7⟩; have B7 : Hid (Below w.heap.size w w7) := Lib.hid (B6.out.trans (b7.mono B6.out.size)); clear b7 tokI _t)
          | (go_at_call 8; refine (I2.out _ B7.out).mono ?_; rintro e w8 ⟨rfl, b8⟩; have B8 : Hid (Below w.heap.size w w8) := Lib.hid (B7.out.trans (b8.mono B7.out.size)); clear b8))
        go_ret
        exact ⟨rfl, B8.out⟩
    · rw [hint] at I2
      simp only [intV] at I2
      have S2 : Hid (∀ W, Below w.heap.size w W → Calls Tryd.prog 10 #[.int .i64 v] W fun e w' => e = .returned (.string t) ∧ Below W.heap.size W w') := Lib.hid (fun W hW => by have := show_any v v1 v2 W (hv.below hW); rw [v3] at this; exact this)
      clear hint hv h0 h1 v3
      go_enter Tryd.func5, Tryd.ntmps5
      go_wp2_with (first
        | (go_at_call 18; refine AW.out.mono ?_; rintro e w1 ⟨rfl, b1⟩; have B1 : Hid (Below w.heap.size w w1) := Lib.hid b1; clear b1)
        | (go_at_call 19; refine (Q1.out _).mono ?_; rintro e w2 ⟨rfl, b2⟩; have B2 : Hid (Below w.heap.size w w2) := Lib.hid (B1.out.trans (b2.mono B1.out.size)); clear b2)
        | (go_at_call 20; have _t := tokU; refine (U1.out _).mono ?_; rintro e w3 ⟨rfl, b3⟩; have B3 : Hid (Below w.heap.size w w3) := Lib.hid (B2.out.trans (b3.mono B2.out.size)); clear b3 tokU _t)
        | (go_at_call 20; refine (U2.out _).mono ?_; rintro e w4 ⟨rfl, b4⟩; have B4 : Hid (Below w.heap.size w w4) := Lib.hid (B3.out.trans (b4.mono B3.out.size)); clear b4))
      go_quiet (fail)
      all_goals
        go_wp2_with (first
          | (go_at_call 10; have _t := tokS; refine (S1.out _ (below_drewN B4.out _)).mono ?_; rintro e w6 ⟨rfl, b6⟩; have B6 : Hid (Below w.heap.size w w6) := Lib.hid ((below_drewN B4.out _).trans (b6.mono B4.out.size)); clear b6 tokS _t)
          | (go_at_call 8; have _t := tokI; refine (I1.out _ B6.out).mono ?_; rintro e w7 ⟨rfl, b7⟩; have B7 : Hid (Below w.heap.size w w7) := Lib.hid (B6.out.trans (b7.mono B6.out.size)); clear b7 tokI _t)
          | (go_at_call 8; refine (I2.out _ B7.out).mono ?_; rintro e w8 ⟨rfl, b8⟩; have B8 : Hid (Below w.heap.size w w8) := Lib.hid (B7.out.trans (b8.mono B7.out.size)); clear b8)
          | (go_at_call 10; refine (S2.out _ B8.out).mono ?_; rintro e w9 ⟨rfl, b9⟩; have B9 : Hid (Below w.heap.size w w9) := Lib.hid (B8.out.trans (b9.mono B8.out.size)); clear b9))
        go_ret
        exact ⟨rfl, B9.out⟩
end Go.Proofs.YtffhogadgjnkkaaDoor
