/- Which tokens may be, and how they are shown: what the program's and the reference's functions answer. -/
import Derived.Test.YtlenenfgedgmhaaDoorJoinPlain
import Derived.Test.YtlenenfgedgmhaaDoorMRSmall
import Derived.Test.YtlenenfgedgmhaaDoorRef
import Derived.Test.YtlenenfgedgmhaaDoorShow
namespace Go.Proofs.YtlenenfgedgmhaaDoor
set_option linter.unusedSimpArgs false
set_option linter.unusedVariables false
open Go.RowKit

theorem txt_empty {s : List Nat} (hb : Bytes s) (h : ¬ s = []) : ¬ (txt s).toList = [] := fun e => h (by
  have := (toList_inj (txt s) (txt [])).1 (e.trans (by rw [ByteArray.toList_eq]; rfl))
  rw [← bs_txt hb, this]
  rfl)
theorem nil_facts : (txt []).toList = [] := by rw [ByteArray.toList_eq]; rfl
theorem Quiet.cells {w w' : World} (h : Quiet w w') : ∀ p, w'.cell? p = w.cell? p := by
  obtain ⟨n, rfl⟩ := h
  exact fun _ => rfl
/-- the marks among which a text is sought -/
theorem marks_contains (m : List Nat) (hm : Bytes m) (b : Bool) (hb : decide (m ∈ marksL) = b) (w : World) (h : Marks w) : Calls Tryd.prog 111 #[.slice (some ⟨0, 0, none⟩) 16 16, .string (txt m)] w fun e w' => e = .returned (.bool b) ∧ w' = w := by
  have hz : ∀ j, j < (marksL.map txt).length → w.cell? ⟨0, 0 + j, none⟩ = some (.string ((marksL.map txt).getD j ByteArray.empty)) := fun j hj => by
    have hj' : j < marksL.length := by simpa using hj
    obtain ⟨t, fr, hg⟩ := marks_block h
    have hc : marksV[j]? = some (.string (txt marksL[j])) := by
      unfold marksV
      rw [List.getElem?_toArray, List.getElem?_map, List.getElem?_eq_getElem hj']
      rfl
    rw [Nat.zero_add]
    simp only [World.cell?, hg, hc]
    rw [List.getD_eq_getElem?_getD, List.getElem?_map, List.getElem?_eq_getElem hj']
    rfl
  have := Go.Proofs.Tryd.slices_Contains_string 0 0 16 16 (marksL.map txt) (txt m) w (by decide) (by omega) hz
  have e : Lib.containsS ((marksL.map txt).take 16) (txt m) = b := by
    rw [← hb, Bool.eq_iff_iff, decide_eq_true_eq]
    rw [List.take_of_length_le (by decide), Lib.containsS_iff]
    constructor
    · intro h
      obtain ⟨m', hm', e⟩ := List.mem_map.1 h
      have e2 : bs (txt m') = bs (txt m) := by rw [e]
      have hb' : Bytes m' := by
        have : ∀ m ∈ marksL, ∀ n ∈ m, n < 256 := by decide
        exact this m' hm'
      rw [bs_txt hb', bs_txt hm] at e2
      rw [← e2]
      exact hm'
    · intro h
      exact List.mem_map.2 ⟨m, h, rfl⟩
  rw [e] at this
  exact this


set_option maxRecDepth 100000 in
set_option maxHeartbeats 4000000 in
theorem may_any (t : Tok) (ht : t.ok) (w : World) (hm : Marks w) : Calls Tryd.prog 102 #[.agg t.cells.toArray] w fun e w' => e = .returned (.bool (mayN t)) ∧ Below w.heap.size w w' := by
  obtain ⟨k, s, v, p⟩ := t
  obtain ⟨hby, hsl, hk, hv, hp⟩ := ht
  dsimp only at hby hsl hk hv hp
  show Calls Tryd.prog 102 #[.agg #[.int .i64 k, .string (txt s), .int .i64 v, .int .i64 p]] w _
  by_cases k1 : k = 1
  · subst k1
    by_cases v0 : 0 ≤ v
    · by_cases s0 : s = []
      · subst s0
        have n0 := nil_facts
        have n1 : (txt []).toList.isEmpty = true := by rw [n0]; rfl
        have hV : mayN ⟨1, [], v, p⟩ = true := by simp [mayN, *]
        rw [hV]
        clear hV hby hsl hk hv hp hm
        go_enter Tryd.func102, Tryd.ntmps102
        go_wp2_with fail
        go_ret
        exact ⟨rfl, (Below.refl _ _).alloc (Nat.le_refl _) _⟩
      · have n0 := txt_empty hby s0
        have n1 : (txt s).toList.isEmpty = false := by simpa using n0
        have n2 : ((txt s).toList == []) = false := by simpa using n0
        have hV : mayN ⟨1, s, v, p⟩ = false := by simp [mayN, *]
        rw [hV]
        clear hV hby hsl hk hv hp hm s0
        go_enter Tryd.func102, Tryd.ntmps102
        go_wp2_with fail
        go_ret
        exact ⟨rfl, (Below.refl _ _).alloc (Nat.le_refl _) _⟩
    · have d0 : decide (0 ≤ v) = false := decide_eq_false v0
      have hV : mayN ⟨1, s, v, p⟩ = false := by simp [mayN, *]
      rw [hV]
      clear hV hby hsl hk hv hp hm
      go_enter Tryd.func102, Tryd.ntmps102
      go_wp2_with fail
      go_ret
      exact ⟨rfl, (Below.refl _ _).alloc (Nat.le_refl _) _⟩
  have e1 : (k == 1) = false := by simpa using k1
  by_cases v0 : v = 0
  rotate_left
  · have d0 : (v != 0) = true := by simpa using v0
    have hV : mayN ⟨k, s, v, p⟩ = false := by simp [mayN, *]
    rw [hV]
    clear hV hby hsl hk hv hp hm
    go_enter Tryd.func102, Tryd.ntmps102
    go_wp2_with fail
    go_ret
    exact ⟨rfl, (Below.refl _ _).alloc (Nat.le_refl _) _⟩
  subst v0
  by_cases k2 : k = 2
  · subst k2
    have hV : mayN ⟨2, s, 0, p⟩ = true := by simp [mayN, *]
    rw [hV]
    clear hV hby hsl hk hv hp hm
    go_enter Tryd.func102, Tryd.ntmps102
    go_wp2_with fail
    go_ret
    exact ⟨rfl, (Below.refl _ _).alloc (Nat.le_refl _) _⟩
  have e2 : (k == 2) = false := by simpa using k2
  by_cases k3 : k = 3
  · subst k3
    cases hr : rightN s with
    | false =>
      have RT : Hid (∀ W, Calls Tryd.prog 91 #[.string (txt s)] W fun e w' => e = .returned (.bool false) ∧ Quiet W w') := Lib.hid (fun W => by
        have := right_any (txt s) (by rw [txt_size]; exact hsl) W
        rw [bs_txt hby, hr] at this
        exact this)
      have hV : mayN ⟨3, s, 0, p⟩ = false := by simp [mayN, *]
      rw [hV]
      clear hV hby hsl hk hv hp hm hr
      go_enter Tryd.func102, Tryd.ntmps102
      go_wp2_with (first
        | (go_at_call 91
           refine (RT.out _).mono ?_
           rintro e w1 ⟨rfl, q1⟩
           have C1 := q1.cells ⟨w.heap.size, 1, none⟩
           simp at C1
           have B1 := Lib.hid (((Below.refl w.heap.size w).alloc (Nat.le_refl _) _).trans (q1.below _))
           clear q1))
      go_ret
      exact ⟨rfl, B1.out⟩
    | true =>
      have RT : Hid (∀ W, Calls Tryd.prog 91 #[.string (txt s)] W fun e w' => e = .returned (.bool true) ∧ Quiet W w') := Lib.hid (fun W => by
        have := right_any (txt s) (by rw [txt_size]; exact hsl) W
        rw [bs_txt hby, hr] at this
        exact this)
      by_cases hw : s ∈ wordsL
      · have RV : Hid (∀ W, Calls Tryd.prog 43 #[.string (txt s)] W fun e w' => e = .returned (.bool true) ∧ Quiet W w') := Lib.hid (fun W => by
          have := lex_reserved_any (txt s) W
          rw [bs_txt hby, decide_eq_true hw] at this
          exact this)
        have hV : mayN ⟨3, s, 0, p⟩ = false := by simp [mayN, *]
        rw [hV]
        clear hV hby hsl hk hv hp hm hr hw
        go_enter Tryd.func102, Tryd.ntmps102
        go_wp2_with (first
        | (go_at_call 91
           refine (RT.out _).mono ?_
           rintro e w1 ⟨rfl, q1⟩
           have C1 := q1.cells ⟨w.heap.size, 1, none⟩
           simp at C1
           have B1 := Lib.hid (((Below.refl w.heap.size w).alloc (Nat.le_refl _) _).trans (q1.below _))
           clear q1)
        | (go_at_call 43
           refine (RV.out _).mono ?_
           rintro e w2 ⟨rfl, q2⟩
           have B2 := Lib.hid (B1.out.trans (q2.below _))
           clear q2))
        go_ret
        exact ⟨rfl, B2.out⟩
      · have RV : Hid (∀ W, Calls Tryd.prog 43 #[.string (txt s)] W fun e w' => e = .returned (.bool false) ∧ Quiet W w') := Lib.hid (fun W => by
          have := lex_reserved_any (txt s) W
          rw [bs_txt hby, decide_eq_false hw] at this
          exact this)
        have hV : mayN ⟨3, s, 0, p⟩ = true := by simp [mayN, *]
        rw [hV]
        clear hV hby hsl hk hv hp hm hr hw
        go_enter Tryd.func102, Tryd.ntmps102
        go_wp2_with (first
        | (go_at_call 91
           refine (RT.out _).mono ?_
           rintro e w1 ⟨rfl, q1⟩
           have C1 := q1.cells ⟨w.heap.size, 1, none⟩
           simp at C1
           have B1 := Lib.hid (((Below.refl w.heap.size w).alloc (Nat.le_refl _) _).trans (q1.below _))
           clear q1)
        | (go_at_call 43
           refine (RV.out _).mono ?_
           rintro e w2 ⟨rfl, q2⟩
           have B2 := Lib.hid (B1.out.trans (q2.below _))
           clear q2))
        go_ret
        exact ⟨rfl, B2.out⟩
  have e3 : (k == 3) = false := by simpa using k3
  by_cases k4 : k = 4
  · subst k4
    by_cases hw : s ∈ wordsL
    · have RV : Hid (∀ W, Calls Tryd.prog 43 #[.string (txt s)] W fun e w' => e = .returned (.bool true) ∧ Quiet W w') := Lib.hid (fun W => by
        have := lex_reserved_any (txt s) W
        rw [bs_txt hby, decide_eq_true hw] at this
        exact this)
      have hV : mayN ⟨4, s, 0, p⟩ = true := by simp [mayN, *]
      rw [hV]
      clear hV hby hsl hk hv hp hm hw
      go_enter Tryd.func102, Tryd.ntmps102
      go_wp2_with (first
        | (go_at_call 43
           refine (RV.out _).mono ?_
           rintro e w2 ⟨rfl, q2⟩
           have B2 := Lib.hid (((Below.refl w.heap.size w).alloc (Nat.le_refl _) _).trans (q2.below _))
           clear q2))
      go_ret
      exact ⟨rfl, B2.out⟩
    · have RV : Hid (∀ W, Calls Tryd.prog 43 #[.string (txt s)] W fun e w' => e = .returned (.bool false) ∧ Quiet W w') := Lib.hid (fun W => by
        have := lex_reserved_any (txt s) W
        rw [bs_txt hby, decide_eq_false hw] at this
        exact this)
      have hV : mayN ⟨4, s, 0, p⟩ = false := by simp [mayN, *]
      rw [hV]
      clear hV hby hsl hk hv hp hm hw
      go_enter Tryd.func102, Tryd.ntmps102
      go_wp2_with (first
        | (go_at_call 43
           refine (RV.out _).mono ?_
           rintro e w2 ⟨rfl, q2⟩
           have B2 := Lib.hid (((Below.refl w.heap.size w).alloc (Nat.le_refl _) _).trans (q2.below _))
           clear q2))
      go_ret
      exact ⟨rfl, B2.out⟩
  have e4 : (k == 4) = false := by simpa using k4
  by_cases k5 : k = 5
  · subst k5
    have hM : Marks (w.alloc (.cells #[.int .i64 5, .string (txt s), .int .i64 0, .int .i64 p] 82)) := hm.below ((Below.refl _ _).alloc (Nat.le_refl _) _)
    by_cases hw : s ∈ marksL
    · have MC : Hid (∀ W, Marks W → Calls Tryd.prog 111 #[.slice (some ⟨0, 0, none⟩) 16 16, .string (txt s)] W fun e w' => e = .returned (.bool true) ∧ w' = W) := Lib.hid (fun W hW => marks_contains s hby true (decide_eq_true hw) W hW)
      have HM := Lib.hid hM
      have hV : mayN ⟨5, s, 0, p⟩ = true := by simp [mayN, *]
      rw [hV]
      clear hV hby hsl hk hv hp hm hw hM
      go_enter Tryd.func102, Tryd.ntmps102
      go_wp2_with fail
      go_quiet ((go_at_call 111; exact Calls.quiet_of_same (MC.out _ (HM.out.drewN _))))
      go_wp2_with fail
      go_ret
      exact ⟨rfl, below_drewN ((Below.refl _ _).alloc (Nat.le_refl _) _) _⟩
    · have MC : Hid (∀ W, Marks W → Calls Tryd.prog 111 #[.slice (some ⟨0, 0, none⟩) 16 16, .string (txt s)] W fun e w' => e = .returned (.bool false) ∧ w' = W) := Lib.hid (fun W hW => marks_contains s hby false (decide_eq_false hw) W hW)
      have HM := Lib.hid hM
      have hV : mayN ⟨5, s, 0, p⟩ = false := by simp [mayN, *]
      rw [hV]
      clear hV hby hsl hk hv hp hm hw hM
      go_enter Tryd.func102, Tryd.ntmps102
      go_wp2_with fail
      go_quiet ((go_at_call 111; exact Calls.quiet_of_same (MC.out _ (HM.out.drewN _))))
      go_wp2_with fail
      go_ret
      exact ⟨rfl, below_drewN ((Below.refl _ _).alloc (Nat.le_refl _) _) _⟩
  have e5 : (k == 5) = false := by simpa using k5
  have hV : mayN ⟨k, s, 0, p⟩ = false := by simp [mayN, *]
  rw [hV]
  clear hV hby hsl hk hv hp hm
  go_enter Tryd.func102, Tryd.ntmps102
  go_wp2_with fail
  go_ret
  exact ⟨rfl, (Below.refl _ _).alloc (Nat.le_refl _) _⟩


set_option maxRecDepth 100000 in
set_option maxHeartbeats 4000000 in
theorem shown_any (t : Tok) (ht : t.ok) (hl : t.text.length ≤ 4096) (w : World) (hm : Pow w) : Calls Tryd.prog 104 #[.agg t.cells.toArray] w fun e w' => e = .returned (.string (txt (shownN t))) ∧ Below w.heap.size w w' := by
  obtain ⟨k, s, v, p⟩ := t
  obtain ⟨hby, hsl, hk, hv, hp⟩ := ht
  dsimp only at hby hsl hk hv hp hl
  have hv' := hv
  simp [Lit.wf, IntKind.min, IntKind.max, IntKind.signed, IntKind.bits] at hv'
  obtain ⟨v1, v2⟩ := hv'
  show Calls Tryd.prog 104 #[.agg #[.int .i64 k, .string (txt s), .int .i64 v, .int .i64 p]] w _
  by_cases k1 : k = 1
  · subst k1
    have SH : Hid (∀ W, Below w.heap.size w W → Calls Tryd.prog 58 #[.int .i64 v] W fun e w' => e = .returned (.string (txt (showN v))) ∧ Below W.heap.size W w') := Lib.hid (fun W hW => show_any v v1 v2 W (hm.below hW))
    show Calls Tryd.prog 104 #[.agg #[.int .i64 1, .string (txt s), .int .i64 v, .int .i64 p]] w fun e w' => e = .returned (.string (txt (showN v))) ∧ Below w.heap.size w w'
    clear hby hsl hk hv hp hm hl
    go_enter Tryd.func104, Tryd.ntmps104
    go_wp2_with (first
        | (go_at_call 58
           refine (SH.out _ ((Below.refl _ _).alloc (Nat.le_refl _) _)).mono ?_
           rintro e w1 ⟨rfl, b1⟩
           have B1 := Lib.hid (((Below.refl w.heap.size w).alloc (Nat.le_refl _) _).trans (b1.mono (by simp)))
           clear b1))
    go_ret
    exact ⟨rfl, B1.out⟩
  have e1 : (k == 1) = false := by simpa using k1
  by_cases k2 : k = 2
  · subst k2
    have QU : Hid (∀ W, Calls Tryd.prog 59 #[.string (txt s)] W fun e w' => e = .returned (.string (txt (quoteN s))) ∧ Below W.heap.size W w') := Lib.hid (fun W => by
      have := quote_any (txt s) (by rw [txt_size]; omega) W
      rw [bs_txt hby] at this
      exact this)
    show Calls Tryd.prog 104 #[.agg #[.int .i64 2, .string (txt s), .int .i64 v, .int .i64 p]] w fun e w' => e = .returned (.string (txt (quoteN s))) ∧ Below w.heap.size w w'
    clear hby hsl hk hv hp hm hl
    go_enter Tryd.func104, Tryd.ntmps104
    go_wp2_with (first
        | (go_at_call 59
           refine (QU.out _).mono ?_
           rintro e w1 ⟨rfl, b1⟩
           have B1 := Lib.hid (((Below.refl w.heap.size w).alloc (Nat.le_refl _) _).trans (b1.mono (by simp)))
           clear b1))
    go_ret
    exact ⟨rfl, B1.out⟩
  have e2 : (k == 2) = false := by simpa using k2
  have hV : shownN ⟨k, s, v, p⟩ = s := by simp [shownN, k1, k2]
  rw [hV]
  clear hV hby hsl hk hv hp hm hl
  go_enter Tryd.func104, Tryd.ntmps104
  go_wp2_with fail
  go_ret
  exact ⟨rfl, (Below.refl _ _).alloc (Nat.le_refl _) _⟩

set_option maxRecDepth 100000 in
set_option maxHeartbeats 4000000 in
theorem whole_any (s : ByteArray) (hs : s.size ≤ 281474976710656) (w : World) : Calls Tryd.prog 49 #[.string s] w fun e w' => e = .returned (wholeV (bs s)) ∧ Below w.heap.size w w' := by
  have RN := Lib.hid (fun W => ref_number s (by omega) W)
  have RR := Lib.hid (fun W => ref_right s (by unfold maxLen; omega) W)
  have MM := Lib.hid (fun W => marks_made W)
  have WW := Lib.hid (fun W => words_made W)
  have tok1 : True := trivial
  have tok2 : True := trivial
  clear hs
  by_cases h1 : ∃ v, isNumber (bs s) = some v
  · obtain ⟨v, hv⟩ := h1
    have hW : wholeV (bs s) = .tuple #[.agg #[.int .i64 1, .string ⟨#[]⟩, .int .i64 v, .int .i64 0], .bool true] := by
      unfold wholeV wholeN
      rw [hv]
      rfl
    have hN : numV (bs s) = .tuple #[.int .i64 v, .bool true] := by
      unfold numV
      unfold isNumber at hv
      cases hi : intN (bs s) with
      | none => rw [hi] at hv; simp at hv
      | some u =>
        rw [hi] at hv
        simp only at hv
        by_cases h0 : 0 ≤ u
        · rw [if_pos h0] at hv; injection hv with hv; subst hv; simp [h0]
        · rw [if_neg h0] at hv; cases hv
    rw [hN] at RN
    rw [hW]
    clear hv hW hN
    go_enter Tryd.func49, Tryd.ntmps49
    go_wp2_with (first
        | (go_at_call 77
           refine (RN.out _).mono ?_
           rintro e w1 ⟨rfl, q1⟩
           have T1 : Hid (TokSt w w1 #[.int .i64 0, .string ⟨#[]⟩, .int .i64 0, .int .i64 0]) := Lib.hid ((TokSt.new w #[.int .i64 0, .string ⟨#[]⟩, .int .i64 0, .int .i64 0]).call q1)
           have t0 := T1.out.2.cell (i := 0) rfl
           have f0 := T1.out.2.frozen 0
           have t1 := T1.out.2.cell (i := 1) rfl
           have f1 := T1.out.2.frozen 1
           have t2 := T1.out.2.cell (i := 2) rfl
           have f2 := T1.out.2.frozen 2
           have t3 := T1.out.2.cell (i := 3) rfl
           have f3 := T1.out.2.frozen 3
           clear q1))
    refine bodyPost_ret (v := .tuple #[.agg #[.int .i64 1, .string ⟨#[]⟩, .int .i64 v, .int .i64 0], .bool true]) (by simp [results, Tryd.results49, go_sem, t0, t1, t2, t3]) rfl ⟨rfl, ?_⟩
    exact ((((T1.out.set 0 _).set 1 _).set 2 _).set 3 _).1.mono (Nat.le_refl _)
  have hno : isNumber (bs s) = none := by
    cases hi : isNumber (bs s) with
    | none => rfl
    | some v => exact absurd ⟨v, hi⟩ h1
  obtain ⟨v, hN⟩ : ∃ v, numV (bs s) = .tuple #[.int .i64 v, .bool false] := by
    unfold numV
    unfold isNumber at hno
    cases hi : intN (bs s) with
    | none => exact ⟨0, rfl⟩
    | some u =>
      rw [hi] at hno
      simp only at hno
      by_cases h0 : 0 ≤ u
      · rw [if_pos h0] at hno; cases hno
      · exact ⟨u, by simp [h0]⟩
  rw [hN] at RN
  clear hN h1
  by_cases h2 : bs s ∈ wordsL
  · have hW : wholeV (bs s) = .tuple #[.agg #[.int .i64 4, .string s, .int .i64 0, .int .i64 0], .bool true] := by
      unfold wholeV wholeN
      rw [hno]
      simp only
      rw [if_pos h2]
      simp [txt_bs]
    have WB : Hid (decide (bs s ∈ wordsL) = true) := Lib.hid (decide_eq_true h2)
    rw [hW]
    clear hW hno h2
    go_enter Tryd.func49, Tryd.ntmps49
    go_wp2_with (first
        | (go_at_call 77
           refine (RN.out _).mono ?_
           rintro e w1 ⟨rfl, q1⟩
           have T1 : Hid (TokSt w w1 #[.int .i64 0, .string ⟨#[]⟩, .int .i64 0, .int .i64 0]) := Lib.hid ((TokSt.new w #[.int .i64 0, .string ⟨#[]⟩, .int .i64 0, .int .i64 0]).call q1)
           have t0 := T1.out.2.cell (i := 0) rfl
           have f0 := T1.out.2.frozen 0
           have t1 := T1.out.2.cell (i := 1) rfl
           have f1 := T1.out.2.frozen 1
           have t2 := T1.out.2.cell (i := 2) rfl
           have f2 := T1.out.2.frozen 2
           have t3 := T1.out.2.cell (i := 3) rfl
           have f3 := T1.out.2.frozen 3
           clear q1)
        | (go_at_call 80
           refine (WW.out _).mono ?_
           rintro e w2 ⟨rfl, h2⟩
           have T2 : Hid (TokSt w w2 #[.int .i64 0, .string ⟨#[]⟩, .int .i64 0, .int .i64 0]) := Lib.hid (by rw [h2]; exact T1.out.alloc _)
           clear t0 t1 t2 t3 f0 f1 f2 f3
           have t0 := T2.out.2.cell (i := 0) rfl
           have f0 := T2.out.2.frozen 0
           have t1 := T2.out.2.cell (i := 1) rfl
           have f1 := T2.out.2.frozen 1
           have t2 := T2.out.2.cell (i := 2) rfl
           have f2 := T2.out.2.frozen 2
           have t3 := T2.out.2.cell (i := 3) rfl
           have f3 := T2.out.2.frozen 3
           have S2 : Hid (SlR w2 w2.heap.size 1 IsTxt (.slice (some ⟨w1.heap.size, 0, none⟩) 22 22) wordsL) := Lib.hid (by rw [h2]; exact words_read w1)
           clear h2)
        | (go_at_call 79
           have _t := tok1
           refine (in_any s _ _ S2.out (Below.refl _ _)).mono ?_
           rw [WB.out]
           rintro e w3 ⟨rfl, q3⟩
           have T3 : Hid (TokSt w w3 #[.int .i64 0, .string ⟨#[]⟩, .int .i64 0, .int .i64 0]) := Lib.hid (T2.out.quiet q3)
           clear t0 t1 t2 t3 f0 f1 f2 f3
           have t0 := T3.out.2.cell (i := 0) rfl
           have f0 := T3.out.2.frozen 0
           have t1 := T3.out.2.cell (i := 1) rfl
           have f1 := T3.out.2.frozen 1
           have t2 := T3.out.2.cell (i := 2) rfl
           have f2 := T3.out.2.frozen 2
           have t3 := T3.out.2.cell (i := 3) rfl
           have f3 := T3.out.2.frozen 3
           clear q3 tok1 _t))
    refine bodyPost_ret (v := .tuple #[.agg #[.int .i64 4, .string s, .int .i64 0, .int .i64 0], .bool true]) (by simp [results, Tryd.results49, go_sem, t0, t1, t2, t3]) rfl ⟨rfl, ?_⟩
    exact ((((T3.out.set 0 _).set 1 _).set 2 _).set 3 _).1.mono (Nat.le_refl _)
  have WB : Hid (decide (bs s ∈ wordsL) = false) := Lib.hid (decide_eq_false h2)
  by_cases h3 : rightN (bs s) = true
  · have hW : wholeV (bs s) = .tuple #[.agg #[.int .i64 3, .string s, .int .i64 0, .int .i64 0], .bool true] := by
      unfold wholeV wholeN
      rw [hno]
      simp only
      rw [if_neg h2, if_pos h3]
      simp [txt_bs]
    rw [h3] at RR
    rw [hW]
    clear hW hno h2 h3
    go_enter Tryd.func49, Tryd.ntmps49
    go_wp2_with (first
        | (go_at_call 77
           refine (RN.out _).mono ?_
           rintro e w1 ⟨rfl, q1⟩
           have T1 : Hid (TokSt w w1 #[.int .i64 0, .string ⟨#[]⟩, .int .i64 0, .int .i64 0]) := Lib.hid ((TokSt.new w #[.int .i64 0, .string ⟨#[]⟩, .int .i64 0, .int .i64 0]).call q1)
           have t0 := T1.out.2.cell (i := 0) rfl
           have f0 := T1.out.2.frozen 0
           have t1 := T1.out.2.cell (i := 1) rfl
           have f1 := T1.out.2.frozen 1
           have t2 := T1.out.2.cell (i := 2) rfl
           have f2 := T1.out.2.frozen 2
           have t3 := T1.out.2.cell (i := 3) rfl
           have f3 := T1.out.2.frozen 3
           clear q1)
        | (go_at_call 80
           refine (WW.out _).mono ?_
           rintro e w2 ⟨rfl, h2⟩
           have T2 : Hid (TokSt w w2 #[.int .i64 0, .string ⟨#[]⟩, .int .i64 0, .int .i64 0]) := Lib.hid (by rw [h2]; exact T1.out.alloc _)
           clear t0 t1 t2 t3 f0 f1 f2 f3
           have t0 := T2.out.2.cell (i := 0) rfl
           have f0 := T2.out.2.frozen 0
           have t1 := T2.out.2.cell (i := 1) rfl
           have f1 := T2.out.2.frozen 1
           have t2 := T2.out.2.cell (i := 2) rfl
           have f2 := T2.out.2.frozen 2
           have t3 := T2.out.2.cell (i := 3) rfl
           have f3 := T2.out.2.frozen 3
           have S2 : Hid (SlR w2 w2.heap.size 1 IsTxt (.slice (some ⟨w1.heap.size, 0, none⟩) 22 22) wordsL) := Lib.hid (by rw [h2]; exact words_read w1)
           clear h2)
        | (go_at_call 79
           have _t := tok1
           refine (in_any s _ _ S2.out (Below.refl _ _)).mono ?_
           rw [WB.out]
           rintro e w3 ⟨rfl, q3⟩
           have T3 : Hid (TokSt w w3 #[.int .i64 0, .string ⟨#[]⟩, .int .i64 0, .int .i64 0]) := Lib.hid (T2.out.quiet q3)
           clear t0 t1 t2 t3 f0 f1 f2 f3
           have t0 := T3.out.2.cell (i := 0) rfl
           have f0 := T3.out.2.frozen 0
           have t1 := T3.out.2.cell (i := 1) rfl
           have f1 := T3.out.2.frozen 1
           have t2 := T3.out.2.cell (i := 2) rfl
           have f2 := T3.out.2.frozen 2
           have t3 := T3.out.2.cell (i := 3) rfl
           have f3 := T3.out.2.frozen 3
           clear q3 tok1 _t)
        | (go_at_call 68
           refine (RR.out _).mono ?_
           rintro e w4 ⟨rfl, q4⟩
           have T4 : Hid (TokSt w w4 #[.int .i64 0, .string ⟨#[]⟩, .int .i64 0, .int .i64 0]) := Lib.hid ((T3.out).quiet q4)
           clear t0 t1 t2 t3 f0 f1 f2 f3
           have t0 := T4.out.2.cell (i := 0) rfl
           have f0 := T4.out.2.frozen 0
           have t1 := T4.out.2.cell (i := 1) rfl
           have f1 := T4.out.2.frozen 1
           have t2 := T4.out.2.cell (i := 2) rfl
           have f2 := T4.out.2.frozen 2
           have t3 := T4.out.2.cell (i := 3) rfl
           have f3 := T4.out.2.frozen 3
           clear q4))
    refine bodyPost_ret (v := .tuple #[.agg #[.int .i64 3, .string s, .int .i64 0, .int .i64 0], .bool true]) (by simp [results, Tryd.results49, go_sem, t0, t1, t2, t3]) rfl ⟨rfl, ?_⟩
    exact ((((T4.out.set 0 _).set 1 _).set 2 _).set 3 _).1.mono (Nat.le_refl _)
  have h3' : rightN (bs s) = false := by simpa using h3
  rw [h3'] at RR
  by_cases h4 : bs s ∈ marksL
  · have hW : wholeV (bs s) = .tuple #[.agg #[.int .i64 5, .string s, .int .i64 0, .int .i64 0], .bool true] := by
      unfold wholeV wholeN
      rw [hno]
      simp only
      rw [if_neg h2, if_neg h3, if_pos h4]
      simp [txt_bs]
    have MB : Hid (decide (bs s ∈ marksL) = true) := Lib.hid (decide_eq_true h4)
    rw [hW]
    clear hW hno h2 h3 h3' h4
    go_enter Tryd.func49, Tryd.ntmps49
    go_wp2_with (first
        | (go_at_call 77
           refine (RN.out _).mono ?_
           rintro e w1 ⟨rfl, q1⟩
           have T1 : Hid (TokSt w w1 #[.int .i64 0, .string ⟨#[]⟩, .int .i64 0, .int .i64 0]) := Lib.hid ((TokSt.new w #[.int .i64 0, .string ⟨#[]⟩, .int .i64 0, .int .i64 0]).call q1)
           have t0 := T1.out.2.cell (i := 0) rfl
           have f0 := T1.out.2.frozen 0
           have t1 := T1.out.2.cell (i := 1) rfl
           have f1 := T1.out.2.frozen 1
           have t2 := T1.out.2.cell (i := 2) rfl
           have f2 := T1.out.2.frozen 2
           have t3 := T1.out.2.cell (i := 3) rfl
           have f3 := T1.out.2.frozen 3
           clear q1)
        | (go_at_call 80
           refine (WW.out _).mono ?_
           rintro e w2 ⟨rfl, h2⟩
           have T2 : Hid (TokSt w w2 #[.int .i64 0, .string ⟨#[]⟩, .int .i64 0, .int .i64 0]) := Lib.hid (by rw [h2]; exact T1.out.alloc _)
           clear t0 t1 t2 t3 f0 f1 f2 f3
           have t0 := T2.out.2.cell (i := 0) rfl
           have f0 := T2.out.2.frozen 0
           have t1 := T2.out.2.cell (i := 1) rfl
           have f1 := T2.out.2.frozen 1
           have t2 := T2.out.2.cell (i := 2) rfl
           have f2 := T2.out.2.frozen 2
           have t3 := T2.out.2.cell (i := 3) rfl
           have f3 := T2.out.2.frozen 3
           have S2 : Hid (SlR w2 w2.heap.size 1 IsTxt (.slice (some ⟨w1.heap.size, 0, none⟩) 22 22) wordsL) := Lib.hid (by rw [h2]; exact words_read w1)
           clear h2)
        | (go_at_call 79
           have _t := tok1
           refine (in_any s _ _ S2.out (Below.refl _ _)).mono ?_
           rw [WB.out]
           rintro e w3 ⟨rfl, q3⟩
           have T3 : Hid (TokSt w w3 #[.int .i64 0, .string ⟨#[]⟩, .int .i64 0, .int .i64 0]) := Lib.hid (T2.out.quiet q3)
           clear t0 t1 t2 t3 f0 f1 f2 f3
           have t0 := T3.out.2.cell (i := 0) rfl
           have f0 := T3.out.2.frozen 0
           have t1 := T3.out.2.cell (i := 1) rfl
           have f1 := T3.out.2.frozen 1
           have t2 := T3.out.2.cell (i := 2) rfl
           have f2 := T3.out.2.frozen 2
           have t3 := T3.out.2.cell (i := 3) rfl
           have f3 := T3.out.2.frozen 3
           clear q3 tok1 _t)
        | (go_at_call 68
           refine (RR.out _).mono ?_
           rintro e w4 ⟨rfl, q4⟩
           have T4 : Hid (TokSt w w4 #[.int .i64 0, .string ⟨#[]⟩, .int .i64 0, .int .i64 0]) := Lib.hid ((T3.out).quiet q4)
           clear t0 t1 t2 t3 f0 f1 f2 f3
           have t0 := T4.out.2.cell (i := 0) rfl
           have f0 := T4.out.2.frozen 0
           have t1 := T4.out.2.cell (i := 1) rfl
           have f1 := T4.out.2.frozen 1
           have t2 := T4.out.2.cell (i := 2) rfl
           have f2 := T4.out.2.frozen 2
           have t3 := T4.out.2.cell (i := 3) rfl
           have f3 := T4.out.2.frozen 3
           clear q4)
        | (go_at_call 78
           refine (MM.out _).mono ?_
           rintro e w5 ⟨rfl, h5⟩
           have T5 : Hid (TokSt w w5 #[.int .i64 0, .string ⟨#[]⟩, .int .i64 0, .int .i64 0]) := Lib.hid (by rw [h5]; exact T4.out.alloc _)
           clear t0 t1 t2 t3 f0 f1 f2 f3
           have t0 := T5.out.2.cell (i := 0) rfl
           have f0 := T5.out.2.frozen 0
           have t1 := T5.out.2.cell (i := 1) rfl
           have f1 := T5.out.2.frozen 1
           have t2 := T5.out.2.cell (i := 2) rfl
           have f2 := T5.out.2.frozen 2
           have t3 := T5.out.2.cell (i := 3) rfl
           have f3 := T5.out.2.frozen 3
           have S5 : Hid (SlR w5 w5.heap.size 1 IsTxt (.slice (some ⟨w4.heap.size, 0, none⟩) 16 16) marksL) := Lib.hid (by rw [h5]; exact marks_read w4)
           clear h5)
        | (go_at_call 79
           have _t := tok2
           refine (in_any s _ _ S5.out (Below.refl _ _)).mono ?_
           rw [MB.out]
           rintro e w6 ⟨rfl, q6⟩
           have T6 : Hid (TokSt w w6 #[.int .i64 0, .string ⟨#[]⟩, .int .i64 0, .int .i64 0]) := Lib.hid (T5.out.quiet q6)
           clear t0 t1 t2 t3 f0 f1 f2 f3
           have t0 := T6.out.2.cell (i := 0) rfl
           have f0 := T6.out.2.frozen 0
           have t1 := T6.out.2.cell (i := 1) rfl
           have f1 := T6.out.2.frozen 1
           have t2 := T6.out.2.cell (i := 2) rfl
           have f2 := T6.out.2.frozen 2
           have t3 := T6.out.2.cell (i := 3) rfl
           have f3 := T6.out.2.frozen 3
           clear q6 tok2 _t))
    refine bodyPost_ret (v := .tuple #[.agg #[.int .i64 5, .string s, .int .i64 0, .int .i64 0], .bool true]) (by simp [results, Tryd.results49, go_sem, t0, t1, t2, t3]) rfl ⟨rfl, ?_⟩
    exact ((((T6.out.set 0 _).set 1 _).set 2 _).set 3 _).1.mono (Nat.le_refl _)
  · have hW : wholeV (bs s) = .tuple #[.agg #[.int .i64 5, .string s, .int .i64 0, .int .i64 0], .bool false] := by
      unfold wholeV wholeN
      rw [hno]
      simp only
      rw [if_neg h2, if_neg h3, if_neg h4]
      simp [txt_bs]
    have MB : Hid (decide (bs s ∈ marksL) = false) := Lib.hid (decide_eq_false h4)
    rw [hW]
    clear hW hno h2 h3 h3' h4
    go_enter Tryd.func49, Tryd.ntmps49
    go_wp2_with (first
        | (go_at_call 77
           refine (RN.out _).mono ?_
           rintro e w1 ⟨rfl, q1⟩
           have T1 : Hid (TokSt w w1 #[.int .i64 0, .string ⟨#[]⟩, .int .i64 0, .int .i64 0]) := Lib.hid ((TokSt.new w #[.int .i64 0, .string ⟨#[]⟩, .int .i64 0, .int .i64 0]).call q1)
           have t0 := T1.out.2.cell (i := 0) rfl
           have f0 := T1.out.2.frozen 0
           have t1 := T1.out.2.cell (i := 1) rfl
           have f1 := T1.out.2.frozen 1
           have t2 := T1.out.2.cell (i := 2) rfl
           have f2 := T1.out.2.frozen 2
           have t3 := T1.out.2.cell (i := 3) rfl
           have f3 := T1.out.2.frozen 3
           clear q1)
        | (go_at_call 80
           refine (WW.out _).mono ?_
           rintro e w2 ⟨rfl, h2⟩
           have T2 : Hid (TokSt w w2 #[.int .i64 0, .string ⟨#[]⟩, .int .i64 0, .int .i64 0]) := Lib.hid (by rw [h2]; exact T1.out.alloc _)
           clear t0 t1 t2 t3 f0 f1 f2 f3
           have t0 := T2.out.2.cell (i := 0) rfl
           have f0 := T2.out.2.frozen 0
           have t1 := T2.out.2.cell (i := 1) rfl
           have f1 := T2.out.2.frozen 1
           have t2 := T2.out.2.cell (i := 2) rfl
           have f2 := T2.out.2.frozen 2
           have t3 := T2.out.2.cell (i := 3) rfl
           have f3 := T2.out.2.frozen 3
           have S2 : Hid (SlR w2 w2.heap.size 1 IsTxt (.slice (some ⟨w1.heap.size, 0, none⟩) 22 22) wordsL) := Lib.hid (by rw [h2]; exact words_read w1)
           clear h2)
        | (go_at_call 79
           have _t := tok1
           refine (in_any s _ _ S2.out (Below.refl _ _)).mono ?_
           rw [WB.out]
           rintro e w3 ⟨rfl, q3⟩
           have T3 : Hid (TokSt w w3 #[.int .i64 0, .string ⟨#[]⟩, .int .i64 0, .int .i64 0]) := Lib.hid (T2.out.quiet q3)
           clear t0 t1 t2 t3 f0 f1 f2 f3
           have t0 := T3.out.2.cell (i := 0) rfl
           have f0 := T3.out.2.frozen 0
           have t1 := T3.out.2.cell (i := 1) rfl
           have f1 := T3.out.2.frozen 1
           have t2 := T3.out.2.cell (i := 2) rfl
           have f2 := T3.out.2.frozen 2
           have t3 := T3.out.2.cell (i := 3) rfl
           have f3 := T3.out.2.frozen 3
           clear q3 tok1 _t)
        | (go_at_call 68
           refine (RR.out _).mono ?_
           rintro e w4 ⟨rfl, q4⟩
           have T4 : Hid (TokSt w w4 #[.int .i64 0, .string ⟨#[]⟩, .int .i64 0, .int .i64 0]) := Lib.hid ((T3.out).quiet q4)
           clear t0 t1 t2 t3 f0 f1 f2 f3
           have t0 := T4.out.2.cell (i := 0) rfl
           have f0 := T4.out.2.frozen 0
           have t1 := T4.out.2.cell (i := 1) rfl
           have f1 := T4.out.2.frozen 1
           have t2 := T4.out.2.cell (i := 2) rfl
           have f2 := T4.out.2.frozen 2
           have t3 := T4.out.2.cell (i := 3) rfl
           have f3 := T4.out.2.frozen 3
           clear q4)
        | (go_at_call 78
           refine (MM.out _).mono ?_
           rintro e w5 ⟨rfl, h5⟩
           have T5 : Hid (TokSt w w5 #[.int .i64 0, .string ⟨#[]⟩, .int .i64 0, .int .i64 0]) := Lib.hid (by rw [h5]; exact T4.out.alloc _)
           clear t0 t1 t2 t3 f0 f1 f2 f3
           have t0 := T5.out.2.cell (i := 0) rfl
           have f0 := T5.out.2.frozen 0
           have t1 := T5.out.2.cell (i := 1) rfl
           have f1 := T5.out.2.frozen 1
           have t2 := T5.out.2.cell (i := 2) rfl
           have f2 := T5.out.2.frozen 2
           have t3 := T5.out.2.cell (i := 3) rfl
           have f3 := T5.out.2.frozen 3
           have S5 : Hid (SlR w5 w5.heap.size 1 IsTxt (.slice (some ⟨w4.heap.size, 0, none⟩) 16 16) marksL) := Lib.hid (by rw [h5]; exact marks_read w4)
           clear h5)
        | (go_at_call 79
           have _t := tok2
           refine (in_any s _ _ S5.out (Below.refl _ _)).mono ?_
           rw [MB.out]
           rintro e w6 ⟨rfl, q6⟩
           have T6 : Hid (TokSt w w6 #[.int .i64 0, .string ⟨#[]⟩, .int .i64 0, .int .i64 0]) := Lib.hid (T5.out.quiet q6)
           clear t0 t1 t2 t3 f0 f1 f2 f3
           have t0 := T6.out.2.cell (i := 0) rfl
           have f0 := T6.out.2.frozen 0
           have t1 := T6.out.2.cell (i := 1) rfl
           have f1 := T6.out.2.frozen 1
           have t2 := T6.out.2.cell (i := 2) rfl
           have f2 := T6.out.2.frozen 2
           have t3 := T6.out.2.cell (i := 3) rfl
           have f3 := T6.out.2.frozen 3
           clear q6 tok2 _t))
    refine bodyPost_ret (v := .tuple #[.agg #[.int .i64 5, .string s, .int .i64 0, .int .i64 0], .bool false]) (by simp [results, Tryd.results49, go_sem, t0, t1, t2, t3]) rfl ⟨rfl, ?_⟩
    exact ((((T6.out.set 0 _).set 1 _).set 2 _).set 3 _).1.mono (Nat.le_refl _)


end Go.Proofs.YtlenenfgedgmhaaDoor
