/- Chapter 11: an instruction's line: shown, and the reference's Line. -/
import Derived.Test.YtdkoafmgenbkbaaDoorRCa
import Derived.Test.YtdkoafmgenbkbaaDoorShow
import Derived.Test.YtdkoafmgenbkbaaDoorMPl
import Derived.Test.YtdkoafmgenbkbaaDoorRef
namespace Go.Proofs.YtdkoafmgenbkbaaDoor
set_option linter.unusedSimpArgs false
set_option linter.unusedVariables false
open Go.RowKit

def wordsV : Array Value := (wordsC.map Value.string).toArray
def WordsIs (w : World) : Prop := w.var? Tryd.prog "topiary/code.words" = some wordsV
theorem WordsIs.below {w w' : World} (h : WordsIs w) (hb : Below w.heap.size w w') : WordsIs w' := var_keep h hb
theorem wordsV_at (op : Int) (h1 : 1 ≤ op) (h2 : op ≤ 40) : wordsV[op.toNat]? = some (.string (wordC op)) := by
  rcases (by omega : op = 1 ∨ op = 2 ∨ op = 3 ∨ op = 4 ∨ op = 5 ∨ op = 6 ∨ op = 7 ∨ op = 8 ∨ op = 9 ∨ op = 10 ∨ op = 11 ∨ op = 12 ∨ op = 13 ∨ op = 14 ∨ op = 15 ∨ op = 16 ∨ op = 17 ∨ op = 18 ∨ op = 19 ∨ op = 20 ∨ op = 21 ∨ op = 22 ∨ op = 23 ∨ op = 24 ∨ op = 25 ∨ op = 26 ∨ op = 27 ∨ op = 28 ∨ op = 29 ∨ op = 30 ∨ op = 31 ∨ op = 32 ∨ op = 33 ∨ op = 34 ∨ op = 35 ∨ op = 36 ∨ op = 37 ∨ op = 38 ∨ op = 39 ∨ op = 40) with rfl | rfl | rfl | rfl | rfl | rfl | rfl | rfl | rfl | rfl | rfl | rfl | rfl | rfl | rfl | rfl | rfl | rfl | rfl | rfl | rfl | rfl | rfl | rfl | rfl | rfl | rfl | rfl | rfl | rfl | rfl | rfl | rfl | rfl | rfl | rfl | rfl | rfl | rfl | rfl <;> rfl
theorem words_block {w : World} (h : WordsIs w) : ∃ t fr, w.heap[0]? = some (.cells wordsV t fr) := by
  unfold WordsIs World.var? at h
  rw [show Tryd.prog.globalNamed "topiary/code.words" = some 0 by kernel_rfl] at h
  simp only [Option.bind_some] at h
  cases hh : w.heap[0]? with
  | none => rw [hh] at h; cases h
  | some o =>
    rw [hh] at h
    cases o with
    | cells cs t fr => simp only [Option.some.injEq] at h; subst h; exact ⟨t, fr, rfl⟩
    | _ => cases h
theorem words_cell {w : World} (h : WordsIs w) (op : Int) (h1 : 1 ≤ op) (h2 : op ≤ 40) : w.cell? ⟨0, op.toNat, none⟩ = some (.string (wordC op)) := by
  obtain ⟨t, fr, hb⟩ := words_block h
  have h3 := wordsV_at op h1 h2
  simp [World.cell?, hb, h3]
theorem words_lt {w : World} (h : WordsIs w) : 0 < w.heap.size := by
  obtain ⟨t, fr, hb⟩ := words_block h
  rcases Nat.lt_or_ge 0 w.heap.size with h0 | h0
  · exact h0
  · rw [Array.getElem?_eq_none h0] at hb; cases hb
theorem word_small (op : Int) : (wordC op).size ≤ 8 := by
  by_cases h : 1 ≤ op ∧ op ≤ 40
  · rcases (by omega : op = 1 ∨ op = 2 ∨ op = 3 ∨ op = 4 ∨ op = 5 ∨ op = 6 ∨ op = 7 ∨ op = 8 ∨ op = 9 ∨ op = 10 ∨ op = 11 ∨ op = 12 ∨ op = 13 ∨ op = 14 ∨ op = 15 ∨ op = 16 ∨ op = 17 ∨ op = 18 ∨ op = 19 ∨ op = 20 ∨ op = 21 ∨ op = 22 ∨ op = 23 ∨ op = 24 ∨ op = 25 ∨ op = 26 ∨ op = 27 ∨ op = 28 ∨ op = 29 ∨ op = 30 ∨ op = 31 ∨ op = 32 ∨ op = 33 ∨ op = 34 ∨ op = 35 ∨ op = 36 ∨ op = 37 ∨ op = 38 ∨ op = 39 ∨ op = 40) with rfl | rfl | rfl | rfl | rfl | rfl | rfl | rfl | rfl | rfl | rfl | rfl | rfl | rfl | rfl | rfl | rfl | rfl | rfl | rfl | rfl | rfl | rfl | rfl | rfl | rfl | rfl | rfl | rfl | rfl | rfl | rfl | rfl | rfl | rfl | rfl | rfl | rfl | rfl | rfl <;> decide
  · unfold wordC; rw [if_neg h]; decide
theorem name_small {l : List Nat} (h : rightN l = true) : l.length ≤ 32 := by
  cases l with
  | nil => simp
  | cons c t =>
    unfold rightN at h
    simp only [Bool.and_eq_true, decide_eq_true_eq] at h
    exact h.1.1

theorem show_small {v : Int} (h : (Lit.int .i64 v).wf = true) : (showN v).length ≤ 20 := by
  have hv := h
  simp [Lit.wf, IntKind.min, IntKind.max, IntKind.signed, IntKind.bits] at hv
  exact (intN_some (intN_show hv.1 hv.2)).2.2.2
theorem wf_range {v : Int} (h : (Lit.int .i64 v).wf = true) : -9223372036854775808 ≤ v ∧ v ≤ 9223372036854775807 := by
  simpa [Lit.wf, IntKind.min, IntKind.max, IntKind.signed, IntKind.bits] using h
theorem line_of {wd : ByteArray} {t : List Nat} {l : List Nat} (h : l = bs wd ++ 32 :: t) : wd ++ ((⟨#[32]⟩ : ByteArray) ++ txt t) = txt l := by
  rw [h, ← txt_app, txt_bs, show (32 :: t : List Nat) = [32] ++ t from rfl, ← txt_app]
  rfl
theorem line_of2 {wd : ByteArray} {t : List Nat} {l : List Nat} (h : l = bs wd ++ 32 :: t) : wd ++ (⟨#[32]⟩ : ByteArray) ++ txt t = txt l := by
  rw [ByteArray.append_assoc, line_of h]
set_option maxRecDepth 100000 in
set_option maxHeartbeats 4000000 in
theorem shown_any (d : Ins) (hd : d.ok) (hpl : plainN d = true) (w : World) (hw : WordsIs w) (hpw : Pow w) :
    Calls Tryd.prog 23 #[.agg #[.int .i64 d.op, .int .i64 d.arg, .int .i64 d.int, .string d.text]] w fun e w' => e = .returned (.string (txt (lineC d ++ [10]))) ∧ Below w.heap.size w w' := by
  obtain ⟨h1, h2, h3⟩ := plain_ops hpl
  have hc := words_cell hw d.op h1 h2
  have h0 := words_lt hw
  have hsm := word_small d.op
  have ht3 : hasN d.op = 3 → d.text.size ≤ 4096 := by
    intro h
    unfold plainN at hpl
    simp only [Bool.and_eq_true, h, if_pos, decide_eq_true_eq] at hpl
    exact hpl.2
  have ht4 : hasN d.op = 4 → d.text.size ≤ 32 := by
    intro h
    unfold plainN at hpl
    simp [h] at hpl
    have := name_small hpl.2
    rwa [bs_len] at this
  obtain ⟨op, arg, int, text⟩ := d
  obtain ⟨hd0, hd1, hd2, hd3⟩ := hd
  simp only at h1 h2 h3 hc hsm ht3 ht4 hd0 hd1 hd2 hd3 ⊢
  have ho0 : 0 ≤ op := by omega
  have ho1 : op < 41 := by omega
  have HW := Lib.hid (fun W => what_any op h1 h2 W)
  have HLN : Hid (lineC ⟨op, arg, int, text⟩ = bs (wordC op) ++ (match hasN op with | 1 => 32 :: showN arg | 5 => 32 :: showN arg | 2 => 32 :: showN int | 3 => 32 :: quoteN (bs text) | 4 => 32 :: bs text | _ => [])) := Lib.hid rfl
  have HA := Lib.hid hd1
  have HI := Lib.hid hd2
  have SA : Hid (∀ W, Below w.heap.size w W → Calls Tryd.prog 44 #[.int .i64 arg] W fun e w' => e = .returned (.string (txt (showN arg))) ∧ Below W.heap.size W w') := Lib.hid (fun W hW => show_any arg (wf_range hd1).1 (wf_range hd1).2 W (hpw.below hW))
  have SI : Hid (∀ W, Below w.heap.size w W → Calls Tryd.prog 44 #[.int .i64 int] W fun e w' => e = .returned (.string (txt (showN int))) ∧ Below W.heap.size W w') := Lib.hid (fun W hW => show_any int (wf_range hd2).1 (wf_range hd2).2 W (hpw.below hW))
  have zA := show_small hd1
  have zI := show_small hd2
  have zQ : hasN op = 3 → (quoteN (bs text)).length ≤ 16500 := by
    intro h
    have h5 := flat_len (bs text)
    have h6 := ht3 h
    rw [bs_len] at h5
    unfold quoteN
    simp only [List.length_cons, List.length_append, List.length_nil]
    omega
  have QU : Hid (hasN op = 3 → ∀ W, Calls Tryd.prog 45 #[.string text] W fun e w' => e = .returned (.string (txt (quoteN (bs text)))) ∧ Below W.heap.size W w') := Lib.hid (fun h W => quote_any text (by have := ht3 h; omega) W)
  obtain ⟨wd, hwd⟩ : ∃ x, wordC op = x := ⟨_, rfl⟩
  rw [hwd] at hc hsm HLN
  clear hpl hw hpw h1 h2 hd0 hd1 hd2 hd3 hwd
  rcases hasN_le op with hm | hm | hm | hm | hm | hm
  all_goals rw [hm] at HW HLN
  all_goals have Hm := Lib.hid hm

  · have z1 : ¬ 9223372036854775807 < wd.size + 1 := by omega
    clear ht3 ht4 zQ hm
    go_enter Tryd.func23, Tryd.ntmps23
    go_wp2_with (first
      | (go_at_call 35; refine (HW.out _).mono ?_; rintro e w1 ⟨rfl, nq, rfl⟩)
      | fail)
    go_ret
    refine ⟨?_, below_drewN ((Below.refl _ _).alloc (Nat.le_refl _) _) _⟩
    rw [HLN.out, List.append_nil, ← txt_app, txt_bs]
    rfl
  · have hz : (txt (showN arg)).size ≤ 20000 := by have := zA; rw [txt_size]; omega
    have z1 : ¬ 9223372036854775807 < 1 + (txt (showN arg)).size := by omega
    have z2 : ¬ 9223372036854775807 < wd.size + (1 + (txt (showN arg)).size) := by omega
    have z3 : ¬ 9223372036854775807 < wd.size + (1 + (txt (showN arg)).size) + 1 := by omega
    clear ht3 ht4 zQ hm
    go_enter Tryd.func23, Tryd.ntmps23
    go_wp2_with (first
      | (go_at_call 35; refine (HW.out _).mono ?_; rintro e w1 ⟨rfl, nq, rfl⟩)
      | (go_at_call 44; refine (SA.out _ (below_drewN ((Below.refl _ _).alloc (Nat.le_refl _) _) _)).mono ?_; rintro e w2 ⟨rfl, hb⟩; have H2 : Hid (Below w.heap.size w w2) := Lib.hid ((below_drewN ((Below.refl _ _).alloc (Nat.le_refl _) _) _ : Below w.heap.size w _).trans (hb.mono (by simp))); clear hb)
      | fail)
    go_ret
    refine ⟨?_, H2.out⟩
    rw [← txt_app, ← line_of (wd := wd) (t := showN arg) HLN.out]
    rfl
  · have hz : (txt (showN int)).size ≤ 20000 := by have := zI; rw [txt_size]; omega
    have z1 : ¬ 9223372036854775807 < 1 + (txt (showN int)).size := by omega
    have z2 : ¬ 9223372036854775807 < wd.size + (1 + (txt (showN int)).size) := by omega
    have z3 : ¬ 9223372036854775807 < wd.size + (1 + (txt (showN int)).size) + 1 := by omega
    clear ht3 ht4 zQ hm
    go_enter Tryd.func23, Tryd.ntmps23
    go_wp2_with (first
      | (go_at_call 35; refine (HW.out _).mono ?_; rintro e w1 ⟨rfl, nq, rfl⟩)
      | (go_at_call 44; refine (SI.out _ (below_drewN ((Below.refl _ _).alloc (Nat.le_refl _) _) _)).mono ?_; rintro e w2 ⟨rfl, hb⟩; have H2 : Hid (Below w.heap.size w w2) := Lib.hid ((below_drewN ((Below.refl _ _).alloc (Nat.le_refl _) _) _ : Below w.heap.size w _).trans (hb.mono (by simp))); clear hb)
      | fail)
    go_ret
    refine ⟨?_, H2.out⟩
    rw [← txt_app, ← line_of (wd := wd) (t := showN int) HLN.out]
    rfl
  · have hz : (txt (quoteN (bs text))).size ≤ 20000 := by have := zQ hm; rw [txt_size]; omega
    have z1 : ¬ 9223372036854775807 < 1 + (txt (quoteN (bs text))).size := by omega
    have z2 : ¬ 9223372036854775807 < wd.size + (1 + (txt (quoteN (bs text))).size) := by omega
    have z3 : ¬ 9223372036854775807 < wd.size + (1 + (txt (quoteN (bs text))).size) + 1 := by omega
    clear ht3 ht4 zQ hm
    go_enter Tryd.func23, Tryd.ntmps23
    go_wp2_with (first
      | (go_at_call 35; refine (HW.out _).mono ?_; rintro e w1 ⟨rfl, nq, rfl⟩)
      | (go_at_call 45; refine (QU.out Hm.out _).mono ?_; rintro e w2 ⟨rfl, hb⟩; have H2 : Hid (Below w.heap.size w w2) := Lib.hid ((below_drewN ((Below.refl _ _).alloc (Nat.le_refl _) _) _ : Below w.heap.size w _).trans (hb.mono (by simp))); clear hb)
      | fail)
    go_ret
    refine ⟨?_, H2.out⟩
    rw [← txt_app, ← line_of (wd := wd) (t := quoteN (bs text)) HLN.out]
    rfl
  · have hz : text.size ≤ 20000 := by have := ht4 hm; omega
    have z1 : ¬ 9223372036854775807 < 1 + text.size := by omega
    have z2 : ¬ 9223372036854775807 < wd.size + (1 + text.size) := by omega
    have z3 : ¬ 9223372036854775807 < wd.size + (1 + text.size) + 1 := by omega
    clear ht3 ht4 zQ hm
    go_enter Tryd.func23, Tryd.ntmps23
    go_wp2_with (first
      | (go_at_call 35; refine (HW.out _).mono ?_; rintro e w1 ⟨rfl, nq, rfl⟩)
      | fail)
    go_ret
    refine ⟨?_, below_drewN ((Below.refl _ _).alloc (Nat.le_refl _) _) _⟩
    rw [← txt_app, ← line_of (wd := wd) (t := bs text) HLN.out, txt_bs]
    rfl
  · have hz : (txt (showN arg)).size ≤ 20000 := by have := zA; rw [txt_size]; omega
    have z1 : ¬ 9223372036854775807 < 1 + (txt (showN arg)).size := by omega
    have z2 : ¬ 9223372036854775807 < wd.size + (1 + (txt (showN arg)).size) := by omega
    have z3 : ¬ 9223372036854775807 < wd.size + (1 + (txt (showN arg)).size) + 1 := by omega
    clear ht3 ht4 zQ hm
    go_enter Tryd.func23, Tryd.ntmps23
    go_wp2_with (first
      | (go_at_call 35; refine (HW.out _).mono ?_; rintro e w1 ⟨rfl, nq, rfl⟩)
      | (go_at_call 44; refine (SA.out _ (below_drewN ((Below.refl _ _).alloc (Nat.le_refl _) _) _)).mono ?_; rintro e w2 ⟨rfl, hb⟩; have H2 : Hid (Below w.heap.size w w2) := Lib.hid ((below_drewN ((Below.refl _ _).alloc (Nat.le_refl _) _) _ : Below w.heap.size w _).trans (hb.mono (by simp))); clear hb)
      | fail)
    go_ret
    refine ⟨?_, H2.out⟩
    rw [← txt_app, ← line_of (wd := wd) (t := showN arg) HLN.out]
    rfl
theorem has_class (op : Int) : (op = 1 ∧ hasC op = ⟨#[99, 111, 117, 110, 116, 32, 49]⟩ ∧ hasN op = 1) ∨ (op = 8 ∧ hasC op = ⟨#[99, 111, 117, 110, 116, 32, 48]⟩ ∧ hasN op = 1) ∨ (op ≠ 1 ∧ hasC op = ⟨#[110, 117, 109, 98, 101, 114]⟩ ∧ hasN op = 2) ∨ (op ≠ 1 ∧ hasC op = ⟨#[116, 101, 120, 116]⟩ ∧ hasN op = 3) ∨ (op ≠ 1 ∧ hasC op = ⟨#[110, 97, 109, 101]⟩ ∧ hasN op = 4) ∨ (op ≠ 1 ∧ hasC op = ⟨#[112, 108, 97, 99, 101]⟩ ∧ hasN op = 5) ∨ (op ≠ 1 ∧ hasC op = ⟨#[]⟩ ∧ hasN op = 0) := by
  by_cases c1 : op = 1
  · subst c1; exact .inl ⟨rfl, rfl, rfl⟩
  by_cases c8 : op = 8
  · subst c8; exact .inr (.inl ⟨rfl, rfl, rfl⟩)
  right; right
  have h1 : hasN op ≠ 1 := by
    unfold hasN
    rw [if_neg (by omega)]
    repeat' split
    all_goals simp
  rcases hasN_le op with h | h | h | h | h | h
  · right; right; right; right
    refine ⟨c1, ?_, h⟩
    unfold hasC; rw [if_neg c1, if_neg c8, h]; rfl
  · exact absurd h h1
  · left; refine ⟨c1, ?_, h⟩
    unfold hasC; rw [if_neg c1, if_neg c8, h]; rfl
  · right; left; refine ⟨c1, ?_, h⟩
    unfold hasC; rw [if_neg c1, if_neg c8, h]; rfl
  · right; right; left; refine ⟨c1, ?_, h⟩
    unfold hasC; rw [if_neg c1, if_neg c8, h]; rfl
  · right; right; right; left; refine ⟨c1, ?_, h⟩
    unfold hasC; rw [if_neg c1, if_neg c8, h]; rfl
set_option maxRecDepth 100000 in
set_option maxHeartbeats 4000000 in
theorem rline_any (d : Ins) (hd : d.ok) (hpl : plainN d = true) (w : World) :
    Calls Tryd.prog 26 #[.agg #[.int .i64 d.op, .int .i64 d.arg, .int .i64 d.int, .string d.text]] w fun e w' => e = .returned (.string (txt (lineC d))) ∧ Below w.heap.size w w' := by
  obtain ⟨h1, h2, h3⟩ := plain_ops hpl
  have hsm := word_small d.op
  have ht3 : hasN d.op = 3 → d.text.size ≤ 4096 := by
    intro h
    unfold plainN at hpl
    simp only [Bool.and_eq_true, h, if_pos, decide_eq_true_eq] at hpl
    exact hpl.2
  have ht4 : hasN d.op = 4 → d.text.size ≤ 32 := by
    intro h
    unfold plainN at hpl
    simp [h] at hpl
    have := name_small hpl.2
    rwa [bs_len] at this
  obtain ⟨op, arg, int, text⟩ := d
  obtain ⟨hd0, hd1, hd2, hd3⟩ := hd
  simp only at h1 h2 h3 hsm ht3 ht4 hd0 hd1 hd2 hd3 ⊢
  have WD := Lib.hid (fun W => word_any op W)
  have HH := Lib.hid (fun W => has_any op h1 h2 W)
  have HLN : Hid (lineC ⟨op, arg, int, text⟩ = bs (wordC op) ++ (match hasN op with | 1 => 32 :: showN arg | 5 => 32 :: showN arg | 2 => 32 :: showN int | 3 => 32 :: quoteN (bs text) | 4 => 32 :: bs text | _ => [])) := Lib.hid rfl
  have SA : Hid (∀ W, Calls Tryd.prog 46 #[.int .i64 arg] W fun e w' => e = .returned (.string (txt (showN arg))) ∧ Below W.heap.size W w') := Lib.hid (fun W => ref_show arg (wf_range hd1).1 (wf_range hd1).2 W)
  have SI : Hid (∀ W, Calls Tryd.prog 46 #[.int .i64 int] W fun e w' => e = .returned (.string (txt (showN int))) ∧ Below W.heap.size W w') := Lib.hid (fun W => ref_show int (wf_range hd2).1 (wf_range hd2).2 W)
  have zA := show_small hd1
  have zI := show_small hd2
  have zQ : hasN op = 3 → (quoteN (bs text)).length ≤ 16500 := by
    intro h
    have h5 := flat_len (bs text)
    have h6 := ht3 h
    rw [bs_len] at h5
    unfold quoteN
    simp only [List.length_cons, List.length_append, List.length_nil]
    omega
  have QU : Hid (hasN op = 3 → ∀ W, Calls Tryd.prog 47 #[.string text] W fun e w' => e = .returned (.string (txt (quoteN (bs text)))) ∧ Below W.heap.size W w') := Lib.hid (fun h W => ref_quote text (by have := ht3 h; omega) W)
  obtain ⟨wd, hwd⟩ : ∃ x, wordC op = x := ⟨_, rfl⟩
  rw [hwd] at hsm HLN WD HH
  have hcl := has_class op
  clear hpl h1 h2 hd0 hd1 hd2 hd3 hwd
  rcases hcl with ⟨hop, hhc, hm⟩ | ⟨hop, hhc, hm⟩ | ⟨hop, hhc, hm⟩ | ⟨hop, hhc, hm⟩ | ⟨hop, hhc, hm⟩ | ⟨hop, hhc, hm⟩ | ⟨hop, hhc, hm⟩
  all_goals rw [hm] at HLN
  all_goals rw [hhc] at HH
  all_goals have Hm := Lib.hid hm
  all_goals clear hop hhc

  · have hz : (txt (showN arg)).size ≤ 20000 := by have := zA; rw [txt_size]; omega
    have z1 : ¬ 9223372036854775807 < wd.size + 1 := by omega
    have z2 : ¬ 9223372036854775807 < wd.size + 1 + (txt (showN arg)).size := by omega
    clear ht3 ht4 zQ hm
    go_enter Tryd.func26, Tryd.ntmps26
    go_wp2_with (first
      | (go_at_call 39; refine (WD.out _).mono ?_; rintro e w1 ⟨rfl, hb⟩; have B1 : Blk w1 w.heap.size 46 #[.int .i64 op, .int .i64 arg, .int .i64 int, .string text] := (Blk.new w _ _).below hb (by simp); have b1 : w1.cell? ⟨w.heap.size, 1, none⟩ = some (.int .i64 arg) := B1.cell rfl; have b2 : w1.cell? ⟨w.heap.size, 2, none⟩ = some (.int .i64 int) := B1.cell rfl; have b3 : w1.cell? ⟨w.heap.size, 3, none⟩ = some (.string text) := B1.cell rfl; have H1 : Hid (Below w.heap.size w w1) := Lib.hid (((Below.refl _ _).alloc (Nat.le_refl _) _).trans (hb.mono (by simp))); clear hb B1)
      | (go_at_call 40; refine (HH.out _).mono ?_; rintro e w2 ⟨rfl, nq, rfl⟩)
      | (go_at_call 46; refine (SA.out _).mono ?_; rintro e w3 ⟨rfl, hb⟩; have H3 : Hid (Below w.heap.size w w3) := Lib.hid ((below_drewN H1.out _).trans (hb.mono H1.out.size)); clear hb)
      | fail)
    go_ret
    refine ⟨?_, H3.out⟩
    rw [← line_of2 (wd := wd) (t := showN arg) HLN.out]
    rfl
  · have hz : (txt (showN arg)).size ≤ 20000 := by have := zA; rw [txt_size]; omega
    have z1 : ¬ 9223372036854775807 < wd.size + 1 := by omega
    have z2 : ¬ 9223372036854775807 < wd.size + 1 + (txt (showN arg)).size := by omega
    clear ht3 ht4 zQ hm
    go_enter Tryd.func26, Tryd.ntmps26
    go_wp2_with (first
      | (go_at_call 39; refine (WD.out _).mono ?_; rintro e w1 ⟨rfl, hb⟩; have B1 : Blk w1 w.heap.size 46 #[.int .i64 op, .int .i64 arg, .int .i64 int, .string text] := (Blk.new w _ _).below hb (by simp); have b1 : w1.cell? ⟨w.heap.size, 1, none⟩ = some (.int .i64 arg) := B1.cell rfl; have b2 : w1.cell? ⟨w.heap.size, 2, none⟩ = some (.int .i64 int) := B1.cell rfl; have b3 : w1.cell? ⟨w.heap.size, 3, none⟩ = some (.string text) := B1.cell rfl; have H1 : Hid (Below w.heap.size w w1) := Lib.hid (((Below.refl _ _).alloc (Nat.le_refl _) _).trans (hb.mono (by simp))); clear hb B1)
      | (go_at_call 40; refine (HH.out _).mono ?_; rintro e w2 ⟨rfl, nq, rfl⟩)
      | (go_at_call 46; refine (SA.out _).mono ?_; rintro e w3 ⟨rfl, hb⟩; have H3 : Hid (Below w.heap.size w w3) := Lib.hid ((below_drewN H1.out _).trans (hb.mono H1.out.size)); clear hb)
      | fail)
    go_ret
    refine ⟨?_, H3.out⟩
    rw [← line_of2 (wd := wd) (t := showN arg) HLN.out]
    rfl
  · have hz : (txt (showN int)).size ≤ 20000 := by have := zI; rw [txt_size]; omega
    have z1 : ¬ 9223372036854775807 < wd.size + 1 := by omega
    have z2 : ¬ 9223372036854775807 < wd.size + 1 + (txt (showN int)).size := by omega
    clear ht3 ht4 zQ hm
    go_enter Tryd.func26, Tryd.ntmps26
    go_wp2_with (first
      | (go_at_call 39; refine (WD.out _).mono ?_; rintro e w1 ⟨rfl, hb⟩; have B1 : Blk w1 w.heap.size 46 #[.int .i64 op, .int .i64 arg, .int .i64 int, .string text] := (Blk.new w _ _).below hb (by simp); have b1 : w1.cell? ⟨w.heap.size, 1, none⟩ = some (.int .i64 arg) := B1.cell rfl; have b2 : w1.cell? ⟨w.heap.size, 2, none⟩ = some (.int .i64 int) := B1.cell rfl; have b3 : w1.cell? ⟨w.heap.size, 3, none⟩ = some (.string text) := B1.cell rfl; have H1 : Hid (Below w.heap.size w w1) := Lib.hid (((Below.refl _ _).alloc (Nat.le_refl _) _).trans (hb.mono (by simp))); clear hb B1)
      | (go_at_call 40; refine (HH.out _).mono ?_; rintro e w2 ⟨rfl, nq, rfl⟩)
      | (go_at_call 46; refine (SI.out _).mono ?_; rintro e w3 ⟨rfl, hb⟩; have H3 : Hid (Below w.heap.size w w3) := Lib.hid ((below_drewN H1.out _).trans (hb.mono H1.out.size)); clear hb)
      | fail)
    go_ret
    refine ⟨?_, H3.out⟩
    rw [← line_of2 (wd := wd) (t := showN int) HLN.out]
    rfl
  · have hz : (txt (quoteN (bs text))).size ≤ 20000 := by have := zQ hm; rw [txt_size]; omega
    have z1 : ¬ 9223372036854775807 < wd.size + 1 := by omega
    have z2 : ¬ 9223372036854775807 < wd.size + 1 + (txt (quoteN (bs text))).size := by omega
    clear ht3 ht4 zQ hm
    go_enter Tryd.func26, Tryd.ntmps26
    go_wp2_with (first
      | (go_at_call 39; refine (WD.out _).mono ?_; rintro e w1 ⟨rfl, hb⟩; have B1 : Blk w1 w.heap.size 46 #[.int .i64 op, .int .i64 arg, .int .i64 int, .string text] := (Blk.new w _ _).below hb (by simp); have b1 : w1.cell? ⟨w.heap.size, 1, none⟩ = some (.int .i64 arg) := B1.cell rfl; have b2 : w1.cell? ⟨w.heap.size, 2, none⟩ = some (.int .i64 int) := B1.cell rfl; have b3 : w1.cell? ⟨w.heap.size, 3, none⟩ = some (.string text) := B1.cell rfl; have H1 : Hid (Below w.heap.size w w1) := Lib.hid (((Below.refl _ _).alloc (Nat.le_refl _) _).trans (hb.mono (by simp))); clear hb B1)
      | (go_at_call 40; refine (HH.out _).mono ?_; rintro e w2 ⟨rfl, nq, rfl⟩)
      | (go_at_call 47; refine (QU.out Hm.out _).mono ?_; rintro e w3 ⟨rfl, hb⟩; have H3 : Hid (Below w.heap.size w w3) := Lib.hid ((below_drewN H1.out _).trans (hb.mono H1.out.size)); clear hb)
      | fail)
    go_ret
    refine ⟨?_, H3.out⟩
    rw [← line_of2 (wd := wd) (t := quoteN (bs text)) HLN.out]
    rfl
  · have hz : text.size ≤ 20000 := by have := ht4 hm; omega
    have z1 : ¬ 9223372036854775807 < wd.size + 1 := by omega
    have z2 : ¬ 9223372036854775807 < wd.size + 1 + text.size := by omega
    clear ht3 ht4 zQ hm
    go_enter Tryd.func26, Tryd.ntmps26
    go_wp2_with (first
      | (go_at_call 39; refine (WD.out _).mono ?_; rintro e w1 ⟨rfl, hb⟩; have B1 : Blk w1 w.heap.size 46 #[.int .i64 op, .int .i64 arg, .int .i64 int, .string text] := (Blk.new w _ _).below hb (by simp); have b1 : w1.cell? ⟨w.heap.size, 1, none⟩ = some (.int .i64 arg) := B1.cell rfl; have b2 : w1.cell? ⟨w.heap.size, 2, none⟩ = some (.int .i64 int) := B1.cell rfl; have b3 : w1.cell? ⟨w.heap.size, 3, none⟩ = some (.string text) := B1.cell rfl; have H1 : Hid (Below w.heap.size w w1) := Lib.hid (((Below.refl _ _).alloc (Nat.le_refl _) _).trans (hb.mono (by simp))); clear hb B1)
      | (go_at_call 40; refine (HH.out _).mono ?_; rintro e w2 ⟨rfl, nq, rfl⟩)
      | fail)
    go_ret
    refine ⟨?_, below_drewN H1.out _⟩
    rw [← line_of2 (wd := wd) (t := bs text) HLN.out, txt_bs]
    rfl
  · have hz : (txt (showN arg)).size ≤ 20000 := by have := zA; rw [txt_size]; omega
    have z1 : ¬ 9223372036854775807 < wd.size + 1 := by omega
    have z2 : ¬ 9223372036854775807 < wd.size + 1 + (txt (showN arg)).size := by omega
    clear ht3 ht4 zQ hm
    go_enter Tryd.func26, Tryd.ntmps26
    go_wp2_with (first
      | (go_at_call 39; refine (WD.out _).mono ?_; rintro e w1 ⟨rfl, hb⟩; have B1 : Blk w1 w.heap.size 46 #[.int .i64 op, .int .i64 arg, .int .i64 int, .string text] := (Blk.new w _ _).below hb (by simp); have b1 : w1.cell? ⟨w.heap.size, 1, none⟩ = some (.int .i64 arg) := B1.cell rfl; have b2 : w1.cell? ⟨w.heap.size, 2, none⟩ = some (.int .i64 int) := B1.cell rfl; have b3 : w1.cell? ⟨w.heap.size, 3, none⟩ = some (.string text) := B1.cell rfl; have H1 : Hid (Below w.heap.size w w1) := Lib.hid (((Below.refl _ _).alloc (Nat.le_refl _) _).trans (hb.mono (by simp))); clear hb B1)
      | (go_at_call 40; refine (HH.out _).mono ?_; rintro e w2 ⟨rfl, nq, rfl⟩)
      | (go_at_call 46; refine (SA.out _).mono ?_; rintro e w3 ⟨rfl, hb⟩; have H3 : Hid (Below w.heap.size w w3) := Lib.hid ((below_drewN H1.out _).trans (hb.mono H1.out.size)); clear hb)
      | fail)
    go_ret
    refine ⟨?_, H3.out⟩
    rw [← line_of2 (wd := wd) (t := showN arg) HLN.out]
    rfl
  · clear ht3 ht4 zQ hm
    go_enter Tryd.func26, Tryd.ntmps26
    go_wp2_with (first
      | (go_at_call 39; refine (WD.out _).mono ?_; rintro e w1 ⟨rfl, hb⟩; have B1 : Blk w1 w.heap.size 46 #[.int .i64 op, .int .i64 arg, .int .i64 int, .string text] := (Blk.new w _ _).below hb (by simp); have b1 : w1.cell? ⟨w.heap.size, 1, none⟩ = some (.int .i64 arg) := B1.cell rfl; have b2 : w1.cell? ⟨w.heap.size, 2, none⟩ = some (.int .i64 int) := B1.cell rfl; have b3 : w1.cell? ⟨w.heap.size, 3, none⟩ = some (.string text) := B1.cell rfl; have H1 : Hid (Below w.heap.size w w1) := Lib.hid (((Below.refl _ _).alloc (Nat.le_refl _) _).trans (hb.mono (by simp))); clear hb B1)
      | (go_at_call 40; refine (HH.out _).mono ?_; rintro e w2 ⟨rfl, nq, rfl⟩)
      | fail)
    go_ret
    refine ⟨?_, below_drewN H1.out _⟩
    rw [HLN.out, List.append_nil, txt_bs]
    rfl
end Go.Proofs.YtdkoafmgenbkbaaDoor
