/- Chapter 11, the reference's plain. -/
import Derived.Test.YtdkoafmgenbkbaaDoorRCa
namespace Go.Proofs.YtdkoafmgenbkbaaDoor
set_option linter.unusedSimpArgs false
set_option linter.unusedVariables false
open Go.RowKit

set_option maxRecDepth 100000 in
set_option maxHeartbeats 8000000 in
theorem rplain_any (d : Ins) (hd : d.ok) (w : World) : Calls Tryd.prog 20 #[.agg #[.int .i64 d.op, .int .i64 d.arg, .int .i64 d.int, .string d.text]] w fun e w' => e = .returned (.bool (plainN d)) ∧ Below w.heap.size w w' := by
  obtain ⟨op, arg, int, text⟩ := d
  obtain ⟨hd0, hd1, hd2, hd3⟩ := hd
  simp only at hd0 hd1 hd2 hd3 ⊢
  have Hd3 := Lib.hid hd3
  clear hd0 hd1 hd2 hd3
  by_cases hr : 1 ≤ op ∧ op ≤ 40
  · obtain ⟨h1, h2⟩ := hr
    have hwn := word_ne op h1 h2
    obtain ⟨wd, hwd⟩ : ∃ x, wordC op = x := ⟨_, rfl⟩
    have HH0 := Lib.hid (fun W => has_any op h1 h2 W)
    have HR := Lib.hid (fun W => ref_right text Hd3.out W)
    have WD := Lib.hid (fun W => word_any op W)
    rw [hwd] at HH0 WD hwn
    have hpl : Hid (∀ b, plainN ⟨op, arg, int, text⟩ = b ↔ (decide ((hasN op = 1 ∨ hasN op = 5 ∨ arg = 0) ∧ (hasN op = 2 ∨ int = 0) ∧ (hasN op = 3 ∨ hasN op = 4 ∨ text = ⟨#[]⟩) ∧ 0 ≤ arg) && (if hasN op = 3 then decide (text.size ≤ 4096) else if hasN op = 4 then rightN (bs text) else decide (op ≠ 1 ∨ 0 < arg))) = b) := Lib.hid (fun b => by unfold plainN; simp only [h1, h2, and_self, decide_true, Bool.true_and])
    clear h1 h2 hwd
    have hwn1 : ¬ wd.toList = [] := fun e => hwn ((toList_inj _ _).1 (e.trans (by rw [ByteArray.toList_eq])))
    have hwn2 : (!wd.toList.isEmpty) = true := by simpa using hwn1
    have hwn3 : (wd.toList == []) = false := by simpa using hwn1
    have hwn4 : (wd.toList != []) = true := by simpa using hwn1
    clear hwn hwn1
    have hcl : (op = 1 ∧ hasC op = ⟨#[99, 111, 117, 110, 116, 32, 49]⟩ ∧ hasN op = 1) ∨ (op = 8 ∧ hasC op = ⟨#[99, 111, 117, 110, 116, 32, 48]⟩ ∧ hasN op = 1) ∨ (op ≠ 1 ∧ hasC op = ⟨#[110, 117, 109, 98, 101, 114]⟩ ∧ hasN op = 2) ∨ (op ≠ 1 ∧ hasC op = ⟨#[116, 101, 120, 116]⟩ ∧ hasN op = 3) ∨ (op ≠ 1 ∧ hasC op = ⟨#[110, 97, 109, 101]⟩ ∧ hasN op = 4) ∨ (op ≠ 1 ∧ hasC op = ⟨#[112, 108, 97, 99, 101]⟩ ∧ hasN op = 5) ∨ (op ≠ 1 ∧ hasC op = ⟨#[]⟩ ∧ hasN op = 0) := by
      by_cases c1 : op = 1
      · subst c1; exact .inl ⟨rfl, rfl, rfl⟩
      by_cases c8 : op = 8
      · subst c8; exact .inr (.inl ⟨rfl, rfl, rfl⟩)
      right; right
      have h1 : hasN op ≠ 1 := by
        unfold hasN
        rw [if_neg (by omega)]
        repeat' split
        all_goals simp
      rcases hasN_le op with h | h | h | h | h | h
      · right; right; right; right
        refine ⟨c1, ?_, h⟩
        unfold hasC; rw [if_neg c1, if_neg c8, h]; rfl
      · exact absurd h h1
      · left; refine ⟨c1, ?_, h⟩
        unfold hasC; rw [if_neg c1, if_neg c8, h]; rfl
      · right; left; refine ⟨c1, ?_, h⟩
        unfold hasC; rw [if_neg c1, if_neg c8, h]; rfl
      · right; right; left; refine ⟨c1, ?_, h⟩
        unfold hasC; rw [if_neg c1, if_neg c8, h]; rfl
      · right; right; right; left; refine ⟨c1, ?_, h⟩
        unfold hasC; rw [if_neg c1, if_neg c8, h]; rfl
    rcases hcl with ⟨hop, hhc, hm⟩ | ⟨hop, hhc, hm⟩ | ⟨hop, hhc, hm⟩ | ⟨hop, hhc, hm⟩ | ⟨hop, hhc, hm⟩ | ⟨hop, hhc, hm⟩ | ⟨hop, hhc, hm⟩
    all_goals rw [hhc] at HH0
    all_goals have HH := HH0
    all_goals rw [hm] at hpl
    all_goals have Hm := Lib.hid hm
    all_goals have HOP := Lib.hid hop
    all_goals clear hm hhc HH0 hop
    · by_cases h : 1 ≤ arg
      · have h9 := h
        by_cases h : int = 0
        · subst h
          by_cases h : text = ⟨#[]⟩
          · subst h
            go_enter Tryd.func20, Tryd.ntmps20
            go_wp2_with (first
              | (go_at_call 39; refine (WD.out _).mono ?_; rintro e w1 ⟨rfl, hb⟩; have B1 : Blk w1 w.heap.size 46 #[.int .i64 op, .int .i64 arg, .int .i64 0, .string ⟨#[]⟩] := (Blk.new w _ _).below hb (by simp); have b1 : w1.cell? ⟨w.heap.size, 1, none⟩ = some (.int .i64 arg) := B1.cell rfl; have b2 : w1.cell? ⟨w.heap.size, 2, none⟩ = some (.int .i64 0) := B1.cell rfl; have b3 : w1.cell? ⟨w.heap.size, 3, none⟩ = some (.string ⟨#[]⟩) := B1.cell rfl; have L1 : Hid (Below w.heap.size w w1) := Lib.hid (((Below.refl _ _).alloc (Nat.le_refl _) _).trans (hb.mono (by simp))); clear hb B1)
              | (go_at_call 40; refine (HH.out _).mono ?_; rintro e w2 ⟨rfl, nq, rfl⟩)
              | (go_at_call 41; refine (HR.out _).mono ?_; rintro e w3 ⟨rfl, nr, rfl⟩)
              | fail)
            generalize hw9 : World.drewN w1 _ = w9
            have c1 : w9.cell? ⟨w.heap.size, 1, none⟩ = some (.int .i64 arg) := by rw [← hw9]; exact b1
            have c2 : w9.cell? ⟨w.heap.size, 2, none⟩ = some (.int .i64 0) := by rw [← hw9]; exact b2
            have c3 : w9.cell? ⟨w.heap.size, 3, none⟩ = some (.string ⟨#[]⟩) := by rw [← hw9]; exact b3
            have L9 : Hid (Below w.heap.size w w9) := Lib.hid (by rw [← hw9]; exact below_drewN L1.out _)
            clear hw9 b1 b2 b3
            go_quiet (fail)
            go_wp2_with (first
              | (go_at_call 41; refine (HR.out _).mono ?_; rintro e w3 ⟨rfl, nr, rfl⟩)
              | fail)
            go_ret
            refine ⟨?_, ?_⟩
            · rw [(hpl.out _).2 rfl]
              have hm := Hm.out
              simp [hm, HOP.out] <;> omega
            · first | exact below_drewN L9.out _ | exact below_drewN (below_drewN L9.out _) _ | exact L9.out
          · have HN9 := Lib.hid h
            have ct1 : ¬ text.toList = [] := fun e => h ((toList_inj _ _).1 (e.trans (by rw [ByteArray.toList_eq])))
            have ct2 : (!text.toList.isEmpty) = true := by simpa using ct1
            have ct3 : (text.toList == []) = false := by simpa using ct1
            have ct4 : (text.toList != []) = true := by simpa using ct1
            clear ct1
            go_enter Tryd.func20, Tryd.ntmps20
            go_wp2_with (first
              | (go_at_call 39; refine (WD.out _).mono ?_; rintro e w1 ⟨rfl, hb⟩; have B1 : Blk w1 w.heap.size 46 #[.int .i64 op, .int .i64 arg, .int .i64 0, .string text] := (Blk.new w _ _).below hb (by simp); have b1 : w1.cell? ⟨w.heap.size, 1, none⟩ = some (.int .i64 arg) := B1.cell rfl; have b2 : w1.cell? ⟨w.heap.size, 2, none⟩ = some (.int .i64 0) := B1.cell rfl; have b3 : w1.cell? ⟨w.heap.size, 3, none⟩ = some (.string text) := B1.cell rfl; have L1 : Hid (Below w.heap.size w w1) := Lib.hid (((Below.refl _ _).alloc (Nat.le_refl _) _).trans (hb.mono (by simp))); clear hb B1)
              | (go_at_call 40; refine (HH.out _).mono ?_; rintro e w2 ⟨rfl, nq, rfl⟩)
              | (go_at_call 41; refine (HR.out _).mono ?_; rintro e w3 ⟨rfl, nr, rfl⟩)
              | fail)
            generalize hw9 : World.drewN w1 _ = w9
            have c1 : w9.cell? ⟨w.heap.size, 1, none⟩ = some (.int .i64 arg) := by rw [← hw9]; exact b1
            have c2 : w9.cell? ⟨w.heap.size, 2, none⟩ = some (.int .i64 0) := by rw [← hw9]; exact b2
            have c3 : w9.cell? ⟨w.heap.size, 3, none⟩ = some (.string text) := by rw [← hw9]; exact b3
            have L9 : Hid (Below w.heap.size w w9) := Lib.hid (by rw [← hw9]; exact below_drewN L1.out _)
            clear hw9 b1 b2 b3
            go_quiet (fail)
            go_wp2_with (first
              | (go_at_call 41; refine (HR.out _).mono ?_; rintro e w3 ⟨rfl, nr, rfl⟩)
              | fail)
            go_ret
            refine ⟨?_, ?_⟩
            · rw [(hpl.out _).2 rfl]
              have hm := Hm.out
              have hn := HN9.out
              simp [hm, hn, HOP.out] <;> omega
            · first | exact below_drewN L9.out _ | exact below_drewN (below_drewN L9.out _) _ | exact L9.out
        · have HN9 := Lib.hid h
          have hi1 : (int != 0) = true := by simpa using h
          go_enter Tryd.func20, Tryd.ntmps20
          go_wp2_with (first
            | (go_at_call 39; refine (WD.out _).mono ?_; rintro e w1 ⟨rfl, hb⟩; have B1 : Blk w1 w.heap.size 46 #[.int .i64 op, .int .i64 arg, .int .i64 int, .string text] := (Blk.new w _ _).below hb (by simp); have b1 : w1.cell? ⟨w.heap.size, 1, none⟩ = some (.int .i64 arg) := B1.cell rfl; have b2 : w1.cell? ⟨w.heap.size, 2, none⟩ = some (.int .i64 int) := B1.cell rfl; have b3 : w1.cell? ⟨w.heap.size, 3, none⟩ = some (.string text) := B1.cell rfl; have L1 : Hid (Below w.heap.size w w1) := Lib.hid (((Below.refl _ _).alloc (Nat.le_refl _) _).trans (hb.mono (by simp))); clear hb B1)
            | (go_at_call 40; refine (HH.out _).mono ?_; rintro e w2 ⟨rfl, nq, rfl⟩)
            | (go_at_call 41; refine (HR.out _).mono ?_; rintro e w3 ⟨rfl, nr, rfl⟩)
            | fail)
          generalize hw9 : World.drewN w1 _ = w9
          have c1 : w9.cell? ⟨w.heap.size, 1, none⟩ = some (.int .i64 arg) := by rw [← hw9]; exact b1
          have c2 : w9.cell? ⟨w.heap.size, 2, none⟩ = some (.int .i64 int) := by rw [← hw9]; exact b2
          have c3 : w9.cell? ⟨w.heap.size, 3, none⟩ = some (.string text) := by rw [← hw9]; exact b3
          have L9 : Hid (Below w.heap.size w w9) := Lib.hid (by rw [← hw9]; exact below_drewN L1.out _)
          clear hw9 b1 b2 b3
          go_quiet (fail)
          go_wp2_with (first
            | (go_at_call 41; refine (HR.out _).mono ?_; rintro e w3 ⟨rfl, nr, rfl⟩)
            | fail)
          go_ret
          refine ⟨?_, ?_⟩
          · rw [(hpl.out _).2 rfl]
            have hm := Hm.out
            have hn := HN9.out
            simp [hm, hn, HOP.out] <;> omega
          · first | exact below_drewN L9.out _ | exact below_drewN (below_drewN L9.out _) _ | exact L9.out
      · have HN9 := Lib.hid h
        have h9 := h
        go_enter Tryd.func20, Tryd.ntmps20
        go_wp2_with (first
          | (go_at_call 39; refine (WD.out _).mono ?_; rintro e w1 ⟨rfl, hb⟩; have B1 : Blk w1 w.heap.size 46 #[.int .i64 op, .int .i64 arg, .int .i64 int, .string text] := (Blk.new w _ _).below hb (by simp); have b1 : w1.cell? ⟨w.heap.size, 1, none⟩ = some (.int .i64 arg) := B1.cell rfl; have b2 : w1.cell? ⟨w.heap.size, 2, none⟩ = some (.int .i64 int) := B1.cell rfl; have b3 : w1.cell? ⟨w.heap.size, 3, none⟩ = some (.string text) := B1.cell rfl; have L1 : Hid (Below w.heap.size w w1) := Lib.hid (((Below.refl _ _).alloc (Nat.le_refl _) _).trans (hb.mono (by simp))); clear hb B1)
          | (go_at_call 40; refine (HH.out _).mono ?_; rintro e w2 ⟨rfl, nq, rfl⟩)
          | (go_at_call 41; refine (HR.out _).mono ?_; rintro e w3 ⟨rfl, nr, rfl⟩)
          | fail)
        generalize hw9 : World.drewN w1 _ = w9
        have c1 : w9.cell? ⟨w.heap.size, 1, none⟩ = some (.int .i64 arg) := by rw [← hw9]; exact b1
        have c2 : w9.cell? ⟨w.heap.size, 2, none⟩ = some (.int .i64 int) := by rw [← hw9]; exact b2
        have c3 : w9.cell? ⟨w.heap.size, 3, none⟩ = some (.string text) := by rw [← hw9]; exact b3
        have L9 : Hid (Below w.heap.size w w9) := Lib.hid (by rw [← hw9]; exact below_drewN L1.out _)
        clear hw9 b1 b2 b3
        go_quiet (fail)
        go_wp2_with (first
          | (go_at_call 41; refine (HR.out _).mono ?_; rintro e w3 ⟨rfl, nr, rfl⟩)
          | fail)
        go_ret
        refine ⟨?_, ?_⟩
        · rw [(hpl.out _).2 rfl]
          have hm := Hm.out
          have hn := HN9.out
          simp [hm, hn, HOP.out] <;> omega
        · first | exact below_drewN L9.out _ | exact below_drewN (below_drewN L9.out _) _ | exact L9.out
    · by_cases h : 0 ≤ arg
      · have h9 := h
        by_cases h : int = 0
        · subst h
          by_cases h : text = ⟨#[]⟩
          · subst h
            go_enter Tryd.func20, Tryd.ntmps20
            go_wp2_with (first
              | (go_at_call 39; refine (WD.out _).mono ?_; rintro e w1 ⟨rfl, hb⟩; have B1 : Blk w1 w.heap.size 46 #[.int .i64 op, .int .i64 arg, .int .i64 0, .string ⟨#[]⟩] := (Blk.new w _ _).below hb (by simp); have b1 : w1.cell? ⟨w.heap.size, 1, none⟩ = some (.int .i64 arg) := B1.cell rfl; have b2 : w1.cell? ⟨w.heap.size, 2, none⟩ = some (.int .i64 0) := B1.cell rfl; have b3 : w1.cell? ⟨w.heap.size, 3, none⟩ = some (.string ⟨#[]⟩) := B1.cell rfl; have L1 : Hid (Below w.heap.size w w1) := Lib.hid (((Below.refl _ _).alloc (Nat.le_refl _) _).trans (hb.mono (by simp))); clear hb B1)
              | (go_at_call 40; refine (HH.out _).mono ?_; rintro e w2 ⟨rfl, nq, rfl⟩)
              | (go_at_call 41; refine (HR.out _).mono ?_; rintro e w3 ⟨rfl, nr, rfl⟩)
              | fail)
            generalize hw9 : World.drewN w1 _ = w9
            have c1 : w9.cell? ⟨w.heap.size, 1, none⟩ = some (.int .i64 arg) := by rw [← hw9]; exact b1
            have c2 : w9.cell? ⟨w.heap.size, 2, none⟩ = some (.int .i64 0) := by rw [← hw9]; exact b2
            have c3 : w9.cell? ⟨w.heap.size, 3, none⟩ = some (.string ⟨#[]⟩) := by rw [← hw9]; exact b3
            have L9 : Hid (Below w.heap.size w w9) := Lib.hid (by rw [← hw9]; exact below_drewN L1.out _)
            clear hw9 b1 b2 b3
            go_quiet (fail)
            go_wp2_with (first
              | (go_at_call 41; refine (HR.out _).mono ?_; rintro e w3 ⟨rfl, nr, rfl⟩)
              | fail)
            go_ret
            refine ⟨?_, ?_⟩
            · rw [(hpl.out _).2 rfl]
              have hm := Hm.out
              simp [hm, HOP.out] <;> omega
            · first | exact below_drewN L9.out _ | exact below_drewN (below_drewN L9.out _) _ | exact L9.out
          · have HN9 := Lib.hid h
            have ct1 : ¬ text.toList = [] := fun e => h ((toList_inj _ _).1 (e.trans (by rw [ByteArray.toList_eq])))
            have ct2 : (!text.toList.isEmpty) = true := by simpa using ct1
            have ct3 : (text.toList == []) = false := by simpa using ct1
            have ct4 : (text.toList != []) = true := by simpa using ct1
            clear ct1
            go_enter Tryd.func20, Tryd.ntmps20
            go_wp2_with (first
              | (go_at_call 39; refine (WD.out _).mono ?_; rintro e w1 ⟨rfl, hb⟩; have B1 : Blk w1 w.heap.size 46 #[.int .i64 op, .int .i64 arg, .int .i64 0, .string text] := (Blk.new w _ _).below hb (by simp); have b1 : w1.cell? ⟨w.heap.size, 1, none⟩ = some (.int .i64 arg) := B1.cell rfl; have b2 : w1.cell? ⟨w.heap.size, 2, none⟩ = some (.int .i64 0) := B1.cell rfl; have b3 : w1.cell? ⟨w.heap.size, 3, none⟩ = some (.string text) := B1.cell rfl; have L1 : Hid (Below w.heap.size w w1) := Lib.hid (((Below.refl _ _).alloc (Nat.le_refl _) _).trans (hb.mono (by simp))); clear hb B1)
              | (go_at_call 40; refine (HH.out _).mono ?_; rintro e w2 ⟨rfl, nq, rfl⟩)
              | (go_at_call 41; refine (HR.out _).mono ?_; rintro e w3 ⟨rfl, nr, rfl⟩)
              | fail)
            generalize hw9 : World.drewN w1 _ = w9
            have c1 : w9.cell? ⟨w.heap.size, 1, none⟩ = some (.int .i64 arg) := by rw [← hw9]; exact b1
            have c2 : w9.cell? ⟨w.heap.size, 2, none⟩ = some (.int .i64 0) := by rw [← hw9]; exact b2
            have c3 : w9.cell? ⟨w.heap.size, 3, none⟩ = some (.string text) := by rw [← hw9]; exact b3
            have L9 : Hid (Below w.heap.size w w9) := Lib.hid (by rw [← hw9]; exact below_drewN L1.out _)
            clear hw9 b1 b2 b3
            go_quiet (fail)
            go_wp2_with (first
              | (go_at_call 41; refine (HR.out _).mono ?_; rintro e w3 ⟨rfl, nr, rfl⟩)
              | fail)
            go_ret
            refine ⟨?_, ?_⟩
            · rw [(hpl.out _).2 rfl]
              have hm := Hm.out
              have hn := HN9.out
              simp [hm, hn, HOP.out] <;> omega
            · first | exact below_drewN L9.out _ | exact below_drewN (below_drewN L9.out _) _ | exact L9.out
        · have HN9 := Lib.hid h
          have hi1 : (int != 0) = true := by simpa using h
          go_enter Tryd.func20, Tryd.ntmps20
          go_wp2_with (first
            | (go_at_call 39; refine (WD.out _).mono ?_; rintro e w1 ⟨rfl, hb⟩; have B1 : Blk w1 w.heap.size 46 #[.int .i64 op, .int .i64 arg, .int .i64 int, .string text] := (Blk.new w _ _).below hb (by simp); have b1 : w1.cell? ⟨w.heap.size, 1, none⟩ = some (.int .i64 arg) := B1.cell rfl; have b2 : w1.cell? ⟨w.heap.size, 2, none⟩ = some (.int .i64 int) := B1.cell rfl; have b3 : w1.cell? ⟨w.heap.size, 3, none⟩ = some (.string text) := B1.cell rfl; have L1 : Hid (Below w.heap.size w w1) := Lib.hid (((Below.refl _ _).alloc (Nat.le_refl _) _).trans (hb.mono (by simp))); clear hb B1)
            | (go_at_call 40; refine (HH.out _).mono ?_; rintro e w2 ⟨rfl, nq, rfl⟩)
            | (go_at_call 41; refine (HR.out _).mono ?_; rintro e w3 ⟨rfl, nr, rfl⟩)
            | fail)
          generalize hw9 : World.drewN w1 _ = w9
          have c1 : w9.cell? ⟨w.heap.size, 1, none⟩ = some (.int .i64 arg) := by rw [← hw9]; exact b1
          have c2 : w9.cell? ⟨w.heap.size, 2, none⟩ = some (.int .i64 int) := by rw [← hw9]; exact b2
          have c3 : w9.cell? ⟨w.heap.size, 3, none⟩ = some (.string text) := by rw [← hw9]; exact b3
          have L9 : Hid (Below w.heap.size w w9) := Lib.hid (by rw [← hw9]; exact below_drewN L1.out _)
          clear hw9 b1 b2 b3
          go_quiet (fail)
          go_wp2_with (first
            | (go_at_call 41; refine (HR.out _).mono ?_; rintro e w3 ⟨rfl, nr, rfl⟩)
            | fail)
          go_ret
          refine ⟨?_, ?_⟩
          · rw [(hpl.out _).2 rfl]
            have hm := Hm.out
            have hn := HN9.out
            simp [hm, hn, HOP.out] <;> omega
          · first | exact below_drewN L9.out _ | exact below_drewN (below_drewN L9.out _) _ | exact L9.out
      · have HN9 := Lib.hid h
        have h9 := h
        go_enter Tryd.func20, Tryd.ntmps20
        go_wp2_with (first
          | (go_at_call 39; refine (WD.out _).mono ?_; rintro e w1 ⟨rfl, hb⟩; have B1 : Blk w1 w.heap.size 46 #[.int .i64 op, .int .i64 arg, .int .i64 int, .string text] := (Blk.new w _ _).below hb (by simp); have b1 : w1.cell? ⟨w.heap.size, 1, none⟩ = some (.int .i64 arg) := B1.cell rfl; have b2 : w1.cell? ⟨w.heap.size, 2, none⟩ = some (.int .i64 int) := B1.cell rfl; have b3 : w1.cell? ⟨w.heap.size, 3, none⟩ = some (.string text) := B1.cell rfl; have L1 : Hid (Below w.heap.size w w1) := Lib.hid (((Below.refl _ _).alloc (Nat.le_refl _) _).trans (hb.mono (by simp))); clear hb B1)
          | (go_at_call 40; refine (HH.out _).mono ?_; rintro e w2 ⟨rfl, nq, rfl⟩)
          | (go_at_call 41; refine (HR.out _).mono ?_; rintro e w3 ⟨rfl, nr, rfl⟩)
          | fail)
        generalize hw9 : World.drewN w1 _ = w9
        have c1 : w9.cell? ⟨w.heap.size, 1, none⟩ = some (.int .i64 arg) := by rw [← hw9]; exact b1
        have c2 : w9.cell? ⟨w.heap.size, 2, none⟩ = some (.int .i64 int) := by rw [← hw9]; exact b2
        have c3 : w9.cell? ⟨w.heap.size, 3, none⟩ = some (.string text) := by rw [← hw9]; exact b3
        have L9 : Hid (Below w.heap.size w w9) := Lib.hid (by rw [← hw9]; exact below_drewN L1.out _)
        clear hw9 b1 b2 b3
        go_quiet (fail)
        go_wp2_with (first
          | (go_at_call 41; refine (HR.out _).mono ?_; rintro e w3 ⟨rfl, nr, rfl⟩)
          | fail)
        go_ret
        refine ⟨?_, ?_⟩
        · rw [(hpl.out _).2 rfl]
          have hm := Hm.out
          have hn := HN9.out
          simp [hm, hn, HOP.out] <;> omega
        · first | exact below_drewN L9.out _ | exact below_drewN (below_drewN L9.out _) _ | exact L9.out
    · by_cases h : arg = 0
      · subst h
        by_cases h : text = ⟨#[]⟩
        · subst h
          go_enter Tryd.func20, Tryd.ntmps20
          go_wp2_with (first
            | (go_at_call 39; refine (WD.out _).mono ?_; rintro e w1 ⟨rfl, hb⟩; have B1 : Blk w1 w.heap.size 46 #[.int .i64 op, .int .i64 0, .int .i64 int, .string ⟨#[]⟩] := (Blk.new w _ _).below hb (by simp); have b1 : w1.cell? ⟨w.heap.size, 1, none⟩ = some (.int .i64 0) := B1.cell rfl; have b2 : w1.cell? ⟨w.heap.size, 2, none⟩ = some (.int .i64 int) := B1.cell rfl; have b3 : w1.cell? ⟨w.heap.size, 3, none⟩ = some (.string ⟨#[]⟩) := B1.cell rfl; have L1 : Hid (Below w.heap.size w w1) := Lib.hid (((Below.refl _ _).alloc (Nat.le_refl _) _).trans (hb.mono (by simp))); clear hb B1)
            | (go_at_call 40; refine (HH.out _).mono ?_; rintro e w2 ⟨rfl, nq, rfl⟩)
            | (go_at_call 41; refine (HR.out _).mono ?_; rintro e w3 ⟨rfl, nr, rfl⟩)
            | fail)
          generalize hw9 : World.drewN w1 _ = w9
          have c1 : w9.cell? ⟨w.heap.size, 1, none⟩ = some (.int .i64 0) := by rw [← hw9]; exact b1
          have c2 : w9.cell? ⟨w.heap.size, 2, none⟩ = some (.int .i64 int) := by rw [← hw9]; exact b2
          have c3 : w9.cell? ⟨w.heap.size, 3, none⟩ = some (.string ⟨#[]⟩) := by rw [← hw9]; exact b3
          have L9 : Hid (Below w.heap.size w w9) := Lib.hid (by rw [← hw9]; exact below_drewN L1.out _)
          clear hw9 b1 b2 b3
          go_quiet (fail)
          go_wp2_with (first
            | (go_at_call 41; refine (HR.out _).mono ?_; rintro e w3 ⟨rfl, nr, rfl⟩)
            | fail)
          go_ret
          refine ⟨?_, ?_⟩
          · rw [(hpl.out _).2 rfl]
            have hm := Hm.out
            simp [hm, HOP.out] <;> omega
          · first | exact below_drewN L9.out _ | exact below_drewN (below_drewN L9.out _) _ | exact L9.out
        · have HN9 := Lib.hid h
          have ct1 : ¬ text.toList = [] := fun e => h ((toList_inj _ _).1 (e.trans (by rw [ByteArray.toList_eq])))
          have ct2 : (!text.toList.isEmpty) = true := by simpa using ct1
          have ct3 : (text.toList == []) = false := by simpa using ct1
          have ct4 : (text.toList != []) = true := by simpa using ct1
          clear ct1
          go_enter Tryd.func20, Tryd.ntmps20
          go_wp2_with (first
            | (go_at_call 39; refine (WD.out _).mono ?_; rintro e w1 ⟨rfl, hb⟩; have B1 : Blk w1 w.heap.size 46 #[.int .i64 op, .int .i64 0, .int .i64 int, .string text] := (Blk.new w _ _).below hb (by simp); have b1 : w1.cell? ⟨w.heap.size, 1, none⟩ = some (.int .i64 0) := B1.cell rfl; have b2 : w1.cell? ⟨w.heap.size, 2, none⟩ = some (.int .i64 int) := B1.cell rfl; have b3 : w1.cell? ⟨w.heap.size, 3, none⟩ = some (.string text) := B1.cell rfl; have L1 : Hid (Below w.heap.size w w1) := Lib.hid (((Below.refl _ _).alloc (Nat.le_refl _) _).trans (hb.mono (by simp))); clear hb B1)
            | (go_at_call 40; refine (HH.out _).mono ?_; rintro e w2 ⟨rfl, nq, rfl⟩)
            | (go_at_call 41; refine (HR.out _).mono ?_; rintro e w3 ⟨rfl, nr, rfl⟩)
            | fail)
          generalize hw9 : World.drewN w1 _ = w9
          have c1 : w9.cell? ⟨w.heap.size, 1, none⟩ = some (.int .i64 0) := by rw [← hw9]; exact b1
          have c2 : w9.cell? ⟨w.heap.size, 2, none⟩ = some (.int .i64 int) := by rw [← hw9]; exact b2
          have c3 : w9.cell? ⟨w.heap.size, 3, none⟩ = some (.string text) := by rw [← hw9]; exact b3
          have L9 : Hid (Below w.heap.size w w9) := Lib.hid (by rw [← hw9]; exact below_drewN L1.out _)
          clear hw9 b1 b2 b3
          go_quiet (fail)
          go_wp2_with (first
            | (go_at_call 41; refine (HR.out _).mono ?_; rintro e w3 ⟨rfl, nr, rfl⟩)
            | fail)
          go_ret
          refine ⟨?_, ?_⟩
          · rw [(hpl.out _).2 rfl]
            have hm := Hm.out
            have hn := HN9.out
            simp [hm, hn, HOP.out] <;> omega
          · first | exact below_drewN L9.out _ | exact below_drewN (below_drewN L9.out _) _ | exact L9.out
      · have HN9 := Lib.hid h
        have ha1 : (arg != 0) = true := by simpa using h
        go_enter Tryd.func20, Tryd.ntmps20
        go_wp2_with (first
          | (go_at_call 39; refine (WD.out _).mono ?_; rintro e w1 ⟨rfl, hb⟩; have B1 : Blk w1 w.heap.size 46 #[.int .i64 op, .int .i64 arg, .int .i64 int, .string text] := (Blk.new w _ _).below hb (by simp); have b1 : w1.cell? ⟨w.heap.size, 1, none⟩ = some (.int .i64 arg) := B1.cell rfl; have b2 : w1.cell? ⟨w.heap.size, 2, none⟩ = some (.int .i64 int) := B1.cell rfl; have b3 : w1.cell? ⟨w.heap.size, 3, none⟩ = some (.string text) := B1.cell rfl; have L1 : Hid (Below w.heap.size w w1) := Lib.hid (((Below.refl _ _).alloc (Nat.le_refl _) _).trans (hb.mono (by simp))); clear hb B1)
          | (go_at_call 40; refine (HH.out _).mono ?_; rintro e w2 ⟨rfl, nq, rfl⟩)
          | (go_at_call 41; refine (HR.out _).mono ?_; rintro e w3 ⟨rfl, nr, rfl⟩)
          | fail)
        generalize hw9 : World.drewN w1 _ = w9
        have c1 : w9.cell? ⟨w.heap.size, 1, none⟩ = some (.int .i64 arg) := by rw [← hw9]; exact b1
        have c2 : w9.cell? ⟨w.heap.size, 2, none⟩ = some (.int .i64 int) := by rw [← hw9]; exact b2
        have c3 : w9.cell? ⟨w.heap.size, 3, none⟩ = some (.string text) := by rw [← hw9]; exact b3
        have L9 : Hid (Below w.heap.size w w9) := Lib.hid (by rw [← hw9]; exact below_drewN L1.out _)
        clear hw9 b1 b2 b3
        go_quiet (fail)
        go_wp2_with (first
          | (go_at_call 41; refine (HR.out _).mono ?_; rintro e w3 ⟨rfl, nr, rfl⟩)
          | fail)
        go_ret
        refine ⟨?_, ?_⟩
        · rw [(hpl.out _).2 rfl]
          have hm := Hm.out
          have hn := HN9.out
          simp [hm, hn, HOP.out] <;> omega
        · first | exact below_drewN L9.out _ | exact below_drewN (below_drewN L9.out _) _ | exact L9.out
    · by_cases h : arg = 0
      · subst h
        by_cases h : int = 0
        · subst h
          go_enter Tryd.func20, Tryd.ntmps20
          go_wp2_with (first
            | (go_at_call 39; refine (WD.out _).mono ?_; rintro e w1 ⟨rfl, hb⟩; have B1 : Blk w1 w.heap.size 46 #[.int .i64 op, .int .i64 0, .int .i64 0, .string text] := (Blk.new w _ _).below hb (by simp); have b1 : w1.cell? ⟨w.heap.size, 1, none⟩ = some (.int .i64 0) := B1.cell rfl; have b2 : w1.cell? ⟨w.heap.size, 2, none⟩ = some (.int .i64 0) := B1.cell rfl; have b3 : w1.cell? ⟨w.heap.size, 3, none⟩ = some (.string text) := B1.cell rfl; have L1 : Hid (Below w.heap.size w w1) := Lib.hid (((Below.refl _ _).alloc (Nat.le_refl _) _).trans (hb.mono (by simp))); clear hb B1)
            | (go_at_call 40; refine (HH.out _).mono ?_; rintro e w2 ⟨rfl, nq, rfl⟩)
            | (go_at_call 41; refine (HR.out _).mono ?_; rintro e w3 ⟨rfl, nr, rfl⟩)
            | fail)
          generalize hw9 : World.drewN w1 _ = w9
          have c1 : w9.cell? ⟨w.heap.size, 1, none⟩ = some (.int .i64 0) := by rw [← hw9]; exact b1
          have c2 : w9.cell? ⟨w.heap.size, 2, none⟩ = some (.int .i64 0) := by rw [← hw9]; exact b2
          have c3 : w9.cell? ⟨w.heap.size, 3, none⟩ = some (.string text) := by rw [← hw9]; exact b3
          have L9 : Hid (Below w.heap.size w w9) := Lib.hid (by rw [← hw9]; exact below_drewN L1.out _)
          clear hw9 b1 b2 b3
          go_quiet (fail)
          go_wp2_with (first
            | (go_at_call 41; refine (HR.out _).mono ?_; rintro e w3 ⟨rfl, nr, rfl⟩)
            | fail)
          go_ret
          refine ⟨?_, ?_⟩
          · rw [(hpl.out _).2 rfl]
            have hm := Hm.out
            simp [hm, HOP.out] <;> omega
          · first | exact below_drewN L9.out _ | exact below_drewN (below_drewN L9.out _) _ | exact L9.out
        · have HN9 := Lib.hid h
          have hi1 : (int != 0) = true := by simpa using h
          go_enter Tryd.func20, Tryd.ntmps20
          go_wp2_with (first
            | (go_at_call 39; refine (WD.out _).mono ?_; rintro e w1 ⟨rfl, hb⟩; have B1 : Blk w1 w.heap.size 46 #[.int .i64 op, .int .i64 0, .int .i64 int, .string text] := (Blk.new w _ _).below hb (by simp); have b1 : w1.cell? ⟨w.heap.size, 1, none⟩ = some (.int .i64 0) := B1.cell rfl; have b2 : w1.cell? ⟨w.heap.size, 2, none⟩ = some (.int .i64 int) := B1.cell rfl; have b3 : w1.cell? ⟨w.heap.size, 3, none⟩ = some (.string text) := B1.cell rfl; have L1 : Hid (Below w.heap.size w w1) := Lib.hid (((Below.refl _ _).alloc (Nat.le_refl _) _).trans (hb.mono (by simp))); clear hb B1)
            | (go_at_call 40; refine (HH.out _).mono ?_; rintro e w2 ⟨rfl, nq, rfl⟩)
            | (go_at_call 41; refine (HR.out _).mono ?_; rintro e w3 ⟨rfl, nr, rfl⟩)
            | fail)
          generalize hw9 : World.drewN w1 _ = w9
          have c1 : w9.cell? ⟨w.heap.size, 1, none⟩ = some (.int .i64 0) := by rw [← hw9]; exact b1
          have c2 : w9.cell? ⟨w.heap.size, 2, none⟩ = some (.int .i64 int) := by rw [← hw9]; exact b2
          have c3 : w9.cell? ⟨w.heap.size, 3, none⟩ = some (.string text) := by rw [← hw9]; exact b3
          have L9 : Hid (Below w.heap.size w w9) := Lib.hid (by rw [← hw9]; exact below_drewN L1.out _)
          clear hw9 b1 b2 b3
          go_quiet (fail)
          go_wp2_with (first
            | (go_at_call 41; refine (HR.out _).mono ?_; rintro e w3 ⟨rfl, nr, rfl⟩)
            | fail)
          go_ret
          refine ⟨?_, ?_⟩
          · rw [(hpl.out _).2 rfl]
            have hm := Hm.out
            have hn := HN9.out
            simp [hm, hn, HOP.out] <;> omega
          · first | exact below_drewN L9.out _ | exact below_drewN (below_drewN L9.out _) _ | exact L9.out
      · have HN9 := Lib.hid h
        have ha1 : (arg != 0) = true := by simpa using h
        go_enter Tryd.func20, Tryd.ntmps20
        go_wp2_with (first
          | (go_at_call 39; refine (WD.out _).mono ?_; rintro e w1 ⟨rfl, hb⟩; have B1 : Blk w1 w.heap.size 46 #[.int .i64 op, .int .i64 arg, .int .i64 int, .string text] := (Blk.new w _ _).below hb (by simp); have b1 : w1.cell? ⟨w.heap.size, 1, none⟩ = some (.int .i64 arg) := B1.cell rfl; have b2 : w1.cell? ⟨w.heap.size, 2, none⟩ = some (.int .i64 int) := B1.cell rfl; have b3 : w1.cell? ⟨w.heap.size, 3, none⟩ = some (.string text) := B1.cell rfl; have L1 : Hid (Below w.heap.size w w1) := Lib.hid (((Below.refl _ _).alloc (Nat.le_refl _) _).trans (hb.mono (by simp))); clear hb B1)
          | (go_at_call 40; refine (HH.out _).mono ?_; rintro e w2 ⟨rfl, nq, rfl⟩)
          | (go_at_call 41; refine (HR.out _).mono ?_; rintro e w3 ⟨rfl, nr, rfl⟩)
          | fail)
        generalize hw9 : World.drewN w1 _ = w9
        have c1 : w9.cell? ⟨w.heap.size, 1, none⟩ = some (.int .i64 arg) := by rw [← hw9]; exact b1
        have c2 : w9.cell? ⟨w.heap.size, 2, none⟩ = some (.int .i64 int) := by rw [← hw9]; exact b2
        have c3 : w9.cell? ⟨w.heap.size, 3, none⟩ = some (.string text) := by rw [← hw9]; exact b3
        have L9 : Hid (Below w.heap.size w w9) := Lib.hid (by rw [← hw9]; exact below_drewN L1.out _)
        clear hw9 b1 b2 b3
        go_quiet (fail)
        go_wp2_with (first
          | (go_at_call 41; refine (HR.out _).mono ?_; rintro e w3 ⟨rfl, nr, rfl⟩)
          | fail)
        go_ret
        refine ⟨?_, ?_⟩
        · rw [(hpl.out _).2 rfl]
          have hm := Hm.out
          have hn := HN9.out
          simp [hm, hn, HOP.out] <;> omega
        · first | exact below_drewN L9.out _ | exact below_drewN (below_drewN L9.out _) _ | exact L9.out
    · by_cases h : arg = 0
      · subst h
        by_cases h : int = 0
        · subst h
          go_enter Tryd.func20, Tryd.ntmps20
          go_wp2_with (first
            | (go_at_call 39; refine (WD.out _).mono ?_; rintro e w1 ⟨rfl, hb⟩; have B1 : Blk w1 w.heap.size 46 #[.int .i64 op, .int .i64 0, .int .i64 0, .string text] := (Blk.new w _ _).below hb (by simp); have b1 : w1.cell? ⟨w.heap.size, 1, none⟩ = some (.int .i64 0) := B1.cell rfl; have b2 : w1.cell? ⟨w.heap.size, 2, none⟩ = some (.int .i64 0) := B1.cell rfl; have b3 : w1.cell? ⟨w.heap.size, 3, none⟩ = some (.string text) := B1.cell rfl; have L1 : Hid (Below w.heap.size w w1) := Lib.hid (((Below.refl _ _).alloc (Nat.le_refl _) _).trans (hb.mono (by simp))); clear hb B1)
            | (go_at_call 40; refine (HH.out _).mono ?_; rintro e w2 ⟨rfl, nq, rfl⟩)
            | (go_at_call 41; refine (HR.out _).mono ?_; rintro e w3 ⟨rfl, nr, rfl⟩)
            | fail)
          generalize hw9 : World.drewN w1 _ = w9
          have c1 : w9.cell? ⟨w.heap.size, 1, none⟩ = some (.int .i64 0) := by rw [← hw9]; exact b1
          have c2 : w9.cell? ⟨w.heap.size, 2, none⟩ = some (.int .i64 0) := by rw [← hw9]; exact b2
          have c3 : w9.cell? ⟨w.heap.size, 3, none⟩ = some (.string text) := by rw [← hw9]; exact b3
          have L9 : Hid (Below w.heap.size w w9) := Lib.hid (by rw [← hw9]; exact below_drewN L1.out _)
          clear hw9 b1 b2 b3
          go_quiet (fail)
          go_wp2_with (first
            | (go_at_call 41; refine (HR.out _).mono ?_; rintro e w3 ⟨rfl, nr, rfl⟩)
            | fail)
          go_ret
          refine ⟨?_, ?_⟩
          · rw [(hpl.out _).2 rfl]
            have hm := Hm.out
            simp [hm, HOP.out] <;> omega
          · first | exact below_drewN L9.out _ | exact below_drewN (below_drewN L9.out _) _ | exact L9.out
        · have HN9 := Lib.hid h
          have hi1 : (int != 0) = true := by simpa using h
          go_enter Tryd.func20, Tryd.ntmps20
          go_wp2_with (first
            | (go_at_call 39; refine (WD.out _).mono ?_; rintro e w1 ⟨rfl, hb⟩; have B1 : Blk w1 w.heap.size 46 #[.int .i64 op, .int .i64 0, .int .i64 int, .string text] := (Blk.new w _ _).below hb (by simp); have b1 : w1.cell? ⟨w.heap.size, 1, none⟩ = some (.int .i64 0) := B1.cell rfl; have b2 : w1.cell? ⟨w.heap.size, 2, none⟩ = some (.int .i64 int) := B1.cell rfl; have b3 : w1.cell? ⟨w.heap.size, 3, none⟩ = some (.string text) := B1.cell rfl; have L1 : Hid (Below w.heap.size w w1) := Lib.hid (((Below.refl _ _).alloc (Nat.le_refl _) _).trans (hb.mono (by simp))); clear hb B1)
            | (go_at_call 40; refine (HH.out _).mono ?_; rintro e w2 ⟨rfl, nq, rfl⟩)
            | (go_at_call 41; refine (HR.out _).mono ?_; rintro e w3 ⟨rfl, nr, rfl⟩)
            | fail)
          generalize hw9 : World.drewN w1 _ = w9
          have c1 : w9.cell? ⟨w.heap.size, 1, none⟩ = some (.int .i64 0) := by rw [← hw9]; exact b1
          have c2 : w9.cell? ⟨w.heap.size, 2, none⟩ = some (.int .i64 int) := by rw [← hw9]; exact b2
          have c3 : w9.cell? ⟨w.heap.size, 3, none⟩ = some (.string text) := by rw [← hw9]; exact b3
          have L9 : Hid (Below w.heap.size w w9) := Lib.hid (by rw [← hw9]; exact below_drewN L1.out _)
          clear hw9 b1 b2 b3
          go_quiet (fail)
          go_wp2_with (first
            | (go_at_call 41; refine (HR.out _).mono ?_; rintro e w3 ⟨rfl, nr, rfl⟩)
            | fail)
          go_ret
          refine ⟨?_, ?_⟩
          · rw [(hpl.out _).2 rfl]
            have hm := Hm.out
            have hn := HN9.out
            simp [hm, hn, HOP.out] <;> omega
          · first | exact below_drewN L9.out _ | exact below_drewN (below_drewN L9.out _) _ | exact L9.out
      · have HN9 := Lib.hid h
        have ha1 : (arg != 0) = true := by simpa using h
        go_enter Tryd.func20, Tryd.ntmps20
        go_wp2_with (first
          | (go_at_call 39; refine (WD.out _).mono ?_; rintro e w1 ⟨rfl, hb⟩; have B1 : Blk w1 w.heap.size 46 #[.int .i64 op, .int .i64 arg, .int .i64 int, .string text] := (Blk.new w _ _).below hb (by simp); have b1 : w1.cell? ⟨w.heap.size, 1, none⟩ = some (.int .i64 arg) := B1.cell rfl; have b2 : w1.cell? ⟨w.heap.size, 2, none⟩ = some (.int .i64 int) := B1.cell rfl; have b3 : w1.cell? ⟨w.heap.size, 3, none⟩ = some (.string text) := B1.cell rfl; have L1 : Hid (Below w.heap.size w w1) := Lib.hid (((Below.refl _ _).alloc (Nat.le_refl _) _).trans (hb.mono (by simp))); clear hb B1)
          | (go_at_call 40; refine (HH.out _).mono ?_; rintro e w2 ⟨rfl, nq, rfl⟩)
          | (go_at_call 41; refine (HR.out _).mono ?_; rintro e w3 ⟨rfl, nr, rfl⟩)
          | fail)
        generalize hw9 : World.drewN w1 _ = w9
        have c1 : w9.cell? ⟨w.heap.size, 1, none⟩ = some (.int .i64 arg) := by rw [← hw9]; exact b1
        have c2 : w9.cell? ⟨w.heap.size, 2, none⟩ = some (.int .i64 int) := by rw [← hw9]; exact b2
        have c3 : w9.cell? ⟨w.heap.size, 3, none⟩ = some (.string text) := by rw [← hw9]; exact b3
        have L9 : Hid (Below w.heap.size w w9) := Lib.hid (by rw [← hw9]; exact below_drewN L1.out _)
        clear hw9 b1 b2 b3
        go_quiet (fail)
        go_wp2_with (first
          | (go_at_call 41; refine (HR.out _).mono ?_; rintro e w3 ⟨rfl, nr, rfl⟩)
          | fail)
        go_ret
        refine ⟨?_, ?_⟩
        · rw [(hpl.out _).2 rfl]
          have hm := Hm.out
          have hn := HN9.out
          simp [hm, hn, HOP.out] <;> omega
        · first | exact below_drewN L9.out _ | exact below_drewN (below_drewN L9.out _) _ | exact L9.out
    · by_cases h : 0 ≤ arg
      · have h9 := h
        by_cases h : int = 0
        · subst h
          by_cases h : text = ⟨#[]⟩
          · subst h
            go_enter Tryd.func20, Tryd.ntmps20
            go_wp2_with (first
              | (go_at_call 39; refine (WD.out _).mono ?_; rintro e w1 ⟨rfl, hb⟩; have B1 : Blk w1 w.heap.size 46 #[.int .i64 op, .int .i64 arg, .int .i64 0, .string ⟨#[]⟩] := (Blk.new w _ _).below hb (by simp); have b1 : w1.cell? ⟨w.heap.size, 1, none⟩ = some (.int .i64 arg) := B1.cell rfl; have b2 : w1.cell? ⟨w.heap.size, 2, none⟩ = some (.int .i64 0) := B1.cell rfl; have b3 : w1.cell? ⟨w.heap.size, 3, none⟩ = some (.string ⟨#[]⟩) := B1.cell rfl; have L1 : Hid (Below w.heap.size w w1) := Lib.hid (((Below.refl _ _).alloc (Nat.le_refl _) _).trans (hb.mono (by simp))); clear hb B1)
              | (go_at_call 40; refine (HH.out _).mono ?_; rintro e w2 ⟨rfl, nq, rfl⟩)
              | (go_at_call 41; refine (HR.out _).mono ?_; rintro e w3 ⟨rfl, nr, rfl⟩)
              | fail)
            generalize hw9 : World.drewN w1 _ = w9
            have c1 : w9.cell? ⟨w.heap.size, 1, none⟩ = some (.int .i64 arg) := by rw [← hw9]; exact b1
            have c2 : w9.cell? ⟨w.heap.size, 2, none⟩ = some (.int .i64 0) := by rw [← hw9]; exact b2
            have c3 : w9.cell? ⟨w.heap.size, 3, none⟩ = some (.string ⟨#[]⟩) := by rw [← hw9]; exact b3
            have L9 : Hid (Below w.heap.size w w9) := Lib.hid (by rw [← hw9]; exact below_drewN L1.out _)
            clear hw9 b1 b2 b3
            go_quiet (fail)
            go_wp2_with (first
              | (go_at_call 41; refine (HR.out _).mono ?_; rintro e w3 ⟨rfl, nr, rfl⟩)
              | fail)
            go_ret
            refine ⟨?_, ?_⟩
            · rw [(hpl.out _).2 rfl]
              have hm := Hm.out
              simp [hm, HOP.out] <;> omega
            · first | exact below_drewN L9.out _ | exact below_drewN (below_drewN L9.out _) _ | exact L9.out
          · have HN9 := Lib.hid h
            have ct1 : ¬ text.toList = [] := fun e => h ((toList_inj _ _).1 (e.trans (by rw [ByteArray.toList_eq])))
            have ct2 : (!text.toList.isEmpty) = true := by simpa using ct1
            have ct3 : (text.toList == []) = false := by simpa using ct1
            have ct4 : (text.toList != []) = true := by simpa using ct1
            clear ct1
            go_enter Tryd.func20, Tryd.ntmps20
            go_wp2_with (first
              | (go_at_call 39; refine (WD.out _).mono ?_; rintro e w1 ⟨rfl, hb⟩; have B1 : Blk w1 w.heap.size 46 #[.int .i64 op, .int .i64 arg, .int .i64 0, .string text] := (Blk.new w _ _).below hb (by simp); have b1 : w1.cell? ⟨w.heap.size, 1, none⟩ = some (.int .i64 arg) := B1.cell rfl; have b2 : w1.cell? ⟨w.heap.size, 2, none⟩ = some (.int .i64 0) := B1.cell rfl; have b3 : w1.cell? ⟨w.heap.size, 3, none⟩ = some (.string text) := B1.cell rfl; have L1 : Hid (Below w.heap.size w w1) := Lib.hid (((Below.refl _ _).alloc (Nat.le_refl _) _).trans (hb.mono (by simp))); clear hb B1)
              | (go_at_call 40; refine (HH.out _).mono ?_; rintro e w2 ⟨rfl, nq, rfl⟩)
              | (go_at_call 41; refine (HR.out _).mono ?_; rintro e w3 ⟨rfl, nr, rfl⟩)
              | fail)
            generalize hw9 : World.drewN w1 _ = w9
            have c1 : w9.cell? ⟨w.heap.size, 1, none⟩ = some (.int .i64 arg) := by rw [← hw9]; exact b1
            have c2 : w9.cell? ⟨w.heap.size, 2, none⟩ = some (.int .i64 0) := by rw [← hw9]; exact b2
            have c3 : w9.cell? ⟨w.heap.size, 3, none⟩ = some (.string text) := by rw [← hw9]; exact b3
            have L9 : Hid (Below w.heap.size w w9) := Lib.hid (by rw [← hw9]; exact below_drewN L1.out _)
            clear hw9 b1 b2 b3
            go_quiet (fail)
            go_wp2_with (first
              | (go_at_call 41; refine (HR.out _).mono ?_; rintro e w3 ⟨rfl, nr, rfl⟩)
              | fail)
            go_ret
            refine ⟨?_, ?_⟩
            · rw [(hpl.out _).2 rfl]
              have hm := Hm.out
              have hn := HN9.out
              simp [hm, hn, HOP.out] <;> omega
            · first | exact below_drewN L9.out _ | exact below_drewN (below_drewN L9.out _) _ | exact L9.out
        · have HN9 := Lib.hid h
          have hi1 : (int != 0) = true := by simpa using h
          go_enter Tryd.func20, Tryd.ntmps20
          go_wp2_with (first
            | (go_at_call 39; refine (WD.out _).mono ?_; rintro e w1 ⟨rfl, hb⟩; have B1 : Blk w1 w.heap.size 46 #[.int .i64 op, .int .i64 arg, .int .i64 int, .string text] := (Blk.new w _ _).below hb (by simp); have b1 : w1.cell? ⟨w.heap.size, 1, none⟩ = some (.int .i64 arg) := B1.cell rfl; have b2 : w1.cell? ⟨w.heap.size, 2, none⟩ = some (.int .i64 int) := B1.cell rfl; have b3 : w1.cell? ⟨w.heap.size, 3, none⟩ = some (.string text) := B1.cell rfl; have L1 : Hid (Below w.heap.size w w1) := Lib.hid (((Below.refl _ _).alloc (Nat.le_refl _) _).trans (hb.mono (by simp))); clear hb B1)
            | (go_at_call 40; refine (HH.out _).mono ?_; rintro e w2 ⟨rfl, nq, rfl⟩)
            | (go_at_call 41; refine (HR.out _).mono ?_; rintro e w3 ⟨rfl, nr, rfl⟩)
            | fail)
          generalize hw9 : World.drewN w1 _ = w9
          have c1 : w9.cell? ⟨w.heap.size, 1, none⟩ = some (.int .i64 arg) := by rw [← hw9]; exact b1
          have c2 : w9.cell? ⟨w.heap.size, 2, none⟩ = some (.int .i64 int) := by rw [← hw9]; exact b2
          have c3 : w9.cell? ⟨w.heap.size, 3, none⟩ = some (.string text) := by rw [← hw9]; exact b3
          have L9 : Hid (Below w.heap.size w w9) := Lib.hid (by rw [← hw9]; exact below_drewN L1.out _)
          clear hw9 b1 b2 b3
          go_quiet (fail)
          go_wp2_with (first
            | (go_at_call 41; refine (HR.out _).mono ?_; rintro e w3 ⟨rfl, nr, rfl⟩)
            | fail)
          go_ret
          refine ⟨?_, ?_⟩
          · rw [(hpl.out _).2 rfl]
            have hm := Hm.out
            have hn := HN9.out
            simp [hm, hn, HOP.out] <;> omega
          · first | exact below_drewN L9.out _ | exact below_drewN (below_drewN L9.out _) _ | exact L9.out
      · have HN9 := Lib.hid h
        have h9 := h
        go_enter Tryd.func20, Tryd.ntmps20
        go_wp2_with (first
          | (go_at_call 39; refine (WD.out _).mono ?_; rintro e w1 ⟨rfl, hb⟩; have B1 : Blk w1 w.heap.size 46 #[.int .i64 op, .int .i64 arg, .int .i64 int, .string text] := (Blk.new w _ _).below hb (by simp); have b1 : w1.cell? ⟨w.heap.size, 1, none⟩ = some (.int .i64 arg) := B1.cell rfl; have b2 : w1.cell? ⟨w.heap.size, 2, none⟩ = some (.int .i64 int) := B1.cell rfl; have b3 : w1.cell? ⟨w.heap.size, 3, none⟩ = some (.string text) := B1.cell rfl; have L1 : Hid (Below w.heap.size w w1) := Lib.hid (((Below.refl _ _).alloc (Nat.le_refl _) _).trans (hb.mono (by simp))); clear hb B1)
          | (go_at_call 40; refine (HH.out _).mono ?_; rintro e w2 ⟨rfl, nq, rfl⟩)
          | (go_at_call 41; refine (HR.out _).mono ?_; rintro e w3 ⟨rfl, nr, rfl⟩)
          | fail)
        generalize hw9 : World.drewN w1 _ = w9
        have c1 : w9.cell? ⟨w.heap.size, 1, none⟩ = some (.int .i64 arg) := by rw [← hw9]; exact b1
        have c2 : w9.cell? ⟨w.heap.size, 2, none⟩ = some (.int .i64 int) := by rw [← hw9]; exact b2
        have c3 : w9.cell? ⟨w.heap.size, 3, none⟩ = some (.string text) := by rw [← hw9]; exact b3
        have L9 : Hid (Below w.heap.size w w9) := Lib.hid (by rw [← hw9]; exact below_drewN L1.out _)
        clear hw9 b1 b2 b3
        go_quiet (fail)
        go_wp2_with (first
          | (go_at_call 41; refine (HR.out _).mono ?_; rintro e w3 ⟨rfl, nr, rfl⟩)
          | fail)
        go_ret
        refine ⟨?_, ?_⟩
        · rw [(hpl.out _).2 rfl]
          have hm := Hm.out
          have hn := HN9.out
          simp [hm, hn, HOP.out] <;> omega
        · first | exact below_drewN L9.out _ | exact below_drewN (below_drewN L9.out _) _ | exact L9.out
    · by_cases h : arg = 0
      · subst h
        by_cases h : int = 0
        · subst h
          by_cases h : text = ⟨#[]⟩
          · subst h
            go_enter Tryd.func20, Tryd.ntmps20
            go_wp2_with (first
              | (go_at_call 39; refine (WD.out _).mono ?_; rintro e w1 ⟨rfl, hb⟩; have B1 : Blk w1 w.heap.size 46 #[.int .i64 op, .int .i64 0, .int .i64 0, .string ⟨#[]⟩] := (Blk.new w _ _).below hb (by simp); have b1 : w1.cell? ⟨w.heap.size, 1, none⟩ = some (.int .i64 0) := B1.cell rfl; have b2 : w1.cell? ⟨w.heap.size, 2, none⟩ = some (.int .i64 0) := B1.cell rfl; have b3 : w1.cell? ⟨w.heap.size, 3, none⟩ = some (.string ⟨#[]⟩) := B1.cell rfl; have L1 : Hid (Below w.heap.size w w1) := Lib.hid (((Below.refl _ _).alloc (Nat.le_refl _) _).trans (hb.mono (by simp))); clear hb B1)
              | (go_at_call 40; refine (HH.out _).mono ?_; rintro e w2 ⟨rfl, nq, rfl⟩)
              | (go_at_call 41; refine (HR.out _).mono ?_; rintro e w3 ⟨rfl, nr, rfl⟩)
              | fail)
            generalize hw9 : World.drewN w1 _ = w9
            have c1 : w9.cell? ⟨w.heap.size, 1, none⟩ = some (.int .i64 0) := by rw [← hw9]; exact b1
            have c2 : w9.cell? ⟨w.heap.size, 2, none⟩ = some (.int .i64 0) := by rw [← hw9]; exact b2
            have c3 : w9.cell? ⟨w.heap.size, 3, none⟩ = some (.string ⟨#[]⟩) := by rw [← hw9]; exact b3
            have L9 : Hid (Below w.heap.size w w9) := Lib.hid (by rw [← hw9]; exact below_drewN L1.out _)
            clear hw9 b1 b2 b3
            go_quiet (fail)
            go_wp2_with (first
              | (go_at_call 41; refine (HR.out _).mono ?_; rintro e w3 ⟨rfl, nr, rfl⟩)
              | fail)
            go_ret
            refine ⟨?_, ?_⟩
            · rw [(hpl.out _).2 rfl]
              have hm := Hm.out
              simp [hm, HOP.out] <;> omega
            · first | exact below_drewN L9.out _ | exact below_drewN (below_drewN L9.out _) _ | exact L9.out
          · have HN9 := Lib.hid h
            have ct1 : ¬ text.toList = [] := fun e => h ((toList_inj _ _).1 (e.trans (by rw [ByteArray.toList_eq])))
            have ct2 : (!text.toList.isEmpty) = true := by simpa using ct1
            have ct3 : (text.toList == []) = false := by simpa using ct1
            have ct4 : (text.toList != []) = true := by simpa using ct1
            clear ct1
            go_enter Tryd.func20, Tryd.ntmps20
            go_wp2_with (first
              | (go_at_call 39; refine (WD.out _).mono ?_; rintro e w1 ⟨rfl, hb⟩; have B1 : Blk w1 w.heap.size 46 #[.int .i64 op, .int .i64 0, .int .i64 0, .string text] := (Blk.new w _ _).below hb (by simp); have b1 : w1.cell? ⟨w.heap.size, 1, none⟩ = some (.int .i64 0) := B1.cell rfl; have b2 : w1.cell? ⟨w.heap.size, 2, none⟩ = some (.int .i64 0) := B1.cell rfl; have b3 : w1.cell? ⟨w.heap.size, 3, none⟩ = some (.string text) := B1.cell rfl; have L1 : Hid (Below w.heap.size w w1) := Lib.hid (((Below.refl _ _).alloc (Nat.le_refl _) _).trans (hb.mono (by simp))); clear hb B1)
              | (go_at_call 40; refine (HH.out _).mono ?_; rintro e w2 ⟨rfl, nq, rfl⟩)
              | (go_at_call 41; refine (HR.out _).mono ?_; rintro e w3 ⟨rfl, nr, rfl⟩)
              | fail)
            generalize hw9 : World.drewN w1 _ = w9
            have c1 : w9.cell? ⟨w.heap.size, 1, none⟩ = some (.int .i64 0) := by rw [← hw9]; exact b1
            have c2 : w9.cell? ⟨w.heap.size, 2, none⟩ = some (.int .i64 0) := by rw [← hw9]; exact b2
            have c3 : w9.cell? ⟨w.heap.size, 3, none⟩ = some (.string text) := by rw [← hw9]; exact b3
            have L9 : Hid (Below w.heap.size w w9) := Lib.hid (by rw [← hw9]; exact below_drewN L1.out _)
            clear hw9 b1 b2 b3
            go_quiet (fail)
            go_wp2_with (first
              | (go_at_call 41; refine (HR.out _).mono ?_; rintro e w3 ⟨rfl, nr, rfl⟩)
              | fail)
            go_ret
            refine ⟨?_, ?_⟩
            · rw [(hpl.out _).2 rfl]
              have hm := Hm.out
              have hn := HN9.out
              simp [hm, hn, HOP.out] <;> omega
            · first | exact below_drewN L9.out _ | exact below_drewN (below_drewN L9.out _) _ | exact L9.out
        · have HN9 := Lib.hid h
          have hi1 : (int != 0) = true := by simpa using h
          go_enter Tryd.func20, Tryd.ntmps20
          go_wp2_with (first
            | (go_at_call 39; refine (WD.out _).mono ?_; rintro e w1 ⟨rfl, hb⟩; have B1 : Blk w1 w.heap.size 46 #[.int .i64 op, .int .i64 0, .int .i64 int, .string text] := (Blk.new w _ _).below hb (by simp); have b1 : w1.cell? ⟨w.heap.size, 1, none⟩ = some (.int .i64 0) := B1.cell rfl; have b2 : w1.cell? ⟨w.heap.size, 2, none⟩ = some (.int .i64 int) := B1.cell rfl; have b3 : w1.cell? ⟨w.heap.size, 3, none⟩ = some (.string text) := B1.cell rfl; have L1 : Hid (Below w.heap.size w w1) := Lib.hid (((Below.refl _ _).alloc (Nat.le_refl _) _).trans (hb.mono (by simp))); clear hb B1)
            | (go_at_call 40; refine (HH.out _).mono ?_; rintro e w2 ⟨rfl, nq, rfl⟩)
            | (go_at_call 41; refine (HR.out _).mono ?_; rintro e w3 ⟨rfl, nr, rfl⟩)
            | fail)
          generalize hw9 : World.drewN w1 _ = w9
          have c1 : w9.cell? ⟨w.heap.size, 1, none⟩ = some (.int .i64 0) := by rw [← hw9]; exact b1
          have c2 : w9.cell? ⟨w.heap.size, 2, none⟩ = some (.int .i64 int) := by rw [← hw9]; exact b2
          have c3 : w9.cell? ⟨w.heap.size, 3, none⟩ = some (.string text) := by rw [← hw9]; exact b3
          have L9 : Hid (Below w.heap.size w w9) := Lib.hid (by rw [← hw9]; exact below_drewN L1.out _)
          clear hw9 b1 b2 b3
          go_quiet (fail)
          go_wp2_with (first
            | (go_at_call 41; refine (HR.out _).mono ?_; rintro e w3 ⟨rfl, nr, rfl⟩)
            | fail)
          go_ret
          refine ⟨?_, ?_⟩
          · rw [(hpl.out _).2 rfl]
            have hm := Hm.out
            have hn := HN9.out
            simp [hm, hn, HOP.out] <;> omega
          · first | exact below_drewN L9.out _ | exact below_drewN (below_drewN L9.out _) _ | exact L9.out
      · have HN9 := Lib.hid h
        have ha1 : (arg != 0) = true := by simpa using h
        go_enter Tryd.func20, Tryd.ntmps20
        go_wp2_with (first
          | (go_at_call 39; refine (WD.out _).mono ?_; rintro e w1 ⟨rfl, hb⟩; have B1 : Blk w1 w.heap.size 46 #[.int .i64 op, .int .i64 arg, .int .i64 int, .string text] := (Blk.new w _ _).below hb (by simp); have b1 : w1.cell? ⟨w.heap.size, 1, none⟩ = some (.int .i64 arg) := B1.cell rfl; have b2 : w1.cell? ⟨w.heap.size, 2, none⟩ = some (.int .i64 int) := B1.cell rfl; have b3 : w1.cell? ⟨w.heap.size, 3, none⟩ = some (.string text) := B1.cell rfl; have L1 : Hid (Below w.heap.size w w1) := Lib.hid (((Below.refl _ _).alloc (Nat.le_refl _) _).trans (hb.mono (by simp))); clear hb B1)
          | (go_at_call 40; refine (HH.out _).mono ?_; rintro e w2 ⟨rfl, nq, rfl⟩)
          | (go_at_call 41; refine (HR.out _).mono ?_; rintro e w3 ⟨rfl, nr, rfl⟩)
          | fail)
        generalize hw9 : World.drewN w1 _ = w9
        have c1 : w9.cell? ⟨w.heap.size, 1, none⟩ = some (.int .i64 arg) := by rw [← hw9]; exact b1
        have c2 : w9.cell? ⟨w.heap.size, 2, none⟩ = some (.int .i64 int) := by rw [← hw9]; exact b2
        have c3 : w9.cell? ⟨w.heap.size, 3, none⟩ = some (.string text) := by rw [← hw9]; exact b3
        have L9 : Hid (Below w.heap.size w w9) := Lib.hid (by rw [← hw9]; exact below_drewN L1.out _)
        clear hw9 b1 b2 b3
        go_quiet (fail)
        go_wp2_with (first
          | (go_at_call 41; refine (HR.out _).mono ?_; rintro e w3 ⟨rfl, nr, rfl⟩)
          | fail)
        go_ret
        refine ⟨?_, ?_⟩
        · rw [(hpl.out _).2 rfl]
          have hm := Hm.out
          have hn := HN9.out
          simp [hm, hn, HOP.out] <;> omega
        · first | exact below_drewN L9.out _ | exact below_drewN (below_drewN L9.out _) _ | exact L9.out
  · have hpl : plainN ⟨op, arg, int, text⟩ = false := by unfold plainN; simp only [hr, decide_false, Bool.false_and]
    have Hpl := Lib.hid hpl
    have HH := Lib.hid has_none
    have WD : Hid (∀ W, Calls Tryd.prog 39 #[.int .i64 op] W fun e w' => e = .returned (.string ⟨#[]⟩) ∧ Below W.heap.size W w') := Lib.hid (fun W => by have h := word_any op W; rw [show wordC op = ⟨#[]⟩ by unfold wordC; rw [if_neg hr]] at h; exact h)
    clear hpl hr
    go_enter Tryd.func20, Tryd.ntmps20
    go_wp2_with (first
      | (go_at_call 39; refine (WD.out _).mono ?_; rintro e w1 ⟨rfl, hb⟩; have B1 : Blk w1 w.heap.size 46 #[.int .i64 op, .int .i64 arg, .int .i64 int, .string text] := (Blk.new w _ _).below hb (by simp); have b1 : w1.cell? ⟨w.heap.size, 1, none⟩ = some (.int .i64 arg) := B1.cell rfl; have b2 : w1.cell? ⟨w.heap.size, 2, none⟩ = some (.int .i64 int) := B1.cell rfl; have b3 : w1.cell? ⟨w.heap.size, 3, none⟩ = some (.string text) := B1.cell rfl; have L1 : Hid (Below w.heap.size w w1) := Lib.hid (((Below.refl _ _).alloc (Nat.le_refl _) _).trans (hb.mono (by simp))); clear hb B1)
      | (go_at_call 40; refine (HH.out _).mono ?_; rintro e w2 ⟨rfl, nq, rfl⟩)
      | (go_at_call 41; refine (HR.out _).mono ?_; rintro e w3 ⟨rfl, nr, rfl⟩)
      | fail)
    generalize hw9 : World.drewN w1 _ = w9
    have c1 : w9.cell? ⟨w.heap.size, 1, none⟩ = some (.int .i64 arg) := by rw [← hw9]; exact b1
    have c2 : w9.cell? ⟨w.heap.size, 2, none⟩ = some (.int .i64 int) := by rw [← hw9]; exact b2
    have c3 : w9.cell? ⟨w.heap.size, 3, none⟩ = some (.string text) := by rw [← hw9]; exact b3
    have L9 : Hid (Below w.heap.size w w9) := Lib.hid (by rw [← hw9]; exact below_drewN L1.out _)
    clear hw9 b1 b2 b3
    go_quiet (fail)
    go_wp2_with (first
      | (go_at_call 41; refine (HR.out _).mono ?_; rintro e w3 ⟨rfl, nr, rfl⟩)
      | fail)
    go_ret
    exact ⟨by rw [Hpl.out]; rfl, by first | exact below_drewN L9.out _ | exact below_drewN (below_drewN L9.out _) _ | exact L9.out⟩
end Go.Proofs.YtdkoafmgenbkbaaDoor
