/- Chapter 11, the reference's stands. -/
import Derived.Test.YtdkoafmgenbkbaaDoorStP
import Derived.Test.YtdkoafmgenbkbaaDoorInP
import Derived.Deep.CutRange
import Derived.Deep.RegionHeld3
namespace Go.Proofs.YtdkoafmgenbkbaaDoor
set_option linter.unusedSimpArgs false
set_option linter.unusedVariables false
open Go.RowKit
set_option maxRecDepth 100000 in
set_option maxHeartbeats 8000000 in
theorem st_a_n {W0 W : World} {g n c : Nat} {la : Option Addr} {ln lc : Nat} {cl : List Ins} {l : List Pl} {i : Nat} {p : Pl} {op arg : Int} (hop : op = 1) (int : Int) (text : ByteArray) (I : StPre W0 W g n c la ln lc cl l i p ⟨op, arg, int, text⟩) (hloops : p.loops ≠ []) :
    Calls Tryd.prog 21 #[.agg #[.slice la ln lc], .slice (some ⟨g, 0, none⟩) n c, .int .i64 i] W (LedK W g (insN cl l i p ⟨op, arg, int, text⟩)) := by
  obtain ⟨pbv, pnv, e0, e1, e2, e3, eb, en⟩ := I.hp.at_ I.hpi
  obtain ⟨pb, pbc, rfl⟩ := eb.form
  obtain ⟨pn, pnc, rfl⟩ := en.form
  simp only [List.length_map] at e2 e3
  have hic := (List.getElem?_eq_some_iff.1 I.hi).1
  have hn1 : (i : Int) < (n : Int) := by have := I.nc; omega
  have hi0 : (0 : Int) ≤ (i : Int) := Int.natCast_nonneg _
  have hi2 : (i : Int) ≤ 1024 := by have := I.few; omega
  have hg0 := I.good.b0
  have hg1 := I.good.bh
  have hg2 := I.good.hj
  have hgf := I.good.few
  have ha0 := I.arg0
  have hgl := I.hp.lt
  have hln : ln = cl.length := I.hl.len
  have hiln : (i : Int) < (ln : Int) := by omega
  obtain ⟨b, off, x, rfl, hbB, hxl, ⟨rfl, _⟩, hx⟩ := (I.hl.below I.hw).at_ I.hi
  have y0 := hx 0 _ rfl
  have y1 := hx 1 _ rfl
  have y2 := hx 2 _ rfl
  have y3 := hx 3 _ rfl
  simp only [Nat.add_zero] at y0
  simp only at ha0
  have hbl := cell_lt y0
  simp only at hbl
  have HLN := Lib.hid hln
  have J := Lib.hid I
  have EB := Lib.hid eb
  have EN := Lib.hid en
  simp only [List.length_map] at EB EN
  have HIC := Lib.hid hic
  have hcb : p.loops.length ≤ pbc ∧ pbc ≤ maxLen := by obtain ⟨_, _, h1, h2, h3, _⟩ := eb; injection h1 with _ _ h1; subst h1; simp only [List.length_map] at h2; exact ⟨h2, h3⟩
  have hcn : p.loops.length ≤ pnc ∧ pnc ≤ maxLen := by obtain ⟨_, _, h1, h2, h3, _⟩ := en; injection h1 with _ _ h1; subst h1; simp only [List.length_map] at h2; exact ⟨h2, h3⟩
  clear I eb en hx hxl hln hic
  obtain ⟨m, hm⟩ : ∃ m, p.loops.length = m + 1 := ⟨p.loops.length - 1, by have := List.length_pos_iff.2 hloops; omega⟩
  obtain ⟨lx, hlx⟩ : ∃ x, p.loops.getLast? = some x := by cases h : p.loops.getLast? with | none => exact absurd (List.getLast?_eq_none_iff.1 h) hloops | some x => exact ⟨x, rfl⟩
  have hb : p.base = lx.1 := by unfold Pl.base; rw [hlx]
  have hnx : p.next = lx.2 := by unfold Pl.next; rw [hlx]
  have HNX := Lib.hid hnx
  rw [hm] at e2 e3
  have eb2 := EB.out
  have en2 := EN.out
  rw [hm] at eb2 en2
  obtain ⟨gb, lbs, rfl, _, ⟨rfl, _⟩, hxl⟩ := eb2.last (show (p.loops.map (·.1)).getLast? = some lx.1 by rw [List.getLast?_map, hlx]; rfl)
  obtain ⟨gn, lns, rfl, _, ⟨rfl, _⟩, hyl⟩ := en2.last (show (p.loops.map (·.2)).getLast? = some lx.2 by rw [List.getLast?_map, hlx]; rfl)
  have l0 := hxl 0 _ rfl
  have l1 := hyl 0 _ rfl
  have hgbl := cell_lt l0
  have hgnl := cell_lt l1
  simp only [Nat.add_zero, Nat.mul_one] at l0 l1
  simp only at hgbl hgnl
  have hm1 : (m : Int) ≤ 1024 := by omega
  have hm0 : (0 : Int) ≤ (m : Int) := Int.natCast_nonneg _
  have hm2 : (0 : Int) < ((m + 1 : Nat) : Int) := by omega
  have hm3 : ((m + 1 : Nat) : Int) - 1 = (m : Int) := by omega
  have hm4 : (0 : Int) < (m : Int) + 1 := by omega
  have hm5 : (m : Int) < ((m + 1 : Nat) : Int) := by omega
  have hm7 : (m : Int) ≤ (pbc : Int) := by omega
  have hm8 : (m : Int) ≤ (pnc : Int) := by omega
  clear hxl hyl eb2 en2 hlx hnx
  rw [hb] at hg0 hg1
  obtain ⟨ph, hph⟩ : ∃ x, p.height = x := ⟨_, rfl⟩
  rw [hph] at e1 hg1 hg2
  have HPH := Lib.hid hph
  have HBB := Lib.hid hb
  clear hph hb
  have HOP := Lib.hid hop
  clear hop
  go_enter Tryd.func21, Tryd.ntmps21
  go_wp2_with fail
  generalize hW1 : World.alloc W _ = W1
  have L1 : Below W.heap.size W W1 := by rw [← hW1]; exact (Below.refl _ _).alloc (Nat.le_refl _) _
  have B0 : Blk W1 W.heap.size 24 #[.slice (some ⟨b, off, none⟩) ln lc] := by rw [← hW1]; exact Blk.new W _ _
  have s1 : W.heap.size < W1.heap.size := B0.lt
  have d0 : W1.cell? ⟨W.heap.size, 0, none⟩ = some (.slice (some ⟨b, off, none⟩) ln lc) := B0.cell rfl
  have e0 := (L1.cell (p := ⟨g, i * 4, none⟩) hgl).trans e0
  have e1 := (L1.cell (p := ⟨g, i * 4 + 1, none⟩) hgl).trans e1
  have e2 := (L1.cell (p := ⟨g, i * 4 + 2, none⟩) hgl).trans e2
  have e3 := (L1.cell (p := ⟨g, i * 4 + 3, none⟩) hgl).trans e3
  have y0 := (L1.cell (p := ⟨b, off + i * 4, none⟩) hbl).trans y0
  have y1 := (L1.cell (p := ⟨b, off + i * 4 + 1, none⟩) hbl).trans y1
  have y2 := (L1.cell (p := ⟨b, off + i * 4 + 2, none⟩) hbl).trans y2
  have y3 := (L1.cell (p := ⟨b, off + i * 4 + 3, none⟩) hbl).trans y3
  have hgl1 : g < W1.heap.size := by omega
  have hbl1 : b < W1.heap.size := by omega
  have HL1 := Lib.hid (And.intro L1 B0)
  clear hW1 L1 B0
  go_cut [7, 8] from 15 to 23 (fun v7 v8 wc => ∃ q7 q8 : Nat, v7 = .pointer (some ⟨q7, 0, none⟩) ∧ v8 = .pointer (some ⟨q8, 0, none⟩) ∧ Hid (Below W.heap.size W wc ∧ Blk wc q7 46 #[.int .i64 op, .int .i64 arg, .int .i64 int, .string text] ∧ Blk wc q8 66 #[.bool p.known, .int .i64 ph, .slice (some ⟨gb, 0, none⟩) (m + 1) pbc, .slice (some ⟨gn, 0, none⟩) (m + 1) pnc] ∧ Blk wc W.heap.size 24 #[.slice (some ⟨b, off, none⟩) ln lc]) ∧ W.heap.size ≤ q7 ∧ W.heap.size ≤ q8)
  case first =>
    go_region
    all_goals
      go_wp2_with fail
      go_meet
      first
        | exact ⟨W1.heap.size, W1.heap.size + 1, rfl, rfl, Lib.hid ⟨((HL1.out.1.alloc HL1.out.1.size _).alloc (by have := HL1.out.1.size; simp; omega) _).drew, (Blk.new W1 _ _).alloc _, Blk.new_ (by simp) _ _, (HL1.out.2.alloc _).alloc _⟩, by omega, by omega⟩
        | exact ⟨W1.heap.size + 1, W1.heap.size, rfl, rfl, Lib.hid ⟨((HL1.out.1.alloc HL1.out.1.size _).alloc (by have := HL1.out.1.size; simp; omega) _).drew, Blk.new_ (by simp) _ _, (Blk.new W1 _ _).alloc _, (HL1.out.2.alloc _).alloc _⟩, by omega, by omega⟩
  case rest =>
    obtain ⟨q7, q8, rfl, rfl, HC, hq7, hq8⟩ := hcut
    have x0 : wc.cell? ⟨q7, 0, none⟩ = some (.int .i64 op) := HC.out.2.1.cell rfl
    have WD := Lib.hid (fun W => word_any op W)
    obtain ⟨wd, hwd⟩ : ∃ x, wordC op = x := ⟨_, rfl⟩
    rw [hwd] at WD
    have HWD := Lib.hid hwd
    clear hwd e0 e1 e2 e3 y0 y1 y2 y3 d0
    go_wp2_with (first
      | (go_at_call 39; refine (WD.out _).mono ?_; rintro e w2 ⟨rfl, hb⟩; have HW2 := Lib.hid hb; have B7 := HC.out.2.1.below hb HC.out.2.1.lt; have B8 := HC.out.2.2.1.below hb HC.out.2.2.1.lt; have L2 := HC.out.1.trans (hb.mono HC.out.1.size); have k2 : w2.cell? ⟨q8, 2, none⟩ = some (.slice (some ⟨gb, 0, none⟩) (m + 1) pbc) := B8.cell rfl; have k3 : w2.cell? ⟨q8, 3, none⟩ = some (.slice (some ⟨gn, 0, none⟩) (m + 1) pnc) := B8.cell rfl; have HL2 := Lib.hid L2; have l0 := (L2.cell (p := ⟨gb, m, none⟩) hgbl).trans l0; have l1 := (L2.cell (p := ⟨gn, m, none⟩) hgnl).trans l1; clear hb B7 B8 L2 WD)
      | fail)
    go_quiet (fail)
    generalize hW3 : World.drewN w2 _ = W3
    have L23 : Below w2.heap.size w2 W3 := by rw [← hW3]; exact below_drewN (Below.refl _ _) _
    have Lc3 := HW2.out.trans (L23.mono HW2.out.size)
    have L3 := HC.out.1.trans (Lc3.mono HC.out.1.size)
    have B7 := HC.out.2.1.below Lc3 HC.out.2.1.lt
    have B8 := HC.out.2.2.1.below Lc3 HC.out.2.2.1.lt
    have B0 := HC.out.2.2.2.below Lc3 HC.out.2.2.2.lt
    have BP := J.out.hp.below L3
    have BB := EB.out.below L3
    have BN := EN.out.below L3
    have x1 : W3.cell? ⟨q7, 1, none⟩ = some (.int .i64 arg) := B7.cell rfl
    have k1 : W3.cell? ⟨q8, 1, none⟩ = some (.int .i64 ph) := B8.cell rfl
    have k2 : W3.cell? ⟨q8, 2, none⟩ = some (.slice (some ⟨gb, 0, none⟩) (m + 1) pbc) := B8.cell rfl
    have k3 : W3.cell? ⟨q8, 3, none⟩ = some (.slice (some ⟨gn, 0, none⟩) (m + 1) pnc) := B8.cell rfl
    have d0 : W3.cell? ⟨W.heap.size, 0, none⟩ = some (.slice (some ⟨b, off, none⟩) ln lc) := B0.cell rfl
    have K3 := Lib.hid (And.intro L3 (And.intro B7 (And.intro B8 (And.intro B0 (And.intro BP (And.intro BB BN))))))
    clear hW3 L23 Lc3 L3 B7 B8 B0 BP BB BN x0
    go_upto_region 8 with fail
    go_cut [14] from 48 to 59 (fun v wd' => v = .bool (decide ((i : Int) < arg ∧ arg ≤ (ln : Int))) ∧ wd' = W3)
    case first =>
      by_cases hA1 : (i : Int) < arg
      · by_cases hA2 : arg ≤ (ln : Int)
        · go_wp2_with fail
          go_meet
          exact ⟨by simp [hA1, hA2] <;> omega, rfl⟩
        · go_wp2_with fail
          go_meet
          exact ⟨by simp [hA1, hA2] <;> omega, rfl⟩
      · go_wp2_with fail
        go_meet
        exact ⟨by simp [hA1] <;> omega, rfl⟩
    case rest =>
      obtain ⟨rfl, rfl⟩ := hcut
      obtain ⟨ah, hah⟩ : ∃ x, decide ((i : Int) < arg ∧ arg ≤ (ln : Int)) = x := ⟨_, rfl⟩
      rw [hah]
      have HAH := Lib.hid hah
      clear hah
      obtain rfl := HOP.out
      obtain rfl : wd = ⟨#[115, 116, 101, 112]⟩ := by rw [← HWD.out]; rfl
      go_wp2_with (first
        | (go_at_call 42; refine (leads_at (tn := i + 1) wc ((i : Int) + 1) (ph) (.slice (some ⟨gb, 0, none⟩) (m + 1) pbc) (.slice (some ⟨gn, 0, none⟩) (m + 1) pnc) (p.loops) (by omega) K3.out.2.2.2.2.1 (J.out.nl) (by have h1 := J.out.nl; have h2 := J.out.nc; have h3 := HIC.out; omega) (by have := J.out.nc; have := J.out.few; omega) (by have := hgf; omega) (by have := K3.out.2.2.2.2.2.1; rw [hm] at this; exact this) (by have := K3.out.2.2.2.2.2.2; rw [hm] at this; exact this)).mono ?_; rintro e w4 hled; have HLED := Lib.hid hled; obtain ⟨rfl, _⟩ := hled)
        | fail)
      go_ret
      rw [show insN cl l i p _ = leadN l (i + 1) (ph) p.loops from (by simp [insN, HPH.out, HBB.out])]
      exact LedK.from (grown_below K3.out.1 _) HLED.out
set_option maxRecDepth 100000 in
set_option maxHeartbeats 8000000 in
theorem st_a_e {W0 W : World} {g n c : Nat} {la : Option Addr} {ln lc : Nat} {cl : List Ins} {l : List Pl} {i : Nat} {p : Pl} {op arg : Int} (hop : op = 1) (int : Int) (text : ByteArray) (I : StPre W0 W g n c la ln lc cl l i p ⟨op, arg, int, text⟩) (hloops : p.loops = []) :
    Calls Tryd.prog 21 #[.agg #[.slice la ln lc], .slice (some ⟨g, 0, none⟩) n c, .int .i64 i] W (LedK W g (insN cl l i p ⟨op, arg, int, text⟩)) := by
  obtain ⟨pbv, pnv, e0, e1, e2, e3, eb, en⟩ := I.hp.at_ I.hpi
  obtain ⟨pb, pbc, rfl⟩ := eb.form
  obtain ⟨pn, pnc, rfl⟩ := en.form
  simp only [List.length_map] at e2 e3
  have hic := (List.getElem?_eq_some_iff.1 I.hi).1
  have hn1 : (i : Int) < (n : Int) := by have := I.nc; omega
  have hi0 : (0 : Int) ≤ (i : Int) := Int.natCast_nonneg _
  have hi2 : (i : Int) ≤ 1024 := by have := I.few; omega
  have hg0 := I.good.b0
  have hg1 := I.good.bh
  have hg2 := I.good.hj
  have hgf := I.good.few
  have ha0 := I.arg0
  have hgl := I.hp.lt
  have hln : ln = cl.length := I.hl.len
  have hiln : (i : Int) < (ln : Int) := by omega
  obtain ⟨b, off, x, rfl, hbB, hxl, ⟨rfl, _⟩, hx⟩ := (I.hl.below I.hw).at_ I.hi
  have y0 := hx 0 _ rfl
  have y1 := hx 1 _ rfl
  have y2 := hx 2 _ rfl
  have y3 := hx 3 _ rfl
  simp only [Nat.add_zero] at y0
  simp only at ha0
  have hbl := cell_lt y0
  simp only at hbl
  have HLN := Lib.hid hln
  have J := Lib.hid I
  have EB := Lib.hid eb
  have EN := Lib.hid en
  simp only [List.length_map] at EB EN
  have HIC := Lib.hid hic
  have hcb : p.loops.length ≤ pbc ∧ pbc ≤ maxLen := by obtain ⟨_, _, h1, h2, h3, _⟩ := eb; injection h1 with _ _ h1; subst h1; simp only [List.length_map] at h2; exact ⟨h2, h3⟩
  have hcn : p.loops.length ≤ pnc ∧ pnc ≤ maxLen := by obtain ⟨_, _, h1, h2, h3, _⟩ := en; injection h1 with _ _ h1; subst h1; simp only [List.length_map] at h2; exact ⟨h2, h3⟩
  clear I eb en hx hxl hln hic
  have hb : p.base = 0 := by unfold Pl.base; rw [hloops]; rfl
  have hl0 : p.loops.length = 0 := by rw [hloops]; rfl
  rw [hl0] at e2 e3
  have HLP := Lib.hid hloops
  clear hloops
  rw [hb] at hg0 hg1
  obtain ⟨ph, hph⟩ : ∃ x, p.height = x := ⟨_, rfl⟩
  rw [hph] at e1 hg1 hg2
  have HPH := Lib.hid hph
  have HBB := Lib.hid hb
  clear hph hb
  have HOP := Lib.hid hop
  clear hop
  go_enter Tryd.func21, Tryd.ntmps21
  go_wp2_with fail
  generalize hW1 : World.alloc W _ = W1
  have L1 : Below W.heap.size W W1 := by rw [← hW1]; exact (Below.refl _ _).alloc (Nat.le_refl _) _
  have B0 : Blk W1 W.heap.size 24 #[.slice (some ⟨b, off, none⟩) ln lc] := by rw [← hW1]; exact Blk.new W _ _
  have s1 : W.heap.size < W1.heap.size := B0.lt
  have d0 : W1.cell? ⟨W.heap.size, 0, none⟩ = some (.slice (some ⟨b, off, none⟩) ln lc) := B0.cell rfl
  have e0 := (L1.cell (p := ⟨g, i * 4, none⟩) hgl).trans e0
  have e1 := (L1.cell (p := ⟨g, i * 4 + 1, none⟩) hgl).trans e1
  have e2 := (L1.cell (p := ⟨g, i * 4 + 2, none⟩) hgl).trans e2
  have e3 := (L1.cell (p := ⟨g, i * 4 + 3, none⟩) hgl).trans e3
  have y0 := (L1.cell (p := ⟨b, off + i * 4, none⟩) hbl).trans y0
  have y1 := (L1.cell (p := ⟨b, off + i * 4 + 1, none⟩) hbl).trans y1
  have y2 := (L1.cell (p := ⟨b, off + i * 4 + 2, none⟩) hbl).trans y2
  have y3 := (L1.cell (p := ⟨b, off + i * 4 + 3, none⟩) hbl).trans y3
  have hgl1 : g < W1.heap.size := by omega
  have hbl1 : b < W1.heap.size := by omega
  have HL1 := Lib.hid (And.intro L1 B0)
  clear hW1 L1 B0
  go_cut [7, 8] from 15 to 23 (fun v7 v8 wc => ∃ q7 q8 : Nat, v7 = .pointer (some ⟨q7, 0, none⟩) ∧ v8 = .pointer (some ⟨q8, 0, none⟩) ∧ Hid (Below W.heap.size W wc ∧ Blk wc q7 46 #[.int .i64 op, .int .i64 arg, .int .i64 int, .string text] ∧ Blk wc q8 66 #[.bool p.known, .int .i64 ph, .slice pb 0 pbc, .slice pn 0 pnc] ∧ Blk wc W.heap.size 24 #[.slice (some ⟨b, off, none⟩) ln lc]) ∧ W.heap.size ≤ q7 ∧ W.heap.size ≤ q8)
  case first =>
    go_region
    all_goals
      go_wp2_with fail
      go_meet
      first
        | exact ⟨W1.heap.size, W1.heap.size + 1, rfl, rfl, Lib.hid ⟨((HL1.out.1.alloc HL1.out.1.size _).alloc (by have := HL1.out.1.size; simp; omega) _).drew, (Blk.new W1 _ _).alloc _, Blk.new_ (by simp) _ _, (HL1.out.2.alloc _).alloc _⟩, by omega, by omega⟩
        | exact ⟨W1.heap.size + 1, W1.heap.size, rfl, rfl, Lib.hid ⟨((HL1.out.1.alloc HL1.out.1.size _).alloc (by have := HL1.out.1.size; simp; omega) _).drew, Blk.new_ (by simp) _ _, (Blk.new W1 _ _).alloc _, (HL1.out.2.alloc _).alloc _⟩, by omega, by omega⟩
  case rest =>
    obtain ⟨q7, q8, rfl, rfl, HC, hq7, hq8⟩ := hcut
    have x0 : wc.cell? ⟨q7, 0, none⟩ = some (.int .i64 op) := HC.out.2.1.cell rfl
    have WD := Lib.hid (fun W => word_any op W)
    obtain ⟨wd, hwd⟩ : ∃ x, wordC op = x := ⟨_, rfl⟩
    rw [hwd] at WD
    have HWD := Lib.hid hwd
    clear hwd e0 e1 e2 e3 y0 y1 y2 y3 d0
    go_upto_region 7 with (first
      | (go_at_call 39; refine (WD.out _).mono ?_; rintro e w2 ⟨rfl, hb⟩; have HW2 := Lib.hid hb; have B7 := HC.out.2.1.below hb HC.out.2.1.lt; have B8 := HC.out.2.2.1.below hb HC.out.2.2.1.lt; have L2 := HC.out.1.trans (hb.mono HC.out.1.size); have k2 : w2.cell? ⟨q8, 2, none⟩ = some (.slice pb 0 pbc) := B8.cell rfl; have k3 : w2.cell? ⟨q8, 3, none⟩ = some (.slice pn 0 pnc) := B8.cell rfl; have HL2 := Lib.hid L2; clear hb B7 B8 L2 WD)
      | fail)
    generalize hW3 : w2 = W3
    have L23 : Below w2.heap.size w2 W3 := by rw [← hW3]; exact Below.refl _ _
    have Lc3 := HW2.out.trans (L23.mono HW2.out.size)
    have L3 := HC.out.1.trans (Lc3.mono HC.out.1.size)
    have B7 := HC.out.2.1.below Lc3 HC.out.2.1.lt
    have B8 := HC.out.2.2.1.below Lc3 HC.out.2.2.1.lt
    have B0 := HC.out.2.2.2.below Lc3 HC.out.2.2.2.lt
    have BP := J.out.hp.below L3
    have BB := EB.out.below L3
    have BN := EN.out.below L3
    have x1 : W3.cell? ⟨q7, 1, none⟩ = some (.int .i64 arg) := B7.cell rfl
    have k1 : W3.cell? ⟨q8, 1, none⟩ = some (.int .i64 ph) := B8.cell rfl
    have k2 : W3.cell? ⟨q8, 2, none⟩ = some (.slice pb 0 pbc) := B8.cell rfl
    have k3 : W3.cell? ⟨q8, 3, none⟩ = some (.slice pn 0 pnc) := B8.cell rfl
    have d0 : W3.cell? ⟨W.heap.size, 0, none⟩ = some (.slice (some ⟨b, off, none⟩) ln lc) := B0.cell rfl
    have K3 := Lib.hid (And.intro L3 (And.intro B7 (And.intro B8 (And.intro B0 (And.intro BP (And.intro BB BN))))))
    clear hW3 L23 Lc3 L3 B7 B8 B0 BP BB BN x0
    go_upto_region 8 with fail
    go_cut [14] from 48 to 59 (fun v wd' => v = .bool (decide ((i : Int) < arg ∧ arg ≤ (ln : Int))) ∧ wd' = W3)
    case first =>
      by_cases hA1 : (i : Int) < arg
      · by_cases hA2 : arg ≤ (ln : Int)
        · go_wp2_with fail
          go_meet
          exact ⟨by simp [hA1, hA2] <;> omega, rfl⟩
        · go_wp2_with fail
          go_meet
          exact ⟨by simp [hA1, hA2] <;> omega, rfl⟩
      · go_wp2_with fail
        go_meet
        exact ⟨by simp [hA1] <;> omega, rfl⟩
    case rest =>
      obtain ⟨rfl, rfl⟩ := hcut
      obtain ⟨ah, hah⟩ : ∃ x, decide ((i : Int) < arg ∧ arg ≤ (ln : Int)) = x := ⟨_, rfl⟩
      rw [hah]
      have HAH := Lib.hid hah
      clear hah
      obtain rfl := HOP.out
      obtain rfl : wd = ⟨#[115, 116, 101, 112]⟩ := by rw [← HWD.out]; rfl
      go_wp2_with (first
        | (go_at_call 42; refine (leads_at (tn := i + 1) wc ((i : Int) + 1) (ph) (.slice pb 0 pbc) (.slice pn 0 pnc) (p.loops) (by omega) K3.out.2.2.2.2.1 (J.out.nl) (by have h1 := J.out.nl; have h2 := J.out.nc; have h3 := HIC.out; omega) (by have := J.out.nc; have := J.out.few; omega) (by have := hgf; omega) (by have := K3.out.2.2.2.2.2.1; rw [hl0] at this; exact this) (by have := K3.out.2.2.2.2.2.2; rw [hl0] at this; exact this)).mono ?_; rintro e w4 hled; have HLED := Lib.hid hled; obtain ⟨rfl, _⟩ := hled)
        | fail)
      go_ret
      rw [show insN cl l i p _ = leadN l (i + 1) (ph) p.loops from (by simp [insN, HPH.out, HBB.out])]
      exact LedK.from (grown_below K3.out.1 _) HLED.out
set_option maxRecDepth 100000 in
set_option maxHeartbeats 8000000 in
theorem st_b_n {W0 W : World} {g n c : Nat} {la : Option Addr} {ln lc : Nat} {cl : List Ins} {l : List Pl} {i : Nat} {p : Pl} {op arg : Int} (hop : op = 2 ∨ op = 3 ∨ op = 4 ∨ op = 5 ∨ op = 6 ∨ op = 7 ∨ op = 9) (int : Int) (text : ByteArray) (I : StPre W0 W g n c la ln lc cl l i p ⟨op, arg, int, text⟩) (hloops : p.loops ≠ []) :
    Calls Tryd.prog 21 #[.agg #[.slice la ln lc], .slice (some ⟨g, 0, none⟩) n c, .int .i64 i] W (LedK W g (insN cl l i p ⟨op, arg, int, text⟩)) := by
  obtain ⟨pbv, pnv, e0, e1, e2, e3, eb, en⟩ := I.hp.at_ I.hpi
  obtain ⟨pb, pbc, rfl⟩ := eb.form
  obtain ⟨pn, pnc, rfl⟩ := en.form
  simp only [List.length_map] at e2 e3
  have hic := (List.getElem?_eq_some_iff.1 I.hi).1
  have hn1 : (i : Int) < (n : Int) := by have := I.nc; omega
  have hi0 : (0 : Int) ≤ (i : Int) := Int.natCast_nonneg _
  have hi2 : (i : Int) ≤ 1024 := by have := I.few; omega
  have hg0 := I.good.b0
  have hg1 := I.good.bh
  have hg2 := I.good.hj
  have hgf := I.good.few
  have ha0 := I.arg0
  have hgl := I.hp.lt
  have hln : ln = cl.length := I.hl.len
  have hiln : (i : Int) < (ln : Int) := by omega
  obtain ⟨b, off, x, rfl, hbB, hxl, ⟨rfl, _⟩, hx⟩ := (I.hl.below I.hw).at_ I.hi
  have y0 := hx 0 _ rfl
  have y1 := hx 1 _ rfl
  have y2 := hx 2 _ rfl
  have y3 := hx 3 _ rfl
  simp only [Nat.add_zero] at y0
  simp only at ha0
  have hbl := cell_lt y0
  simp only at hbl
  have HLN := Lib.hid hln
  have J := Lib.hid I
  have EB := Lib.hid eb
  have EN := Lib.hid en
  simp only [List.length_map] at EB EN
  have HIC := Lib.hid hic
  have hcb : p.loops.length ≤ pbc ∧ pbc ≤ maxLen := by obtain ⟨_, _, h1, h2, h3, _⟩ := eb; injection h1 with _ _ h1; subst h1; simp only [List.length_map] at h2; exact ⟨h2, h3⟩
  have hcn : p.loops.length ≤ pnc ∧ pnc ≤ maxLen := by obtain ⟨_, _, h1, h2, h3, _⟩ := en; injection h1 with _ _ h1; subst h1; simp only [List.length_map] at h2; exact ⟨h2, h3⟩
  clear I eb en hx hxl hln hic
  obtain ⟨m, hm⟩ : ∃ m, p.loops.length = m + 1 := ⟨p.loops.length - 1, by have := List.length_pos_iff.2 hloops; omega⟩
  obtain ⟨lx, hlx⟩ : ∃ x, p.loops.getLast? = some x := by cases h : p.loops.getLast? with | none => exact absurd (List.getLast?_eq_none_iff.1 h) hloops | some x => exact ⟨x, rfl⟩
  have hb : p.base = lx.1 := by unfold Pl.base; rw [hlx]
  have hnx : p.next = lx.2 := by unfold Pl.next; rw [hlx]
  have HNX := Lib.hid hnx
  rw [hm] at e2 e3
  have eb2 := EB.out
  have en2 := EN.out
  rw [hm] at eb2 en2
  obtain ⟨gb, lbs, rfl, _, ⟨rfl, _⟩, hxl⟩ := eb2.last (show (p.loops.map (·.1)).getLast? = some lx.1 by rw [List.getLast?_map, hlx]; rfl)
  obtain ⟨gn, lns, rfl, _, ⟨rfl, _⟩, hyl⟩ := en2.last (show (p.loops.map (·.2)).getLast? = some lx.2 by rw [List.getLast?_map, hlx]; rfl)
  have l0 := hxl 0 _ rfl
  have l1 := hyl 0 _ rfl
  have hgbl := cell_lt l0
  have hgnl := cell_lt l1
  simp only [Nat.add_zero, Nat.mul_one] at l0 l1
  simp only at hgbl hgnl
  have hm1 : (m : Int) ≤ 1024 := by omega
  have hm0 : (0 : Int) ≤ (m : Int) := Int.natCast_nonneg _
  have hm2 : (0 : Int) < ((m + 1 : Nat) : Int) := by omega
  have hm3 : ((m + 1 : Nat) : Int) - 1 = (m : Int) := by omega
  have hm4 : (0 : Int) < (m : Int) + 1 := by omega
  have hm5 : (m : Int) < ((m + 1 : Nat) : Int) := by omega
  have hm7 : (m : Int) ≤ (pbc : Int) := by omega
  have hm8 : (m : Int) ≤ (pnc : Int) := by omega
  clear hxl hyl eb2 en2 hlx hnx
  rw [hb] at hg0 hg1
  obtain ⟨ph, hph⟩ : ∃ x, p.height = x := ⟨_, rfl⟩
  rw [hph] at e1 hg1 hg2
  have HPH := Lib.hid hph
  have HBB := Lib.hid hb
  clear hph hb
  have HOP := Lib.hid hop
  clear hop
  go_enter Tryd.func21, Tryd.ntmps21
  go_wp2_with fail
  generalize hW1 : World.alloc W _ = W1
  have L1 : Below W.heap.size W W1 := by rw [← hW1]; exact (Below.refl _ _).alloc (Nat.le_refl _) _
  have B0 : Blk W1 W.heap.size 24 #[.slice (some ⟨b, off, none⟩) ln lc] := by rw [← hW1]; exact Blk.new W _ _
  have s1 : W.heap.size < W1.heap.size := B0.lt
  have d0 : W1.cell? ⟨W.heap.size, 0, none⟩ = some (.slice (some ⟨b, off, none⟩) ln lc) := B0.cell rfl
  have e0 := (L1.cell (p := ⟨g, i * 4, none⟩) hgl).trans e0
  have e1 := (L1.cell (p := ⟨g, i * 4 + 1, none⟩) hgl).trans e1
  have e2 := (L1.cell (p := ⟨g, i * 4 + 2, none⟩) hgl).trans e2
  have e3 := (L1.cell (p := ⟨g, i * 4 + 3, none⟩) hgl).trans e3
  have y0 := (L1.cell (p := ⟨b, off + i * 4, none⟩) hbl).trans y0
  have y1 := (L1.cell (p := ⟨b, off + i * 4 + 1, none⟩) hbl).trans y1
  have y2 := (L1.cell (p := ⟨b, off + i * 4 + 2, none⟩) hbl).trans y2
  have y3 := (L1.cell (p := ⟨b, off + i * 4 + 3, none⟩) hbl).trans y3
  have hgl1 : g < W1.heap.size := by omega
  have hbl1 : b < W1.heap.size := by omega
  have HL1 := Lib.hid (And.intro L1 B0)
  clear hW1 L1 B0
  go_cut [7, 8] from 15 to 23 (fun v7 v8 wc => ∃ q7 q8 : Nat, v7 = .pointer (some ⟨q7, 0, none⟩) ∧ v8 = .pointer (some ⟨q8, 0, none⟩) ∧ Hid (Below W.heap.size W wc ∧ Blk wc q7 46 #[.int .i64 op, .int .i64 arg, .int .i64 int, .string text] ∧ Blk wc q8 66 #[.bool p.known, .int .i64 ph, .slice (some ⟨gb, 0, none⟩) (m + 1) pbc, .slice (some ⟨gn, 0, none⟩) (m + 1) pnc] ∧ Blk wc W.heap.size 24 #[.slice (some ⟨b, off, none⟩) ln lc]) ∧ W.heap.size ≤ q7 ∧ W.heap.size ≤ q8)
  case first =>
    go_region
    all_goals
      go_wp2_with fail
      go_meet
      first
        | exact ⟨W1.heap.size, W1.heap.size + 1, rfl, rfl, Lib.hid ⟨((HL1.out.1.alloc HL1.out.1.size _).alloc (by have := HL1.out.1.size; simp; omega) _).drew, (Blk.new W1 _ _).alloc _, Blk.new_ (by simp) _ _, (HL1.out.2.alloc _).alloc _⟩, by omega, by omega⟩
        | exact ⟨W1.heap.size + 1, W1.heap.size, rfl, rfl, Lib.hid ⟨((HL1.out.1.alloc HL1.out.1.size _).alloc (by have := HL1.out.1.size; simp; omega) _).drew, Blk.new_ (by simp) _ _, (Blk.new W1 _ _).alloc _, (HL1.out.2.alloc _).alloc _⟩, by omega, by omega⟩
  case rest =>
    obtain ⟨q7, q8, rfl, rfl, HC, hq7, hq8⟩ := hcut
    have x0 : wc.cell? ⟨q7, 0, none⟩ = some (.int .i64 op) := HC.out.2.1.cell rfl
    have WD := Lib.hid (fun W => word_any op W)
    obtain ⟨wd, hwd⟩ : ∃ x, wordC op = x := ⟨_, rfl⟩
    rw [hwd] at WD
    have HWD := Lib.hid hwd
    clear hwd e0 e1 e2 e3 y0 y1 y2 y3 d0
    go_wp2_with (first
      | (go_at_call 39; refine (WD.out _).mono ?_; rintro e w2 ⟨rfl, hb⟩; have HW2 := Lib.hid hb; have B7 := HC.out.2.1.below hb HC.out.2.1.lt; have B8 := HC.out.2.2.1.below hb HC.out.2.2.1.lt; have L2 := HC.out.1.trans (hb.mono HC.out.1.size); have k2 : w2.cell? ⟨q8, 2, none⟩ = some (.slice (some ⟨gb, 0, none⟩) (m + 1) pbc) := B8.cell rfl; have k3 : w2.cell? ⟨q8, 3, none⟩ = some (.slice (some ⟨gn, 0, none⟩) (m + 1) pnc) := B8.cell rfl; have HL2 := Lib.hid L2; have l0 := (L2.cell (p := ⟨gb, m, none⟩) hgbl).trans l0; have l1 := (L2.cell (p := ⟨gn, m, none⟩) hgnl).trans l1; clear hb B7 B8 L2 WD)
      | fail)
    go_quiet (fail)
    generalize hW3 : World.drewN w2 _ = W3
    have L23 : Below w2.heap.size w2 W3 := by rw [← hW3]; exact below_drewN (Below.refl _ _) _
    have Lc3 := HW2.out.trans (L23.mono HW2.out.size)
    have L3 := HC.out.1.trans (Lc3.mono HC.out.1.size)
    have B7 := HC.out.2.1.below Lc3 HC.out.2.1.lt
    have B8 := HC.out.2.2.1.below Lc3 HC.out.2.2.1.lt
    have B0 := HC.out.2.2.2.below Lc3 HC.out.2.2.2.lt
    have BP := J.out.hp.below L3
    have BB := EB.out.below L3
    have BN := EN.out.below L3
    have x1 : W3.cell? ⟨q7, 1, none⟩ = some (.int .i64 arg) := B7.cell rfl
    have k1 : W3.cell? ⟨q8, 1, none⟩ = some (.int .i64 ph) := B8.cell rfl
    have k2 : W3.cell? ⟨q8, 2, none⟩ = some (.slice (some ⟨gb, 0, none⟩) (m + 1) pbc) := B8.cell rfl
    have k3 : W3.cell? ⟨q8, 3, none⟩ = some (.slice (some ⟨gn, 0, none⟩) (m + 1) pnc) := B8.cell rfl
    have d0 : W3.cell? ⟨W.heap.size, 0, none⟩ = some (.slice (some ⟨b, off, none⟩) ln lc) := B0.cell rfl
    have K3 := Lib.hid (And.intro L3 (And.intro B7 (And.intro B8 (And.intro B0 (And.intro BP (And.intro BB BN))))))
    clear hW3 L23 Lc3 L3 B7 B8 B0 BP BB BN x0
    go_upto_region 8 with fail
    go_cut [14] from 48 to 59 (fun v wd' => v = .bool (decide ((i : Int) < arg ∧ arg ≤ (ln : Int))) ∧ wd' = W3)
    case first =>
      by_cases hA1 : (i : Int) < arg
      · by_cases hA2 : arg ≤ (ln : Int)
        · go_wp2_with fail
          go_meet
          exact ⟨by simp [hA1, hA2] <;> omega, rfl⟩
        · go_wp2_with fail
          go_meet
          exact ⟨by simp [hA1, hA2] <;> omega, rfl⟩
      · go_wp2_with fail
        go_meet
        exact ⟨by simp [hA1] <;> omega, rfl⟩
    case rest =>
      obtain ⟨rfl, rfl⟩ := hcut
      obtain ⟨ah, hah⟩ : ∃ x, decide ((i : Int) < arg ∧ arg ≤ (ln : Int)) = x := ⟨_, rfl⟩
      rw [hah]
      have HAH := Lib.hid hah
      clear hah
      rcases HOP.out with rfl | rfl | rfl | rfl | rfl | rfl | rfl
      all_goals
        first
          | (have hwl : wd = ⟨#[105, 110, 116]⟩ := (by rw [← HWD.out]; rfl); subst hwl)
          | (have hwl : wd = ⟨#[116, 101, 120, 116]⟩ := (by rw [← HWD.out]; rfl); subst hwl)
          | (have hwl : wd = ⟨#[116, 114, 117, 101]⟩ := (by rw [← HWD.out]; rfl); subst hwl)
          | (have hwl : wd = ⟨#[102, 97, 108, 115, 101]⟩ := (by rw [← HWD.out]; rfl); subst hwl)
          | (have hwl : wd = ⟨#[115, 101, 108, 102]⟩ := (by rw [← HWD.out]; rfl); subst hwl)
          | (have hwl : wd = ⟨#[110, 111, 110, 101]⟩ := (by rw [← HWD.out]; rfl); subst hwl)
          | (have hwl : wd = ⟨#[102, 114, 101, 101]⟩ := (by rw [← HWD.out]; rfl); subst hwl)
        go_wp2_with (first
          | (go_at_call 42; refine (leads_at (tn := i + 1) wc ((i : Int) + 1) (ph + 1) (.slice (some ⟨gb, 0, none⟩) (m + 1) pbc) (.slice (some ⟨gn, 0, none⟩) (m + 1) pnc) (p.loops) (by omega) K3.out.2.2.2.2.1 (J.out.nl) (by have h1 := J.out.nl; have h2 := J.out.nc; have h3 := HIC.out; omega) (by have := J.out.nc; have := J.out.few; omega) (by have := hgf; omega) (by have := K3.out.2.2.2.2.2.1; rw [hm] at this; exact this) (by have := K3.out.2.2.2.2.2.2; rw [hm] at this; exact this)).mono ?_; rintro e w4 hled; have HLED := Lib.hid hled; obtain ⟨rfl, _⟩ := hled)
          | fail)
        go_ret
        rw [show insN cl l i p _ = leadN l (i + 1) (ph + 1) p.loops from (by simp [insN, HPH.out])]
        exact LedK.from (grown_below K3.out.1 _) HLED.out
set_option maxRecDepth 100000 in
set_option maxHeartbeats 8000000 in
theorem st_b_e {W0 W : World} {g n c : Nat} {la : Option Addr} {ln lc : Nat} {cl : List Ins} {l : List Pl} {i : Nat} {p : Pl} {op arg : Int} (hop : op = 2 ∨ op = 3 ∨ op = 4 ∨ op = 5 ∨ op = 6 ∨ op = 7 ∨ op = 9) (int : Int) (text : ByteArray) (I : StPre W0 W g n c la ln lc cl l i p ⟨op, arg, int, text⟩) (hloops : p.loops = []) :
    Calls Tryd.prog 21 #[.agg #[.slice la ln lc], .slice (some ⟨g, 0, none⟩) n c, .int .i64 i] W (LedK W g (insN cl l i p ⟨op, arg, int, text⟩)) := by
  obtain ⟨pbv, pnv, e0, e1, e2, e3, eb, en⟩ := I.hp.at_ I.hpi
  obtain ⟨pb, pbc, rfl⟩ := eb.form
  obtain ⟨pn, pnc, rfl⟩ := en.form
  simp only [List.length_map] at e2 e3
  have hic := (List.getElem?_eq_some_iff.1 I.hi).1
  have hn1 : (i : Int) < (n : Int) := by have := I.nc; omega
  have hi0 : (0 : Int) ≤ (i : Int) := Int.natCast_nonneg _
  have hi2 : (i : Int) ≤ 1024 := by have := I.few; omega
  have hg0 := I.good.b0
  have hg1 := I.good.bh
  have hg2 := I.good.hj
  have hgf := I.good.few
  have ha0 := I.arg0
  have hgl := I.hp.lt
  have hln : ln = cl.length := I.hl.len
  have hiln : (i : Int) < (ln : Int) := by omega
  obtain ⟨b, off, x, rfl, hbB, hxl, ⟨rfl, _⟩, hx⟩ := (I.hl.below I.hw).at_ I.hi
  have y0 := hx 0 _ rfl
  have y1 := hx 1 _ rfl
  have y2 := hx 2 _ rfl
  have y3 := hx 3 _ rfl
  simp only [Nat.add_zero] at y0
  simp only at ha0
  have hbl := cell_lt y0
  simp only at hbl
  have HLN := Lib.hid hln
  have J := Lib.hid I
  have EB := Lib.hid eb
  have EN := Lib.hid en
  simp only [List.length_map] at EB EN
  have HIC := Lib.hid hic
  have hcb : p.loops.length ≤ pbc ∧ pbc ≤ maxLen := by obtain ⟨_, _, h1, h2, h3, _⟩ := eb; injection h1 with _ _ h1; subst h1; simp only [List.length_map] at h2; exact ⟨h2, h3⟩
  have hcn : p.loops.length ≤ pnc ∧ pnc ≤ maxLen := by obtain ⟨_, _, h1, h2, h3, _⟩ := en; injection h1 with _ _ h1; subst h1; simp only [List.length_map] at h2; exact ⟨h2, h3⟩
  clear I eb en hx hxl hln hic
  have hb : p.base = 0 := by unfold Pl.base; rw [hloops]; rfl
  have hl0 : p.loops.length = 0 := by rw [hloops]; rfl
  rw [hl0] at e2 e3
  have HLP := Lib.hid hloops
  clear hloops
  rw [hb] at hg0 hg1
  obtain ⟨ph, hph⟩ : ∃ x, p.height = x := ⟨_, rfl⟩
  rw [hph] at e1 hg1 hg2
  have HPH := Lib.hid hph
  have HBB := Lib.hid hb
  clear hph hb
  have HOP := Lib.hid hop
  clear hop
  go_enter Tryd.func21, Tryd.ntmps21
  go_wp2_with fail
  generalize hW1 : World.alloc W _ = W1
  have L1 : Below W.heap.size W W1 := by rw [← hW1]; exact (Below.refl _ _).alloc (Nat.le_refl _) _
  have B0 : Blk W1 W.heap.size 24 #[.slice (some ⟨b, off, none⟩) ln lc] := by rw [← hW1]; exact Blk.new W _ _
  have s1 : W.heap.size < W1.heap.size := B0.lt
  have d0 : W1.cell? ⟨W.heap.size, 0, none⟩ = some (.slice (some ⟨b, off, none⟩) ln lc) := B0.cell rfl
  have e0 := (L1.cell (p := ⟨g, i * 4, none⟩) hgl).trans e0
  have e1 := (L1.cell (p := ⟨g, i * 4 + 1, none⟩) hgl).trans e1
  have e2 := (L1.cell (p := ⟨g, i * 4 + 2, none⟩) hgl).trans e2
  have e3 := (L1.cell (p := ⟨g, i * 4 + 3, none⟩) hgl).trans e3
  have y0 := (L1.cell (p := ⟨b, off + i * 4, none⟩) hbl).trans y0
  have y1 := (L1.cell (p := ⟨b, off + i * 4 + 1, none⟩) hbl).trans y1
  have y2 := (L1.cell (p := ⟨b, off + i * 4 + 2, none⟩) hbl).trans y2
  have y3 := (L1.cell (p := ⟨b, off + i * 4 + 3, none⟩) hbl).trans y3
  have hgl1 : g < W1.heap.size := by omega
  have hbl1 : b < W1.heap.size := by omega
  have HL1 := Lib.hid (And.intro L1 B0)
  clear hW1 L1 B0
  go_cut [7, 8] from 15 to 23 (fun v7 v8 wc => ∃ q7 q8 : Nat, v7 = .pointer (some ⟨q7, 0, none⟩) ∧ v8 = .pointer (some ⟨q8, 0, none⟩) ∧ Hid (Below W.heap.size W wc ∧ Blk wc q7 46 #[.int .i64 op, .int .i64 arg, .int .i64 int, .string text] ∧ Blk wc q8 66 #[.bool p.known, .int .i64 ph, .slice pb 0 pbc, .slice pn 0 pnc] ∧ Blk wc W.heap.size 24 #[.slice (some ⟨b, off, none⟩) ln lc]) ∧ W.heap.size ≤ q7 ∧ W.heap.size ≤ q8)
  case first =>
    go_region
    all_goals
      go_wp2_with fail
      go_meet
      first
        | exact ⟨W1.heap.size, W1.heap.size + 1, rfl, rfl, Lib.hid ⟨((HL1.out.1.alloc HL1.out.1.size _).alloc (by have := HL1.out.1.size; simp; omega) _).drew, (Blk.new W1 _ _).alloc _, Blk.new_ (by simp) _ _, (HL1.out.2.alloc _).alloc _⟩, by omega, by omega⟩
        | exact ⟨W1.heap.size + 1, W1.heap.size, rfl, rfl, Lib.hid ⟨((HL1.out.1.alloc HL1.out.1.size _).alloc (by have := HL1.out.1.size; simp; omega) _).drew, Blk.new_ (by simp) _ _, (Blk.new W1 _ _).alloc _, (HL1.out.2.alloc _).alloc _⟩, by omega, by omega⟩
  case rest =>
    obtain ⟨q7, q8, rfl, rfl, HC, hq7, hq8⟩ := hcut
    have x0 : wc.cell? ⟨q7, 0, none⟩ = some (.int .i64 op) := HC.out.2.1.cell rfl
    have WD := Lib.hid (fun W => word_any op W)
    obtain ⟨wd, hwd⟩ : ∃ x, wordC op = x := ⟨_, rfl⟩
    rw [hwd] at WD
    have HWD := Lib.hid hwd
    clear hwd e0 e1 e2 e3 y0 y1 y2 y3 d0
    go_upto_region 7 with (first
      | (go_at_call 39; refine (WD.out _).mono ?_; rintro e w2 ⟨rfl, hb⟩; have HW2 := Lib.hid hb; have B7 := HC.out.2.1.below hb HC.out.2.1.lt; have B8 := HC.out.2.2.1.below hb HC.out.2.2.1.lt; have L2 := HC.out.1.trans (hb.mono HC.out.1.size); have k2 : w2.cell? ⟨q8, 2, none⟩ = some (.slice pb 0 pbc) := B8.cell rfl; have k3 : w2.cell? ⟨q8, 3, none⟩ = some (.slice pn 0 pnc) := B8.cell rfl; have HL2 := Lib.hid L2; clear hb B7 B8 L2 WD)
      | fail)
    generalize hW3 : w2 = W3
    have L23 : Below w2.heap.size w2 W3 := by rw [← hW3]; exact Below.refl _ _
    have Lc3 := HW2.out.trans (L23.mono HW2.out.size)
    have L3 := HC.out.1.trans (Lc3.mono HC.out.1.size)
    have B7 := HC.out.2.1.below Lc3 HC.out.2.1.lt
    have B8 := HC.out.2.2.1.below Lc3 HC.out.2.2.1.lt
    have B0 := HC.out.2.2.2.below Lc3 HC.out.2.2.2.lt
    have BP := J.out.hp.below L3
    have BB := EB.out.below L3
    have BN := EN.out.below L3
    have x1 : W3.cell? ⟨q7, 1, none⟩ = some (.int .i64 arg) := B7.cell rfl
    have k1 : W3.cell? ⟨q8, 1, none⟩ = some (.int .i64 ph) := B8.cell rfl
    have k2 : W3.cell? ⟨q8, 2, none⟩ = some (.slice pb 0 pbc) := B8.cell rfl
    have k3 : W3.cell? ⟨q8, 3, none⟩ = some (.slice pn 0 pnc) := B8.cell rfl
    have d0 : W3.cell? ⟨W.heap.size, 0, none⟩ = some (.slice (some ⟨b, off, none⟩) ln lc) := B0.cell rfl
    have K3 := Lib.hid (And.intro L3 (And.intro B7 (And.intro B8 (And.intro B0 (And.intro BP (And.intro BB BN))))))
    clear hW3 L23 Lc3 L3 B7 B8 B0 BP BB BN x0
    go_upto_region 8 with fail
    go_cut [14] from 48 to 59 (fun v wd' => v = .bool (decide ((i : Int) < arg ∧ arg ≤ (ln : Int))) ∧ wd' = W3)
    case first =>
      by_cases hA1 : (i : Int) < arg
      · by_cases hA2 : arg ≤ (ln : Int)
        · go_wp2_with fail
          go_meet
          exact ⟨by simp [hA1, hA2] <;> omega, rfl⟩
        · go_wp2_with fail
          go_meet
          exact ⟨by simp [hA1, hA2] <;> omega, rfl⟩
      · go_wp2_with fail
        go_meet
        exact ⟨by simp [hA1] <;> omega, rfl⟩
    case rest =>
      obtain ⟨rfl, rfl⟩ := hcut
      obtain ⟨ah, hah⟩ : ∃ x, decide ((i : Int) < arg ∧ arg ≤ (ln : Int)) = x := ⟨_, rfl⟩
      rw [hah]
      have HAH := Lib.hid hah
      clear hah
      rcases HOP.out with rfl | rfl | rfl | rfl | rfl | rfl | rfl
      all_goals
        first
          | (have hwl : wd = ⟨#[105, 110, 116]⟩ := (by rw [← HWD.out]; rfl); subst hwl)
          | (have hwl : wd = ⟨#[116, 101, 120, 116]⟩ := (by rw [← HWD.out]; rfl); subst hwl)
          | (have hwl : wd = ⟨#[116, 114, 117, 101]⟩ := (by rw [← HWD.out]; rfl); subst hwl)
          | (have hwl : wd = ⟨#[102, 97, 108, 115, 101]⟩ := (by rw [← HWD.out]; rfl); subst hwl)
          | (have hwl : wd = ⟨#[115, 101, 108, 102]⟩ := (by rw [← HWD.out]; rfl); subst hwl)
          | (have hwl : wd = ⟨#[110, 111, 110, 101]⟩ := (by rw [← HWD.out]; rfl); subst hwl)
          | (have hwl : wd = ⟨#[102, 114, 101, 101]⟩ := (by rw [← HWD.out]; rfl); subst hwl)
        go_wp2_with (first
          | (go_at_call 42; refine (leads_at (tn := i + 1) wc ((i : Int) + 1) (ph + 1) (.slice pb 0 pbc) (.slice pn 0 pnc) (p.loops) (by omega) K3.out.2.2.2.2.1 (J.out.nl) (by have h1 := J.out.nl; have h2 := J.out.nc; have h3 := HIC.out; omega) (by have := J.out.nc; have := J.out.few; omega) (by have := hgf; omega) (by have := K3.out.2.2.2.2.2.1; rw [hl0] at this; exact this) (by have := K3.out.2.2.2.2.2.2; rw [hl0] at this; exact this)).mono ?_; rintro e w4 hled; have HLED := Lib.hid hled; obtain ⟨rfl, _⟩ := hled)
          | fail)
        go_ret
        rw [show insN cl l i p _ = leadN l (i + 1) (ph + 1) p.loops from (by simp [insN, HPH.out])]
        exact LedK.from (grown_below K3.out.1 _) HLED.out
set_option maxRecDepth 100000 in
set_option maxHeartbeats 8000000 in
theorem st_c_n {W0 W : World} {g n c : Nat} {la : Option Addr} {ln lc : Nat} {cl : List Ins} {l : List Pl} {i : Nat} {p : Pl} {op arg : Int} (hop : op = 8) (int : Int) (text : ByteArray) (I : StPre W0 W g n c la ln lc cl l i p ⟨op, arg, int, text⟩) (hloops : p.loops ≠ []) :
    Calls Tryd.prog 21 #[.agg #[.slice la ln lc], .slice (some ⟨g, 0, none⟩) n c, .int .i64 i] W (LedK W g (insN cl l i p ⟨op, arg, int, text⟩)) := by
  obtain ⟨pbv, pnv, e0, e1, e2, e3, eb, en⟩ := I.hp.at_ I.hpi
  obtain ⟨pb, pbc, rfl⟩ := eb.form
  obtain ⟨pn, pnc, rfl⟩ := en.form
  simp only [List.length_map] at e2 e3
  have hic := (List.getElem?_eq_some_iff.1 I.hi).1
  have hn1 : (i : Int) < (n : Int) := by have := I.nc; omega
  have hi0 : (0 : Int) ≤ (i : Int) := Int.natCast_nonneg _
  have hi2 : (i : Int) ≤ 1024 := by have := I.few; omega
  have hg0 := I.good.b0
  have hg1 := I.good.bh
  have hg2 := I.good.hj
  have hgf := I.good.few
  have ha0 := I.arg0
  have hgl := I.hp.lt
  have hln : ln = cl.length := I.hl.len
  have hiln : (i : Int) < (ln : Int) := by omega
  obtain ⟨b, off, x, rfl, hbB, hxl, ⟨rfl, _⟩, hx⟩ := (I.hl.below I.hw).at_ I.hi
  have y0 := hx 0 _ rfl
  have y1 := hx 1 _ rfl
  have y2 := hx 2 _ rfl
  have y3 := hx 3 _ rfl
  simp only [Nat.add_zero] at y0
  simp only at ha0
  have hbl := cell_lt y0
  simp only at hbl
  have HLN := Lib.hid hln
  have J := Lib.hid I
  have EB := Lib.hid eb
  have EN := Lib.hid en
  simp only [List.length_map] at EB EN
  have HIC := Lib.hid hic
  have hcb : p.loops.length ≤ pbc ∧ pbc ≤ maxLen := by obtain ⟨_, _, h1, h2, h3, _⟩ := eb; injection h1 with _ _ h1; subst h1; simp only [List.length_map] at h2; exact ⟨h2, h3⟩
  have hcn : p.loops.length ≤ pnc ∧ pnc ≤ maxLen := by obtain ⟨_, _, h1, h2, h3, _⟩ := en; injection h1 with _ _ h1; subst h1; simp only [List.length_map] at h2; exact ⟨h2, h3⟩
  clear I eb en hx hxl hln hic
  obtain ⟨m, hm⟩ : ∃ m, p.loops.length = m + 1 := ⟨p.loops.length - 1, by have := List.length_pos_iff.2 hloops; omega⟩
  obtain ⟨lx, hlx⟩ : ∃ x, p.loops.getLast? = some x := by cases h : p.loops.getLast? with | none => exact absurd (List.getLast?_eq_none_iff.1 h) hloops | some x => exact ⟨x, rfl⟩
  have hb : p.base = lx.1 := by unfold Pl.base; rw [hlx]
  have hnx : p.next = lx.2 := by unfold Pl.next; rw [hlx]
  have HNX := Lib.hid hnx
  rw [hm] at e2 e3
  have eb2 := EB.out
  have en2 := EN.out
  rw [hm] at eb2 en2
  obtain ⟨gb, lbs, rfl, _, ⟨rfl, _⟩, hxl⟩ := eb2.last (show (p.loops.map (·.1)).getLast? = some lx.1 by rw [List.getLast?_map, hlx]; rfl)
  obtain ⟨gn, lns, rfl, _, ⟨rfl, _⟩, hyl⟩ := en2.last (show (p.loops.map (·.2)).getLast? = some lx.2 by rw [List.getLast?_map, hlx]; rfl)
  have l0 := hxl 0 _ rfl
  have l1 := hyl 0 _ rfl
  have hgbl := cell_lt l0
  have hgnl := cell_lt l1
  simp only [Nat.add_zero, Nat.mul_one] at l0 l1
  simp only at hgbl hgnl
  have hm1 : (m : Int) ≤ 1024 := by omega
  have hm0 : (0 : Int) ≤ (m : Int) := Int.natCast_nonneg _
  have hm2 : (0 : Int) < ((m + 1 : Nat) : Int) := by omega
  have hm3 : ((m + 1 : Nat) : Int) - 1 = (m : Int) := by omega
  have hm4 : (0 : Int) < (m : Int) + 1 := by omega
  have hm5 : (m : Int) < ((m + 1 : Nat) : Int) := by omega
  have hm7 : (m : Int) ≤ (pbc : Int) := by omega
  have hm8 : (m : Int) ≤ (pnc : Int) := by omega
  clear hxl hyl eb2 en2 hlx hnx
  rw [hb] at hg0 hg1
  obtain ⟨ph, hph⟩ : ∃ x, p.height = x := ⟨_, rfl⟩
  rw [hph] at e1 hg1 hg2
  have HPH := Lib.hid hph
  have HBB := Lib.hid hb
  clear hph hb
  have HOP := Lib.hid hop
  clear hop
  go_enter Tryd.func21, Tryd.ntmps21
  go_wp2_with fail
  generalize hW1 : World.alloc W _ = W1
  have L1 : Below W.heap.size W W1 := by rw [← hW1]; exact (Below.refl _ _).alloc (Nat.le_refl _) _
  have B0 : Blk W1 W.heap.size 24 #[.slice (some ⟨b, off, none⟩) ln lc] := by rw [← hW1]; exact Blk.new W _ _
  have s1 : W.heap.size < W1.heap.size := B0.lt
  have d0 : W1.cell? ⟨W.heap.size, 0, none⟩ = some (.slice (some ⟨b, off, none⟩) ln lc) := B0.cell rfl
  have e0 := (L1.cell (p := ⟨g, i * 4, none⟩) hgl).trans e0
  have e1 := (L1.cell (p := ⟨g, i * 4 + 1, none⟩) hgl).trans e1
  have e2 := (L1.cell (p := ⟨g, i * 4 + 2, none⟩) hgl).trans e2
  have e3 := (L1.cell (p := ⟨g, i * 4 + 3, none⟩) hgl).trans e3
  have y0 := (L1.cell (p := ⟨b, off + i * 4, none⟩) hbl).trans y0
  have y1 := (L1.cell (p := ⟨b, off + i * 4 + 1, none⟩) hbl).trans y1
  have y2 := (L1.cell (p := ⟨b, off + i * 4 + 2, none⟩) hbl).trans y2
  have y3 := (L1.cell (p := ⟨b, off + i * 4 + 3, none⟩) hbl).trans y3
  have hgl1 : g < W1.heap.size := by omega
  have hbl1 : b < W1.heap.size := by omega
  have HL1 := Lib.hid (And.intro L1 B0)
  clear hW1 L1 B0
  go_cut [7, 8] from 15 to 23 (fun v7 v8 wc => ∃ q7 q8 : Nat, v7 = .pointer (some ⟨q7, 0, none⟩) ∧ v8 = .pointer (some ⟨q8, 0, none⟩) ∧ Hid (Below W.heap.size W wc ∧ Blk wc q7 46 #[.int .i64 op, .int .i64 arg, .int .i64 int, .string text] ∧ Blk wc q8 66 #[.bool p.known, .int .i64 ph, .slice (some ⟨gb, 0, none⟩) (m + 1) pbc, .slice (some ⟨gn, 0, none⟩) (m + 1) pnc] ∧ Blk wc W.heap.size 24 #[.slice (some ⟨b, off, none⟩) ln lc]) ∧ W.heap.size ≤ q7 ∧ W.heap.size ≤ q8)
  case first =>
    go_region
    all_goals
      go_wp2_with fail
      go_meet
      first
        | exact ⟨W1.heap.size, W1.heap.size + 1, rfl, rfl, Lib.hid ⟨((HL1.out.1.alloc HL1.out.1.size _).alloc (by have := HL1.out.1.size; simp; omega) _).drew, (Blk.new W1 _ _).alloc _, Blk.new_ (by simp) _ _, (HL1.out.2.alloc _).alloc _⟩, by omega, by omega⟩
        | exact ⟨W1.heap.size + 1, W1.heap.size, rfl, rfl, Lib.hid ⟨((HL1.out.1.alloc HL1.out.1.size _).alloc (by have := HL1.out.1.size; simp; omega) _).drew, Blk.new_ (by simp) _ _, (Blk.new W1 _ _).alloc _, (HL1.out.2.alloc _).alloc _⟩, by omega, by omega⟩
  case rest =>
    obtain ⟨q7, q8, rfl, rfl, HC, hq7, hq8⟩ := hcut
    have x0 : wc.cell? ⟨q7, 0, none⟩ = some (.int .i64 op) := HC.out.2.1.cell rfl
    have WD := Lib.hid (fun W => word_any op W)
    obtain ⟨wd, hwd⟩ : ∃ x, wordC op = x := ⟨_, rfl⟩
    rw [hwd] at WD
    have HWD := Lib.hid hwd
    clear hwd e0 e1 e2 e3 y0 y1 y2 y3 d0
    go_wp2_with (first
      | (go_at_call 39; refine (WD.out _).mono ?_; rintro e w2 ⟨rfl, hb⟩; have HW2 := Lib.hid hb; have B7 := HC.out.2.1.below hb HC.out.2.1.lt; have B8 := HC.out.2.2.1.below hb HC.out.2.2.1.lt; have L2 := HC.out.1.trans (hb.mono HC.out.1.size); have k2 : w2.cell? ⟨q8, 2, none⟩ = some (.slice (some ⟨gb, 0, none⟩) (m + 1) pbc) := B8.cell rfl; have k3 : w2.cell? ⟨q8, 3, none⟩ = some (.slice (some ⟨gn, 0, none⟩) (m + 1) pnc) := B8.cell rfl; have HL2 := Lib.hid L2; have l0 := (L2.cell (p := ⟨gb, m, none⟩) hgbl).trans l0; have l1 := (L2.cell (p := ⟨gn, m, none⟩) hgnl).trans l1; clear hb B7 B8 L2 WD)
      | fail)
    go_quiet (fail)
    generalize hW3 : World.drewN w2 _ = W3
    have L23 : Below w2.heap.size w2 W3 := by rw [← hW3]; exact below_drewN (Below.refl _ _) _
    have Lc3 := HW2.out.trans (L23.mono HW2.out.size)
    have L3 := HC.out.1.trans (Lc3.mono HC.out.1.size)
    have B7 := HC.out.2.1.below Lc3 HC.out.2.1.lt
    have B8 := HC.out.2.2.1.below Lc3 HC.out.2.2.1.lt
    have B0 := HC.out.2.2.2.below Lc3 HC.out.2.2.2.lt
    have BP := J.out.hp.below L3
    have BB := EB.out.below L3
    have BN := EN.out.below L3
    have x1 : W3.cell? ⟨q7, 1, none⟩ = some (.int .i64 arg) := B7.cell rfl
    have k1 : W3.cell? ⟨q8, 1, none⟩ = some (.int .i64 ph) := B8.cell rfl
    have k2 : W3.cell? ⟨q8, 2, none⟩ = some (.slice (some ⟨gb, 0, none⟩) (m + 1) pbc) := B8.cell rfl
    have k3 : W3.cell? ⟨q8, 3, none⟩ = some (.slice (some ⟨gn, 0, none⟩) (m + 1) pnc) := B8.cell rfl
    have d0 : W3.cell? ⟨W.heap.size, 0, none⟩ = some (.slice (some ⟨b, off, none⟩) ln lc) := B0.cell rfl
    have K3 := Lib.hid (And.intro L3 (And.intro B7 (And.intro B8 (And.intro B0 (And.intro BP (And.intro BB BN))))))
    clear hW3 L23 Lc3 L3 B7 B8 B0 BP BB BN x0
    go_upto_region 8 with fail
    go_cut [14] from 48 to 59 (fun v wd' => v = .bool (decide ((i : Int) < arg ∧ arg ≤ (ln : Int))) ∧ wd' = W3)
    case first =>
      by_cases hA1 : (i : Int) < arg
      · by_cases hA2 : arg ≤ (ln : Int)
        · go_wp2_with fail
          go_meet
          exact ⟨by simp [hA1, hA2] <;> omega, rfl⟩
        · go_wp2_with fail
          go_meet
          exact ⟨by simp [hA1, hA2] <;> omega, rfl⟩
      · go_wp2_with fail
        go_meet
        exact ⟨by simp [hA1] <;> omega, rfl⟩
    case rest =>
      obtain ⟨rfl, rfl⟩ := hcut
      obtain ⟨ah, hah⟩ : ∃ x, decide ((i : Int) < arg ∧ arg ≤ (ln : Int)) = x := ⟨_, rfl⟩
      rw [hah]
      have HAH := Lib.hid hah
      clear hah
      obtain rfl := HOP.out
      obtain rfl : wd = ⟨#[108, 111, 97, 100]⟩ := by rw [← HWD.out]; rfl
      by_cases hlt : arg < (m : Int) + 1
      · have hlt2 : arg < ((m + 1 : Nat) : Int) := by omega
        go_wp2_with (first
          | (go_at_call 42; refine (leads_at (tn := i + 1) wc ((i : Int) + 1) (ph + 1) (.slice (some ⟨gb, 0, none⟩) (m + 1) pbc) (.slice (some ⟨gn, 0, none⟩) (m + 1) pnc) (p.loops) (by omega) K3.out.2.2.2.2.1 (J.out.nl) (by have h1 := J.out.nl; have h2 := J.out.nc; have h3 := HIC.out; omega) (by have := J.out.nc; have := J.out.few; omega) (by have := hgf; omega) (by have := K3.out.2.2.2.2.2.1; rw [hm] at this; exact this) (by have := K3.out.2.2.2.2.2.2; rw [hm] at this; exact this)).mono ?_; rintro e w4 hled; have HLED := Lib.hid hled; obtain ⟨rfl, _⟩ := hled)
          | fail)
        go_ret
        rw [show insN cl l i p _ = leadN l (i + 1) (ph + 1) p.loops from (by simp [insN, HPH.out, hm]; omega)]
        exact LedK.from (grown_below K3.out.1 _) HLED.out
      · have hlt2 : ¬ arg < ((m + 1 : Nat) : Int) := by omega
        go_wp2_with fail
        go_ret
        rw [show insN cl l i p _ = none from (by simp [insN, hm]; omega)]
        exact LedK.none (grown_below K3.out.1 _)
set_option maxRecDepth 100000 in
set_option maxHeartbeats 8000000 in
theorem st_c_e {W0 W : World} {g n c : Nat} {la : Option Addr} {ln lc : Nat} {cl : List Ins} {l : List Pl} {i : Nat} {p : Pl} {op arg : Int} (hop : op = 8) (int : Int) (text : ByteArray) (I : StPre W0 W g n c la ln lc cl l i p ⟨op, arg, int, text⟩) (hloops : p.loops = []) :
    Calls Tryd.prog 21 #[.agg #[.slice la ln lc], .slice (some ⟨g, 0, none⟩) n c, .int .i64 i] W (LedK W g (insN cl l i p ⟨op, arg, int, text⟩)) := by
  obtain ⟨pbv, pnv, e0, e1, e2, e3, eb, en⟩ := I.hp.at_ I.hpi
  obtain ⟨pb, pbc, rfl⟩ := eb.form
  obtain ⟨pn, pnc, rfl⟩ := en.form
  simp only [List.length_map] at e2 e3
  have hic := (List.getElem?_eq_some_iff.1 I.hi).1
  have hn1 : (i : Int) < (n : Int) := by have := I.nc; omega
  have hi0 : (0 : Int) ≤ (i : Int) := Int.natCast_nonneg _
  have hi2 : (i : Int) ≤ 1024 := by have := I.few; omega
  have hg0 := I.good.b0
  have hg1 := I.good.bh
  have hg2 := I.good.hj
  have hgf := I.good.few
  have ha0 := I.arg0
  have hgl := I.hp.lt
  have hln : ln = cl.length := I.hl.len
  have hiln : (i : Int) < (ln : Int) := by omega
  obtain ⟨b, off, x, rfl, hbB, hxl, ⟨rfl, _⟩, hx⟩ := (I.hl.below I.hw).at_ I.hi
  have y0 := hx 0 _ rfl
  have y1 := hx 1 _ rfl
  have y2 := hx 2 _ rfl
  have y3 := hx 3 _ rfl
  simp only [Nat.add_zero] at y0
  simp only at ha0
  have hbl := cell_lt y0
  simp only at hbl
  have HLN := Lib.hid hln
  have J := Lib.hid I
  have EB := Lib.hid eb
  have EN := Lib.hid en
  simp only [List.length_map] at EB EN
  have HIC := Lib.hid hic
  have hcb : p.loops.length ≤ pbc ∧ pbc ≤ maxLen := by obtain ⟨_, _, h1, h2, h3, _⟩ := eb; injection h1 with _ _ h1; subst h1; simp only [List.length_map] at h2; exact ⟨h2, h3⟩
  have hcn : p.loops.length ≤ pnc ∧ pnc ≤ maxLen := by obtain ⟨_, _, h1, h2, h3, _⟩ := en; injection h1 with _ _ h1; subst h1; simp only [List.length_map] at h2; exact ⟨h2, h3⟩
  clear I eb en hx hxl hln hic
  have hb : p.base = 0 := by unfold Pl.base; rw [hloops]; rfl
  have hl0 : p.loops.length = 0 := by rw [hloops]; rfl
  rw [hl0] at e2 e3
  have HLP := Lib.hid hloops
  clear hloops
  rw [hb] at hg0 hg1
  obtain ⟨ph, hph⟩ : ∃ x, p.height = x := ⟨_, rfl⟩
  rw [hph] at e1 hg1 hg2
  have HPH := Lib.hid hph
  have HBB := Lib.hid hb
  clear hph hb
  have HOP := Lib.hid hop
  clear hop
  go_enter Tryd.func21, Tryd.ntmps21
  go_wp2_with fail
  generalize hW1 : World.alloc W _ = W1
  have L1 : Below W.heap.size W W1 := by rw [← hW1]; exact (Below.refl _ _).alloc (Nat.le_refl _) _
  have B0 : Blk W1 W.heap.size 24 #[.slice (some ⟨b, off, none⟩) ln lc] := by rw [← hW1]; exact Blk.new W _ _
  have s1 : W.heap.size < W1.heap.size := B0.lt
  have d0 : W1.cell? ⟨W.heap.size, 0, none⟩ = some (.slice (some ⟨b, off, none⟩) ln lc) := B0.cell rfl
  have e0 := (L1.cell (p := ⟨g, i * 4, none⟩) hgl).trans e0
  have e1 := (L1.cell (p := ⟨g, i * 4 + 1, none⟩) hgl).trans e1
  have e2 := (L1.cell (p := ⟨g, i * 4 + 2, none⟩) hgl).trans e2
  have e3 := (L1.cell (p := ⟨g, i * 4 + 3, none⟩) hgl).trans e3
  have y0 := (L1.cell (p := ⟨b, off + i * 4, none⟩) hbl).trans y0
  have y1 := (L1.cell (p := ⟨b, off + i * 4 + 1, none⟩) hbl).trans y1
  have y2 := (L1.cell (p := ⟨b, off + i * 4 + 2, none⟩) hbl).trans y2
  have y3 := (L1.cell (p := ⟨b, off + i * 4 + 3, none⟩) hbl).trans y3
  have hgl1 : g < W1.heap.size := by omega
  have hbl1 : b < W1.heap.size := by omega
  have HL1 := Lib.hid (And.intro L1 B0)
  clear hW1 L1 B0
  go_cut [7, 8] from 15 to 23 (fun v7 v8 wc => ∃ q7 q8 : Nat, v7 = .pointer (some ⟨q7, 0, none⟩) ∧ v8 = .pointer (some ⟨q8, 0, none⟩) ∧ Hid (Below W.heap.size W wc ∧ Blk wc q7 46 #[.int .i64 op, .int .i64 arg, .int .i64 int, .string text] ∧ Blk wc q8 66 #[.bool p.known, .int .i64 ph, .slice pb 0 pbc, .slice pn 0 pnc] ∧ Blk wc W.heap.size 24 #[.slice (some ⟨b, off, none⟩) ln lc]) ∧ W.heap.size ≤ q7 ∧ W.heap.size ≤ q8)
  case first =>
    go_region
    all_goals
      go_wp2_with fail
      go_meet
      first
        | exact ⟨W1.heap.size, W1.heap.size + 1, rfl, rfl, Lib.hid ⟨((HL1.out.1.alloc HL1.out.1.size _).alloc (by have := HL1.out.1.size; simp; omega) _).drew, (Blk.new W1 _ _).alloc _, Blk.new_ (by simp) _ _, (HL1.out.2.alloc _).alloc _⟩, by omega, by omega⟩
        | exact ⟨W1.heap.size + 1, W1.heap.size, rfl, rfl, Lib.hid ⟨((HL1.out.1.alloc HL1.out.1.size _).alloc (by have := HL1.out.1.size; simp; omega) _).drew, Blk.new_ (by simp) _ _, (Blk.new W1 _ _).alloc _, (HL1.out.2.alloc _).alloc _⟩, by omega, by omega⟩
  case rest =>
    obtain ⟨q7, q8, rfl, rfl, HC, hq7, hq8⟩ := hcut
    have x0 : wc.cell? ⟨q7, 0, none⟩ = some (.int .i64 op) := HC.out.2.1.cell rfl
    have WD := Lib.hid (fun W => word_any op W)
    obtain ⟨wd, hwd⟩ : ∃ x, wordC op = x := ⟨_, rfl⟩
    rw [hwd] at WD
    have HWD := Lib.hid hwd
    clear hwd e0 e1 e2 e3 y0 y1 y2 y3 d0
    go_upto_region 7 with (first
      | (go_at_call 39; refine (WD.out _).mono ?_; rintro e w2 ⟨rfl, hb⟩; have HW2 := Lib.hid hb; have B7 := HC.out.2.1.below hb HC.out.2.1.lt; have B8 := HC.out.2.2.1.below hb HC.out.2.2.1.lt; have L2 := HC.out.1.trans (hb.mono HC.out.1.size); have k2 : w2.cell? ⟨q8, 2, none⟩ = some (.slice pb 0 pbc) := B8.cell rfl; have k3 : w2.cell? ⟨q8, 3, none⟩ = some (.slice pn 0 pnc) := B8.cell rfl; have HL2 := Lib.hid L2; clear hb B7 B8 L2 WD)
      | fail)
    generalize hW3 : w2 = W3
    have L23 : Below w2.heap.size w2 W3 := by rw [← hW3]; exact Below.refl _ _
    have Lc3 := HW2.out.trans (L23.mono HW2.out.size)
    have L3 := HC.out.1.trans (Lc3.mono HC.out.1.size)
    have B7 := HC.out.2.1.below Lc3 HC.out.2.1.lt
    have B8 := HC.out.2.2.1.below Lc3 HC.out.2.2.1.lt
    have B0 := HC.out.2.2.2.below Lc3 HC.out.2.2.2.lt
    have BP := J.out.hp.below L3
    have BB := EB.out.below L3
    have BN := EN.out.below L3
    have x1 : W3.cell? ⟨q7, 1, none⟩ = some (.int .i64 arg) := B7.cell rfl
    have k1 : W3.cell? ⟨q8, 1, none⟩ = some (.int .i64 ph) := B8.cell rfl
    have k2 : W3.cell? ⟨q8, 2, none⟩ = some (.slice pb 0 pbc) := B8.cell rfl
    have k3 : W3.cell? ⟨q8, 3, none⟩ = some (.slice pn 0 pnc) := B8.cell rfl
    have d0 : W3.cell? ⟨W.heap.size, 0, none⟩ = some (.slice (some ⟨b, off, none⟩) ln lc) := B0.cell rfl
    have K3 := Lib.hid (And.intro L3 (And.intro B7 (And.intro B8 (And.intro B0 (And.intro BP (And.intro BB BN))))))
    clear hW3 L23 Lc3 L3 B7 B8 B0 BP BB BN x0
    go_upto_region 8 with fail
    go_cut [14] from 48 to 59 (fun v wd' => v = .bool (decide ((i : Int) < arg ∧ arg ≤ (ln : Int))) ∧ wd' = W3)
    case first =>
      by_cases hA1 : (i : Int) < arg
      · by_cases hA2 : arg ≤ (ln : Int)
        · go_wp2_with fail
          go_meet
          exact ⟨by simp [hA1, hA2] <;> omega, rfl⟩
        · go_wp2_with fail
          go_meet
          exact ⟨by simp [hA1, hA2] <;> omega, rfl⟩
      · go_wp2_with fail
        go_meet
        exact ⟨by simp [hA1] <;> omega, rfl⟩
    case rest =>
      obtain ⟨rfl, rfl⟩ := hcut
      obtain ⟨ah, hah⟩ : ∃ x, decide ((i : Int) < arg ∧ arg ≤ (ln : Int)) = x := ⟨_, rfl⟩
      rw [hah]
      have HAH := Lib.hid hah
      clear hah
      obtain rfl := HOP.out
      obtain rfl : wd = ⟨#[108, 111, 97, 100]⟩ := by rw [← HWD.out]; rfl
      have hlt : ¬ arg < 0 := by omega
      go_wp2_with fail
      go_ret
      rw [show insN cl l i p _ = none from (by simp [insN, hl0]; omega)]
      exact LedK.none (grown_below K3.out.1 _)
end Go.Proofs.YtdkoafmgenbkbaaDoor
