/- Chapter 11, the reference's stands. -/
import Derived.Test.YtdkoafmgenbkbaaDoorStP
import Derived.Test.YtdkoafmgenbkbaaDoorInP
import Derived.Test.YtdkoafmgenbkbaaDoorMLh
import Derived.Deep.CutRange
import Derived.Deep.RegionHeld3
namespace Go.Proofs.YtdkoafmgenbkbaaDoor
set_option linter.unusedSimpArgs false
set_option linter.unusedVariables false
open Go.RowKit
theorem word_next6 {op : Int} (h : wordC op = ⟨#[110, 101, 120, 116]⟩) : op = 39 := by
  by_cases hr : 1 ≤ op ∧ op ≤ 40
  · rcases (by omega : op = 1 ∨ op = 2 ∨ op = 3 ∨ op = 4 ∨ op = 5 ∨ op = 6 ∨ op = 7 ∨ op = 8 ∨ op = 9 ∨ op = 10 ∨ op = 11 ∨ op = 12 ∨ op = 13 ∨ op = 14 ∨ op = 15 ∨ op = 16 ∨ op = 17 ∨ op = 18 ∨ op = 19 ∨ op = 20 ∨ op = 21 ∨ op = 22 ∨ op = 23 ∨ op = 24 ∨ op = 25 ∨ op = 26 ∨ op = 27 ∨ op = 28 ∨ op = 29 ∨ op = 30 ∨ op = 31 ∨ op = 32 ∨ op = 33 ∨ op = 34 ∨ op = 35 ∨ op = 36 ∨ op = 37 ∨ op = 38 ∨ op = 39 ∨ op = 40) with rfl | rfl | rfl | rfl | rfl | rfl | rfl | rfl | rfl | rfl | rfl | rfl | rfl | rfl | rfl | rfl | rfl | rfl | rfl | rfl | rfl | rfl | rfl | rfl | rfl | rfl | rfl | rfl | rfl | rfl | rfl | rfl | rfl | rfl | rfl | rfl | rfl | rfl | rfl | rfl
    all_goals first | rfl | exact absurd h (by decide)
  · unfold wordC at h; rw [if_neg hr] at h; exact absurd h (by decide)
set_option maxRecDepth 100000 in
set_option maxHeartbeats 8000000 in
theorem st_h_n {W0 W : World} {g n c : Nat} {la : Option Addr} {ln lc : Nat} {cl : List Ins} {l : List Pl} {i : Nat} {p : Pl} {op arg : Int} (hop : op = 35 ∨ op = 36 ∨ op = 37 ∨ op = 38) (int : Int) (text : ByteArray) (I : StPre W0 W g n c la ln lc cl l i p ⟨op, arg, int, text⟩) (hloops : p.loops ≠ []) :
    Calls Tryd.prog 21 #[.agg #[.slice la ln lc], .slice (some ⟨g, 0, none⟩) n c, .int .i64 i] W (LedK W g (insN cl l i p ⟨op, arg, int, text⟩)) := by
  obtain ⟨pbv, pnv, e0, e1, e2, e3, eb, en⟩ := I.hp.at_ I.hpi
  obtain ⟨pb, pbc, rfl⟩ := eb.form
  obtain ⟨pn, pnc, rfl⟩ := en.form
  simp only [List.length_map] at e2 e3
  have hic := (List.getElem?_eq_some_iff.1 I.hi).1
  have hn1 : (i : Int) < (n : Int) := by have := I.nc; omega
  have hi0 : (0 : Int) ≤ (i : Int) := Int.natCast_nonneg _
  have hi2 : (i : Int) ≤ 1024 := by have := I.few; omega
  have hg0 := I.good.b0
  have hg1 := I.good.bh
  have hg2 := I.good.hj
  have hgf := I.good.few
  have ha0 := I.arg0
  have hgl := I.hp.lt
  have hln : ln = cl.length := I.hl.len
  have hiln : (i : Int) < (ln : Int) := by omega
  obtain ⟨b, off, x, rfl, hbB, hxl, ⟨rfl, _⟩, hx⟩ := (I.hl.below I.hw).at_ I.hi
  have y0 := hx 0 _ rfl
  have y1 := hx 1 _ rfl
  have y2 := hx 2 _ rfl
  have y3 := hx 3 _ rfl
  simp only [Nat.add_zero] at y0
  simp only at ha0
  have hbl := cell_lt y0
  simp only at hbl
  have HLN := Lib.hid hln
  have J := Lib.hid I
  have EB := Lib.hid eb
  have EN := Lib.hid en
  simp only [List.length_map] at EB EN
  have HIC := Lib.hid hic
  have hcb : p.loops.length ≤ pbc ∧ pbc ≤ maxLen := by obtain ⟨_, _, h1, h2, h3, _⟩ := eb; injection h1 with _ _ h1; subst h1; simp only [List.length_map] at h2; exact ⟨h2, h3⟩
  have hcn : p.loops.length ≤ pnc ∧ pnc ≤ maxLen := by obtain ⟨_, _, h1, h2, h3, _⟩ := en; injection h1 with _ _ h1; subst h1; simp only [List.length_map] at h2; exact ⟨h2, h3⟩
  clear I eb en hx hxl hln hic
  obtain ⟨m, hm⟩ : ∃ m, p.loops.length = m + 1 := ⟨p.loops.length - 1, by have := List.length_pos_iff.2 hloops; omega⟩
  obtain ⟨lx, hlx⟩ : ∃ x, p.loops.getLast? = some x := by cases h : p.loops.getLast? with | none => exact absurd (List.getLast?_eq_none_iff.1 h) hloops | some x => exact ⟨x, rfl⟩
  have hb : p.base = lx.1 := by unfold Pl.base; rw [hlx]
  have hnx : p.next = lx.2 := by unfold Pl.next; rw [hlx]
  have HNX := Lib.hid hnx
  rw [hm] at e2 e3
  have eb2 := EB.out
  have en2 := EN.out
  rw [hm] at eb2 en2
  obtain ⟨gb, lbs, rfl, _, ⟨rfl, _⟩, hxl⟩ := eb2.last (show (p.loops.map (·.1)).getLast? = some lx.1 by rw [List.getLast?_map, hlx]; rfl)
  obtain ⟨gn, lns, rfl, _, ⟨rfl, _⟩, hyl⟩ := en2.last (show (p.loops.map (·.2)).getLast? = some lx.2 by rw [List.getLast?_map, hlx]; rfl)
  have l0 := hxl 0 _ rfl
  have l1 := hyl 0 _ rfl
  have hgbl := cell_lt l0
  have hgnl := cell_lt l1
  simp only [Nat.add_zero, Nat.mul_one] at l0 l1
  simp only at hgbl hgnl
  have hm1 : (m : Int) ≤ 1024 := by omega
  have hm0 : (0 : Int) ≤ (m : Int) := Int.natCast_nonneg _
  have hm2 : (0 : Int) < ((m + 1 : Nat) : Int) := by omega
  have hm3 : ((m + 1 : Nat) : Int) - 1 = (m : Int) := by omega
  have hm4 : (0 : Int) < (m : Int) + 1 := by omega
  have hm5 : (m : Int) < ((m + 1 : Nat) : Int) := by omega
  have hm7 : (m : Int) ≤ (pbc : Int) := by omega
  have hm8 : (m : Int) ≤ (pnc : Int) := by omega
  clear hxl hyl eb2 en2 hlx hnx
  rw [hb] at hg0 hg1
  obtain ⟨ph, hph⟩ : ∃ x, p.height = x := ⟨_, rfl⟩
  rw [hph] at e1 hg1 hg2
  have HPH := Lib.hid hph
  have HBB := Lib.hid hb
  clear hph hb
  have HOP := Lib.hid hop
  clear hop
  go_enter Tryd.func21, Tryd.ntmps21
  go_wp2_with fail
  generalize hW1 : World.alloc W _ = W1
  have L1 : Below W.heap.size W W1 := by rw [← hW1]; exact (Below.refl _ _).alloc (Nat.le_refl _) _
  have B0 : Blk W1 W.heap.size 24 #[.slice (some ⟨b, off, none⟩) ln lc] := by rw [← hW1]; exact Blk.new W _ _
  have s1 : W.heap.size < W1.heap.size := B0.lt
  have d0 : W1.cell? ⟨W.heap.size, 0, none⟩ = some (.slice (some ⟨b, off, none⟩) ln lc) := B0.cell rfl
  have e0 := (L1.cell (p := ⟨g, i * 4, none⟩) hgl).trans e0
  have e1 := (L1.cell (p := ⟨g, i * 4 + 1, none⟩) hgl).trans e1
  have e2 := (L1.cell (p := ⟨g, i * 4 + 2, none⟩) hgl).trans e2
  have e3 := (L1.cell (p := ⟨g, i * 4 + 3, none⟩) hgl).trans e3
  have y0 := (L1.cell (p := ⟨b, off + i * 4, none⟩) hbl).trans y0
  have y1 := (L1.cell (p := ⟨b, off + i * 4 + 1, none⟩) hbl).trans y1
  have y2 := (L1.cell (p := ⟨b, off + i * 4 + 2, none⟩) hbl).trans y2
  have y3 := (L1.cell (p := ⟨b, off + i * 4 + 3, none⟩) hbl).trans y3
  have hgl1 : g < W1.heap.size := by omega
  have hbl1 : b < W1.heap.size := by omega
  have HL1 := Lib.hid (And.intro L1 B0)
  clear hW1 L1 B0
  go_cut [7, 8] from 15 to 23 (fun v7 v8 wc => ∃ q7 q8 : Nat, v7 = .pointer (some ⟨q7, 0, none⟩) ∧ v8 = .pointer (some ⟨q8, 0, none⟩) ∧ Hid (Below W.heap.size W wc ∧ Blk wc q7 46 #[.int .i64 op, .int .i64 arg, .int .i64 int, .string text] ∧ Blk wc q8 66 #[.bool p.known, .int .i64 ph, .slice (some ⟨gb, 0, none⟩) (m + 1) pbc, .slice (some ⟨gn, 0, none⟩) (m + 1) pnc] ∧ Blk wc W.heap.size 24 #[.slice (some ⟨b, off, none⟩) ln lc]) ∧ W.heap.size ≤ q7 ∧ W.heap.size ≤ q8)
  case first =>
    go_region
    all_goals
      go_wp2_with fail
      go_meet
      first
        | exact ⟨W1.heap.size, W1.heap.size + 1, rfl, rfl, Lib.hid ⟨((HL1.out.1.alloc HL1.out.1.size _).alloc (by have := HL1.out.1.size; simp; omega) _).drew, (Blk.new W1 _ _).alloc _, Blk.new_ (by simp) _ _, (HL1.out.2.alloc _).alloc _⟩, by omega, by omega⟩
        | exact ⟨W1.heap.size + 1, W1.heap.size, rfl, rfl, Lib.hid ⟨((HL1.out.1.alloc HL1.out.1.size _).alloc (by have := HL1.out.1.size; simp; omega) _).drew, Blk.new_ (by simp) _ _, (Blk.new W1 _ _).alloc _, (HL1.out.2.alloc _).alloc _⟩, by omega, by omega⟩
  case rest =>
    obtain ⟨q7, q8, rfl, rfl, HC, hq7, hq8⟩ := hcut
    have x0 : wc.cell? ⟨q7, 0, none⟩ = some (.int .i64 op) := HC.out.2.1.cell rfl
    have WD := Lib.hid (fun W => word_any op W)
    obtain ⟨wd, hwd⟩ : ∃ x, wordC op = x := ⟨_, rfl⟩
    rw [hwd] at WD
    have HWD := Lib.hid hwd
    clear hwd e0 e1 e2 e3 y0 y1 y2 y3 d0
    go_wp2_with (first
      | (go_at_call 39; refine (WD.out _).mono ?_; rintro e w2 ⟨rfl, hb⟩; have HW2 := Lib.hid hb; have B7 := HC.out.2.1.below hb HC.out.2.1.lt; have B8 := HC.out.2.2.1.below hb HC.out.2.2.1.lt; have L2 := HC.out.1.trans (hb.mono HC.out.1.size); have k2 : w2.cell? ⟨q8, 2, none⟩ = some (.slice (some ⟨gb, 0, none⟩) (m + 1) pbc) := B8.cell rfl; have k3 : w2.cell? ⟨q8, 3, none⟩ = some (.slice (some ⟨gn, 0, none⟩) (m + 1) pnc) := B8.cell rfl; have HL2 := Lib.hid L2; have l0 := (L2.cell (p := ⟨gb, m, none⟩) hgbl).trans l0; have l1 := (L2.cell (p := ⟨gn, m, none⟩) hgnl).trans l1; clear hb B7 B8 L2 WD)
      | fail)
    go_quiet (fail)
    generalize hW3 : World.drewN w2 _ = W3
    have L23 : Below w2.heap.size w2 W3 := by rw [← hW3]; exact below_drewN (Below.refl _ _) _
    have Lc3 := HW2.out.trans (L23.mono HW2.out.size)
    have L3 := HC.out.1.trans (Lc3.mono HC.out.1.size)
    have B7 := HC.out.2.1.below Lc3 HC.out.2.1.lt
    have B8 := HC.out.2.2.1.below Lc3 HC.out.2.2.1.lt
    have B0 := HC.out.2.2.2.below Lc3 HC.out.2.2.2.lt
    have BP := J.out.hp.below L3
    have BB := EB.out.below L3
    have BN := EN.out.below L3
    have x1 : W3.cell? ⟨q7, 1, none⟩ = some (.int .i64 arg) := B7.cell rfl
    have k1 : W3.cell? ⟨q8, 1, none⟩ = some (.int .i64 ph) := B8.cell rfl
    have k2 : W3.cell? ⟨q8, 2, none⟩ = some (.slice (some ⟨gb, 0, none⟩) (m + 1) pbc) := B8.cell rfl
    have k3 : W3.cell? ⟨q8, 3, none⟩ = some (.slice (some ⟨gn, 0, none⟩) (m + 1) pnc) := B8.cell rfl
    have d0 : W3.cell? ⟨W.heap.size, 0, none⟩ = some (.slice (some ⟨b, off, none⟩) ln lc) := B0.cell rfl
    have K3 := Lib.hid (And.intro L3 (And.intro B7 (And.intro B8 (And.intro B0 (And.intro BP (And.intro BB BN))))))
    clear hW3 L23 Lc3 L3 B7 B8 B0 BP BB BN x0
    go_upto_region 8 with fail
    go_cut [14] from 48 to 59 (fun v wd' => v = .bool (decide ((i : Int) < arg ∧ arg ≤ (ln : Int))) ∧ wd' = W3)
    case first =>
      by_cases hA1 : (i : Int) < arg
      · by_cases hA2 : arg ≤ (ln : Int)
        · go_wp2_with fail
          go_meet
          exact ⟨by simp [hA1, hA2] <;> omega, rfl⟩
        · go_wp2_with fail
          go_meet
          exact ⟨by simp [hA1, hA2] <;> omega, rfl⟩
      · go_wp2_with fail
        go_meet
        exact ⟨by simp [hA1] <;> omega, rfl⟩
    case rest =>
      obtain ⟨rfl, rfl⟩ := hcut
      obtain ⟨ah, hah⟩ : ∃ x, decide ((i : Int) < arg ∧ arg ≤ (ln : Int)) = x := ⟨_, rfl⟩
      rw [hah]
      have HAH := Lib.hid hah
      clear hah
      rcases HOP.out with rfl | rfl | rfl | rfl
      all_goals
        first
          | (have hwl : wd = ⟨#[97, 110, 121]⟩ := (by rw [← HWD.out]; rfl); subst hwl)
          | (have hwl : wd = ⟨#[101, 118, 101, 114, 121]⟩ := (by rw [← HWD.out]; rfl); subst hwl)
          | (have hwl : wd = ⟨#[111, 110, 108, 121]⟩ := (by rw [← HWD.out]; rfl); subst hwl)
          | (have hwl : wd = ⟨#[115, 117, 109]⟩ := (by rw [← HWD.out]; rfl); subst hwl)
        by_cases hroom : ph - lx.1 < 1
        · go_wp2_with fail
          go_ret
          rw [show insN cl l i p _ = none from (by simp [insN, HPH.out, HBB.out]; omega)]
          exact LedK.none (grown_below K3.out.1 _)
        · by_cases hlast : i + 1 < cl.length
          · obtain ⟨y, hy⟩ := get_some rfl hlast
            obtain ⟨b2, off2, x2, he2, hb2B, hxl2, ⟨rfl, _⟩, hx2⟩ := ((J.out.hl).below J.out.hw).at_ hy
            injection he2 with he2
            injection he2 with he3 he4
            subst he3 he4
            have y0 := hx2 0 _ rfl
            simp only [Nat.add_zero] at y0
            have y0 := (K3.out.1.cell (p := ⟨b, off + (i + 1) * 4, none⟩) hbl).trans y0
            have hlt9 : (i : Int) + 1 < (ln : Int) := by have := HLN.out; omega
            have hge9 : (0 : Int) ≤ (i : Int) + 1 := by omega
            have hnl : ¬ (ln : Int) ≤ (i : Int) + 1 := by omega
            have HY := Lib.hid hy
            clear hy hx2 hxl2 hlast
            have WD2 := Lib.hid (fun W => word_any y.op W)
            by_cases hyo : y.op = 39
            · have HYO := Lib.hid hyo
              clear WD2
              have WD2 : Hid (∀ W, Calls Tryd.prog 39 #[.int .i64 y.op] W fun e w' => e = .returned (.string ⟨#[110, 101, 120, 116]⟩) ∧ Below W.heap.size W w') := Lib.hid (fun W => by have h := word_any y.op W; rw [show wordC y.op = ⟨#[110, 101, 120, 116]⟩ by rw [hyo]; rfl] at h; exact h)
              clear hyo
              go_wp2_with (first
                | (go_at_call 39; refine (WD2.out _).mono ?_; rintro e w9 ⟨rfl, hb9⟩; have HB9 := Lib.hid hb9; have k1 : w9.cell? ⟨q8, 1, none⟩ = some (.int .i64 ph) := (K3.out.2.2.1.below hb9 K3.out.2.2.1.lt).cell rfl; have k2 : w9.cell? ⟨q8, 2, none⟩ = some (.slice (some ⟨gb, 0, none⟩) (m + 1) pbc) := (K3.out.2.2.1.below hb9 K3.out.2.2.1.lt).cell rfl; have k3 : w9.cell? ⟨q8, 3, none⟩ = some (.slice (some ⟨gn, 0, none⟩) (m + 1) pnc) := (K3.out.2.2.1.below hb9 K3.out.2.2.1.lt).cell rfl; clear hb9 WD2 y0 d0 x1)
                | fail)
              have hq9 : q8 < w9.heap.size := cell_lt k1
              have J9 : Hid (SlR w9 w9.heap.size 1 IsInt (.slice (some ⟨gb, 0, none⟩) (m + 1) pbc) (p.loops.map (·.1)) ∧ SlR w9 w9.heap.size 1 IsInt (.slice (some ⟨gn, 0, none⟩) (m + 1) pnc) (p.loops.map (·.2)) ∧ KnS w9 g l) := Lib.hid ⟨by have := (K3.out.2.2.2.2.2.1.below HB9.out).read; rw [hm] at this; exact this, by have := (K3.out.2.2.2.2.2.2.below HB9.out).read; rw [hm] at this; exact this, K3.out.2.2.2.2.1.below HB9.out⟩
              have HFW := Lib.hid hgf
              have HW1 := Lib.hid (show IntKind.i64.wrap ((i : Int) + 1) = (i : Int) + 1 by rw [IntKind.wrap_i64]; omega)
              have HW2 := Lib.hid (show IntKind.i64.wrap (ph - 1) = ph - 1 by rw [IntKind.wrap_i64]; omega)
              have hwp : (Lit.int .i64 (ph - 1)).wf = true := wf47 (by omega) (by omega)
              have hwi : (Lit.int .i64 ((i : Int) + 1)).wf = true := wf47 (by omega) (by omega)
              obtain ⟨jI, hi9, hz9, hsz9, hby9⟩ := info_parts info_intC
              have I := Lib.hid (And.intro hi9 (And.intro hz9 (And.intro hsz9 hby9)))
              clear hi9 hz9 hsz9 hby9
              refine wp_region_closed (by kernel_rfl) (R47 w9 g n c (i : Int) q8 ph (.slice (some ⟨gb, 0, none⟩) (m + 1) pbc) (.slice (some ⟨gn, 0, none⟩) (m + 1) pnc) (p.loops.map (·.1)) (p.loops.map (·.2)) (leadN l (i + 1) (ph - 1) (p.loops ++ [(ph - 1, (i : Int) + 1)]))) (by kernel_rfl) ?_ ?_ ?_
              · exact R47.start rfl rfl rfl rfl rfl
              · intro L a w k hcl hI hk hu hdep
                have hk : k < 25 := hk
                have HCL := Lib.hid hcl
                have HI := Lib.hid hI
                have HU := Lib.hid hu
                have hsz := hI.asz
                clear hcl hI hu
                rcases (by omega : k = 0 ∨ k = 1 ∨ k = 2 ∨ k = 3 ∨ k = 4 ∨ k = 5 ∨ k = 6 ∨ k = 7 ∨ k = 8 ∨ k = 9 ∨ k = 10 ∨ k = 11 ∨ k = 12 ∨ k = 13 ∨ k = 14 ∨ k = 15 ∨ k = 16 ∨ k = 17 ∨ k = 18 ∨ k = 19 ∨ k = 20 ∨ k = 21 ∨ k = 22 ∨ k = 23 ∨ k = 24) with rfl | rfl | rfl | rfl | rfl | rfl | rfl | rfl | rfl | rfl | rfl | rfl | rfl | rfl | rfl | rfl | rfl | rfl | rfl | rfl | rfl | rfl | rfl | rfl | rfl
                · have h23 : L.getD 23 false = false := Closed.before HCL.out (by kernel_rfl) (by decide) HU.out
                  have e1 := slotAt HI.out.t1
                  refine wpOp_plain (o := _) rfl rfl ?_
                  clear k1 k2 k3
                  go_simp
                  exact HI.out.read 0 rfl rfl (by decide)
                · have h23 : L.getD 23 false = false := Closed.before HCL.out (by kernel_rfl) (by decide) HU.out
                  have e2 := slotAt HI.out.t2
                  refine wpOp_plain (o := _) rfl rfl ?_
                  clear k1 k2 k3
                  go_simp
                  exact HI.out.read 1 rfl rfl (by decide)
                · have hd1 : L.getD 1 false = true := hdep 1 (by kernel_rfl)
                  have h23 : L.getD 23 false = false := Closed.before HCL.out (by kernel_rfl) (by decide) HU.out
                  have e242 := slotAt (HI.out.fx 1 _ rfl hd1)
                  refine wpOp_plain (o := _) rfl rfl ?_
                  clear k1 k2 k3
                  go_simp
                  rw [HW1.out]
                  exact HI.out.read 2 rfl rfl (by decide)
                · have h23 : L.getD 23 false = false := Closed.before HCL.out (by kernel_rfl) (by decide) HU.out
                  have e8 := slotAt HI.out.t8
                  refine wpOp_plain (o := _) rfl rfl ?_
                  clear k1 k2 k3
                  go_simp
                  exact HI.out.read 3 rfl rfl (by decide)
                · have hd3 : L.getD 3 false = true := hdep 3 (by kernel_rfl)
                  have h23 : L.getD 23 false = false := Closed.before HCL.out (by kernel_rfl) (by decide) HU.out
                  have hbel := HI.out.bel h23
                  have m1 : w.cell? ⟨q8, 1, none⟩ = some (.int .i64 ph) := (hbel.cell (p := ⟨q8, 1, none⟩) hq9).trans k1
                  clear hbel
                  have e244 := slotAt (HI.out.fx 3 _ rfl hd3)
                  refine wpOp_plain (o := _) rfl rfl ?_
                  clear k1 k2 k3
                  go_simp
                  exact HI.out.read 4 rfl rfl (by decide)
                · have hd4 : L.getD 4 false = true := hdep 4 (by kernel_rfl)
                  have h23 : L.getD 23 false = false := Closed.before HCL.out (by kernel_rfl) (by decide) HU.out
                  have e245 := slotAt (HI.out.fx 4 _ rfl hd4)
                  refine wpOp_plain (o := _) rfl rfl ?_
                  clear k1 k2 k3
                  go_simp
                  rw [HW2.out]
                  exact HI.out.read 5 rfl rfl (by decide)
                · have h23 : L.getD 23 false = false := Closed.before HCL.out (by kernel_rfl) (by decide) HU.out
                  have hbel := HI.out.bel h23
                  refine wpOp_plain (o := _) rfl rfl ?_
                  clear k1 k2 k3
                  go_simp
                  exact HI.out.new 6 rfl h23 (Own1.empty rfl hbel.size) rfl
                · have h23 : L.getD 23 false = false := Closed.before HCL.out (by kernel_rfl) (by decide) HU.out
                  have e8 := slotAt HI.out.t8
                  refine wpOp_plain (o := _) rfl rfl ?_
                  clear k1 k2 k3
                  go_simp
                  exact HI.out.read 7 rfl rfl (by decide)
                · have hd7 : L.getD 7 false = true := hdep 7 (by kernel_rfl)
                  have h23 : L.getD 23 false = false := Closed.before HCL.out (by kernel_rfl) (by decide) HU.out
                  have hbel := HI.out.bel h23
                  have m1 : w.cell? ⟨q8, 2, none⟩ = some (.slice (some ⟨gb, 0, none⟩) (m + 1) pbc) := (hbel.cell (p := ⟨q8, 2, none⟩) hq9).trans k2
                  clear hbel
                  have e248 := slotAt (HI.out.fx 7 _ rfl hd7)
                  refine wpOp_plain (o := _) rfl rfl ?_
                  clear k1 k2 k3
                  go_simp
                  exact HI.out.read 8 rfl rfl (by decide)
                · have hd6 : L.getD 6 false = true := hdep 6 (by kernel_rfl)
                  have hd8 : L.getD 8 false = true := hdep 8 (by kernel_rfl)
                  have h23 : L.getD 23 false = false := Closed.before HCL.out (by kernel_rfl) (by decide) HU.out
                  have e249 := slotAt (HI.out.fx 8 _ rfl hd8)
                  have hbel := HI.out.bel h23
                  have hrow := HI.out.rowAt 6 rfl hd6 HU.out h23
                  obtain ⟨u, hu⟩ : ∃ u, a.tmps.getD 247 undef = u := ⟨_, rfl⟩
                  rw [hu] at hrow
                  have e247 := slotAt hu
                  refine wpOp_append_list (o := _) rfl rfl (.tmp 247) (.tmp 249) _ rfl w9.heap.size w9.heap.size 3 jI _ 1 8 Tryd.underlying64 I.out.1 I.out.2.1 I.out.2.2.1 I.out.2.2.2 rfl (by omega) (R := IsInt) (l := []) (m := p.loops.map (·.1)) u (by go_simp) hrow (some ⟨gb, 0, none⟩) (m + 1) pbc (by go_simp) ((J9.out.1).below hbel) (m + 1) (by simp) IsInt.oneC (by have := HFW.out; first | (simp; done) | (simp; unfold maxLen; omega)) (by have := HFW.out; first | (simp; done) | (simp; omega)) hbel.size ?_
                  intro a' c' w' hown hgr hblk
                  exact HI.out.app 9 6 rfl rfl rfl hd6 HU.out h23 hu hown hgr hblk
                · have h23 : L.getD 23 false = false := Closed.before HCL.out (by kernel_rfl) (by decide) HU.out
                  have e8 := slotAt HI.out.t8
                  refine wpOp_plain (o := _) rfl rfl ?_
                  clear k1 k2 k3
                  go_simp
                  exact HI.out.read 10 rfl rfl (by decide)
                · have hd10 : L.getD 10 false = true := hdep 10 (by kernel_rfl)
                  have h23 : L.getD 23 false = false := Closed.before HCL.out (by kernel_rfl) (by decide) HU.out
                  have hbel := HI.out.bel h23
                  have m1 : w.cell? ⟨q8, 1, none⟩ = some (.int .i64 ph) := (hbel.cell (p := ⟨q8, 1, none⟩) hq9).trans k1
                  clear hbel
                  have e251 := slotAt (HI.out.fx 10 _ rfl hd10)
                  refine wpOp_plain (o := _) rfl rfl ?_
                  clear k1 k2 k3
                  go_simp
                  exact HI.out.read 11 rfl rfl (by decide)
                · have hd11 : L.getD 11 false = true := hdep 11 (by kernel_rfl)
                  have h23 : L.getD 23 false = false := Closed.before HCL.out (by kernel_rfl) (by decide) HU.out
                  have e252 := slotAt (HI.out.fx 11 _ rfl hd11)
                  refine wpOp_plain (o := _) rfl rfl ?_
                  clear k1 k2 k3
                  go_simp
                  rw [HW2.out]
                  exact HI.out.read 12 rfl rfl (by decide)
                · have hd12 : L.getD 12 false = true := hdep 12 (by kernel_rfl)
                  have h23 : L.getD 23 false = false := Closed.before HCL.out (by kernel_rfl) (by decide) HU.out
                  have e253 := slotAt (HI.out.fx 12 _ rfl hd12)
                  have hbel := HI.out.bel h23
                  refine wpOp_plain (o := _) rfl rfl ?_
                  clear k1 k2 k3
                  go_simp
                  exact HI.out.new 13 rfl h23 (own_one _ hwp rfl hbel.size) rfl
                · have hd9 : L.getD 9 false = true := hdep 9 (by kernel_rfl)
                  have hd13 : L.getD 13 false = true := hdep 13 (by kernel_rfl)
                  have h23 : L.getD 23 false = false := Closed.before HCL.out (by kernel_rfl) (by decide) HU.out
                  have hbel := HI.out.bel h23
                  have hrow := HI.out.rowAt 9 rfl hd9 HU.out h23
                  have hsrc : SlR w w.heap.size 1 IsInt (a.tmps.getD 254 undef) [ph - 1] := (HI.out.rowAt 13 rfl hd13 HU.out h23).read (by decide)
                  obtain ⟨u, hu⟩ : ∃ u, a.tmps.getD 250 undef = u := ⟨_, rfl⟩
                  obtain ⟨us, hus⟩ : ∃ u, a.tmps.getD 254 undef = u := ⟨_, rfl⟩
                  rw [hu] at hrow
                  rw [hus] at hsrc
                  obtain ⟨ua, uc, rfl, _⟩ := hsrc.form
                  have e250 := slotAt hu
                  have e254 := slotAt hus
                  refine wpOp_append_list (o := _) rfl rfl (.tmp 250) (.tmp 254) _ rfl w9.heap.size w.heap.size 3 jI _ 1 8 Tryd.underlying64 I.out.1 I.out.2.1 I.out.2.2.1 I.out.2.2.2 rfl (by omega) (R := IsInt) (l := p.loops.map (·.1)) (m := [ph - 1]) u (by go_simp) hrow ua 1 uc (by go_simp) hsrc (p.loops.length + 1) (by simp) IsInt.oneC (by have := HFW.out; simp; unfold maxLen; omega) (by have := HFW.out; simp; omega) hbel.size ?_
                  intro a' c' w' hown hgr hblk
                  exact HI.out.app 14 9 rfl rfl rfl hd9 HU.out h23 hu hown hgr hblk
                · have h23 : L.getD 23 false = false := Closed.before HCL.out (by kernel_rfl) (by decide) HU.out
                  have hbel := HI.out.bel h23
                  refine wpOp_plain (o := _) rfl rfl ?_
                  clear k1 k2 k3
                  go_simp
                  exact HI.out.new 15 rfl h23 (Own1.empty rfl hbel.size) rfl
                · have h23 : L.getD 23 false = false := Closed.before HCL.out (by kernel_rfl) (by decide) HU.out
                  have e8 := slotAt HI.out.t8
                  refine wpOp_plain (o := _) rfl rfl ?_
                  clear k1 k2 k3
                  go_simp
                  exact HI.out.read 16 rfl rfl (by decide)
                · have hd16 : L.getD 16 false = true := hdep 16 (by kernel_rfl)
                  have h23 : L.getD 23 false = false := Closed.before HCL.out (by kernel_rfl) (by decide) HU.out
                  have hbel := HI.out.bel h23
                  have m1 : w.cell? ⟨q8, 3, none⟩ = some (.slice (some ⟨gn, 0, none⟩) (m + 1) pnc) := (hbel.cell (p := ⟨q8, 3, none⟩) hq9).trans k3
                  clear hbel
                  have e257 := slotAt (HI.out.fx 16 _ rfl hd16)
                  refine wpOp_plain (o := _) rfl rfl ?_
                  clear k1 k2 k3
                  go_simp
                  exact HI.out.read 17 rfl rfl (by decide)
                · have hd15 : L.getD 15 false = true := hdep 15 (by kernel_rfl)
                  have hd17 : L.getD 17 false = true := hdep 17 (by kernel_rfl)
                  have h23 : L.getD 23 false = false := Closed.before HCL.out (by kernel_rfl) (by decide) HU.out
                  have e258 := slotAt (HI.out.fx 17 _ rfl hd17)
                  have hbel := HI.out.bel h23
                  have hrow := HI.out.rowAt 15 rfl hd15 HU.out h23
                  obtain ⟨u, hu⟩ : ∃ u, a.tmps.getD 256 undef = u := ⟨_, rfl⟩
                  rw [hu] at hrow
                  have e256 := slotAt hu
                  refine wpOp_append_list (o := _) rfl rfl (.tmp 256) (.tmp 258) _ rfl w9.heap.size w9.heap.size 3 jI _ 1 8 Tryd.underlying64 I.out.1 I.out.2.1 I.out.2.2.1 I.out.2.2.2 rfl (by omega) (R := IsInt) (l := []) (m := p.loops.map (·.2)) u (by go_simp) hrow (some ⟨gn, 0, none⟩) (m + 1) pnc (by go_simp) ((J9.out.2.1).below hbel) (m + 1) (by simp) IsInt.oneC (by have := HFW.out; first | (simp; done) | (simp; unfold maxLen; omega)) (by have := HFW.out; first | (simp; done) | (simp; omega)) hbel.size ?_
                  intro a' c' w' hown hgr hblk
                  exact HI.out.app 18 15 rfl rfl rfl hd15 HU.out h23 hu hown hgr hblk
                · have h23 : L.getD 23 false = false := Closed.before HCL.out (by kernel_rfl) (by decide) HU.out
                  have e2 := slotAt HI.out.t2
                  refine wpOp_plain (o := _) rfl rfl ?_
                  clear k1 k2 k3
                  go_simp
                  exact HI.out.read 19 rfl rfl (by decide)
                · have hd19 : L.getD 19 false = true := hdep 19 (by kernel_rfl)
                  have h23 : L.getD 23 false = false := Closed.before HCL.out (by kernel_rfl) (by decide) HU.out
                  have e260 := slotAt (HI.out.fx 19 _ rfl hd19)
                  refine wpOp_plain (o := _) rfl rfl ?_
                  clear k1 k2 k3
                  go_simp
                  rw [HW1.out]
                  exact HI.out.read 20 rfl rfl (by decide)
                · have hd20 : L.getD 20 false = true := hdep 20 (by kernel_rfl)
                  have h23 : L.getD 23 false = false := Closed.before HCL.out (by kernel_rfl) (by decide) HU.out
                  have e261 := slotAt (HI.out.fx 20 _ rfl hd20)
                  have hbel := HI.out.bel h23
                  refine wpOp_plain (o := _) rfl rfl ?_
                  clear k1 k2 k3
                  go_simp
                  exact HI.out.new 21 rfl h23 (own_one _ hwi rfl hbel.size) rfl
                · have hd18 : L.getD 18 false = true := hdep 18 (by kernel_rfl)
                  have hd21 : L.getD 21 false = true := hdep 21 (by kernel_rfl)
                  have h23 : L.getD 23 false = false := Closed.before HCL.out (by kernel_rfl) (by decide) HU.out
                  have hbel := HI.out.bel h23
                  have hrow := HI.out.rowAt 18 rfl hd18 HU.out h23
                  have hsrc : SlR w w.heap.size 1 IsInt (a.tmps.getD 262 undef) [(i : Int) + 1] := (HI.out.rowAt 21 rfl hd21 HU.out h23).read (by decide)
                  obtain ⟨u, hu⟩ : ∃ u, a.tmps.getD 259 undef = u := ⟨_, rfl⟩
                  obtain ⟨us, hus⟩ : ∃ u, a.tmps.getD 262 undef = u := ⟨_, rfl⟩
                  rw [hu] at hrow
                  rw [hus] at hsrc
                  obtain ⟨ua, uc, rfl, _⟩ := hsrc.form
                  have e259 := slotAt hu
                  have e262 := slotAt hus
                  refine wpOp_append_list (o := _) rfl rfl (.tmp 259) (.tmp 262) _ rfl w9.heap.size w.heap.size 3 jI _ 1 8 Tryd.underlying64 I.out.1 I.out.2.1 I.out.2.2.1 I.out.2.2.2 rfl (by omega) (R := IsInt) (l := p.loops.map (·.2)) (m := [(i : Int) + 1]) u (by go_simp) hrow ua 1 uc (by go_simp) hsrc (p.loops.length + 1) (by simp) IsInt.oneC (by have := HFW.out; simp; unfold maxLen; omega) (by have := HFW.out; simp; omega) hbel.size ?_
                  intro a' c' w' hown hgr hblk
                  exact HI.out.app 22 18 rfl rfl rfl hd18 HU.out h23 hu hown hgr hblk
                · have hd0 : L.getD 0 false = true := hdep 0 (by kernel_rfl)
                  have hd2 : L.getD 2 false = true := hdep 2 (by kernel_rfl)
                  have hd5 : L.getD 5 false = true := hdep 5 (by kernel_rfl)
                  have hd14 : L.getD 14 false = true := hdep 14 (by kernel_rfl)
                  have hd22 : L.getD 22 false = true := hdep 22 (by kernel_rfl)
                  have e241 := slotAt (HI.out.fx 0 _ rfl hd0)
                  have e243 := slotAt (HI.out.fx 2 _ rfl hd2)
                  have e246 := slotAt (HI.out.fx 5 _ rfl hd5)
                  have hbel := HI.out.bel HU.out
                  have hr1 : RowR w 3 1 IsInt (a.tmps.getD 255 undef) (p.loops.map (·.1) ++ [ph - 1]) := RowR.of_own (HI.out.rowAt 14 rfl hd14 HU.out HU.out) (by decide)
                  have hr2 : RowR w 3 1 IsInt (a.tmps.getD 263 undef) (p.loops.map (·.2) ++ [(i : Int) + 1]) := RowR.of_own (HI.out.rowAt 22 rfl hd22 HU.out HU.out) (by decide)
                  obtain ⟨u1, hu1⟩ : ∃ u, a.tmps.getD 255 undef = u := ⟨_, rfl⟩
                  obtain ⟨u2, hu2⟩ : ∃ u, a.tmps.getD 263 undef = u := ⟨_, rfl⟩
                  rw [hu1] at hr1
                  rw [hu2] at hr2
                  have e255 := slotAt hu1
                  have e263 := slotAt hu2
                  have h24 : L.getD 24 false = false := Closed.before24 (n := 24) HCL.out (by kernel_rfl) HU.out
                  refine wpOp_plain (o := _) rfl rfl ?_
                  clear k1 k2 k3
                  go_simp
                  refine (leads_at (tn := i + 1) w ((i : Int) + 1) (ph - 1) u1 u2 (p.loops ++ [(ph - 1, (i : Int) + 1)]) (by omega) (J9.out.2.2.below hbel) J.out.nl (by have h1 := J.out.nl; have h2 := J.out.nc; have h3 := HIC.out; omega) (by have := J.out.nc; have := J.out.few; omega) (by have := HFW.out; simp; omega) (by rw [List.map_append]; exact hr1) (by rw [List.map_append]; exact hr2)).mono ?_
                  rintro e w' ⟨rfl, hgr, hk'⟩
                  exact HI.out.call HU.out h24 hgr hk'
                · have hd23 : L.getD 23 false = true := hdep 23 (by kernel_rfl)
                  have e264 := slotAt (HI.out.ans hd23).1
                  refine wpOp_plain (o := _) rfl rfl ?_
                  clear k1 k2 k3
                  go_simp
                  exact HI.out.last hd23
              · intro L a w hI hall
                have h23 := hall 23 (by decide)
                have h24 := hall 24 (by decide)
                have e6 := slotAt (hI.fin h24)
                have hsz := hI.asz
                have hdf := hI.dfs
                have HA := Lib.hid (hI.ans h23).2
                clear hI hall h23 h24
                go_wp2_with fail
                refine bodyPost_ret (v := .bool (leadN l (i + 1) (ph - 1) (p.loops ++ [(ph - 1, (i : Int) + 1)])).isSome) (by simp [results, Tryd.results21, go_sem, e6, hsz]) hdf ?_
                rw [show insN cl l i p _ = (leadN l (i + 1) (ph - 1) (p.loops ++ [(ph - 1, (i : Int) + 1)])) from (by have h1 := HYO.out; simp [insN, HPH.out, HBB.out, HY.out, h1]; omega)]
                exact ⟨rfl, grown_trans (grown_below K3.out.1 _) (grown_trans (grown_below HB9.out _) HA.out.1), HA.out.2⟩
            · have hne : (wordC y.op).toList ≠ (⟨#[110, 101, 120, 116]⟩ : ByteArray).toList := fun e => hyo (word_next6 ((toList_inj _ _).1 e))
              obtain ⟨wy, hwy⟩ : ∃ x, wordC y.op = x := ⟨_, rfl⟩
              rw [hwy] at WD2 hne
              rw [show (⟨#[110, 101, 120, 116]⟩ : ByteArray).toList = [110, 101, 120, 116] by rw [ByteArray.toList_eq]] at hne
              have hne1 : (wy.toList == [110, 101, 120, 116]) = false := by simpa using hne
              have hne2 : (!wy.toList == [110, 101, 120, 116]) = true := by rw [hne1]; rfl
              have HYO := Lib.hid hyo
              clear hwy hne hyo
              go_wp2_with (first
                | (go_at_call 39; refine (WD2.out _).mono ?_; rintro e w9 ⟨rfl, hb9⟩; have HB9 := Lib.hid hb9; have k1 : w9.cell? ⟨q8, 1, none⟩ = some (.int .i64 ph) := (K3.out.2.2.1.below hb9 K3.out.2.2.1.lt).cell rfl; have k2 : w9.cell? ⟨q8, 2, none⟩ = some (.slice (some ⟨gb, 0, none⟩) (m + 1) pbc) := (K3.out.2.2.1.below hb9 K3.out.2.2.1.lt).cell rfl; have k3 : w9.cell? ⟨q8, 3, none⟩ = some (.slice (some ⟨gn, 0, none⟩) (m + 1) pnc) := (K3.out.2.2.1.below hb9 K3.out.2.2.1.lt).cell rfl; clear hb9 WD2 y0 d0 x1)
                | fail)
              go_ret
              rw [show insN cl l i p _ = none from (by have h1 := HYO.out; simp [insN, HY.out, h1])]
              exact LedK.none (grown_below (K3.out.1.trans (HB9.out.mono K3.out.1.size)) _)
          · have HLAST := Lib.hid hlast
            have hle9 : (ln : Int) ≤ (i : Int) + 1 := by have := HLN.out; omega
            clear hlast
            go_wp2_with fail
            go_ret
            rw [show insN cl l i p _ = none from (by have h1 := HLAST.out; simp [insN, show cl[i + 1]? = none from List.getElem?_eq_none (by omega)])]
            exact LedK.none (grown_below K3.out.1 _)
end Go.Proofs.YtdkoafmgenbkbaaDoor
