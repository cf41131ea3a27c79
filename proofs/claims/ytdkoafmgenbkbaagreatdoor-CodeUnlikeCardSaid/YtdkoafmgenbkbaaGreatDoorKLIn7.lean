/- - -/
import Derived.Test.YtdkoafmgenbkbaaGreatDoorKM3
set_option maxRecDepth 100000
set_option maxHeartbeats 32000000
set_option linter.unusedSimpArgs false
set_option linter.unusedVariables false
namespace Go.Proofs.YtdkoafmgenbkbaaGreatDoor
open Go.RowKit
theorem ins_39_n {W0 W : World} {k g n c : Nat} {la : Option Addr} {ln lc : Nat} {cl : List Ins} {l : List Pl} {i : Nat} {p : Pl} {arg : Int} (int : Int) (text : ByteArray) (I : InsPre W0 W k g n c la ln lc cl l i p arg) (hloops : p.loops ≠ []) :
    Calls Tryz.prog 23 #[.pointer (some ⟨k, 0, none⟩), .int .i64 i, .agg #[.int .i64 39, .int .i64 arg, .int .i64 int, .string text]] W (LedTo W g (insN cl l i p ⟨39, arg, int, text⟩)) := by
  obtain ⟨pv, e0, e1, e2, er⟩ := I.hp.at_ I.hpi
  obtain ⟨pa, pc, rfl⟩ := er.form
  have hn1 : (i : Int) < (n : Int) := by have := I.nc; have := I.hi; omega
  have hi0 : (0 : Int) ≤ (i : Int) := Int.natCast_nonneg _
  have hi2 : (i : Int) ≤ 1024 := by have := I.hi; have := I.few; omega
  have hg0 := I.good.b0
  have hg1 := I.good.bh
  have hg2 := I.good.hj
  have hgf := I.good.few
  have ha0 := I.arg0
  have hgl := I.hp.lt
  have hkl := I.hk.lt
  obtain ⟨ck0, ck1⟩ := I.hk.k2
  have hkg := I.apart
  have hln : ln = cl.length := I.hl.len
  have HLN := zH hln
  have hcp : p.loops.length ≤ pc ∧ pc ≤ maxLen := by obtain ⟨_, _, h1, h2, h3, _⟩ := er; injection h1 with _ _ h1; subst h1; exact ⟨h2, h3⟩
  have J := zH I
  clear hln
  have ER := zH er
  clear I er
  obtain ⟨m, hm⟩ : ∃ m, p.loops.length = m + 1 := ⟨p.loops.length - 1, by have := List.length_pos_iff.2 hloops; omega⟩
  obtain ⟨lx, hlx⟩ : ∃ x, p.loops.getLast? = some x := by cases h : p.loops.getLast? with | none => exact absurd (List.getLast?_eq_none_iff.1 h) hloops | some x => exact ⟨x, rfl⟩
  have hb : p.base = lx.1 := by unfold Pl.base; rw [hlx]
  have hnx : p.next = lx.2 := by unfold Pl.next; rw [hlx]
  rw [hm] at e2
  have er2 := ER.out
  rw [hm] at er2
  obtain ⟨gl, lxs, rfl, _, ⟨rfl, _⟩, hxl⟩ := er2.last hlx
  have l0 := hxl 0 _ rfl
  have l1 := hxl 1 _ rfl
  have hgll := cell_lt l0
  simp only [Nat.add_zero] at l0
  simp only at hgll
  have hm1 : (m : Int) ≤ 1024 := by omega
  have hm0 : (0 : Int) ≤ (m : Int) := Int.natCast_nonneg _
  have hm2 : (0 : Int) < ((m + 1 : Nat) : Int) := by omega
  have hm3 : ((m + 1 : Nat) : Int) - 1 = (m : Int) := by omega
  have hm4 : (0 : Int) < (m : Int) + 1 := by omega
  have hm5 : (m : Int) < ((m + 1 : Nat) : Int) := by omega
  have hm6 : (((m : Int) + 1) == 0) = false := by simp; omega
  have hm7 : (m : Int) ≤ (pc : Int) := by omega
  have hm8 : m ≤ pc := by omega
  clear hxl er2
  rw [hb] at hg0 hg1
  obtain ⟨ph, hph⟩ : ∃ x, p.height = x := ⟨_, rfl⟩
  rw [hph] at e1 hg1 hg2
  have HN : Hid (∀ W, Calls Tryz.prog 36 #[.int .i64 39] W fun e w' => e = .returned (.int .i64 0) ∧ Quiet W w') := zH (fun W => needs_any 39 (by decide) (by decide) W)
  have HWH : Hid (∀ W, Calls Tryz.prog 31 #[.int .i64 39] W fun e w' => e = .returned (.int .u8 112) ∧ Quiet W w') := zH (fun W => what_any 39 (by decide) (by decide) W)
  have HPH := zH hph
  have HBB := zH hb
  have HNX := zH hnx
  clear hnx
  clear hph hb
  go_enter Tryz.func23, Tryz.ntmps23
  go_wp2_with fail
  go_quiet (fail)
  generalize hW2 : World.drewN (World.alloc (World.alloc W _) _) _ = W2
  have B5 : Blk W2 W.heap.size 42 #[.int .i64 39, .int .i64 arg, .int .i64 int, .string text] := by rw [← hW2]; exact (Blk.new W _ _).alloc _
  have B7 : Blk W2 (W.heap.size + 1) 69 #[.bool p.known, .int .i64 ph, .slice (some ⟨gl, 0, none⟩) (m + 1) pc] := by rw [← hW2]; exact Blk.new_ (by simp) _ _
  have L2 : Below W.heap.size W W2 := by rw [← hW2]; exact below_drewN ((zB.alloc zL _).alloc (by simp) _) _
  have s2 : W2.heap.size = W.heap.size + 2 := by rw [← hW2]; simp
  obtain ⟨a0, a1, -, -⟩ := B5.k4
  have b1 : W2.cell? ⟨W.heap.size + 1, 1, none⟩ = some (.int .i64 ph) := B7.cell rfl
  have b2 : W2.cell? ⟨W.heap.size + 1, 2, none⟩ = some (.slice (some ⟨gl, 0, none⟩) (m + 1) pc) := B7.cell rfl
  have ck0 := (L2.cell (p := ⟨k, 0, none⟩) hkl).trans ck0
  have ck1 := (L2.cell (p := ⟨k, 1, none⟩) hkl).trans ck1
  have l0 := (L2.cell (p := ⟨gl, m * 2, none⟩) hgll).trans l0
  have l1 := (L2.cell (p := ⟨gl, m * 2 + 1, none⟩) hgll).trans l1
  have hgl2 : gl < W2.heap.size := by omega
  have hS1 : W.heap.size < W2.heap.size := by omega
  have hS2 : W.heap.size + 1 < W2.heap.size := by omega
  have hK2 : k < W2.heap.size := by omega
  have HB5 := zH B5
  have HB7 := zH B7
  have HL2 := zH L2
  have S2 := zH s2
  clear B5 B7 L2 hW2 s2
  go_wp2_with fail
  go_quiet ((go_at_call 36; with_reducible exact quiet_calln (HN.out _)))
  have hroom : ¬ ph - lx.1 < 0 := by omega
  by_cases hA1 : arg ≤ (i : Int)
  · go_wp2_with fail
    go_quiet (((go_at_call 31; with_reducible exact quiet_calln2 (HWH.out _))))
    go_wp2_with fail
    go_ret
    rw [show insN cl l i p _ = none from (by simp [insN, aheadN]; have := HLN.out; omega)]
    exact LedTo.none (grown_below (by repeat' first | exact HL2.out.alloc (by omega) _ | refine below_drewN ?_ _) _)
  by_cases hA2 : (ln : Int) < arg
  · go_wp2_with fail
    go_quiet (((go_at_call 31; with_reducible exact quiet_calln2 (HWH.out _))))
    go_wp2_with fail
    go_ret
    rw [show insN cl l i p _ = none from (by simp [insN, aheadN]; have := HLN.out; omega)]
    exact LedTo.none (grown_below (by repeat' first | exact HL2.out.alloc (by omega) _ | refine below_drewN ?_ _) _)
  by_cases hx : lx.2 = (i : Int)
  · by_cases hz : ph = lx.1
    · rcases hr1 : leadN l arg.toNat (lx.1 + 1) p.loops.dropLast with _ | lq
      · have hx1 : (lx.2 != (i : Int)) = false := by simpa using hx
        have HX := zH hx
        clear hx
        have hz1 : (ph != lx.1) = false := by simpa using hz
        have HZ := zH hz
        clear hz
        have HR1 := zH hr1
        clear hr1
        go_wp2_with fail
        go_quiet (((go_at_call 31; with_reducible exact quiet_calln2 (HWH.out _))))
        generalize hW3 : World.drewN _ _ = W3
        have S2' := S2.out
        have L3 : Below W.heap.size W W3 := by rw [← hW3]; repeat' first | exact HL2.out.alloc (by omega) _ | refine below_drewN ?_ _
        have L23 : Below W2.heap.size W2 W3 := by rw [← hW3]; repeat' first | exact zB.alloc zL _ | refine below_drewN ?_ _
        have B10 : Blk W3 W2.heap.size 91 #[.int .i64 (lx.1), .int .i64 (lx.2)] := by rw [← hW3]; exact Blk.new W2 _ _
        have B5 := HB5.out.below L23 hS1
        have B7 := HB7.out.below L23 hS2
        have BK := J.out.hk.below L3 hkl
        have BP := J.out.hp.below L3
        have BR := ER.out.below L3
        obtain ⟨a0, a1, -, -⟩ := B5.k4
        have b1 : W3.cell? ⟨W.heap.size + 1, 1, none⟩ = some (.int .i64 ph) := B7.cell rfl
        have b2 : W3.cell? ⟨W.heap.size + 1, 2, none⟩ = some (.slice (some ⟨gl, 0, none⟩) (m + 1) pc) := B7.cell rfl
        obtain ⟨c0, c1⟩ := B10.k2
        obtain ⟨ck0, ck1⟩ := BK.k2
        have K3 := zH (And.intro L3 (And.intro B5 (And.intro B7 (And.intro BK (And.intro BP BR)))))
        clear hW3 L3 L23 B10 B5 B7 BK BP BR S2'
        have LDC : Hid (Calls Tryz.prog 21 #[.pointer (some ⟨k, 0, none⟩), .int .i64 arg, .int .i64 (lx.1 + 1), .slice (some ⟨gl, 0, none⟩) m pc] W3.drew (LedTo W3.drew g (leadN l arg.toNat (lx.1 + 1) p.loops.dropLast))) := zH (lead_at (tw := arg.toNat) W3.drew arg (lx.1 + 1) (.slice (some ⟨gl, 0, none⟩) m pc) p.loops.dropLast (by omega) (show Blk W3.drew k 65 #[.slice la ln lc, .slice (some ⟨g, 0, none⟩) n c] from K3.out.2.2.2.1) (show PlS W3.drew g l from K3.out.2.2.2.2.1) J.out.nl (by have h1 := J.out.nl; have h2 := J.out.nc; have h3 := HLN.out; omega) (by have := J.out.nc; have := J.out.few; omega) (by have := K3.out.2.2.2.2.2; rw [hm] at this; have := this.cut; exact this))
        have wr1 : IntKind.i64.wrap ((m : Int) + 1 - 1) = (m : Int) := by rw [IntKind.wrap_i64]; omega
        have wr2 : IntKind.i64.wrap (lx.1 + 1) = lx.1 + 1 := by rw [IntKind.wrap_i64]; omega
        have wr3 : IntKind.i64.wrap (m : Int) = (m : Int) := by rw [IntKind.wrap_i64]; omega
        have tok1 : True := trivial
        go_wp2_with fail
        go_region_held3 (fun W' => W'.cell? ⟨W.heap.size, 1, none⟩ = some (.int .i64 arg) ∧ W'.cell? ⟨W.heap.size + 1, 2, none⟩ = some (.slice (some ⟨gl, 0, none⟩) (m + 1) pc))
          (first
            | go_keep
            | (have _k := KP; exact KP)
            | fail)
          (first
            | (have _t := tok1; go_at_call 21; go_must (refine LDC.out.mono ?_; rintro e w4 ⟨he, hg, hl'⟩; rw [HR1.out] at he hl'; simp only [Option.isSome_none] at he; subst he; have KP : w4.cell? ⟨W.heap.size, 1, none⟩ = some (.int .i64 arg) ∧ w4.cell? ⟨W.heap.size + 1, 2, none⟩ = some (.slice (some ⟨gl, 0, none⟩) (m + 1) pc) := ⟨((show Blk W3.drew W.heap.size 42 _ from K3.out.2.1).grown hg (by intro e; injection e with e; omega)).cell rfl, ((show Blk W3.drew (W.heap.size + 1) 69 _ from K3.out.2.2.1).grown hg (by intro e; injection e with e; omega)).cell rfl⟩; have HG := zH hg; clear hg hl' tok1 _t))
            | fail)
        go_wp2_with fail
        go_ret
        rw [show insN cl l i p _ = none from (by have hx := HX.out; have hz := HZ.out; have h1 := HR1.out; have h2 := HLN.out; simp only [insN, HPH.out, HBB.out, aheadN, HNX.out]; simp [h1, hloops, hx, hz])]
        exact LedTo.none (grown_trans (grown_below K3.out.1.drew _) HG.out)
      · have hx1 : (lx.2 != (i : Int)) = false := by simpa using hx
        have HX := zH hx
        clear hx
        have hz1 : (ph != lx.1) = false := by simpa using hz
        have HZ := zH hz
        clear hz
        have HR1 := zH hr1
        clear hr1
        go_wp2_with fail
        go_quiet (((go_at_call 31; with_reducible exact quiet_calln2 (HWH.out _))))
        generalize hW3 : World.drewN _ _ = W3
        have S2' := S2.out
        have L3 : Below W.heap.size W W3 := by rw [← hW3]; repeat' first | exact HL2.out.alloc (by omega) _ | refine below_drewN ?_ _
        have L23 : Below W2.heap.size W2 W3 := by rw [← hW3]; repeat' first | exact zB.alloc zL _ | refine below_drewN ?_ _
        have B10 : Blk W3 W2.heap.size 91 #[.int .i64 (lx.1), .int .i64 (lx.2)] := by rw [← hW3]; exact Blk.new W2 _ _
        have B5 := HB5.out.below L23 hS1
        have B7 := HB7.out.below L23 hS2
        have BK := J.out.hk.below L3 hkl
        have BP := J.out.hp.below L3
        have BR := ER.out.below L3
        obtain ⟨a0, a1, -, -⟩ := B5.k4
        have b1 : W3.cell? ⟨W.heap.size + 1, 1, none⟩ = some (.int .i64 ph) := B7.cell rfl
        have b2 : W3.cell? ⟨W.heap.size + 1, 2, none⟩ = some (.slice (some ⟨gl, 0, none⟩) (m + 1) pc) := B7.cell rfl
        obtain ⟨c0, c1⟩ := B10.k2
        obtain ⟨ck0, ck1⟩ := BK.k2
        have K3 := zH (And.intro L3 (And.intro B5 (And.intro B7 (And.intro BK (And.intro BP BR)))))
        clear hW3 L3 L23 B10 B5 B7 BK BP BR S2'
        have LDC : Hid (Calls Tryz.prog 21 #[.pointer (some ⟨k, 0, none⟩), .int .i64 arg, .int .i64 (lx.1 + 1), .slice (some ⟨gl, 0, none⟩) m pc] W3.drew (LedTo W3.drew g (leadN l arg.toNat (lx.1 + 1) p.loops.dropLast))) := zH (lead_at (tw := arg.toNat) W3.drew arg (lx.1 + 1) (.slice (some ⟨gl, 0, none⟩) m pc) p.loops.dropLast (by omega) (show Blk W3.drew k 65 #[.slice la ln lc, .slice (some ⟨g, 0, none⟩) n c] from K3.out.2.2.2.1) (show PlS W3.drew g l from K3.out.2.2.2.2.1) J.out.nl (by have h1 := J.out.nl; have h2 := J.out.nc; have h3 := HLN.out; omega) (by have := J.out.nc; have := J.out.few; omega) (by have := K3.out.2.2.2.2.2; rw [hm] at this; have := this.cut; exact this))
        have wr1 : IntKind.i64.wrap ((m : Int) + 1 - 1) = (m : Int) := by rw [IntKind.wrap_i64]; omega
        have wr2 : IntKind.i64.wrap (lx.1 + 1) = lx.1 + 1 := by rw [IntKind.wrap_i64]; omega
        have wr3 : IntKind.i64.wrap (m : Int) = (m : Int) := by rw [IntKind.wrap_i64]; omega
        have tok1 : True := trivial
        go_wp2_with fail
        go_region_held3 (fun W' => W'.cell? ⟨W.heap.size, 1, none⟩ = some (.int .i64 arg) ∧ W'.cell? ⟨W.heap.size + 1, 2, none⟩ = some (.slice (some ⟨gl, 0, none⟩) (m + 1) pc))
          (first
            | go_keep
            | (have _k := KP; exact KP)
            | fail)
          (first
            | (have _t := tok1; go_at_call 21; go_must (refine LDC.out.mono ?_; rintro e w4 ⟨he, hg, hl'⟩; rw [HR1.out] at he hl'; simp only [Option.isSome_some] at he; subst he; have KP : w4.cell? ⟨W.heap.size, 1, none⟩ = some (.int .i64 arg) ∧ w4.cell? ⟨W.heap.size + 1, 2, none⟩ = some (.slice (some ⟨gl, 0, none⟩) (m + 1) pc) := ⟨((show Blk W3.drew W.heap.size 42 _ from K3.out.2.1).grown hg (by intro e; injection e with e; omega)).cell rfl, ((show Blk W3.drew (W.heap.size + 1) 69 _ from K3.out.2.2.1).grown hg (by intro e; injection e with e; omega)).cell rfl⟩; have HG := zH hg; have BP4 := hl' lq rfl; have BK4 := (show Blk W3.drew k 65 _ from K3.out.2.2.2.1).grown hg (fun e => hkg (by injection e)); have B74 := (show Blk W3.drew (W.heap.size + 1) 69 _ from K3.out.2.2.1).grown hg (by intro e; injection e with e; omega); have b2 : w4.cell? ⟨W.heap.size + 1, 2, none⟩ = some (.slice (some ⟨gl, 0, none⟩) (m + 1) pc) := B74.cell rfl; have BR4 := (show LpR W3.drew _ p.loops from K3.out.2.2.2.2.2).grown hg (show PlS W3.drew g l from K3.out.2.2.2.2.1).blk.choose_spec (by decide); have G4 := zH (And.intro BP4 (And.intro BK4 (And.intro BR4 hg))); clear BP4 BK4 B74 BR4 hg hl' tok1 _t))
            | fail)
        go_wp2_with (first
          | (go_at_call 21; refine (lead_at (tw := i + 1) w4 ((i : Int) + 1) (lx.1) (.slice (some ⟨gl, 0, none⟩) (m + 1) pc) (p.loops) (by omega) G4.out.2.1 G4.out.1 (by rw [leadN_len HR1.out]; exact J.out.nl) (by rw [leadN_len HR1.out]; have h1 := J.out.nl; have h2 := J.out.nc; have h3 := J.out.hi; omega) (by have := J.out.nc; have := J.out.few; omega) (by have := G4.out.2.2.1; rw [hm] at this; exact this)).mono ?_; rintro e w5 hled; have HLED := zH hled; obtain ⟨rfl, _⟩ := hled)
          | fail)
        go_ret
        rw [show insN cl l i p _ = leadN lq (i + 1) (lx.1) p.loops from (by have hx := HX.out; have hz := HZ.out; have h1 := HR1.out; have h2 := HLN.out; simp only [insN, HPH.out, HBB.out, aheadN, HNX.out]; simp [h1, hloops, hx, hz]; omega)]
        exact LedTo.from (grown_trans (grown_below K3.out.1.drew _) G4.out.2.2.2) HLED.out
    · have hx1 : (lx.2 != (i : Int)) = false := by simpa using hx
      have HX := zH hx
      clear hx
      have hz1 : (ph != lx.1) = true := by simpa using hz
      have HZ := zH hz
      clear hz
      go_wp2_with fail
      go_quiet (((go_at_call 31; with_reducible exact quiet_calln2 (HWH.out _))))
      go_wp2_with fail
      go_ret
      rw [show insN cl l i p _ = none from (by have h1 := HX.out; have h2 := HZ.out; simp [insN, HPH.out, HBB.out, HNX.out, hloops, h1]; omega)]
      exact LedTo.none (grown_below (by repeat' first | exact HL2.out.alloc (by omega) _ | refine below_drewN ?_ _) _)
  · have hx1 : (lx.2 != (i : Int)) = true := by simpa using hx
    have HX := zH hx
    clear hx
    go_wp2_with fail
    go_quiet (((go_at_call 31; with_reducible exact quiet_calln2 (HWH.out _))))
    go_wp2_with fail
    go_ret
    rw [show insN cl l i p _ = none from (by have h1 := HX.out; simp [insN, HNX.out, hloops, h1])]
    exact LedTo.none (grown_below (by repeat' first | exact HL2.out.alloc (by omega) _ | refine below_drewN ?_ _) _)
theorem ins_39_e {W0 W : World} {k g n c : Nat} {la : Option Addr} {ln lc : Nat} {cl : List Ins} {l : List Pl} {i : Nat} {p : Pl} {arg : Int} (int : Int) (text : ByteArray) (I : InsPre W0 W k g n c la ln lc cl l i p arg) (hloops : p.loops = []) :
    Calls Tryz.prog 23 #[.pointer (some ⟨k, 0, none⟩), .int .i64 i, .agg #[.int .i64 39, .int .i64 arg, .int .i64 int, .string text]] W (LedTo W g (insN cl l i p ⟨39, arg, int, text⟩)) := by
  obtain ⟨pv, e0, e1, e2, er⟩ := I.hp.at_ I.hpi
  obtain ⟨pa, pc, rfl⟩ := er.form
  have hn1 : (i : Int) < (n : Int) := by have := I.nc; have := I.hi; omega
  have hi0 : (0 : Int) ≤ (i : Int) := Int.natCast_nonneg _
  have hi2 : (i : Int) ≤ 1024 := by have := I.hi; have := I.few; omega
  have hg0 := I.good.b0
  have hg1 := I.good.bh
  have hg2 := I.good.hj
  have hgf := I.good.few
  have ha0 := I.arg0
  have hgl := I.hp.lt
  have hkl := I.hk.lt
  obtain ⟨ck0, ck1⟩ := I.hk.k2
  have hkg := I.apart
  have hln : ln = cl.length := I.hl.len
  have HLN := zH hln
  have hcp : p.loops.length ≤ pc ∧ pc ≤ maxLen := by obtain ⟨_, _, h1, h2, h3, _⟩ := er; injection h1 with _ _ h1; subst h1; exact ⟨h2, h3⟩
  have J := zH I
  clear hln
  have ER := zH er
  clear I er
  have hb : p.base = 0 := by unfold Pl.base; rw [hloops]; rfl
  have hl0 : p.loops.length = 0 := by rw [hloops]; rfl
  rw [hl0] at e2
  have HLP := zH hloops
  clear hloops
  rw [hb] at hg0 hg1
  obtain ⟨ph, hph⟩ : ∃ x, p.height = x := ⟨_, rfl⟩
  rw [hph] at e1 hg1 hg2
  have HN : Hid (∀ W, Calls Tryz.prog 36 #[.int .i64 39] W fun e w' => e = .returned (.int .i64 0) ∧ Quiet W w') := zH (fun W => needs_any 39 (by decide) (by decide) W)
  have HWH : Hid (∀ W, Calls Tryz.prog 31 #[.int .i64 39] W fun e w' => e = .returned (.int .u8 112) ∧ Quiet W w') := zH (fun W => what_any 39 (by decide) (by decide) W)
  have HPH := zH hph
  have HBB := zH hb
  clear hph hb
  go_enter Tryz.func23, Tryz.ntmps23
  go_wp2_with fail
  go_quiet (fail)
  generalize hW2 : World.drewN (World.alloc (World.alloc W _) _) _ = W2
  have B5 : Blk W2 W.heap.size 42 #[.int .i64 39, .int .i64 arg, .int .i64 int, .string text] := by rw [← hW2]; exact (Blk.new W _ _).alloc _
  have B7 : Blk W2 (W.heap.size + 1) 69 #[.bool p.known, .int .i64 ph, .slice pa 0 pc] := by rw [← hW2]; exact Blk.new_ (by simp) _ _
  have L2 : Below W.heap.size W W2 := by rw [← hW2]; exact below_drewN ((zB.alloc zL _).alloc (by simp) _) _
  have s2 : W2.heap.size = W.heap.size + 2 := by rw [← hW2]; simp
  obtain ⟨a0, a1, -, -⟩ := B5.k4
  have b1 : W2.cell? ⟨W.heap.size + 1, 1, none⟩ = some (.int .i64 ph) := B7.cell rfl
  have b2 : W2.cell? ⟨W.heap.size + 1, 2, none⟩ = some (.slice pa 0 pc) := B7.cell rfl
  have ck0 := (L2.cell (p := ⟨k, 0, none⟩) hkl).trans ck0
  have ck1 := (L2.cell (p := ⟨k, 1, none⟩) hkl).trans ck1
  have hS1 : W.heap.size < W2.heap.size := by omega
  have hS2 : W.heap.size + 1 < W2.heap.size := by omega
  have hK2 : k < W2.heap.size := by omega
  have HB5 := zH B5
  have HB7 := zH B7
  have HL2 := zH L2
  have S2 := zH s2
  clear B5 B7 L2 hW2 s2
  go_wp2_with fail
  go_quiet ((go_at_call 36; with_reducible exact quiet_calln (HN.out _)))
  have hroom : ¬ ph - 0 < 0 := by omega
  by_cases hA1 : arg ≤ (i : Int)
  · go_wp2_with fail
    go_quiet (((go_at_call 31; with_reducible exact quiet_calln2 (HWH.out _))))
    go_wp2_with fail
    go_ret
    rw [show insN cl l i p _ = none from (by simp [insN, aheadN]; have := HLN.out; omega)]
    exact LedTo.none (grown_below (by repeat' first | exact HL2.out.alloc (by omega) _ | refine below_drewN ?_ _) _)
  by_cases hA2 : (ln : Int) < arg
  · go_wp2_with fail
    go_quiet (((go_at_call 31; with_reducible exact quiet_calln2 (HWH.out _))))
    go_wp2_with fail
    go_ret
    rw [show insN cl l i p _ = none from (by simp [insN, aheadN]; have := HLN.out; omega)]
    exact LedTo.none (grown_below (by repeat' first | exact HL2.out.alloc (by omega) _ | refine below_drewN ?_ _) _)
  go_wp2_with fail
  go_quiet (((go_at_call 31; with_reducible exact quiet_calln2 (HWH.out _))))
  go_wp2_with fail
  go_ret
  rw [show insN cl l i p _ = none from (by simp [insN, HLP.out])]
  exact LedTo.none (grown_below (by repeat' first | exact HL2.out.alloc (by omega) _ | refine below_drewN ?_ _) _)
end Go.Proofs.YtdkoafmgenbkbaaGreatDoor
