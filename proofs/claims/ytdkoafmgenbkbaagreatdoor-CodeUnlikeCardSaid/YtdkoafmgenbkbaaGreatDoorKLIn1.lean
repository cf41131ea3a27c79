/- - -/
import Derived.Test.YtdkoafmgenbkbaaGreatDoorKM3
set_option maxRecDepth 100000
set_option maxHeartbeats 32000000
set_option linter.unusedSimpArgs false
set_option linter.unusedVariables false
namespace Go.Proofs.YtdkoafmgenbkbaaGreatDoor
open Go.RowKit
theorem ins_1_n {W0 W : World} {k g n c : Nat} {la : Option Addr} {ln lc : Nat} {cl : List Ins} {l : List Pl} {i : Nat} {p : Pl} {arg : Int} (int : Int) (text : ByteArray) (I : InsPre W0 W k g n c la ln lc cl l i p arg) (hloops : p.loops ≠ []) :
    Calls Tryz.prog 23 #[.pointer (some ⟨k, 0, none⟩), .int .i64 i, .agg #[.int .i64 1, .int .i64 arg, .int .i64 int, .string text]] W (LedTo W g (insN cl l i p ⟨1, arg, int, text⟩)) := by
  obtain ⟨pv, e0, e1, e2, er⟩ := I.hp.at_ I.hpi
  obtain ⟨pa, pc, rfl⟩ := er.form
  have hn1 : (i : Int) < (n : Int) := by have := I.nc; have := I.hi; omega
  have hi0 : (0 : Int) ≤ (i : Int) := Int.natCast_nonneg _
  have hi2 : (i : Int) ≤ 1024 := by have := I.hi; have := I.few; omega
  have hg0 := I.good.b0
  have hg1 := I.good.bh
  have hg2 := I.good.hj
  have hgf := I.good.few
  have ha0 := I.arg0
  have hgl := I.hp.lt
  have hkl := I.hk.lt
  obtain ⟨ck0, ck1⟩ := I.hk.k2
  have hkg := I.apart
  have hln : ln = cl.length := I.hl.len
  have HLN := zH hln
  have hcp : p.loops.length ≤ pc ∧ pc ≤ maxLen := by obtain ⟨_, _, h1, h2, h3, _⟩ := er; injection h1 with _ _ h1; subst h1; exact ⟨h2, h3⟩
  have J := zH I
  clear hln
  have ER := zH er
  clear I er
  obtain ⟨m, hm⟩ : ∃ m, p.loops.length = m + 1 := ⟨p.loops.length - 1, by have := List.length_pos_iff.2 hloops; omega⟩
  obtain ⟨lx, hlx⟩ : ∃ x, p.loops.getLast? = some x := by cases h : p.loops.getLast? with | none => exact absurd (List.getLast?_eq_none_iff.1 h) hloops | some x => exact ⟨x, rfl⟩
  have hb : p.base = lx.1 := by unfold Pl.base; rw [hlx]
  have hnx : p.next = lx.2 := by unfold Pl.next; rw [hlx]
  rw [hm] at e2
  have er2 := ER.out
  rw [hm] at er2
  obtain ⟨gl, lxs, rfl, _, ⟨rfl, _⟩, hxl⟩ := er2.last hlx
  have l0 := hxl 0 _ rfl
  have l1 := hxl 1 _ rfl
  have hgll := cell_lt l0
  simp only [Nat.add_zero] at l0
  simp only at hgll
  have hm1 : (m : Int) ≤ 1024 := by omega
  have hm0 : (0 : Int) ≤ (m : Int) := Int.natCast_nonneg _
  have hm2 : (0 : Int) < ((m + 1 : Nat) : Int) := by omega
  have hm3 : ((m + 1 : Nat) : Int) - 1 = (m : Int) := by omega
  have hm4 : (0 : Int) < (m : Int) + 1 := by omega
  have hm5 : (m : Int) < ((m + 1 : Nat) : Int) := by omega
  have hm6 : (((m : Int) + 1) == 0) = false := by simp; omega
  have hm7 : (m : Int) ≤ (pc : Int) := by omega
  have hm8 : m ≤ pc := by omega
  clear hxl er2
  rw [hb] at hg0 hg1
  obtain ⟨ph, hph⟩ : ∃ x, p.height = x := ⟨_, rfl⟩
  rw [hph] at e1 hg1 hg2
  have HN : Hid (∀ W, Calls Tryz.prog 36 #[.int .i64 1] W fun e w' => e = .returned (.int .i64 0) ∧ Quiet W w') := zH (fun W => needs_any 1 (by decide) (by decide) W)
  have HWH : Hid (∀ W, Calls Tryz.prog 31 #[.int .i64 1] W fun e w' => e = .returned (.int .u8 97) ∧ Quiet W w') := zH (fun W => what_any 1 (by decide) (by decide) W)
  have HPH := zH hph
  have HBB := zH hb
  clear hph hb
  go_enter Tryz.func23, Tryz.ntmps23
  go_wp2_with fail
  go_quiet (fail)
  generalize hW2 : World.drewN (World.alloc (World.alloc W _) _) _ = W2
  have B5 : Blk W2 W.heap.size 42 #[.int .i64 1, .int .i64 arg, .int .i64 int, .string text] := by rw [← hW2]; exact (Blk.new W _ _).alloc _
  have B7 : Blk W2 (W.heap.size + 1) 69 #[.bool p.known, .int .i64 ph, .slice (some ⟨gl, 0, none⟩) (m + 1) pc] := by rw [← hW2]; exact Blk.new_ (by simp) _ _
  have L2 : Below W.heap.size W W2 := by rw [← hW2]; exact below_drewN ((zB.alloc zL _).alloc (by simp) _) _
  have s2 : W2.heap.size = W.heap.size + 2 := by rw [← hW2]; simp
  obtain ⟨a0, a1, -, -⟩ := B5.k4
  have b1 : W2.cell? ⟨W.heap.size + 1, 1, none⟩ = some (.int .i64 ph) := B7.cell rfl
  have b2 : W2.cell? ⟨W.heap.size + 1, 2, none⟩ = some (.slice (some ⟨gl, 0, none⟩) (m + 1) pc) := B7.cell rfl
  have ck0 := (L2.cell (p := ⟨k, 0, none⟩) hkl).trans ck0
  have ck1 := (L2.cell (p := ⟨k, 1, none⟩) hkl).trans ck1
  have l0 := (L2.cell (p := ⟨gl, m * 2, none⟩) hgll).trans l0
  have l1 := (L2.cell (p := ⟨gl, m * 2 + 1, none⟩) hgll).trans l1
  have hgl2 : gl < W2.heap.size := by omega
  have hS1 : W.heap.size < W2.heap.size := by omega
  have hS2 : W.heap.size + 1 < W2.heap.size := by omega
  have hK2 : k < W2.heap.size := by omega
  have HB5 := zH B5
  have HB7 := zH B7
  have HL2 := zH L2
  have S2 := zH s2
  clear B5 B7 L2 hW2 s2
  go_wp2_with fail
  go_quiet ((go_at_call 36; with_reducible exact quiet_calln (HN.out _)))
  have hroom : ¬ ph - lx.1 < 0 := by omega
  go_wp2_with fail
  go_quiet (((go_at_call 31; with_reducible exact quiet_calln2 (HWH.out _))))
  generalize hW3 : World.drewN _ _ = W3
  have S2' := S2.out
  have L3 : Below W.heap.size W W3 := by rw [← hW3]; repeat' first | exact HL2.out.alloc (by omega) _ | refine below_drewN ?_ _
  have L23 : Below W2.heap.size W2 W3 := by rw [← hW3]; repeat' first | exact zB.alloc zL _ | refine below_drewN ?_ _
  have B10 : Blk W3 W2.heap.size 91 #[.int .i64 (lx.1), .int .i64 (lx.2)] := by rw [← hW3]; exact Blk.new W2 _ _
  have B5 := HB5.out.below L23 hS1
  have B7 := HB7.out.below L23 hS2
  have BK := J.out.hk.below L3 hkl
  have BP := J.out.hp.below L3
  have BR := ER.out.below L3
  obtain ⟨a0, a1, -, -⟩ := B5.k4
  have b1 : W3.cell? ⟨W.heap.size + 1, 1, none⟩ = some (.int .i64 ph) := B7.cell rfl
  have b2 : W3.cell? ⟨W.heap.size + 1, 2, none⟩ = some (.slice (some ⟨gl, 0, none⟩) (m + 1) pc) := B7.cell rfl
  obtain ⟨c0, c1⟩ := B10.k2
  obtain ⟨ck0, ck1⟩ := BK.k2
  have K3 := zH (And.intro L3 (And.intro B5 (And.intro B7 (And.intro BK (And.intro BP BR)))))
  clear hW3 L3 L23 B10 B5 B7 BK BP BR S2'
  go_wp2_with (first
    | (go_at_call 21; refine (lead_at (tw := i + 1) W3 ((i : Int) + 1) (ph) (.slice (some ⟨gl, 0, none⟩) (m + 1) pc) (p.loops) (by omega) K3.out.2.2.2.1 K3.out.2.2.2.2.1 (J.out.nl) (by have h1 := J.out.nl; have h2 := J.out.nc; have h3 := J.out.hi; omega) (by have := J.out.nc; have := J.out.few; omega) (by have := K3.out.2.2.2.2.2; rw [hm] at this; exact this)).mono ?_; rintro e w4 hled; have HLED := zH hled; obtain ⟨rfl, _⟩ := hled)
    | fail)
  go_ret
  rw [show insN cl l i p _ = leadN l (i + 1) (ph) p.loops from (by simp [insN, HPH.out, HBB.out])]
  exact LedTo.from (grown_below K3.out.1 _) HLED.out
theorem ins_1_e {W0 W : World} {k g n c : Nat} {la : Option Addr} {ln lc : Nat} {cl : List Ins} {l : List Pl} {i : Nat} {p : Pl} {arg : Int} (int : Int) (text : ByteArray) (I : InsPre W0 W k g n c la ln lc cl l i p arg) (hloops : p.loops = []) :
    Calls Tryz.prog 23 #[.pointer (some ⟨k, 0, none⟩), .int .i64 i, .agg #[.int .i64 1, .int .i64 arg, .int .i64 int, .string text]] W (LedTo W g (insN cl l i p ⟨1, arg, int, text⟩)) := by
  obtain ⟨pv, e0, e1, e2, er⟩ := I.hp.at_ I.hpi
  obtain ⟨pa, pc, rfl⟩ := er.form
  have hn1 : (i : Int) < (n : Int) := by have := I.nc; have := I.hi; omega
  have hi0 : (0 : Int) ≤ (i : Int) := Int.natCast_nonneg _
  have hi2 : (i : Int) ≤ 1024 := by have := I.hi; have := I.few; omega
  have hg0 := I.good.b0
  have hg1 := I.good.bh
  have hg2 := I.good.hj
  have hgf := I.good.few
  have ha0 := I.arg0
  have hgl := I.hp.lt
  have hkl := I.hk.lt
  obtain ⟨ck0, ck1⟩ := I.hk.k2
  have hkg := I.apart
  have hln : ln = cl.length := I.hl.len
  have HLN := zH hln
  have hcp : p.loops.length ≤ pc ∧ pc ≤ maxLen := by obtain ⟨_, _, h1, h2, h3, _⟩ := er; injection h1 with _ _ h1; subst h1; exact ⟨h2, h3⟩
  have J := zH I
  clear hln
  have ER := zH er
  clear I er
  have hb : p.base = 0 := by unfold Pl.base; rw [hloops]; rfl
  have hl0 : p.loops.length = 0 := by rw [hloops]; rfl
  rw [hl0] at e2
  have HLP := zH hloops
  clear hloops
  rw [hb] at hg0 hg1
  obtain ⟨ph, hph⟩ : ∃ x, p.height = x := ⟨_, rfl⟩
  rw [hph] at e1 hg1 hg2
  have HN : Hid (∀ W, Calls Tryz.prog 36 #[.int .i64 1] W fun e w' => e = .returned (.int .i64 0) ∧ Quiet W w') := zH (fun W => needs_any 1 (by decide) (by decide) W)
  have HWH : Hid (∀ W, Calls Tryz.prog 31 #[.int .i64 1] W fun e w' => e = .returned (.int .u8 97) ∧ Quiet W w') := zH (fun W => what_any 1 (by decide) (by decide) W)
  have HPH := zH hph
  have HBB := zH hb
  clear hph hb
  go_enter Tryz.func23, Tryz.ntmps23
  go_wp2_with fail
  go_quiet (fail)
  generalize hW2 : World.drewN (World.alloc (World.alloc W _) _) _ = W2
  have B5 : Blk W2 W.heap.size 42 #[.int .i64 1, .int .i64 arg, .int .i64 int, .string text] := by rw [← hW2]; exact (Blk.new W _ _).alloc _
  have B7 : Blk W2 (W.heap.size + 1) 69 #[.bool p.known, .int .i64 ph, .slice pa 0 pc] := by rw [← hW2]; exact Blk.new_ (by simp) _ _
  have L2 : Below W.heap.size W W2 := by rw [← hW2]; exact below_drewN ((zB.alloc zL _).alloc (by simp) _) _
  have s2 : W2.heap.size = W.heap.size + 2 := by rw [← hW2]; simp
  obtain ⟨a0, a1, -, -⟩ := B5.k4
  have b1 : W2.cell? ⟨W.heap.size + 1, 1, none⟩ = some (.int .i64 ph) := B7.cell rfl
  have b2 : W2.cell? ⟨W.heap.size + 1, 2, none⟩ = some (.slice pa 0 pc) := B7.cell rfl
  have ck0 := (L2.cell (p := ⟨k, 0, none⟩) hkl).trans ck0
  have ck1 := (L2.cell (p := ⟨k, 1, none⟩) hkl).trans ck1
  have hS1 : W.heap.size < W2.heap.size := by omega
  have hS2 : W.heap.size + 1 < W2.heap.size := by omega
  have hK2 : k < W2.heap.size := by omega
  have HB5 := zH B5
  have HB7 := zH B7
  have HL2 := zH L2
  have S2 := zH s2
  clear B5 B7 L2 hW2 s2
  go_wp2_with fail
  go_quiet ((go_at_call 36; with_reducible exact quiet_calln (HN.out _)))
  have hroom : ¬ ph - 0 < 0 := by omega
  go_wp2_with fail
  go_quiet (((go_at_call 31; with_reducible exact quiet_calln2 (HWH.out _))))
  generalize hW3 : World.drewN _ _ = W3
  have S2' := S2.out
  have L3 : Below W.heap.size W W3 := by rw [← hW3]; repeat' first | exact HL2.out.alloc (by omega) _ | refine below_drewN ?_ _
  have L23 : Below W2.heap.size W2 W3 := by rw [← hW3]; repeat' first | exact zB.alloc zL _ | refine below_drewN ?_ _
  have B10 : Blk W3 W2.heap.size 91 #[.int .i64 (0), .int .i64 (0)] := by rw [← hW3]; exact Blk.new W2 _ _
  have B5 := HB5.out.below L23 hS1
  have B7 := HB7.out.below L23 hS2
  have BK := J.out.hk.below L3 hkl
  have BP := J.out.hp.below L3
  have BR := ER.out.below L3
  obtain ⟨a0, a1, -, -⟩ := B5.k4
  have b1 : W3.cell? ⟨W.heap.size + 1, 1, none⟩ = some (.int .i64 ph) := B7.cell rfl
  have b2 : W3.cell? ⟨W.heap.size + 1, 2, none⟩ = some (.slice pa 0 pc) := B7.cell rfl
  obtain ⟨c0, c1⟩ := B10.k2
  obtain ⟨ck0, ck1⟩ := BK.k2
  have K3 := zH (And.intro L3 (And.intro B5 (And.intro B7 (And.intro BK (And.intro BP BR)))))
  clear hW3 L3 L23 B10 B5 B7 BK BP BR S2'
  go_wp2_with (first
    | (go_at_call 21; refine (lead_at (tw := i + 1) W3 ((i : Int) + 1) (ph) (.slice pa 0 pc) (p.loops) (by omega) K3.out.2.2.2.1 K3.out.2.2.2.2.1 (J.out.nl) (by have h1 := J.out.nl; have h2 := J.out.nc; have h3 := J.out.hi; omega) (by have := J.out.nc; have := J.out.few; omega) (by have := K3.out.2.2.2.2.2; rw [hl0] at this; exact this)).mono ?_; rintro e w4 hled; have HLED := zH hled; obtain ⟨rfl, _⟩ := hled)
    | fail)
  go_ret
  rw [show insN cl l i p _ = leadN l (i + 1) (ph) p.loops from (by simp [insN, HPH.out, HBB.out])]
  exact LedTo.from (grown_below K3.out.1 _) HLED.out
theorem ins_g2_n {W0 W : World} {k g n c : Nat} {la : Option Addr} {ln lc : Nat} {cl : List Ins} {l : List Pl} {i : Nat} {p : Pl} {arg : Int} {op : Int} (hop : op = 2 ∨ op = 3 ∨ op = 4 ∨ op = 5 ∨ op = 6 ∨ op = 7 ∨ op = 9) (int : Int) (text : ByteArray) (I : InsPre W0 W k g n c la ln lc cl l i p arg) (hloops : p.loops ≠ []) :
    Calls Tryz.prog 23 #[.pointer (some ⟨k, 0, none⟩), .int .i64 i, .agg #[.int .i64 op, .int .i64 arg, .int .i64 int, .string text]] W (LedTo W g (insN cl l i p ⟨op, arg, int, text⟩)) := by
  obtain ⟨pv, e0, e1, e2, er⟩ := I.hp.at_ I.hpi
  obtain ⟨pa, pc, rfl⟩ := er.form
  have hn1 : (i : Int) < (n : Int) := by have := I.nc; have := I.hi; omega
  have hi0 : (0 : Int) ≤ (i : Int) := Int.natCast_nonneg _
  have hi2 : (i : Int) ≤ 1024 := by have := I.hi; have := I.few; omega
  have hg0 := I.good.b0
  have hg1 := I.good.bh
  have hg2 := I.good.hj
  have hgf := I.good.few
  have ha0 := I.arg0
  have hgl := I.hp.lt
  have hkl := I.hk.lt
  obtain ⟨ck0, ck1⟩ := I.hk.k2
  have hkg := I.apart
  have hln : ln = cl.length := I.hl.len
  have HLN := zH hln
  have hcp : p.loops.length ≤ pc ∧ pc ≤ maxLen := by obtain ⟨_, _, h1, h2, h3, _⟩ := er; injection h1 with _ _ h1; subst h1; exact ⟨h2, h3⟩
  have J := zH I
  have HN : Hid (∀ W, Calls Tryz.prog 36 #[.int .i64 op] W fun e w' => e = .returned (.int .i64 0) ∧ Quiet W w') := zH (fun W => by rcases hop with rfl | rfl | rfl | rfl | rfl | rfl | rfl <;> exact needs_any _ (by decide) (by decide) W)
  have HWH : Hid (∀ W, Calls Tryz.prog 31 #[.int .i64 op] W fun e w' => e = .returned (.int .u8 (whatC (hasN op))) ∧ Quiet W w') := zH (fun W => by rcases hop with rfl | rfl | rfl | rfl | rfl | rfl | rfl <;> exact what_any _ (by decide) (by decide) W)
  have HIN : Hid (∀ i', insN cl l i' p ⟨op, arg, int, text⟩ = leadN l (i' + 1) (p.height + 1) p.loops) := zH (fun i' => by rcases hop with rfl | rfl | rfl | rfl | rfl | rfl | rfl <;> simp [insN])
  have hop2 : op ≤ 40 := by omega
  rcases hop with hq | hq | hq | hq | hq | hq | hq
  all_goals
    have q1 := congrArg (fun z : Int => z == 1) hq
    have q29 := congrArg (fun z : Int => z == 29) hq
    have q32 := congrArg (fun z : Int => z == 32) hq
    have q8 := congrArg (fun z : Int => z == 8) hq
    have q2 := congrArg (fun z : Int => z == 2) hq
    have q3 := congrArg (fun z : Int => z == 3) hq
    have q4 := congrArg (fun z : Int => z == 4) hq
    have q5 := congrArg (fun z : Int => z == 5) hq
    have q6 := congrArg (fun z : Int => z == 6) hq
    have q7 := congrArg (fun z : Int => z == 7) hq
    have q9 := congrArg (fun z : Int => z == 9) hq
    have q22 := congrArg (fun z : Int => z == 22) hq
    have q23 := congrArg (fun z : Int => z == 23) hq
    have q24 := congrArg (fun z : Int => z == 24) hq
    have q25 := congrArg (fun z : Int => z == 25) hq
    have q26 := congrArg (fun z : Int => z == 26) hq
    have q27 := congrArg (fun z : Int => z == 27) hq
    have q28 := congrArg (fun z : Int => z == 28) hq
    have q30 := congrArg (fun z : Int => z == 30) hq
    have q31 := congrArg (fun z : Int => z == 31) hq
    have q33 := congrArg (fun z : Int => z == 33) hq
    have q34 := congrArg (fun z : Int => z == 34) hq
    have q35 := congrArg (fun z : Int => z == 35) hq
    have q36 := congrArg (fun z : Int => z == 36) hq
    have q37 := congrArg (fun z : Int => z == 37) hq
    have q38 := congrArg (fun z : Int => z == 38) hq
    have q39 := congrArg (fun z : Int => z == 39) hq
    have q40 := congrArg (fun z : Int => z == 40) hq
    have q99 := congrArg (fun z : Int => z != 40) hq
    first
      | (have hwc : whatC (hasN op) = 45 := (by rw [hq]; rfl); rw [hwc] at HWH; clear hwc)
      | (have hwc : whatC (hasN op) = 112 := (by rw [hq]; rfl); rw [hwc] at HWH; clear hwc)
      | (have hwc : whatC (hasN op) = 105 := (by rw [hq]; rfl); rw [hwc] at HWH; clear hwc)
      | (have hwc : whatC (hasN op) = 116 := (by rw [hq]; rfl); rw [hwc] at HWH; clear hwc)
    simp only [Int.reduceBEq, Int.reduceBNe] at q1 q29 q32 q8 q2 q3 q4 q5 q6 q7 q9 q22 q23 q24 q25 q26 q27 q28 q30 q31 q33 q34 q35 q36 q37 q38 q39 q40 q99
    clear hq
    clear hln
    have ER := zH er
    clear I er
    obtain ⟨m, hm⟩ : ∃ m, p.loops.length = m + 1 := ⟨p.loops.length - 1, by have := List.length_pos_iff.2 hloops; omega⟩
    obtain ⟨lx, hlx⟩ : ∃ x, p.loops.getLast? = some x := by cases h : p.loops.getLast? with | none => exact absurd (List.getLast?_eq_none_iff.1 h) hloops | some x => exact ⟨x, rfl⟩
    have hb : p.base = lx.1 := by unfold Pl.base; rw [hlx]
    have hnx : p.next = lx.2 := by unfold Pl.next; rw [hlx]
    rw [hm] at e2
    have er2 := ER.out
    rw [hm] at er2
    obtain ⟨gl, lxs, rfl, _, ⟨rfl, _⟩, hxl⟩ := er2.last hlx
    have l0 := hxl 0 _ rfl
    have l1 := hxl 1 _ rfl
    have hgll := cell_lt l0
    simp only [Nat.add_zero] at l0
    simp only at hgll
    have hm1 : (m : Int) ≤ 1024 := by omega
    have hm0 : (0 : Int) ≤ (m : Int) := Int.natCast_nonneg _
    have hm2 : (0 : Int) < ((m + 1 : Nat) : Int) := by omega
    have hm3 : ((m + 1 : Nat) : Int) - 1 = (m : Int) := by omega
    have hm4 : (0 : Int) < (m : Int) + 1 := by omega
    have hm5 : (m : Int) < ((m + 1 : Nat) : Int) := by omega
    have hm6 : (((m : Int) + 1) == 0) = false := by simp; omega
    have hm7 : (m : Int) ≤ (pc : Int) := by omega
    have hm8 : m ≤ pc := by omega
    clear hxl er2
    rw [hb] at hg0 hg1
    obtain ⟨ph, hph⟩ : ∃ x, p.height = x := ⟨_, rfl⟩
    rw [hph] at e1 hg1 hg2
    have HPH := zH hph
    have HBB := zH hb
    clear hph hb
    go_enter Tryz.func23, Tryz.ntmps23
    go_wp2_with fail
    go_quiet (fail)
    generalize hW2 : World.drewN (World.alloc (World.alloc W _) _) _ = W2
    have B5 : Blk W2 W.heap.size 42 #[.int .i64 op, .int .i64 arg, .int .i64 int, .string text] := by rw [← hW2]; exact (Blk.new W _ _).alloc _
    have B7 : Blk W2 (W.heap.size + 1) 69 #[.bool p.known, .int .i64 ph, .slice (some ⟨gl, 0, none⟩) (m + 1) pc] := by rw [← hW2]; exact Blk.new_ (by simp) _ _
    have L2 : Below W.heap.size W W2 := by rw [← hW2]; exact below_drewN ((zB.alloc zL _).alloc (by simp) _) _
    have s2 : W2.heap.size = W.heap.size + 2 := by rw [← hW2]; simp
    obtain ⟨a0, a1, -, -⟩ := B5.k4
    have b1 : W2.cell? ⟨W.heap.size + 1, 1, none⟩ = some (.int .i64 ph) := B7.cell rfl
    have b2 : W2.cell? ⟨W.heap.size + 1, 2, none⟩ = some (.slice (some ⟨gl, 0, none⟩) (m + 1) pc) := B7.cell rfl
    have ck0 := (L2.cell (p := ⟨k, 0, none⟩) hkl).trans ck0
    have ck1 := (L2.cell (p := ⟨k, 1, none⟩) hkl).trans ck1
    have l0 := (L2.cell (p := ⟨gl, m * 2, none⟩) hgll).trans l0
    have l1 := (L2.cell (p := ⟨gl, m * 2 + 1, none⟩) hgll).trans l1
    have hgl2 : gl < W2.heap.size := by omega
    have hS1 : W.heap.size < W2.heap.size := by omega
    have hS2 : W.heap.size + 1 < W2.heap.size := by omega
    have hK2 : k < W2.heap.size := by omega
    have HB5 := zH B5
    have HB7 := zH B7
    have HL2 := zH L2
    have S2 := zH s2
    clear B5 B7 L2 hW2 s2
    go_wp2_with fail
    go_quiet ((go_at_call 36; with_reducible exact quiet_calln (HN.out _)))
    have hroom : ¬ ph - lx.1 < 0 := by omega
    go_wp2_with fail
    go_quiet (((go_at_call 31; with_reducible exact quiet_calln2 (HWH.out _))))
    generalize hW3 : World.drewN _ _ = W3
    have S2' := S2.out
    have L3 : Below W.heap.size W W3 := by rw [← hW3]; repeat' first | exact HL2.out.alloc (by omega) _ | refine below_drewN ?_ _
    have L23 : Below W2.heap.size W2 W3 := by rw [← hW3]; repeat' first | exact zB.alloc zL _ | refine below_drewN ?_ _
    have B10 : Blk W3 W2.heap.size 91 #[.int .i64 (lx.1), .int .i64 (lx.2)] := by rw [← hW3]; exact Blk.new W2 _ _
    have B5 := HB5.out.below L23 hS1
    have B7 := HB7.out.below L23 hS2
    have BK := J.out.hk.below L3 hkl
    have BP := J.out.hp.below L3
    have BR := ER.out.below L3
    obtain ⟨a0, a1, -, -⟩ := B5.k4
    have b1 : W3.cell? ⟨W.heap.size + 1, 1, none⟩ = some (.int .i64 ph) := B7.cell rfl
    have b2 : W3.cell? ⟨W.heap.size + 1, 2, none⟩ = some (.slice (some ⟨gl, 0, none⟩) (m + 1) pc) := B7.cell rfl
    obtain ⟨c0, c1⟩ := B10.k2
    obtain ⟨ck0, ck1⟩ := BK.k2
    have K3 := zH (And.intro L3 (And.intro B5 (And.intro B7 (And.intro BK (And.intro BP BR)))))
    clear hW3 L3 L23 B10 B5 B7 BK BP BR S2'
    go_wp2_with (first
      | (go_at_call 21; refine (lead_at (tw := i + 1) W3 ((i : Int) + 1) (ph + 1) (.slice (some ⟨gl, 0, none⟩) (m + 1) pc) (p.loops) (by omega) K3.out.2.2.2.1 K3.out.2.2.2.2.1 (J.out.nl) (by have h1 := J.out.nl; have h2 := J.out.nc; have h3 := J.out.hi; omega) (by have := J.out.nc; have := J.out.few; omega) (by have := K3.out.2.2.2.2.2; rw [hm] at this; exact this)).mono ?_; rintro e w4 hled; have HLED := zH hled; obtain ⟨rfl, _⟩ := hled)
      | fail)
    go_ret
    rw [show insN cl l i p _ = leadN l (i + 1) (ph + 1) p.loops from (by simp [HIN.out, HPH.out])]
    exact LedTo.from (grown_below K3.out.1 _) HLED.out
theorem ins_g2_e {W0 W : World} {k g n c : Nat} {la : Option Addr} {ln lc : Nat} {cl : List Ins} {l : List Pl} {i : Nat} {p : Pl} {arg : Int} {op : Int} (hop : op = 2 ∨ op = 3 ∨ op = 4 ∨ op = 5 ∨ op = 6 ∨ op = 7 ∨ op = 9) (int : Int) (text : ByteArray) (I : InsPre W0 W k g n c la ln lc cl l i p arg) (hloops : p.loops = []) :
    Calls Tryz.prog 23 #[.pointer (some ⟨k, 0, none⟩), .int .i64 i, .agg #[.int .i64 op, .int .i64 arg, .int .i64 int, .string text]] W (LedTo W g (insN cl l i p ⟨op, arg, int, text⟩)) := by
  obtain ⟨pv, e0, e1, e2, er⟩ := I.hp.at_ I.hpi
  obtain ⟨pa, pc, rfl⟩ := er.form
  have hn1 : (i : Int) < (n : Int) := by have := I.nc; have := I.hi; omega
  have hi0 : (0 : Int) ≤ (i : Int) := Int.natCast_nonneg _
  have hi2 : (i : Int) ≤ 1024 := by have := I.hi; have := I.few; omega
  have hg0 := I.good.b0
  have hg1 := I.good.bh
  have hg2 := I.good.hj
  have hgf := I.good.few
  have ha0 := I.arg0
  have hgl := I.hp.lt
  have hkl := I.hk.lt
  obtain ⟨ck0, ck1⟩ := I.hk.k2
  have hkg := I.apart
  have hln : ln = cl.length := I.hl.len
  have HLN := zH hln
  have hcp : p.loops.length ≤ pc ∧ pc ≤ maxLen := by obtain ⟨_, _, h1, h2, h3, _⟩ := er; injection h1 with _ _ h1; subst h1; exact ⟨h2, h3⟩
  have J := zH I
  have HN : Hid (∀ W, Calls Tryz.prog 36 #[.int .i64 op] W fun e w' => e = .returned (.int .i64 0) ∧ Quiet W w') := zH (fun W => by rcases hop with rfl | rfl | rfl | rfl | rfl | rfl | rfl <;> exact needs_any _ (by decide) (by decide) W)
  have HWH : Hid (∀ W, Calls Tryz.prog 31 #[.int .i64 op] W fun e w' => e = .returned (.int .u8 (whatC (hasN op))) ∧ Quiet W w') := zH (fun W => by rcases hop with rfl | rfl | rfl | rfl | rfl | rfl | rfl <;> exact what_any _ (by decide) (by decide) W)
  have HIN : Hid (∀ i', insN cl l i' p ⟨op, arg, int, text⟩ = leadN l (i' + 1) (p.height + 1) p.loops) := zH (fun i' => by rcases hop with rfl | rfl | rfl | rfl | rfl | rfl | rfl <;> simp [insN])
  have hop2 : op ≤ 40 := by omega
  rcases hop with hq | hq | hq | hq | hq | hq | hq
  all_goals
    have q1 := congrArg (fun z : Int => z == 1) hq
    have q29 := congrArg (fun z : Int => z == 29) hq
    have q32 := congrArg (fun z : Int => z == 32) hq
    have q8 := congrArg (fun z : Int => z == 8) hq
    have q2 := congrArg (fun z : Int => z == 2) hq
    have q3 := congrArg (fun z : Int => z == 3) hq
    have q4 := congrArg (fun z : Int => z == 4) hq
    have q5 := congrArg (fun z : Int => z == 5) hq
    have q6 := congrArg (fun z : Int => z == 6) hq
    have q7 := congrArg (fun z : Int => z == 7) hq
    have q9 := congrArg (fun z : Int => z == 9) hq
    have q22 := congrArg (fun z : Int => z == 22) hq
    have q23 := congrArg (fun z : Int => z == 23) hq
    have q24 := congrArg (fun z : Int => z == 24) hq
    have q25 := congrArg (fun z : Int => z == 25) hq
    have q26 := congrArg (fun z : Int => z == 26) hq
    have q27 := congrArg (fun z : Int => z == 27) hq
    have q28 := congrArg (fun z : Int => z == 28) hq
    have q30 := congrArg (fun z : Int => z == 30) hq
    have q31 := congrArg (fun z : Int => z == 31) hq
    have q33 := congrArg (fun z : Int => z == 33) hq
    have q34 := congrArg (fun z : Int => z == 34) hq
    have q35 := congrArg (fun z : Int => z == 35) hq
    have q36 := congrArg (fun z : Int => z == 36) hq
    have q37 := congrArg (fun z : Int => z == 37) hq
    have q38 := congrArg (fun z : Int => z == 38) hq
    have q39 := congrArg (fun z : Int => z == 39) hq
    have q40 := congrArg (fun z : Int => z == 40) hq
    have q99 := congrArg (fun z : Int => z != 40) hq
    first
      | (have hwc : whatC (hasN op) = 45 := (by rw [hq]; rfl); rw [hwc] at HWH; clear hwc)
      | (have hwc : whatC (hasN op) = 112 := (by rw [hq]; rfl); rw [hwc] at HWH; clear hwc)
      | (have hwc : whatC (hasN op) = 105 := (by rw [hq]; rfl); rw [hwc] at HWH; clear hwc)
      | (have hwc : whatC (hasN op) = 116 := (by rw [hq]; rfl); rw [hwc] at HWH; clear hwc)
    simp only [Int.reduceBEq, Int.reduceBNe] at q1 q29 q32 q8 q2 q3 q4 q5 q6 q7 q9 q22 q23 q24 q25 q26 q27 q28 q30 q31 q33 q34 q35 q36 q37 q38 q39 q40 q99
    clear hq
    clear hln
    have ER := zH er
    clear I er
    have hb : p.base = 0 := by unfold Pl.base; rw [hloops]; rfl
    have hl0 : p.loops.length = 0 := by rw [hloops]; rfl
    rw [hl0] at e2
    have HLP := zH hloops
    clear hloops
    rw [hb] at hg0 hg1
    obtain ⟨ph, hph⟩ : ∃ x, p.height = x := ⟨_, rfl⟩
    rw [hph] at e1 hg1 hg2
    have HPH := zH hph
    have HBB := zH hb
    clear hph hb
    go_enter Tryz.func23, Tryz.ntmps23
    go_wp2_with fail
    go_quiet (fail)
    generalize hW2 : World.drewN (World.alloc (World.alloc W _) _) _ = W2
    have B5 : Blk W2 W.heap.size 42 #[.int .i64 op, .int .i64 arg, .int .i64 int, .string text] := by rw [← hW2]; exact (Blk.new W _ _).alloc _
    have B7 : Blk W2 (W.heap.size + 1) 69 #[.bool p.known, .int .i64 ph, .slice pa 0 pc] := by rw [← hW2]; exact Blk.new_ (by simp) _ _
    have L2 : Below W.heap.size W W2 := by rw [← hW2]; exact below_drewN ((zB.alloc zL _).alloc (by simp) _) _
    have s2 : W2.heap.size = W.heap.size + 2 := by rw [← hW2]; simp
    obtain ⟨a0, a1, -, -⟩ := B5.k4
    have b1 : W2.cell? ⟨W.heap.size + 1, 1, none⟩ = some (.int .i64 ph) := B7.cell rfl
    have b2 : W2.cell? ⟨W.heap.size + 1, 2, none⟩ = some (.slice pa 0 pc) := B7.cell rfl
    have ck0 := (L2.cell (p := ⟨k, 0, none⟩) hkl).trans ck0
    have ck1 := (L2.cell (p := ⟨k, 1, none⟩) hkl).trans ck1
    have hS1 : W.heap.size < W2.heap.size := by omega
    have hS2 : W.heap.size + 1 < W2.heap.size := by omega
    have hK2 : k < W2.heap.size := by omega
    have HB5 := zH B5
    have HB7 := zH B7
    have HL2 := zH L2
    have S2 := zH s2
    clear B5 B7 L2 hW2 s2
    go_wp2_with fail
    go_quiet ((go_at_call 36; with_reducible exact quiet_calln (HN.out _)))
    have hroom : ¬ ph - 0 < 0 := by omega
    go_wp2_with fail
    go_quiet (((go_at_call 31; with_reducible exact quiet_calln2 (HWH.out _))))
    generalize hW3 : World.drewN _ _ = W3
    have S2' := S2.out
    have L3 : Below W.heap.size W W3 := by rw [← hW3]; repeat' first | exact HL2.out.alloc (by omega) _ | refine below_drewN ?_ _
    have L23 : Below W2.heap.size W2 W3 := by rw [← hW3]; repeat' first | exact zB.alloc zL _ | refine below_drewN ?_ _
    have B10 : Blk W3 W2.heap.size 91 #[.int .i64 (0), .int .i64 (0)] := by rw [← hW3]; exact Blk.new W2 _ _
    have B5 := HB5.out.below L23 hS1
    have B7 := HB7.out.below L23 hS2
    have BK := J.out.hk.below L3 hkl
    have BP := J.out.hp.below L3
    have BR := ER.out.below L3
    obtain ⟨a0, a1, -, -⟩ := B5.k4
    have b1 : W3.cell? ⟨W.heap.size + 1, 1, none⟩ = some (.int .i64 ph) := B7.cell rfl
    have b2 : W3.cell? ⟨W.heap.size + 1, 2, none⟩ = some (.slice pa 0 pc) := B7.cell rfl
    obtain ⟨c0, c1⟩ := B10.k2
    obtain ⟨ck0, ck1⟩ := BK.k2
    have K3 := zH (And.intro L3 (And.intro B5 (And.intro B7 (And.intro BK (And.intro BP BR)))))
    clear hW3 L3 L23 B10 B5 B7 BK BP BR S2'
    go_wp2_with (first
      | (go_at_call 21; refine (lead_at (tw := i + 1) W3 ((i : Int) + 1) (ph + 1) (.slice pa 0 pc) (p.loops) (by omega) K3.out.2.2.2.1 K3.out.2.2.2.2.1 (J.out.nl) (by have h1 := J.out.nl; have h2 := J.out.nc; have h3 := J.out.hi; omega) (by have := J.out.nc; have := J.out.few; omega) (by have := K3.out.2.2.2.2.2; rw [hl0] at this; exact this)).mono ?_; rintro e w4 hled; have HLED := zH hled; obtain ⟨rfl, _⟩ := hled)
      | fail)
    go_ret
    rw [show insN cl l i p _ = leadN l (i + 1) (ph + 1) p.loops from (by simp [HIN.out, HPH.out])]
    exact LedTo.from (grown_below K3.out.1 _) HLED.out
theorem ins_8_n {W0 W : World} {k g n c : Nat} {la : Option Addr} {ln lc : Nat} {cl : List Ins} {l : List Pl} {i : Nat} {p : Pl} {arg : Int} (int : Int) (text : ByteArray) (I : InsPre W0 W k g n c la ln lc cl l i p arg) (hloops : p.loops ≠ []) :
    Calls Tryz.prog 23 #[.pointer (some ⟨k, 0, none⟩), .int .i64 i, .agg #[.int .i64 8, .int .i64 arg, .int .i64 int, .string text]] W (LedTo W g (insN cl l i p ⟨8, arg, int, text⟩)) := by
  obtain ⟨pv, e0, e1, e2, er⟩ := I.hp.at_ I.hpi
  obtain ⟨pa, pc, rfl⟩ := er.form
  have hn1 : (i : Int) < (n : Int) := by have := I.nc; have := I.hi; omega
  have hi0 : (0 : Int) ≤ (i : Int) := Int.natCast_nonneg _
  have hi2 : (i : Int) ≤ 1024 := by have := I.hi; have := I.few; omega
  have hg0 := I.good.b0
  have hg1 := I.good.bh
  have hg2 := I.good.hj
  have hgf := I.good.few
  have ha0 := I.arg0
  have hgl := I.hp.lt
  have hkl := I.hk.lt
  obtain ⟨ck0, ck1⟩ := I.hk.k2
  have hkg := I.apart
  have hln : ln = cl.length := I.hl.len
  have HLN := zH hln
  have hcp : p.loops.length ≤ pc ∧ pc ≤ maxLen := by obtain ⟨_, _, h1, h2, h3, _⟩ := er; injection h1 with _ _ h1; subst h1; exact ⟨h2, h3⟩
  have J := zH I
  clear hln
  have ER := zH er
  clear I er
  obtain ⟨m, hm⟩ : ∃ m, p.loops.length = m + 1 := ⟨p.loops.length - 1, by have := List.length_pos_iff.2 hloops; omega⟩
  obtain ⟨lx, hlx⟩ : ∃ x, p.loops.getLast? = some x := by cases h : p.loops.getLast? with | none => exact absurd (List.getLast?_eq_none_iff.1 h) hloops | some x => exact ⟨x, rfl⟩
  have hb : p.base = lx.1 := by unfold Pl.base; rw [hlx]
  have hnx : p.next = lx.2 := by unfold Pl.next; rw [hlx]
  rw [hm] at e2
  have er2 := ER.out
  rw [hm] at er2
  obtain ⟨gl, lxs, rfl, _, ⟨rfl, _⟩, hxl⟩ := er2.last hlx
  have l0 := hxl 0 _ rfl
  have l1 := hxl 1 _ rfl
  have hgll := cell_lt l0
  simp only [Nat.add_zero] at l0
  simp only at hgll
  have hm1 : (m : Int) ≤ 1024 := by omega
  have hm0 : (0 : Int) ≤ (m : Int) := Int.natCast_nonneg _
  have hm2 : (0 : Int) < ((m + 1 : Nat) : Int) := by omega
  have hm3 : ((m + 1 : Nat) : Int) - 1 = (m : Int) := by omega
  have hm4 : (0 : Int) < (m : Int) + 1 := by omega
  have hm5 : (m : Int) < ((m + 1 : Nat) : Int) := by omega
  have hm6 : (((m : Int) + 1) == 0) = false := by simp; omega
  have hm7 : (m : Int) ≤ (pc : Int) := by omega
  have hm8 : m ≤ pc := by omega
  clear hxl er2
  rw [hb] at hg0 hg1
  obtain ⟨ph, hph⟩ : ∃ x, p.height = x := ⟨_, rfl⟩
  rw [hph] at e1 hg1 hg2
  have HN : Hid (∀ W, Calls Tryz.prog 36 #[.int .i64 8] W fun e w' => e = .returned (.int .i64 0) ∧ Quiet W w') := zH (fun W => needs_any 8 (by decide) (by decide) W)
  have HWH : Hid (∀ W, Calls Tryz.prog 31 #[.int .i64 8] W fun e w' => e = .returned (.int .u8 97) ∧ Quiet W w') := zH (fun W => what_any 8 (by decide) (by decide) W)
  have HPH := zH hph
  have HBB := zH hb
  clear hph hb
  go_enter Tryz.func23, Tryz.ntmps23
  go_wp2_with fail
  go_quiet (fail)
  generalize hW2 : World.drewN (World.alloc (World.alloc W _) _) _ = W2
  have B5 : Blk W2 W.heap.size 42 #[.int .i64 8, .int .i64 arg, .int .i64 int, .string text] := by rw [← hW2]; exact (Blk.new W _ _).alloc _
  have B7 : Blk W2 (W.heap.size + 1) 69 #[.bool p.known, .int .i64 ph, .slice (some ⟨gl, 0, none⟩) (m + 1) pc] := by rw [← hW2]; exact Blk.new_ (by simp) _ _
  have L2 : Below W.heap.size W W2 := by rw [← hW2]; exact below_drewN ((zB.alloc zL _).alloc (by simp) _) _
  have s2 : W2.heap.size = W.heap.size + 2 := by rw [← hW2]; simp
  obtain ⟨a0, a1, -, -⟩ := B5.k4
  have b1 : W2.cell? ⟨W.heap.size + 1, 1, none⟩ = some (.int .i64 ph) := B7.cell rfl
  have b2 : W2.cell? ⟨W.heap.size + 1, 2, none⟩ = some (.slice (some ⟨gl, 0, none⟩) (m + 1) pc) := B7.cell rfl
  have ck0 := (L2.cell (p := ⟨k, 0, none⟩) hkl).trans ck0
  have ck1 := (L2.cell (p := ⟨k, 1, none⟩) hkl).trans ck1
  have l0 := (L2.cell (p := ⟨gl, m * 2, none⟩) hgll).trans l0
  have l1 := (L2.cell (p := ⟨gl, m * 2 + 1, none⟩) hgll).trans l1
  have hgl2 : gl < W2.heap.size := by omega
  have hS1 : W.heap.size < W2.heap.size := by omega
  have hS2 : W.heap.size + 1 < W2.heap.size := by omega
  have hK2 : k < W2.heap.size := by omega
  have HB5 := zH B5
  have HB7 := zH B7
  have HL2 := zH L2
  have S2 := zH s2
  clear B5 B7 L2 hW2 s2
  go_wp2_with fail
  go_quiet ((go_at_call 36; with_reducible exact quiet_calln (HN.out _)))
  have hroom : ¬ ph - lx.1 < 0 := by omega
  by_cases hlt : arg < (m : Int) + 1
  · have hlt2 : arg < ((m + 1 : Nat) : Int) := by omega
    go_wp2_with fail
    go_quiet (((go_at_call 31; with_reducible exact quiet_calln2 (HWH.out _))))
    generalize hW3 : World.drewN _ _ = W3
    have S2' := S2.out
    have L3 : Below W.heap.size W W3 := by rw [← hW3]; repeat' first | exact HL2.out.alloc (by omega) _ | refine below_drewN ?_ _
    have L23 : Below W2.heap.size W2 W3 := by rw [← hW3]; repeat' first | exact zB.alloc zL _ | refine below_drewN ?_ _
    have B10 : Blk W3 W2.heap.size 91 #[.int .i64 (lx.1), .int .i64 (lx.2)] := by rw [← hW3]; exact Blk.new W2 _ _
    have B5 := HB5.out.below L23 hS1
    have B7 := HB7.out.below L23 hS2
    have BK := J.out.hk.below L3 hkl
    have BP := J.out.hp.below L3
    have BR := ER.out.below L3
    obtain ⟨a0, a1, -, -⟩ := B5.k4
    have b1 : W3.cell? ⟨W.heap.size + 1, 1, none⟩ = some (.int .i64 ph) := B7.cell rfl
    have b2 : W3.cell? ⟨W.heap.size + 1, 2, none⟩ = some (.slice (some ⟨gl, 0, none⟩) (m + 1) pc) := B7.cell rfl
    obtain ⟨c0, c1⟩ := B10.k2
    obtain ⟨ck0, ck1⟩ := BK.k2
    have K3 := zH (And.intro L3 (And.intro B5 (And.intro B7 (And.intro BK (And.intro BP BR)))))
    clear hW3 L3 L23 B10 B5 B7 BK BP BR S2'
    go_wp2_with (first
      | (go_at_call 21; refine (lead_at (tw := i + 1) W3 ((i : Int) + 1) (ph + 1) (.slice (some ⟨gl, 0, none⟩) (m + 1) pc) (p.loops) (by omega) K3.out.2.2.2.1 K3.out.2.2.2.2.1 (J.out.nl) (by have h1 := J.out.nl; have h2 := J.out.nc; have h3 := J.out.hi; omega) (by have := J.out.nc; have := J.out.few; omega) (by have := K3.out.2.2.2.2.2; rw [hm] at this; exact this)).mono ?_; rintro e w4 hled; have HLED := zH hled; obtain ⟨rfl, _⟩ := hled)
      | fail)
    go_ret
    rw [show insN cl l i p _ = leadN l (i + 1) (ph + 1) p.loops from (by simp [insN, HPH.out, hm]; omega)]
    exact LedTo.from (grown_below K3.out.1 _) HLED.out
  · have hlt2 : ¬ arg < ((m + 1 : Nat) : Int) := by omega
    go_wp2_with fail
    go_quiet (((go_at_call 31; with_reducible exact quiet_calln2 (HWH.out _))))
    go_wp2_with fail
    go_ret
    rw [show insN cl l i p _ = none from (by simp [insN, hm]; omega)]
    exact LedTo.none (grown_below (by repeat' first | exact HL2.out.alloc (by omega) _ | refine below_drewN ?_ _) _)
theorem ins_8_e {W0 W : World} {k g n c : Nat} {la : Option Addr} {ln lc : Nat} {cl : List Ins} {l : List Pl} {i : Nat} {p : Pl} {arg : Int} (int : Int) (text : ByteArray) (I : InsPre W0 W k g n c la ln lc cl l i p arg) (hloops : p.loops = []) :
    Calls Tryz.prog 23 #[.pointer (some ⟨k, 0, none⟩), .int .i64 i, .agg #[.int .i64 8, .int .i64 arg, .int .i64 int, .string text]] W (LedTo W g (insN cl l i p ⟨8, arg, int, text⟩)) := by
  obtain ⟨pv, e0, e1, e2, er⟩ := I.hp.at_ I.hpi
  obtain ⟨pa, pc, rfl⟩ := er.form
  have hn1 : (i : Int) < (n : Int) := by have := I.nc; have := I.hi; omega
  have hi0 : (0 : Int) ≤ (i : Int) := Int.natCast_nonneg _
  have hi2 : (i : Int) ≤ 1024 := by have := I.hi; have := I.few; omega
  have hg0 := I.good.b0
  have hg1 := I.good.bh
  have hg2 := I.good.hj
  have hgf := I.good.few
  have ha0 := I.arg0
  have hgl := I.hp.lt
  have hkl := I.hk.lt
  obtain ⟨ck0, ck1⟩ := I.hk.k2
  have hkg := I.apart
  have hln : ln = cl.length := I.hl.len
  have HLN := zH hln
  have hcp : p.loops.length ≤ pc ∧ pc ≤ maxLen := by obtain ⟨_, _, h1, h2, h3, _⟩ := er; injection h1 with _ _ h1; subst h1; exact ⟨h2, h3⟩
  have J := zH I
  clear hln
  have ER := zH er
  clear I er
  have hb : p.base = 0 := by unfold Pl.base; rw [hloops]; rfl
  have hl0 : p.loops.length = 0 := by rw [hloops]; rfl
  rw [hl0] at e2
  have HLP := zH hloops
  clear hloops
  rw [hb] at hg0 hg1
  obtain ⟨ph, hph⟩ : ∃ x, p.height = x := ⟨_, rfl⟩
  rw [hph] at e1 hg1 hg2
  have HN : Hid (∀ W, Calls Tryz.prog 36 #[.int .i64 8] W fun e w' => e = .returned (.int .i64 0) ∧ Quiet W w') := zH (fun W => needs_any 8 (by decide) (by decide) W)
  have HWH : Hid (∀ W, Calls Tryz.prog 31 #[.int .i64 8] W fun e w' => e = .returned (.int .u8 97) ∧ Quiet W w') := zH (fun W => what_any 8 (by decide) (by decide) W)
  have HPH := zH hph
  have HBB := zH hb
  clear hph hb
  go_enter Tryz.func23, Tryz.ntmps23
  go_wp2_with fail
  go_quiet (fail)
  generalize hW2 : World.drewN (World.alloc (World.alloc W _) _) _ = W2
  have B5 : Blk W2 W.heap.size 42 #[.int .i64 8, .int .i64 arg, .int .i64 int, .string text] := by rw [← hW2]; exact (Blk.new W _ _).alloc _
  have B7 : Blk W2 (W.heap.size + 1) 69 #[.bool p.known, .int .i64 ph, .slice pa 0 pc] := by rw [← hW2]; exact Blk.new_ (by simp) _ _
  have L2 : Below W.heap.size W W2 := by rw [← hW2]; exact below_drewN ((zB.alloc zL _).alloc (by simp) _) _
  have s2 : W2.heap.size = W.heap.size + 2 := by rw [← hW2]; simp
  obtain ⟨a0, a1, -, -⟩ := B5.k4
  have b1 : W2.cell? ⟨W.heap.size + 1, 1, none⟩ = some (.int .i64 ph) := B7.cell rfl
  have b2 : W2.cell? ⟨W.heap.size + 1, 2, none⟩ = some (.slice pa 0 pc) := B7.cell rfl
  have ck0 := (L2.cell (p := ⟨k, 0, none⟩) hkl).trans ck0
  have ck1 := (L2.cell (p := ⟨k, 1, none⟩) hkl).trans ck1
  have hS1 : W.heap.size < W2.heap.size := by omega
  have hS2 : W.heap.size + 1 < W2.heap.size := by omega
  have hK2 : k < W2.heap.size := by omega
  have HB5 := zH B5
  have HB7 := zH B7
  have HL2 := zH L2
  have S2 := zH s2
  clear B5 B7 L2 hW2 s2
  go_wp2_with fail
  go_quiet ((go_at_call 36; with_reducible exact quiet_calln (HN.out _)))
  have hroom : ¬ ph - 0 < 0 := by omega
  have hlt : ¬ arg < 0 := by omega
  go_wp2_with fail
  go_quiet (((go_at_call 31; with_reducible exact quiet_calln2 (HWH.out _))))
  go_wp2_with fail
  go_ret
  rw [show insN cl l i p _ = none from (by simp [insN, hl0]; omega)]
  exact LedTo.none (grown_below (by repeat' first | exact HL2.out.alloc (by omega) _ | refine below_drewN ?_ _) _)
end Go.Proofs.YtdkoafmgenbkbaaGreatDoor
