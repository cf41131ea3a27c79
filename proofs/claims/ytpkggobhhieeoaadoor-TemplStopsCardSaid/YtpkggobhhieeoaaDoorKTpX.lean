/- - -/
import Derived.Test.YtpkggobhhieeoaaDoorKTpV
import Derived.Test.YtpkggobhhieeoaaDoorKTpW
set_option maxRecDepth 100000
set_option maxHeartbeats 32000000
set_option linter.unusedSimpArgs false
set_option linter.unusedVariables false
namespace Go.Proofs.YtpkggobhhieeoaaDoor
open Go.RowKit
section
variable {q : Nat} {s : ByteArray} {v : Value} {i : Nat} {W X : World}
theorem Blk.f3 {w : World} {g : Nat} {t : TypeId} {a b c : Value} (h : Blk w g t #[a, b, c]) : w.cell? ⟨g, 0, none⟩ = some a ∧ w.frozen? ⟨g, 0, none⟩ = false ∧ w.cell? ⟨g, 1, none⟩ = some b ∧ w.frozen? ⟨g, 1, none⟩ = false ∧ w.cell? ⟨g, 2, none⟩ = some c ∧ w.frozen? ⟨g, 2, none⟩ = false ∧ g < w.heap.size :=
  ⟨h.cell rfl, h.frozen 0, h.cell rfl, h.frozen 1, h.cell rfl, h.frozen 2, h.lt⟩
theorem RdS.farN {b j : Nat} (h : RdS q s v i X) (hb : q < b) (u : Value) : RdS q s v i (X.setCell ⟨b, j, none⟩ u) :=
  h.onto (B := b) ((Below.refl b X).setCell (p := ⟨b, j, none⟩) (Nat.le_refl b) u) hb
theorem Mv.setN0 {b j : Nat} (h : Mv q W X) (hq : q ≤ W.heap.size) (hb : W.heap.size ≤ b) (u : Value) : Mv q W (X.setCell ⟨b, j, none⟩ u) :=
  h.onto (((Below.refl b X).setCell (p := ⟨b, j, none⟩) (Nat.le_refl b) u).mono hb) hq
theorem ins_prop {t : List Nat} {j : Nat} (hc : (bs s)[i]? = some 46) (hn : nameS (bs s) (i + 1) = .inl (t, j)) (h : RdS q s v i W) : Calls Tryd.prog 16 #[.pointer (some ⟨q, 0, none⟩)] W fun e w' => e = .returned (.agg #[.int .i64 2, .string (txt t), .string ⟨#[]⟩]) ∧ Mv q W w' ∧ RdS q s v j w' := by
  have H := zH h
  obtain ⟨f0, f1, f2, f3, f4, f5⟩ := h.facts
  have QL := zH f5
  have hfew := h.few
  have hle := h.le
  have i0 : (0 : Int) ≤ (i : Int) := Int.natCast_nonneg _
  have i5 : (i : Int) ≤ 4096 := by omega
  go_enter Tryd.func16, Tryd.ntmps16
  go_upto_region 1 with fail
  have M0 := zH (Mv.refl q W)
  generalize hws : World.alloc _ _ = w1
  have P1 : Hid (RdS q s v i w1) := zH (by rw [← hws]; exact H.out.keep (zB.alloc zL _))
  have M1 : Hid (Mv q W w1) := zH (by rw [← hws]; exact M0.out.trans (Mv.of_below (zB.alloc zL _) (Nat.le_of_lt QL.out)))
  have Kr1 : Hid (Blk w1 W.heap.size 30 #[.int .i64 0, .string ⟨#[]⟩, .string ⟨#[]⟩]) := zH (by rw [← hws]; exact Blk.new _ _ _)
  have S1 : W.heap.size ≤ w1.heap.size := by rw [← hws]; simp
  clear f0 f1 f2 f3 f4 f5
  clear hws
  obtain ⟨f0, f1, f2, f3, f4, f5⟩ := P1.out.facts
  obtain ⟨r0, rz0, r1, rz1, r2, rz2, lr⟩ := Kr1.out.f3
  have LQ : q < W.heap.size := QL.out
  have N2 : Hid (Calls Tryd.prog 15 #[.pointer (some ⟨q, 0, none⟩), .string ⟨#[46]⟩] w1 fun e w' => e = .returned (.bool true) ∧ Quiet w1 w') := zH (t_next ⟨#[46]⟩ (by decide) true (by rw [next_one (c := 46) rfl]; rw [hc]; rfl) P1.out)
  go_upto_region 2 with (go_at_call 15; (with_reducible refine N2.out.mono ?_); rintro e w' ⟨rfl, nq, rfl⟩)
  generalize hws : World.drewN _ _ = w3
  have P3 : Hid (RdS q s v i w3) := zH (by rw [← hws]; exact P1.out.quiet ⟨_, rfl⟩)
  have M3 : Hid (Mv q W w3) := zH (by rw [← hws]; exact M1.out.trans (Mv.quiet ⟨_, rfl⟩))
  have Kr3 : Hid (Blk w3 W.heap.size 30 #[.int .i64 0, .string ⟨#[]⟩, .string ⟨#[]⟩]) := zH (by rw [← hws]; exact Kr1.out)
  have S3 : w1.heap.size ≤ w3.heap.size := by rw [← hws]; simp
  clear f0 f1 f2 f3 f4 f5 r0 rz0 r1 rz1 r2 rz2 lr
  clear hws
  obtain ⟨f0, f1, f2, f3, f4, f5⟩ := P3.out.facts
  obtain ⟨r0, rz0, r1, rz1, r2, rz2, lr⟩ := Kr3.out.f3
  go_upto_region 3 with fail
  generalize hws : World.setCell _ _ _ = w4
  have P4 : Hid (RdS q s v (i + 1) w4) := zH (by rw [← hws]; exact (P3.out.step (j := i + 1) (by go_num) (by rw [← bs_len]; exact (List.getElem?_eq_some_iff.1 hc).1) 0).2)
  have M4 : Hid (Mv q W w4) := zH (by rw [← hws]; exact M3.out.trans (Mv.set _ _ _ _))
  have Kr4 : Hid (Blk w4 W.heap.size 30 #[.int .i64 0, .string ⟨#[]⟩, .string ⟨#[]⟩]) := zH (by rw [← hws]; exact Kr3.out.far (p := ⟨q, 1, none⟩) (by show W.heap.size ≠ q; omega) _)
  have S4 : w3.heap.size ≤ w4.heap.size := by rw [← hws]; simp
  clear f0 f1 f2 f3 f4 f5 r0 rz0 r1 rz1 r2 rz2 lr
  clear hws
  obtain ⟨f0, f1, f2, f3, f4, f5⟩ := P4.out.facts
  obtain ⟨r0, rz0, r1, rz1, r2, rz2, lr⟩ := Kr4.out.f3
  have N5 : Hid (Calls Tryd.prog 28 #[.pointer (some ⟨q, 0, none⟩)] w4 fun e w' => e = .returned (.string (txt t)) ∧ Mv q w4 w' ∧ RdS q s v j w') := zH (t_name hn P4.out)
  go_wp2_with (go_at_call 28; (with_reducible refine N5.out.mono ?_); rintro e v5 ⟨rfl, h1, h2⟩; have A5 := zH h1; have P5 := zH h2; have M5 := zH (M4.out.trans h1); have S5 := h1.low.size; have Kr5 := zH (h1.blk Kr4.out (by omega)); clear f0 f1 f2 f3 f4 f5 r0 rz0 r1 rz1 r2 rz2 lr h1 h2; obtain ⟨f0, f1, f2, f3, f4, f5⟩ := P5.out.facts; obtain ⟨r0, rz0, r1, rz1, r2, rz2, lr⟩ := Kr5.out.f3)
  generalize hws : World.setCell (World.setCell (World.setCell _ _ _) _ _) _ _ = wz
  have KZ : Blk wz W.heap.size 30 #[.int .i64 2, .string (txt t), .string ⟨#[]⟩] := by rw [← hws]; have := ((Kr5.out.set_ 0 (.int .i64 2)).set_ 1 (.string (txt t))).set_ 2 (.string ⟨#[]⟩); simpa using this
  have PZ : RdS q s v j wz := by rw [← hws]; exact ((P5.out.farN (by omega) _).farN (by omega) _).farN (by omega) _
  have MZ : Mv q W wz := by rw [← hws]; exact ((M5.out.setN0 (by omega) (by omega) _).setN0 (by omega) (by omega) _).setN0 (by omega) (by omega) _
  have z0 := KZ.cell (i := 0) rfl
  have z1 := KZ.cell (i := 1) rfl
  have z2 := KZ.cell (i := 2) rfl
  clear hws f0 f1 f2 f3 f4 f5 r0 rz0 r1 rz1 r2 rz2 lr
  refine bodyPost_ret (v := .agg #[.int .i64 2, .string (txt t), .string ⟨#[]⟩]) (by simp [results, Tryd.results16, go_sem, z0, z1, z2]) rfl ?_
  exact ⟨rfl, MZ, PZ⟩
theorem ins_prop_no {j : Nat} (hc : (bs s)[i]? = some 46) (hn : nameS (bs s) (i + 1) = .inr j) (h : RdS q s v i W) : Calls Tryd.prog 16 #[.pointer (some ⟨q, 0, none⟩)] W fun e w' => e = .panicked (thrownT j 200) ∧ Mv q W w' := by
  have H := zH h
  obtain ⟨f0, f1, f2, f3, f4, f5⟩ := h.facts
  have QL := zH f5
  have hfew := h.few
  have hle := h.le
  have i0 : (0 : Int) ≤ (i : Int) := Int.natCast_nonneg _
  have i5 : (i : Int) ≤ 4096 := by omega
  go_enter Tryd.func16, Tryd.ntmps16
  go_upto_region 1 with fail
  have M0 := zH (Mv.refl q W)
  generalize hws : World.alloc _ _ = w1
  have P1 : Hid (RdS q s v i w1) := zH (by rw [← hws]; exact H.out.keep (zB.alloc zL _))
  have M1 : Hid (Mv q W w1) := zH (by rw [← hws]; exact M0.out.trans (Mv.of_below (zB.alloc zL _) (Nat.le_of_lt QL.out)))
  have Kr1 : Hid (Blk w1 W.heap.size 30 #[.int .i64 0, .string ⟨#[]⟩, .string ⟨#[]⟩]) := zH (by rw [← hws]; exact Blk.new _ _ _)
  have S1 : W.heap.size ≤ w1.heap.size := by rw [← hws]; simp
  clear f0 f1 f2 f3 f4 f5
  clear hws
  obtain ⟨f0, f1, f2, f3, f4, f5⟩ := P1.out.facts
  obtain ⟨r0, rz0, r1, rz1, r2, rz2, lr⟩ := Kr1.out.f3
  have LQ : q < W.heap.size := QL.out
  have N2 : Hid (Calls Tryd.prog 15 #[.pointer (some ⟨q, 0, none⟩), .string ⟨#[46]⟩] w1 fun e w' => e = .returned (.bool true) ∧ Quiet w1 w') := zH (t_next ⟨#[46]⟩ (by decide) true (by rw [next_one (c := 46) rfl]; rw [hc]; rfl) P1.out)
  go_upto_region 2 with (go_at_call 15; (with_reducible refine N2.out.mono ?_); rintro e w' ⟨rfl, nq, rfl⟩)
  generalize hws : World.drewN _ _ = w3
  have P3 : Hid (RdS q s v i w3) := zH (by rw [← hws]; exact P1.out.quiet ⟨_, rfl⟩)
  have M3 : Hid (Mv q W w3) := zH (by rw [← hws]; exact M1.out.trans (Mv.quiet ⟨_, rfl⟩))
  have Kr3 : Hid (Blk w3 W.heap.size 30 #[.int .i64 0, .string ⟨#[]⟩, .string ⟨#[]⟩]) := zH (by rw [← hws]; exact Kr1.out)
  have S3 : w1.heap.size ≤ w3.heap.size := by rw [← hws]; simp
  clear f0 f1 f2 f3 f4 f5 r0 rz0 r1 rz1 r2 rz2 lr
  clear hws
  obtain ⟨f0, f1, f2, f3, f4, f5⟩ := P3.out.facts
  obtain ⟨r0, rz0, r1, rz1, r2, rz2, lr⟩ := Kr3.out.f3
  go_upto_region 3 with fail
  generalize hws : World.setCell _ _ _ = w4
  have P4 : Hid (RdS q s v (i + 1) w4) := zH (by rw [← hws]; exact (P3.out.step (j := i + 1) (by go_num) (by rw [← bs_len]; exact (List.getElem?_eq_some_iff.1 hc).1) 0).2)
  have M4 : Hid (Mv q W w4) := zH (by rw [← hws]; exact M3.out.trans (Mv.set _ _ _ _))
  have Kr4 : Hid (Blk w4 W.heap.size 30 #[.int .i64 0, .string ⟨#[]⟩, .string ⟨#[]⟩]) := zH (by rw [← hws]; exact Kr3.out.far (p := ⟨q, 1, none⟩) (by show W.heap.size ≠ q; omega) _)
  have S4 : w3.heap.size ≤ w4.heap.size := by rw [← hws]; simp
  clear f0 f1 f2 f3 f4 f5 r0 rz0 r1 rz1 r2 rz2 lr
  clear hws
  obtain ⟨f0, f1, f2, f3, f4, f5⟩ := P4.out.facts
  obtain ⟨r0, rz0, r1, rz1, r2, rz2, lr⟩ := Kr4.out.f3
  have N5 : Hid (Calls Tryd.prog 28 #[.pointer (some ⟨q, 0, none⟩)] w4 fun e w' => e = .panicked (thrownT j 200) ∧ Mv q w4 w') := zH (t_name hn P4.out)
  go_wp2_with (go_at_call 28; (with_reducible refine N5.out.mono ?_); rintro e w' ⟨rfl, h1⟩; have M9 := zH (M4.out.trans h1); clear h1)
  exact ⟨rfl, rfl, M9.out⟩
theorem ins_kids_no {j : Nat} (hc : (bs s)[i]? = some 35) (hn : nameS (bs s) (i + 1) = .inr j) (h : RdS q s v i W) : Calls Tryd.prog 16 #[.pointer (some ⟨q, 0, none⟩)] W fun e w' => e = .panicked (thrownT j 200) ∧ Mv q W w' := by
  have H := zH h
  obtain ⟨f0, f1, f2, f3, f4, f5⟩ := h.facts
  have QL := zH f5
  have hfew := h.few
  have hle := h.le
  have i0 : (0 : Int) ≤ (i : Int) := Int.natCast_nonneg _
  have i5 : (i : Int) ≤ 4096 := by omega
  go_enter Tryd.func16, Tryd.ntmps16
  go_upto_region 1 with fail
  have M0 := zH (Mv.refl q W)
  generalize hws : World.alloc _ _ = w1
  have P1 : Hid (RdS q s v i w1) := zH (by rw [← hws]; exact H.out.keep (zB.alloc zL _))
  have M1 : Hid (Mv q W w1) := zH (by rw [← hws]; exact M0.out.trans (Mv.of_below (zB.alloc zL _) (Nat.le_of_lt QL.out)))
  have Kr1 : Hid (Blk w1 W.heap.size 30 #[.int .i64 0, .string ⟨#[]⟩, .string ⟨#[]⟩]) := zH (by rw [← hws]; exact Blk.new _ _ _)
  have S1 : W.heap.size ≤ w1.heap.size := by rw [← hws]; simp
  clear f0 f1 f2 f3 f4 f5
  clear hws
  obtain ⟨f0, f1, f2, f3, f4, f5⟩ := P1.out.facts
  obtain ⟨r0, rz0, r1, rz1, r2, rz2, lr⟩ := Kr1.out.f3
  have LQ : q < W.heap.size := QL.out
  have N2 : Hid (Calls Tryd.prog 15 #[.pointer (some ⟨q, 0, none⟩), .string ⟨#[46]⟩] w1 fun e w' => e = .returned (.bool false) ∧ Quiet w1 w') := zH (t_next ⟨#[46]⟩ (by decide) false (by rw [next_one (c := 46) rfl]; rw [hc]; rfl) P1.out)
  go_upto_region 4 with (go_at_call 15; (with_reducible refine N2.out.mono ?_); rintro e w' ⟨rfl, nq, rfl⟩)
  generalize hws : World.drewN _ _ = w3
  have P3 : Hid (RdS q s v i w3) := zH (by rw [← hws]; exact P1.out.quiet ⟨_, rfl⟩)
  have M3 : Hid (Mv q W w3) := zH (by rw [← hws]; exact M1.out.trans (Mv.quiet ⟨_, rfl⟩))
  have Kr3 : Hid (Blk w3 W.heap.size 30 #[.int .i64 0, .string ⟨#[]⟩, .string ⟨#[]⟩]) := zH (by rw [← hws]; exact Kr1.out)
  have S3 : w1.heap.size ≤ w3.heap.size := by rw [← hws]; simp
  clear f0 f1 f2 f3 f4 f5 r0 rz0 r1 rz1 r2 rz2 lr
  clear hws
  obtain ⟨f0, f1, f2, f3, f4, f5⟩ := P3.out.facts
  obtain ⟨r0, rz0, r1, rz1, r2, rz2, lr⟩ := Kr3.out.f3
  have N4 : Hid (Calls Tryd.prog 15 #[.pointer (some ⟨q, 0, none⟩), .string ⟨#[35]⟩] w3 fun e w' => e = .returned (.bool true) ∧ Quiet w3 w') := zH (t_next ⟨#[35]⟩ (by decide) true (by rw [next_one (c := 35) rfl]; rw [hc]; rfl) P3.out)
  go_upto_region 5 with (go_at_call 15; (with_reducible refine N4.out.mono ?_); rintro e w' ⟨rfl, nq, rfl⟩)
  generalize hws : World.drewN _ _ = w5
  have P5 : Hid (RdS q s v i w5) := zH (by rw [← hws]; exact P3.out.quiet ⟨_, rfl⟩)
  have M5 : Hid (Mv q W w5) := zH (by rw [← hws]; exact M3.out.trans (Mv.quiet ⟨_, rfl⟩))
  have Kr5 : Hid (Blk w5 W.heap.size 30 #[.int .i64 0, .string ⟨#[]⟩, .string ⟨#[]⟩]) := zH (by rw [← hws]; exact Kr3.out)
  have S5 : w3.heap.size ≤ w5.heap.size := by rw [← hws]; simp
  clear f0 f1 f2 f3 f4 f5 r0 rz0 r1 rz1 r2 rz2 lr
  clear hws
  obtain ⟨f0, f1, f2, f3, f4, f5⟩ := P5.out.facts
  obtain ⟨r0, rz0, r1, rz1, r2, rz2, lr⟩ := Kr5.out.f3
  go_upto_region 6 with fail
  generalize hws : World.setCell _ _ _ = w6
  have P6 : Hid (RdS q s v (i + 1) w6) := zH (by rw [← hws]; exact (P5.out.step (j := i + 1) (by go_num) (by rw [← bs_len]; exact (List.getElem?_eq_some_iff.1 hc).1) 0).2)
  have M6 : Hid (Mv q W w6) := zH (by rw [← hws]; exact M5.out.trans (Mv.set _ _ _ _))
  have Kr6 : Hid (Blk w6 W.heap.size 30 #[.int .i64 0, .string ⟨#[]⟩, .string ⟨#[]⟩]) := zH (by rw [← hws]; exact Kr5.out.far (p := ⟨q, 1, none⟩) (by show W.heap.size ≠ q; omega) _)
  have S6 : w5.heap.size ≤ w6.heap.size := by rw [← hws]; simp
  clear f0 f1 f2 f3 f4 f5 r0 rz0 r1 rz1 r2 rz2 lr
  clear hws
  obtain ⟨f0, f1, f2, f3, f4, f5⟩ := P6.out.facts
  obtain ⟨r0, rz0, r1, rz1, r2, rz2, lr⟩ := Kr6.out.f3
  have N7 : Hid (Calls Tryd.prog 28 #[.pointer (some ⟨q, 0, none⟩)] w6 fun e w' => e = .panicked (thrownT j 200) ∧ Mv q w6 w') := zH (t_name hn P6.out)
  go_wp2_with (go_at_call 28; (with_reducible refine N7.out.mono ?_); rintro e w' ⟨rfl, h1⟩; have M9 := zH (M6.out.trans h1); clear h1)
  exact ⟨rfl, rfl, M9.out⟩
theorem ins_kids {t : List Nat} {j : Nat} (hc : (bs s)[i]? = some 35) (hn : nameS (bs s) (i + 1) = .inl (t, j)) (hd : (bs s)[j]? ≠ some 32) (h : RdS q s v i W) : Calls Tryd.prog 16 #[.pointer (some ⟨q, 0, none⟩)] W fun e w' => e = .returned (.agg #[.int .i64 3, .string (txt t), .string ⟨#[]⟩]) ∧ Mv q W w' ∧ RdS q s v j w' := by
  have H := zH h
  obtain ⟨f0, f1, f2, f3, f4, f5⟩ := h.facts
  have QL := zH f5
  have hfew := h.few
  have hle := h.le
  have i0 : (0 : Int) ≤ (i : Int) := Int.natCast_nonneg _
  have i5 : (i : Int) ≤ 4096 := by omega
  have hj := name_some (by rw [bs_len]; exact (by have := (List.getElem?_eq_some_iff.1 hc).1; rw [bs_len] at this; exact this)) hn
  rw [bs_len] at hj
  have hj1 := hj.2.2.1
  have hj2 := hj.2.2.2
  clear hj
  go_enter Tryd.func16, Tryd.ntmps16
  go_upto_region 1 with fail
  have M0 := zH (Mv.refl q W)
  generalize hws : World.alloc _ _ = w1
  have P1 : Hid (RdS q s v i w1) := zH (by rw [← hws]; exact H.out.keep (zB.alloc zL _))
  have M1 : Hid (Mv q W w1) := zH (by rw [← hws]; exact M0.out.trans (Mv.of_below (zB.alloc zL _) (Nat.le_of_lt QL.out)))
  have Kr1 : Hid (Blk w1 W.heap.size 30 #[.int .i64 0, .string ⟨#[]⟩, .string ⟨#[]⟩]) := zH (by rw [← hws]; exact Blk.new _ _ _)
  have S1 : W.heap.size ≤ w1.heap.size := by rw [← hws]; simp
  clear f0 f1 f2 f3 f4 f5
  clear hws
  obtain ⟨f0, f1, f2, f3, f4, f5⟩ := P1.out.facts
  obtain ⟨r0, rz0, r1, rz1, r2, rz2, lr⟩ := Kr1.out.f3
  have LQ : q < W.heap.size := QL.out
  have N2 : Hid (Calls Tryd.prog 15 #[.pointer (some ⟨q, 0, none⟩), .string ⟨#[46]⟩] w1 fun e w' => e = .returned (.bool false) ∧ Quiet w1 w') := zH (t_next ⟨#[46]⟩ (by decide) false (by rw [next_one (c := 46) rfl]; rw [hc]; rfl) P1.out)
  go_upto_region 4 with (go_at_call 15; (with_reducible refine N2.out.mono ?_); rintro e w' ⟨rfl, nq, rfl⟩)
  generalize hws : World.drewN _ _ = w3
  have P3 : Hid (RdS q s v i w3) := zH (by rw [← hws]; exact P1.out.quiet ⟨_, rfl⟩)
  have M3 : Hid (Mv q W w3) := zH (by rw [← hws]; exact M1.out.trans (Mv.quiet ⟨_, rfl⟩))
  have Kr3 : Hid (Blk w3 W.heap.size 30 #[.int .i64 0, .string ⟨#[]⟩, .string ⟨#[]⟩]) := zH (by rw [← hws]; exact Kr1.out)
  have S3 : w1.heap.size ≤ w3.heap.size := by rw [← hws]; simp
  clear f0 f1 f2 f3 f4 f5 r0 rz0 r1 rz1 r2 rz2 lr
  clear hws
  obtain ⟨f0, f1, f2, f3, f4, f5⟩ := P3.out.facts
  obtain ⟨r0, rz0, r1, rz1, r2, rz2, lr⟩ := Kr3.out.f3
  have N4 : Hid (Calls Tryd.prog 15 #[.pointer (some ⟨q, 0, none⟩), .string ⟨#[35]⟩] w3 fun e w' => e = .returned (.bool true) ∧ Quiet w3 w') := zH (t_next ⟨#[35]⟩ (by decide) true (by rw [next_one (c := 35) rfl]; rw [hc]; rfl) P3.out)
  go_upto_region 5 with (go_at_call 15; (with_reducible refine N4.out.mono ?_); rintro e w' ⟨rfl, nq, rfl⟩)
  generalize hws : World.drewN _ _ = w5
  have P5 : Hid (RdS q s v i w5) := zH (by rw [← hws]; exact P3.out.quiet ⟨_, rfl⟩)
  have M5 : Hid (Mv q W w5) := zH (by rw [← hws]; exact M3.out.trans (Mv.quiet ⟨_, rfl⟩))
  have Kr5 : Hid (Blk w5 W.heap.size 30 #[.int .i64 0, .string ⟨#[]⟩, .string ⟨#[]⟩]) := zH (by rw [← hws]; exact Kr3.out)
  have S5 : w3.heap.size ≤ w5.heap.size := by rw [← hws]; simp
  clear f0 f1 f2 f3 f4 f5 r0 rz0 r1 rz1 r2 rz2 lr
  clear hws
  obtain ⟨f0, f1, f2, f3, f4, f5⟩ := P5.out.facts
  obtain ⟨r0, rz0, r1, rz1, r2, rz2, lr⟩ := Kr5.out.f3
  go_upto_region 6 with fail
  generalize hws : World.setCell _ _ _ = w6
  have P6 : Hid (RdS q s v (i + 1) w6) := zH (by rw [← hws]; exact (P5.out.step (j := i + 1) (by go_num) (by rw [← bs_len]; exact (List.getElem?_eq_some_iff.1 hc).1) 0).2)
  have M6 : Hid (Mv q W w6) := zH (by rw [← hws]; exact M5.out.trans (Mv.set _ _ _ _))
  have Kr6 : Hid (Blk w6 W.heap.size 30 #[.int .i64 0, .string ⟨#[]⟩, .string ⟨#[]⟩]) := zH (by rw [← hws]; exact Kr5.out.far (p := ⟨q, 1, none⟩) (by show W.heap.size ≠ q; omega) _)
  have S6 : w5.heap.size ≤ w6.heap.size := by rw [← hws]; simp
  clear f0 f1 f2 f3 f4 f5 r0 rz0 r1 rz1 r2 rz2 lr
  clear hws
  obtain ⟨f0, f1, f2, f3, f4, f5⟩ := P6.out.facts
  obtain ⟨r0, rz0, r1, rz1, r2, rz2, lr⟩ := Kr6.out.f3
  have N7 : Hid (Calls Tryd.prog 28 #[.pointer (some ⟨q, 0, none⟩)] w6 fun e w' => e = .returned (.string (txt t)) ∧ Mv q w6 w' ∧ RdS q s v j w') := zH (t_name hn P6.out)
  go_upto_region 7 with (go_at_call 28; (with_reducible refine N7.out.mono ?_); rintro e v7 ⟨rfl, h1, h2⟩; have A7 := zH h1; have P7 := zH h2; have M7 := zH (M6.out.trans h1); have S7 := h1.low.size; have Kr7 := zH (h1.blk Kr6.out (by omega)); clear f0 f1 f2 f3 f4 f5 r0 rz0 r1 rz1 r2 rz2 lr h1 h2; obtain ⟨f0, f1, f2, f3, f4, f5⟩ := P7.out.facts; obtain ⟨r0, rz0, r1, rz1, r2, rz2, lr⟩ := Kr7.out.f3)
  have hLP : W.heap.size < v7.heap.size := Kr7.out.lt
  generalize hws : World.alloc _ _ = w8
  have P8 : Hid (RdS q s v j w8) := zH (by rw [← hws]; exact P7.out.keep (zB.alloc zL _))
  have M8 : Hid (Mv q W w8) := zH (by rw [← hws]; exact M7.out.trans (Mv.of_below (zB.alloc zL _) (Nat.le_of_lt P7.out.box.lt)))
  have Kr8 : Hid (Blk w8 W.heap.size 30 #[.int .i64 0, .string ⟨#[]⟩, .string ⟨#[]⟩]) := zH (by rw [← hws]; exact Kr7.out.alloc _)
  have Kp8 : Hid (Blk w8 v7.heap.size 30 #[.int .i64 3, .string (txt t), .string ⟨#[]⟩]) := zH (by rw [← hws]; exact Blk.new _ _ _)
  have S8 : v7.heap.size ≤ w8.heap.size := by rw [← hws]; simp
  clear f0 f1 f2 f3 f4 f5 r0 rz0 r1 rz1 r2 rz2 lr
  clear hws
  obtain ⟨f0, f1, f2, f3, f4, f5⟩ := P8.out.facts
  obtain ⟨r0, rz0, r1, rz1, r2, rz2, lr⟩ := Kr8.out.f3
  obtain ⟨p0, pz0, p1, pz1, p2, pz2, lp⟩ := Kp8.out.f3
  have N9 : Hid (Calls Tryd.prog 15 #[.pointer (some ⟨q, 0, none⟩), .string ⟨#[32]⟩] w8 fun e w' => e = .returned (.bool false) ∧ Quiet w8 w') := zH (t_next ⟨#[32]⟩ (by decide) false (by rw [next_one (c := 32) rfl]; simpa using hd) P8.out)
  go_upto_region 10 with (go_at_call 15; (with_reducible refine N9.out.mono ?_); rintro e w' ⟨rfl, nq, rfl⟩)
  generalize hws : World.drewN _ _ = w10
  have P10 : Hid (RdS q s v j w10) := zH (by rw [← hws]; exact P8.out.quiet ⟨_, rfl⟩)
  have M10 : Hid (Mv q W w10) := zH (by rw [← hws]; exact M8.out.trans (Mv.quiet ⟨_, rfl⟩))
  have Kr10 : Hid (Blk w10 W.heap.size 30 #[.int .i64 0, .string ⟨#[]⟩, .string ⟨#[]⟩]) := zH (by rw [← hws]; exact Kr8.out)
  have Kp10 : Hid (Blk w10 v7.heap.size 30 #[.int .i64 3, .string (txt t), .string ⟨#[]⟩]) := zH (by rw [← hws]; exact Kp8.out)
  have S10 : w8.heap.size ≤ w10.heap.size := by rw [← hws]; simp
  clear f0 f1 f2 f3 f4 f5 r0 rz0 r1 rz1 r2 rz2 lr p0 pz0 p1 pz1 p2 pz2 lp
  clear hws
  obtain ⟨f0, f1, f2, f3, f4, f5⟩ := P10.out.facts
  obtain ⟨r0, rz0, r1, rz1, r2, rz2, lr⟩ := Kr10.out.f3
  obtain ⟨p0, pz0, p1, pz1, p2, pz2, lp⟩ := Kp10.out.f3
  go_wp2_with fail
  generalize hws : World.setCell (World.setCell (World.setCell _ _ _) _ _) _ _ = wz
  have KZ : Blk wz W.heap.size 30 #[.int .i64 3, .string (txt t), .string ⟨#[]⟩] := by rw [← hws]; have := ((Kr10.out.set_ 0 (.int .i64 3)).set_ 1 (.string (txt t))).set_ 2 (.string ⟨#[]⟩); simpa using this
  have PZ : RdS q s v j wz := by rw [← hws]; exact ((P10.out.farN (by omega) _).farN (by omega) _).farN (by omega) _
  have MZ : Mv q W wz := by rw [← hws]; exact ((M10.out.setN0 (by omega) (by omega) _).setN0 (by omega) (by omega) _).setN0 (by omega) (by omega) _
  have z0 := KZ.cell (i := 0) rfl
  have z1 := KZ.cell (i := 1) rfl
  have z2 := KZ.cell (i := 2) rfl
  clear hws f0 f1 f2 f3 f4 f5 r0 rz0 r1 rz1 r2 rz2 lr p0 pz0 p1 pz1 p2 pz2 lp
  refine bodyPost_ret (v := .agg #[.int .i64 3, .string (txt t), .string ⟨#[]⟩]) (by simp [results, Tryd.results16, go_sem, z0, z1, z2]) rfl ?_
  exact ⟨rfl, MZ, PZ⟩
theorem ins_mark_no {t : List Nat} {j : Nat} (hc : (bs s)[i]? = some 35) (hn : nameS (bs s) (i + 1) = .inl (t, j)) (hd : (bs s)[j]? = some 32) {k : Nat} (hm : markS (bs s) (j + 1) = .inr k) (h : RdS q s v i W) : Calls Tryd.prog 16 #[.pointer (some ⟨q, 0, none⟩)] W fun e w' => e = .panicked (thrownT k 200) ∧ Mv q W w' := by
  have H := zH h
  obtain ⟨f0, f1, f2, f3, f4, f5⟩ := h.facts
  have QL := zH f5
  have hfew := h.few
  have hle := h.le
  have i0 : (0 : Int) ≤ (i : Int) := Int.natCast_nonneg _
  have i5 : (i : Int) ≤ 4096 := by omega
  have hj := name_some (by rw [bs_len]; exact (by have := (List.getElem?_eq_some_iff.1 hc).1; rw [bs_len] at this; exact this)) hn
  rw [bs_len] at hj
  have hj1 := hj.2.2.1
  have hj2 := hj.2.2.2
  clear hj
  have j5 : (j : Int) ≤ 4096 := by omega
  have j0 : (0 : Int) ≤ (j : Int) := Int.natCast_nonneg _
  go_enter Tryd.func16, Tryd.ntmps16
  go_upto_region 1 with fail
  have M0 := zH (Mv.refl q W)
  generalize hws : World.alloc _ _ = w1
  have P1 : Hid (RdS q s v i w1) := zH (by rw [← hws]; exact H.out.keep (zB.alloc zL _))
  have M1 : Hid (Mv q W w1) := zH (by rw [← hws]; exact M0.out.trans (Mv.of_below (zB.alloc zL _) (Nat.le_of_lt QL.out)))
  have Kr1 : Hid (Blk w1 W.heap.size 30 #[.int .i64 0, .string ⟨#[]⟩, .string ⟨#[]⟩]) := zH (by rw [← hws]; exact Blk.new _ _ _)
  have S1 : W.heap.size ≤ w1.heap.size := by rw [← hws]; simp
  clear f0 f1 f2 f3 f4 f5
  clear hws
  obtain ⟨f0, f1, f2, f3, f4, f5⟩ := P1.out.facts
  obtain ⟨r0, rz0, r1, rz1, r2, rz2, lr⟩ := Kr1.out.f3
  have LQ : q < W.heap.size := QL.out
  have N2 : Hid (Calls Tryd.prog 15 #[.pointer (some ⟨q, 0, none⟩), .string ⟨#[46]⟩] w1 fun e w' => e = .returned (.bool false) ∧ Quiet w1 w') := zH (t_next ⟨#[46]⟩ (by decide) false (by rw [next_one (c := 46) rfl]; rw [hc]; rfl) P1.out)
  go_upto_region 4 with (go_at_call 15; (with_reducible refine N2.out.mono ?_); rintro e w' ⟨rfl, nq, rfl⟩)
  generalize hws : World.drewN _ _ = w3
  have P3 : Hid (RdS q s v i w3) := zH (by rw [← hws]; exact P1.out.quiet ⟨_, rfl⟩)
  have M3 : Hid (Mv q W w3) := zH (by rw [← hws]; exact M1.out.trans (Mv.quiet ⟨_, rfl⟩))
  have Kr3 : Hid (Blk w3 W.heap.size 30 #[.int .i64 0, .string ⟨#[]⟩, .string ⟨#[]⟩]) := zH (by rw [← hws]; exact Kr1.out)
  have S3 : w1.heap.size ≤ w3.heap.size := by rw [← hws]; simp
  clear f0 f1 f2 f3 f4 f5 r0 rz0 r1 rz1 r2 rz2 lr
  clear hws
  obtain ⟨f0, f1, f2, f3, f4, f5⟩ := P3.out.facts
  obtain ⟨r0, rz0, r1, rz1, r2, rz2, lr⟩ := Kr3.out.f3
  have N4 : Hid (Calls Tryd.prog 15 #[.pointer (some ⟨q, 0, none⟩), .string ⟨#[35]⟩] w3 fun e w' => e = .returned (.bool true) ∧ Quiet w3 w') := zH (t_next ⟨#[35]⟩ (by decide) true (by rw [next_one (c := 35) rfl]; rw [hc]; rfl) P3.out)
  go_upto_region 5 with (go_at_call 15; (with_reducible refine N4.out.mono ?_); rintro e w' ⟨rfl, nq, rfl⟩)
  generalize hws : World.drewN _ _ = w5
  have P5 : Hid (RdS q s v i w5) := zH (by rw [← hws]; exact P3.out.quiet ⟨_, rfl⟩)
  have M5 : Hid (Mv q W w5) := zH (by rw [← hws]; exact M3.out.trans (Mv.quiet ⟨_, rfl⟩))
  have Kr5 : Hid (Blk w5 W.heap.size 30 #[.int .i64 0, .string ⟨#[]⟩, .string ⟨#[]⟩]) := zH (by rw [← hws]; exact Kr3.out)
  have S5 : w3.heap.size ≤ w5.heap.size := by rw [← hws]; simp
  clear f0 f1 f2 f3 f4 f5 r0 rz0 r1 rz1 r2 rz2 lr
  clear hws
  obtain ⟨f0, f1, f2, f3, f4, f5⟩ := P5.out.facts
  obtain ⟨r0, rz0, r1, rz1, r2, rz2, lr⟩ := Kr5.out.f3
  go_upto_region 6 with fail
  generalize hws : World.setCell _ _ _ = w6
  have P6 : Hid (RdS q s v (i + 1) w6) := zH (by rw [← hws]; exact (P5.out.step (j := i + 1) (by go_num) (by rw [← bs_len]; exact (List.getElem?_eq_some_iff.1 hc).1) 0).2)
  have M6 : Hid (Mv q W w6) := zH (by rw [← hws]; exact M5.out.trans (Mv.set _ _ _ _))
  have Kr6 : Hid (Blk w6 W.heap.size 30 #[.int .i64 0, .string ⟨#[]⟩, .string ⟨#[]⟩]) := zH (by rw [← hws]; exact Kr5.out.far (p := ⟨q, 1, none⟩) (by show W.heap.size ≠ q; omega) _)
  have S6 : w5.heap.size ≤ w6.heap.size := by rw [← hws]; simp
  clear f0 f1 f2 f3 f4 f5 r0 rz0 r1 rz1 r2 rz2 lr
  clear hws
  obtain ⟨f0, f1, f2, f3, f4, f5⟩ := P6.out.facts
  obtain ⟨r0, rz0, r1, rz1, r2, rz2, lr⟩ := Kr6.out.f3
  have N7 : Hid (Calls Tryd.prog 28 #[.pointer (some ⟨q, 0, none⟩)] w6 fun e w' => e = .returned (.string (txt t)) ∧ Mv q w6 w' ∧ RdS q s v j w') := zH (t_name hn P6.out)
  go_upto_region 7 with (go_at_call 28; (with_reducible refine N7.out.mono ?_); rintro e v7 ⟨rfl, h1, h2⟩; have A7 := zH h1; have P7 := zH h2; have M7 := zH (M6.out.trans h1); have S7 := h1.low.size; have Kr7 := zH (h1.blk Kr6.out (by omega)); clear f0 f1 f2 f3 f4 f5 r0 rz0 r1 rz1 r2 rz2 lr h1 h2; obtain ⟨f0, f1, f2, f3, f4, f5⟩ := P7.out.facts; obtain ⟨r0, rz0, r1, rz1, r2, rz2, lr⟩ := Kr7.out.f3)
  have hLP : W.heap.size < v7.heap.size := Kr7.out.lt
  generalize hws : World.alloc _ _ = w8
  have P8 : Hid (RdS q s v j w8) := zH (by rw [← hws]; exact P7.out.keep (zB.alloc zL _))
  have M8 : Hid (Mv q W w8) := zH (by rw [← hws]; exact M7.out.trans (Mv.of_below (zB.alloc zL _) (Nat.le_of_lt P7.out.box.lt)))
  have Kr8 : Hid (Blk w8 W.heap.size 30 #[.int .i64 0, .string ⟨#[]⟩, .string ⟨#[]⟩]) := zH (by rw [← hws]; exact Kr7.out.alloc _)
  have Kp8 : Hid (Blk w8 v7.heap.size 30 #[.int .i64 3, .string (txt t), .string ⟨#[]⟩]) := zH (by rw [← hws]; exact Blk.new _ _ _)
  have S8 : v7.heap.size ≤ w8.heap.size := by rw [← hws]; simp
  clear f0 f1 f2 f3 f4 f5 r0 rz0 r1 rz1 r2 rz2 lr
  clear hws
  obtain ⟨f0, f1, f2, f3, f4, f5⟩ := P8.out.facts
  obtain ⟨r0, rz0, r1, rz1, r2, rz2, lr⟩ := Kr8.out.f3
  obtain ⟨p0, pz0, p1, pz1, p2, pz2, lp⟩ := Kp8.out.f3
  have N9 : Hid (Calls Tryd.prog 15 #[.pointer (some ⟨q, 0, none⟩), .string ⟨#[32]⟩] w8 fun e w' => e = .returned (.bool true) ∧ Quiet w8 w') := zH (t_next ⟨#[32]⟩ (by decide) true (by rw [next_one (c := 32) rfl]; rw [hd]; rfl) P8.out)
  go_upto_region 8 with (go_at_call 15; (with_reducible refine N9.out.mono ?_); rintro e w' ⟨rfl, nq, rfl⟩)
  generalize hws : World.drewN _ _ = w10
  have P10 : Hid (RdS q s v j w10) := zH (by rw [← hws]; exact P8.out.quiet ⟨_, rfl⟩)
  have M10 : Hid (Mv q W w10) := zH (by rw [← hws]; exact M8.out.trans (Mv.quiet ⟨_, rfl⟩))
  have Kr10 : Hid (Blk w10 W.heap.size 30 #[.int .i64 0, .string ⟨#[]⟩, .string ⟨#[]⟩]) := zH (by rw [← hws]; exact Kr8.out)
  have Kp10 : Hid (Blk w10 v7.heap.size 30 #[.int .i64 3, .string (txt t), .string ⟨#[]⟩]) := zH (by rw [← hws]; exact Kp8.out)
  have S10 : w8.heap.size ≤ w10.heap.size := by rw [← hws]; simp
  clear f0 f1 f2 f3 f4 f5 r0 rz0 r1 rz1 r2 rz2 lr p0 pz0 p1 pz1 p2 pz2 lp
  clear hws
  obtain ⟨f0, f1, f2, f3, f4, f5⟩ := P10.out.facts
  obtain ⟨r0, rz0, r1, rz1, r2, rz2, lr⟩ := Kr10.out.f3
  obtain ⟨p0, pz0, p1, pz1, p2, pz2, lp⟩ := Kp10.out.f3
  go_upto_region 9 with fail
  generalize hws : World.setCell _ _ _ = w11
  have P11 : Hid (RdS q s v (j + 1) w11) := zH (by rw [← hws]; exact (P10.out.step (j := j + 1) (by go_num) (by rw [← bs_len]; exact (List.getElem?_eq_some_iff.1 hd).1) 0).2)
  have M11 : Hid (Mv q W w11) := zH (by rw [← hws]; exact M10.out.trans (Mv.set _ _ _ _))
  have Kr11 : Hid (Blk w11 W.heap.size 30 #[.int .i64 0, .string ⟨#[]⟩, .string ⟨#[]⟩]) := zH (by rw [← hws]; exact Kr10.out.far (p := ⟨q, 1, none⟩) (by show W.heap.size ≠ q; omega) _)
  have Kp11 : Hid (Blk w11 v7.heap.size 30 #[.int .i64 3, .string (txt t), .string ⟨#[]⟩]) := zH (by rw [← hws]; exact Kp10.out.far (p := ⟨q, 1, none⟩) (by show v7.heap.size ≠ q; omega) _)
  have S11 : w10.heap.size ≤ w11.heap.size := by rw [← hws]; simp
  clear f0 f1 f2 f3 f4 f5 r0 rz0 r1 rz1 r2 rz2 lr p0 pz0 p1 pz1 p2 pz2 lp
  clear hws
  obtain ⟨f0, f1, f2, f3, f4, f5⟩ := P11.out.facts
  obtain ⟨r0, rz0, r1, rz1, r2, rz2, lr⟩ := Kr11.out.f3
  obtain ⟨p0, pz0, p1, pz1, p2, pz2, lp⟩ := Kp11.out.f3
  have N12 : Hid (Calls Tryd.prog 29 #[.pointer (some ⟨q, 0, none⟩)] w11 fun e w' => e = .panicked (thrownT k 200) ∧ Mv q w11 w') := zH (t_mark hm P11.out)
  go_wp2_with (go_at_call 29; (with_reducible refine N12.out.mono ?_); rintro e w' ⟨rfl, h1⟩; have M9 := zH (M11.out.trans h1); clear h1)
  exact ⟨rfl, rfl, M9.out⟩
theorem ins_mark {t : List Nat} {j : Nat} (hc : (bs s)[i]? = some 35) (hn : nameS (bs s) (i + 1) = .inl (t, j)) (hd : (bs s)[j]? = some 32) {m : List Nat} {k : Nat} (hm : markS (bs s) (j + 1) = .inl (m, k)) (h : RdS q s v i W) : Calls Tryd.prog 16 #[.pointer (some ⟨q, 0, none⟩)] W fun e w' => e = .returned (.agg #[.int .i64 3, .string (txt t), .string (txt m)]) ∧ Mv q W w' ∧ RdS q s v k w' := by
  have H := zH h
  obtain ⟨f0, f1, f2, f3, f4, f5⟩ := h.facts
  have QL := zH f5
  have hfew := h.few
  have hle := h.le
  have i0 : (0 : Int) ≤ (i : Int) := Int.natCast_nonneg _
  have i5 : (i : Int) ≤ 4096 := by omega
  have hj := name_some (by rw [bs_len]; exact (by have := (List.getElem?_eq_some_iff.1 hc).1; rw [bs_len] at this; exact this)) hn
  rw [bs_len] at hj
  have hj1 := hj.2.2.1
  have hj2 := hj.2.2.2
  clear hj
  have j5 : (j : Int) ≤ 4096 := by omega
  have j0 : (0 : Int) ≤ (j : Int) := Int.natCast_nonneg _
  go_enter Tryd.func16, Tryd.ntmps16
  go_upto_region 1 with fail
  have M0 := zH (Mv.refl q W)
  generalize hws : World.alloc _ _ = w1
  have P1 : Hid (RdS q s v i w1) := zH (by rw [← hws]; exact H.out.keep (zB.alloc zL _))
  have M1 : Hid (Mv q W w1) := zH (by rw [← hws]; exact M0.out.trans (Mv.of_below (zB.alloc zL _) (Nat.le_of_lt QL.out)))
  have Kr1 : Hid (Blk w1 W.heap.size 30 #[.int .i64 0, .string ⟨#[]⟩, .string ⟨#[]⟩]) := zH (by rw [← hws]; exact Blk.new _ _ _)
  have S1 : W.heap.size ≤ w1.heap.size := by rw [← hws]; simp
  clear f0 f1 f2 f3 f4 f5
  clear hws
  obtain ⟨f0, f1, f2, f3, f4, f5⟩ := P1.out.facts
  obtain ⟨r0, rz0, r1, rz1, r2, rz2, lr⟩ := Kr1.out.f3
  have LQ : q < W.heap.size := QL.out
  have N2 : Hid (Calls Tryd.prog 15 #[.pointer (some ⟨q, 0, none⟩), .string ⟨#[46]⟩] w1 fun e w' => e = .returned (.bool false) ∧ Quiet w1 w') := zH (t_next ⟨#[46]⟩ (by decide) false (by rw [next_one (c := 46) rfl]; rw [hc]; rfl) P1.out)
  go_upto_region 4 with (go_at_call 15; (with_reducible refine N2.out.mono ?_); rintro e w' ⟨rfl, nq, rfl⟩)
  generalize hws : World.drewN _ _ = w3
  have P3 : Hid (RdS q s v i w3) := zH (by rw [← hws]; exact P1.out.quiet ⟨_, rfl⟩)
  have M3 : Hid (Mv q W w3) := zH (by rw [← hws]; exact M1.out.trans (Mv.quiet ⟨_, rfl⟩))
  have Kr3 : Hid (Blk w3 W.heap.size 30 #[.int .i64 0, .string ⟨#[]⟩, .string ⟨#[]⟩]) := zH (by rw [← hws]; exact Kr1.out)
  have S3 : w1.heap.size ≤ w3.heap.size := by rw [← hws]; simp
  clear f0 f1 f2 f3 f4 f5 r0 rz0 r1 rz1 r2 rz2 lr
  clear hws
  obtain ⟨f0, f1, f2, f3, f4, f5⟩ := P3.out.facts
  obtain ⟨r0, rz0, r1, rz1, r2, rz2, lr⟩ := Kr3.out.f3
  have N4 : Hid (Calls Tryd.prog 15 #[.pointer (some ⟨q, 0, none⟩), .string ⟨#[35]⟩] w3 fun e w' => e = .returned (.bool true) ∧ Quiet w3 w') := zH (t_next ⟨#[35]⟩ (by decide) true (by rw [next_one (c := 35) rfl]; rw [hc]; rfl) P3.out)
  go_upto_region 5 with (go_at_call 15; (with_reducible refine N4.out.mono ?_); rintro e w' ⟨rfl, nq, rfl⟩)
  generalize hws : World.drewN _ _ = w5
  have P5 : Hid (RdS q s v i w5) := zH (by rw [← hws]; exact P3.out.quiet ⟨_, rfl⟩)
  have M5 : Hid (Mv q W w5) := zH (by rw [← hws]; exact M3.out.trans (Mv.quiet ⟨_, rfl⟩))
  have Kr5 : Hid (Blk w5 W.heap.size 30 #[.int .i64 0, .string ⟨#[]⟩, .string ⟨#[]⟩]) := zH (by rw [← hws]; exact Kr3.out)
  have S5 : w3.heap.size ≤ w5.heap.size := by rw [← hws]; simp
  clear f0 f1 f2 f3 f4 f5 r0 rz0 r1 rz1 r2 rz2 lr
  clear hws
  obtain ⟨f0, f1, f2, f3, f4, f5⟩ := P5.out.facts
  obtain ⟨r0, rz0, r1, rz1, r2, rz2, lr⟩ := Kr5.out.f3
  go_upto_region 6 with fail
  generalize hws : World.setCell _ _ _ = w6
  have P6 : Hid (RdS q s v (i + 1) w6) := zH (by rw [← hws]; exact (P5.out.step (j := i + 1) (by go_num) (by rw [← bs_len]; exact (List.getElem?_eq_some_iff.1 hc).1) 0).2)
  have M6 : Hid (Mv q W w6) := zH (by rw [← hws]; exact M5.out.trans (Mv.set _ _ _ _))
  have Kr6 : Hid (Blk w6 W.heap.size 30 #[.int .i64 0, .string ⟨#[]⟩, .string ⟨#[]⟩]) := zH (by rw [← hws]; exact Kr5.out.far (p := ⟨q, 1, none⟩) (by show W.heap.size ≠ q; omega) _)
  have S6 : w5.heap.size ≤ w6.heap.size := by rw [← hws]; simp
  clear f0 f1 f2 f3 f4 f5 r0 rz0 r1 rz1 r2 rz2 lr
  clear hws
  obtain ⟨f0, f1, f2, f3, f4, f5⟩ := P6.out.facts
  obtain ⟨r0, rz0, r1, rz1, r2, rz2, lr⟩ := Kr6.out.f3
  have N7 : Hid (Calls Tryd.prog 28 #[.pointer (some ⟨q, 0, none⟩)] w6 fun e w' => e = .returned (.string (txt t)) ∧ Mv q w6 w' ∧ RdS q s v j w') := zH (t_name hn P6.out)
  go_upto_region 7 with (go_at_call 28; (with_reducible refine N7.out.mono ?_); rintro e v7 ⟨rfl, h1, h2⟩; have A7 := zH h1; have P7 := zH h2; have M7 := zH (M6.out.trans h1); have S7 := h1.low.size; have Kr7 := zH (h1.blk Kr6.out (by omega)); clear f0 f1 f2 f3 f4 f5 r0 rz0 r1 rz1 r2 rz2 lr h1 h2; obtain ⟨f0, f1, f2, f3, f4, f5⟩ := P7.out.facts; obtain ⟨r0, rz0, r1, rz1, r2, rz2, lr⟩ := Kr7.out.f3)
  have hLP : W.heap.size < v7.heap.size := Kr7.out.lt
  generalize hws : World.alloc _ _ = w8
  have P8 : Hid (RdS q s v j w8) := zH (by rw [← hws]; exact P7.out.keep (zB.alloc zL _))
  have M8 : Hid (Mv q W w8) := zH (by rw [← hws]; exact M7.out.trans (Mv.of_below (zB.alloc zL _) (Nat.le_of_lt P7.out.box.lt)))
  have Kr8 : Hid (Blk w8 W.heap.size 30 #[.int .i64 0, .string ⟨#[]⟩, .string ⟨#[]⟩]) := zH (by rw [← hws]; exact Kr7.out.alloc _)
  have Kp8 : Hid (Blk w8 v7.heap.size 30 #[.int .i64 3, .string (txt t), .string ⟨#[]⟩]) := zH (by rw [← hws]; exact Blk.new _ _ _)
  have S8 : v7.heap.size ≤ w8.heap.size := by rw [← hws]; simp
  clear f0 f1 f2 f3 f4 f5 r0 rz0 r1 rz1 r2 rz2 lr
  clear hws
  obtain ⟨f0, f1, f2, f3, f4, f5⟩ := P8.out.facts
  obtain ⟨r0, rz0, r1, rz1, r2, rz2, lr⟩ := Kr8.out.f3
  obtain ⟨p0, pz0, p1, pz1, p2, pz2, lp⟩ := Kp8.out.f3
  have N9 : Hid (Calls Tryd.prog 15 #[.pointer (some ⟨q, 0, none⟩), .string ⟨#[32]⟩] w8 fun e w' => e = .returned (.bool true) ∧ Quiet w8 w') := zH (t_next ⟨#[32]⟩ (by decide) true (by rw [next_one (c := 32) rfl]; rw [hd]; rfl) P8.out)
  go_upto_region 8 with (go_at_call 15; (with_reducible refine N9.out.mono ?_); rintro e w' ⟨rfl, nq, rfl⟩)
  generalize hws : World.drewN _ _ = w10
  have P10 : Hid (RdS q s v j w10) := zH (by rw [← hws]; exact P8.out.quiet ⟨_, rfl⟩)
  have M10 : Hid (Mv q W w10) := zH (by rw [← hws]; exact M8.out.trans (Mv.quiet ⟨_, rfl⟩))
  have Kr10 : Hid (Blk w10 W.heap.size 30 #[.int .i64 0, .string ⟨#[]⟩, .string ⟨#[]⟩]) := zH (by rw [← hws]; exact Kr8.out)
  have Kp10 : Hid (Blk w10 v7.heap.size 30 #[.int .i64 3, .string (txt t), .string ⟨#[]⟩]) := zH (by rw [← hws]; exact Kp8.out)
  have S10 : w8.heap.size ≤ w10.heap.size := by rw [← hws]; simp
  clear f0 f1 f2 f3 f4 f5 r0 rz0 r1 rz1 r2 rz2 lr p0 pz0 p1 pz1 p2 pz2 lp
  clear hws
  obtain ⟨f0, f1, f2, f3, f4, f5⟩ := P10.out.facts
  obtain ⟨r0, rz0, r1, rz1, r2, rz2, lr⟩ := Kr10.out.f3
  obtain ⟨p0, pz0, p1, pz1, p2, pz2, lp⟩ := Kp10.out.f3
  go_upto_region 9 with fail
  generalize hws : World.setCell _ _ _ = w11
  have P11 : Hid (RdS q s v (j + 1) w11) := zH (by rw [← hws]; exact (P10.out.step (j := j + 1) (by go_num) (by rw [← bs_len]; exact (List.getElem?_eq_some_iff.1 hd).1) 0).2)
  have M11 : Hid (Mv q W w11) := zH (by rw [← hws]; exact M10.out.trans (Mv.set _ _ _ _))
  have Kr11 : Hid (Blk w11 W.heap.size 30 #[.int .i64 0, .string ⟨#[]⟩, .string ⟨#[]⟩]) := zH (by rw [← hws]; exact Kr10.out.far (p := ⟨q, 1, none⟩) (by show W.heap.size ≠ q; omega) _)
  have Kp11 : Hid (Blk w11 v7.heap.size 30 #[.int .i64 3, .string (txt t), .string ⟨#[]⟩]) := zH (by rw [← hws]; exact Kp10.out.far (p := ⟨q, 1, none⟩) (by show v7.heap.size ≠ q; omega) _)
  have S11 : w10.heap.size ≤ w11.heap.size := by rw [← hws]; simp
  clear f0 f1 f2 f3 f4 f5 r0 rz0 r1 rz1 r2 rz2 lr p0 pz0 p1 pz1 p2 pz2 lp
  clear hws
  obtain ⟨f0, f1, f2, f3, f4, f5⟩ := P11.out.facts
  obtain ⟨r0, rz0, r1, rz1, r2, rz2, lr⟩ := Kr11.out.f3
  obtain ⟨p0, pz0, p1, pz1, p2, pz2, lp⟩ := Kp11.out.f3
  have N12 : Hid (Calls Tryd.prog 29 #[.pointer (some ⟨q, 0, none⟩)] w11 fun e w' => e = .returned (.string (txt m)) ∧ Mv q w11 w' ∧ RdS q s v k w') := zH (t_mark hm P11.out)
  go_upto_region 10 with (go_at_call 29; (with_reducible refine N12.out.mono ?_); rintro e v12 ⟨rfl, h1, h2⟩; have A12 := zH h1; have P12 := zH h2; have M12 := zH (M11.out.trans h1); have S12 := h1.low.size; have Kr12 := zH (h1.blk Kr11.out (by omega)); have Kp12 := zH (h1.blk Kp11.out (by omega)); clear f0 f1 f2 f3 f4 f5 r0 rz0 r1 rz1 r2 rz2 lr p0 pz0 p1 pz1 p2 pz2 lp h1 h2; obtain ⟨f0, f1, f2, f3, f4, f5⟩ := P12.out.facts; obtain ⟨r0, rz0, r1, rz1, r2, rz2, lr⟩ := Kr12.out.f3; obtain ⟨p0, pz0, p1, pz1, p2, pz2, lp⟩ := Kp12.out.f3)
  generalize hws : World.setCell _ _ _ = w13
  have P13 : Hid (RdS q s v k w13) := zH (by rw [← hws]; exact P12.out.farN (by omega) _)
  have M13 : Hid (Mv q W w13) := zH (by rw [← hws]; exact M12.out.setN0 (by omega) (by omega) _)
  have Kr13 : Hid (Blk w13 W.heap.size 30 #[.int .i64 0, .string ⟨#[]⟩, .string ⟨#[]⟩]) := zH (by rw [← hws]; exact Kr12.out.far (p := ⟨v7.heap.size, 2, none⟩) (by show W.heap.size ≠ v7.heap.size; omega) _)
  have Kp13 : Hid (Blk w13 v7.heap.size 30 #[.int .i64 3, .string (txt t), .string (txt m)]) := zH (by rw [← hws]; exact (by have := Kp12.out.set_ 2 (.string (txt m)); simpa using this))
  have S13 : v12.heap.size ≤ w13.heap.size := by rw [← hws]; simp
  clear f0 f1 f2 f3 f4 f5 r0 rz0 r1 rz1 r2 rz2 lr p0 pz0 p1 pz1 p2 pz2 lp
  clear hws
  obtain ⟨f0, f1, f2, f3, f4, f5⟩ := P13.out.facts
  obtain ⟨r0, rz0, r1, rz1, r2, rz2, lr⟩ := Kr13.out.f3
  obtain ⟨p0, pz0, p1, pz1, p2, pz2, lp⟩ := Kp13.out.f3
  go_wp2_with fail
  generalize hws : World.setCell (World.setCell (World.setCell _ _ _) _ _) _ _ = wz
  have KZ : Blk wz W.heap.size 30 #[.int .i64 3, .string (txt t), .string (txt m)] := by rw [← hws]; have := ((Kr13.out.set_ 0 (.int .i64 3)).set_ 1 (.string (txt t))).set_ 2 (.string (txt m)); simpa using this
  have PZ : RdS q s v k wz := by rw [← hws]; exact ((P13.out.farN (by omega) _).farN (by omega) _).farN (by omega) _
  have MZ : Mv q W wz := by rw [← hws]; exact ((M13.out.setN0 (by omega) (by omega) _).setN0 (by omega) (by omega) _).setN0 (by omega) (by omega) _
  have z0 := KZ.cell (i := 0) rfl
  have z1 := KZ.cell (i := 1) rfl
  have z2 := KZ.cell (i := 2) rfl
  clear hws f0 f1 f2 f3 f4 f5 r0 rz0 r1 rz1 r2 rz2 lr p0 pz0 p1 pz1 p2 pz2 lp
  refine bodyPost_ret (v := .agg #[.int .i64 3, .string (txt t), .string (txt m)]) (by simp [results, Tryd.results16, go_sem, z0, z1, z2]) rfl ?_
  exact ⟨rfl, MZ, PZ⟩
theorem ins_ref_no (hc : (bs s)[i]? = some 45) (he : (bs s)[i + 1]? ≠ some 62) (h : RdS q s v i W) : Calls Tryd.prog 16 #[.pointer (some ⟨q, 0, none⟩)] W fun e w' => e = .panicked (thrownT (i + 1) 200) ∧ Mv q W w' := by
  have H := zH h
  obtain ⟨f0, f1, f2, f3, f4, f5⟩ := h.facts
  have QL := zH f5
  have hfew := h.few
  have hle := h.le
  have i0 : (0 : Int) ≤ (i : Int) := Int.natCast_nonneg _
  have i5 : (i : Int) ≤ 4096 := by omega
  go_enter Tryd.func16, Tryd.ntmps16
  go_upto_region 1 with fail
  have M0 := zH (Mv.refl q W)
  generalize hws : World.alloc _ _ = w1
  have P1 : Hid (RdS q s v i w1) := zH (by rw [← hws]; exact H.out.keep (zB.alloc zL _))
  have M1 : Hid (Mv q W w1) := zH (by rw [← hws]; exact M0.out.trans (Mv.of_below (zB.alloc zL _) (Nat.le_of_lt QL.out)))
  have Kr1 : Hid (Blk w1 W.heap.size 30 #[.int .i64 0, .string ⟨#[]⟩, .string ⟨#[]⟩]) := zH (by rw [← hws]; exact Blk.new _ _ _)
  have S1 : W.heap.size ≤ w1.heap.size := by rw [← hws]; simp
  clear f0 f1 f2 f3 f4 f5
  clear hws
  obtain ⟨f0, f1, f2, f3, f4, f5⟩ := P1.out.facts
  obtain ⟨r0, rz0, r1, rz1, r2, rz2, lr⟩ := Kr1.out.f3
  have LQ : q < W.heap.size := QL.out
  have N2 : Hid (Calls Tryd.prog 15 #[.pointer (some ⟨q, 0, none⟩), .string ⟨#[46]⟩] w1 fun e w' => e = .returned (.bool false) ∧ Quiet w1 w') := zH (t_next ⟨#[46]⟩ (by decide) false (by rw [next_one (c := 46) rfl]; rw [hc]; rfl) P1.out)
  go_upto_region 4 with (go_at_call 15; (with_reducible refine N2.out.mono ?_); rintro e w' ⟨rfl, nq, rfl⟩)
  generalize hws : World.drewN _ _ = w3
  have P3 : Hid (RdS q s v i w3) := zH (by rw [← hws]; exact P1.out.quiet ⟨_, rfl⟩)
  have M3 : Hid (Mv q W w3) := zH (by rw [← hws]; exact M1.out.trans (Mv.quiet ⟨_, rfl⟩))
  have Kr3 : Hid (Blk w3 W.heap.size 30 #[.int .i64 0, .string ⟨#[]⟩, .string ⟨#[]⟩]) := zH (by rw [← hws]; exact Kr1.out)
  have S3 : w1.heap.size ≤ w3.heap.size := by rw [← hws]; simp
  clear f0 f1 f2 f3 f4 f5 r0 rz0 r1 rz1 r2 rz2 lr
  clear hws
  obtain ⟨f0, f1, f2, f3, f4, f5⟩ := P3.out.facts
  obtain ⟨r0, rz0, r1, rz1, r2, rz2, lr⟩ := Kr3.out.f3
  have N4 : Hid (Calls Tryd.prog 15 #[.pointer (some ⟨q, 0, none⟩), .string ⟨#[35]⟩] w3 fun e w' => e = .returned (.bool false) ∧ Quiet w3 w') := zH (t_next ⟨#[35]⟩ (by decide) false (by rw [next_one (c := 35) rfl]; rw [hc]; rfl) P3.out)
  go_upto_region 11 with (go_at_call 15; (with_reducible refine N4.out.mono ?_); rintro e w' ⟨rfl, nq, rfl⟩)
  generalize hws : World.drewN _ _ = w5
  have P5 : Hid (RdS q s v i w5) := zH (by rw [← hws]; exact P3.out.quiet ⟨_, rfl⟩)
  have M5 : Hid (Mv q W w5) := zH (by rw [← hws]; exact M3.out.trans (Mv.quiet ⟨_, rfl⟩))
  have Kr5 : Hid (Blk w5 W.heap.size 30 #[.int .i64 0, .string ⟨#[]⟩, .string ⟨#[]⟩]) := zH (by rw [← hws]; exact Kr3.out)
  have S5 : w3.heap.size ≤ w5.heap.size := by rw [← hws]; simp
  clear f0 f1 f2 f3 f4 f5 r0 rz0 r1 rz1 r2 rz2 lr
  clear hws
  obtain ⟨f0, f1, f2, f3, f4, f5⟩ := P5.out.facts
  obtain ⟨r0, rz0, r1, rz1, r2, rz2, lr⟩ := Kr5.out.f3
  have N6 : Hid (Calls Tryd.prog 15 #[.pointer (some ⟨q, 0, none⟩), .string ⟨#[45]⟩] w5 fun e w' => e = .returned (.bool true) ∧ Quiet w5 w') := zH (t_next ⟨#[45]⟩ (by decide) true (by rw [next_one (c := 45) rfl]; rw [hc]; rfl) P5.out)
  go_upto_region 12 with (go_at_call 15; (with_reducible refine N6.out.mono ?_); rintro e w' ⟨rfl, nq, rfl⟩)
  generalize hws : World.drewN _ _ = w7
  have P7 : Hid (RdS q s v i w7) := zH (by rw [← hws]; exact P5.out.quiet ⟨_, rfl⟩)
  have M7 : Hid (Mv q W w7) := zH (by rw [← hws]; exact M5.out.trans (Mv.quiet ⟨_, rfl⟩))
  have Kr7 : Hid (Blk w7 W.heap.size 30 #[.int .i64 0, .string ⟨#[]⟩, .string ⟨#[]⟩]) := zH (by rw [← hws]; exact Kr5.out)
  have S7 : w5.heap.size ≤ w7.heap.size := by rw [← hws]; simp
  clear f0 f1 f2 f3 f4 f5 r0 rz0 r1 rz1 r2 rz2 lr
  clear hws
  obtain ⟨f0, f1, f2, f3, f4, f5⟩ := P7.out.facts
  obtain ⟨r0, rz0, r1, rz1, r2, rz2, lr⟩ := Kr7.out.f3
  go_upto_region 13 with fail
  generalize hws : World.setCell _ _ _ = w8
  have P8 : Hid (RdS q s v (i + 1) w8) := zH (by rw [← hws]; exact (P7.out.step (j := i + 1) (by go_num) (by rw [← bs_len]; exact (List.getElem?_eq_some_iff.1 hc).1) 0).2)
  have M8 : Hid (Mv q W w8) := zH (by rw [← hws]; exact M7.out.trans (Mv.set _ _ _ _))
  have Kr8 : Hid (Blk w8 W.heap.size 30 #[.int .i64 0, .string ⟨#[]⟩, .string ⟨#[]⟩]) := zH (by rw [← hws]; exact Kr7.out.far (p := ⟨q, 1, none⟩) (by show W.heap.size ≠ q; omega) _)
  have S8 : w7.heap.size ≤ w8.heap.size := by rw [← hws]; simp
  clear f0 f1 f2 f3 f4 f5 r0 rz0 r1 rz1 r2 rz2 lr
  clear hws
  obtain ⟨f0, f1, f2, f3, f4, f5⟩ := P8.out.facts
  obtain ⟨r0, rz0, r1, rz1, r2, rz2, lr⟩ := Kr8.out.f3
  have N9 : Hid (Calls Tryd.prog 17 #[.pointer (some ⟨q, 0, none⟩), .string ⟨#[62]⟩] w8 fun e w' => e = .panicked (thrownT (i + 1) 200) ∧ Mv q w8 w') := zH ((t_must_no ⟨#[62]⟩ (c := 62) rfl he P8.out).mono fun e w' h => ⟨h.1, Mv.quiet h.2⟩)
  go_wp2_with (go_at_call 17; (with_reducible refine N9.out.mono ?_); rintro e w' ⟨rfl, h1⟩; have M9 := zH (M8.out.trans h1); clear h1)
  exact ⟨rfl, rfl, M9.out⟩
theorem ins_refn_no {j : Nat} (hc : (bs s)[i]? = some 45) (he : (bs s)[i + 1]? = some 62) (hn : nameS (bs s) (i + 1 + 1) = .inr j) (h : RdS q s v i W) : Calls Tryd.prog 16 #[.pointer (some ⟨q, 0, none⟩)] W fun e w' => e = .panicked (thrownT j 200) ∧ Mv q W w' := by
  have H := zH h
  obtain ⟨f0, f1, f2, f3, f4, f5⟩ := h.facts
  have QL := zH f5
  have hfew := h.few
  have hle := h.le
  have i0 : (0 : Int) ≤ (i : Int) := Int.natCast_nonneg _
  have i5 : (i : Int) ≤ 4096 := by omega
  go_enter Tryd.func16, Tryd.ntmps16
  go_upto_region 1 with fail
  have M0 := zH (Mv.refl q W)
  generalize hws : World.alloc _ _ = w1
  have P1 : Hid (RdS q s v i w1) := zH (by rw [← hws]; exact H.out.keep (zB.alloc zL _))
  have M1 : Hid (Mv q W w1) := zH (by rw [← hws]; exact M0.out.trans (Mv.of_below (zB.alloc zL _) (Nat.le_of_lt QL.out)))
  have Kr1 : Hid (Blk w1 W.heap.size 30 #[.int .i64 0, .string ⟨#[]⟩, .string ⟨#[]⟩]) := zH (by rw [← hws]; exact Blk.new _ _ _)
  have S1 : W.heap.size ≤ w1.heap.size := by rw [← hws]; simp
  clear f0 f1 f2 f3 f4 f5
  clear hws
  obtain ⟨f0, f1, f2, f3, f4, f5⟩ := P1.out.facts
  obtain ⟨r0, rz0, r1, rz1, r2, rz2, lr⟩ := Kr1.out.f3
  have LQ : q < W.heap.size := QL.out
  have N2 : Hid (Calls Tryd.prog 15 #[.pointer (some ⟨q, 0, none⟩), .string ⟨#[46]⟩] w1 fun e w' => e = .returned (.bool false) ∧ Quiet w1 w') := zH (t_next ⟨#[46]⟩ (by decide) false (by rw [next_one (c := 46) rfl]; rw [hc]; rfl) P1.out)
  go_upto_region 4 with (go_at_call 15; (with_reducible refine N2.out.mono ?_); rintro e w' ⟨rfl, nq, rfl⟩)
  generalize hws : World.drewN _ _ = w3
  have P3 : Hid (RdS q s v i w3) := zH (by rw [← hws]; exact P1.out.quiet ⟨_, rfl⟩)
  have M3 : Hid (Mv q W w3) := zH (by rw [← hws]; exact M1.out.trans (Mv.quiet ⟨_, rfl⟩))
  have Kr3 : Hid (Blk w3 W.heap.size 30 #[.int .i64 0, .string ⟨#[]⟩, .string ⟨#[]⟩]) := zH (by rw [← hws]; exact Kr1.out)
  have S3 : w1.heap.size ≤ w3.heap.size := by rw [← hws]; simp
  clear f0 f1 f2 f3 f4 f5 r0 rz0 r1 rz1 r2 rz2 lr
  clear hws
  obtain ⟨f0, f1, f2, f3, f4, f5⟩ := P3.out.facts
  obtain ⟨r0, rz0, r1, rz1, r2, rz2, lr⟩ := Kr3.out.f3
  have N4 : Hid (Calls Tryd.prog 15 #[.pointer (some ⟨q, 0, none⟩), .string ⟨#[35]⟩] w3 fun e w' => e = .returned (.bool false) ∧ Quiet w3 w') := zH (t_next ⟨#[35]⟩ (by decide) false (by rw [next_one (c := 35) rfl]; rw [hc]; rfl) P3.out)
  go_upto_region 11 with (go_at_call 15; (with_reducible refine N4.out.mono ?_); rintro e w' ⟨rfl, nq, rfl⟩)
  generalize hws : World.drewN _ _ = w5
  have P5 : Hid (RdS q s v i w5) := zH (by rw [← hws]; exact P3.out.quiet ⟨_, rfl⟩)
  have M5 : Hid (Mv q W w5) := zH (by rw [← hws]; exact M3.out.trans (Mv.quiet ⟨_, rfl⟩))
  have Kr5 : Hid (Blk w5 W.heap.size 30 #[.int .i64 0, .string ⟨#[]⟩, .string ⟨#[]⟩]) := zH (by rw [← hws]; exact Kr3.out)
  have S5 : w3.heap.size ≤ w5.heap.size := by rw [← hws]; simp
  clear f0 f1 f2 f3 f4 f5 r0 rz0 r1 rz1 r2 rz2 lr
  clear hws
  obtain ⟨f0, f1, f2, f3, f4, f5⟩ := P5.out.facts
  obtain ⟨r0, rz0, r1, rz1, r2, rz2, lr⟩ := Kr5.out.f3
  have N6 : Hid (Calls Tryd.prog 15 #[.pointer (some ⟨q, 0, none⟩), .string ⟨#[45]⟩] w5 fun e w' => e = .returned (.bool true) ∧ Quiet w5 w') := zH (t_next ⟨#[45]⟩ (by decide) true (by rw [next_one (c := 45) rfl]; rw [hc]; rfl) P5.out)
  go_upto_region 12 with (go_at_call 15; (with_reducible refine N6.out.mono ?_); rintro e w' ⟨rfl, nq, rfl⟩)
  generalize hws : World.drewN _ _ = w7
  have P7 : Hid (RdS q s v i w7) := zH (by rw [← hws]; exact P5.out.quiet ⟨_, rfl⟩)
  have M7 : Hid (Mv q W w7) := zH (by rw [← hws]; exact M5.out.trans (Mv.quiet ⟨_, rfl⟩))
  have Kr7 : Hid (Blk w7 W.heap.size 30 #[.int .i64 0, .string ⟨#[]⟩, .string ⟨#[]⟩]) := zH (by rw [← hws]; exact Kr5.out)
  have S7 : w5.heap.size ≤ w7.heap.size := by rw [← hws]; simp
  clear f0 f1 f2 f3 f4 f5 r0 rz0 r1 rz1 r2 rz2 lr
  clear hws
  obtain ⟨f0, f1, f2, f3, f4, f5⟩ := P7.out.facts
  obtain ⟨r0, rz0, r1, rz1, r2, rz2, lr⟩ := Kr7.out.f3
  go_upto_region 13 with fail
  generalize hws : World.setCell _ _ _ = w8
  have P8 : Hid (RdS q s v (i + 1) w8) := zH (by rw [← hws]; exact (P7.out.step (j := i + 1) (by go_num) (by rw [← bs_len]; exact (List.getElem?_eq_some_iff.1 hc).1) 0).2)
  have M8 : Hid (Mv q W w8) := zH (by rw [← hws]; exact M7.out.trans (Mv.set _ _ _ _))
  have Kr8 : Hid (Blk w8 W.heap.size 30 #[.int .i64 0, .string ⟨#[]⟩, .string ⟨#[]⟩]) := zH (by rw [← hws]; exact Kr7.out.far (p := ⟨q, 1, none⟩) (by show W.heap.size ≠ q; omega) _)
  have S8 : w7.heap.size ≤ w8.heap.size := by rw [← hws]; simp
  clear f0 f1 f2 f3 f4 f5 r0 rz0 r1 rz1 r2 rz2 lr
  clear hws
  obtain ⟨f0, f1, f2, f3, f4, f5⟩ := P8.out.facts
  obtain ⟨r0, rz0, r1, rz1, r2, rz2, lr⟩ := Kr8.out.f3
  have N9 : Hid (Calls Tryd.prog 17 #[.pointer (some ⟨q, 0, none⟩), .string ⟨#[62]⟩] w8 fun e w' => e = .returned (.tuple #[]) ∧ Mv q w8 w' ∧ RdS q s v (i + 1 + 1) w') := zH (t_must_yes ⟨#[62]⟩ (c := 62) rfl he P8.out)
  go_upto_region 14 with (go_at_call 17; (with_reducible refine N9.out.mono ?_); rintro e v9 ⟨rfl, h1, h2⟩; have A9 := zH h1; have P9 := zH h2; have M9 := zH (M8.out.trans h1); have S9 := h1.low.size; have Kr9 := zH (h1.blk Kr8.out (by omega)); clear f0 f1 f2 f3 f4 f5 r0 rz0 r1 rz1 r2 rz2 lr h1 h2; obtain ⟨f0, f1, f2, f3, f4, f5⟩ := P9.out.facts; obtain ⟨r0, rz0, r1, rz1, r2, rz2, lr⟩ := Kr9.out.f3)
  have N10 : Hid (Calls Tryd.prog 28 #[.pointer (some ⟨q, 0, none⟩)] v9 fun e w' => e = .panicked (thrownT j 200) ∧ Mv q v9 w') := zH (t_name hn P9.out)
  go_wp2_with (go_at_call 28; (with_reducible refine N10.out.mono ?_); rintro e w' ⟨rfl, h1⟩; have M9 := zH (M9.out.trans h1); clear h1)
  exact ⟨rfl, rfl, M9.out⟩
theorem ins_ref {t : List Nat} {j : Nat} (hc : (bs s)[i]? = some 45) (he : (bs s)[i + 1]? = some 62) (hn : nameS (bs s) (i + 1 + 1) = .inl (t, j)) (hd : (bs s)[j]? ≠ some 46) (h : RdS q s v i W) : Calls Tryd.prog 16 #[.pointer (some ⟨q, 0, none⟩)] W fun e w' => e = .returned (.agg #[.int .i64 4, .string (txt t), .string ⟨#[]⟩]) ∧ Mv q W w' ∧ RdS q s v j w' := by
  have H := zH h
  obtain ⟨f0, f1, f2, f3, f4, f5⟩ := h.facts
  have QL := zH f5
  have hfew := h.few
  have hle := h.le
  have i0 : (0 : Int) ≤ (i : Int) := Int.natCast_nonneg _
  have i5 : (i : Int) ≤ 4096 := by omega
  have hj := name_some (by rw [bs_len]; exact (by have := (List.getElem?_eq_some_iff.1 he).1; rw [bs_len] at this; exact this)) hn
  rw [bs_len] at hj
  have hj1 := hj.2.2.1
  have hj2 := hj.2.2.2
  clear hj
  go_enter Tryd.func16, Tryd.ntmps16
  go_upto_region 1 with fail
  have M0 := zH (Mv.refl q W)
  generalize hws : World.alloc _ _ = w1
  have P1 : Hid (RdS q s v i w1) := zH (by rw [← hws]; exact H.out.keep (zB.alloc zL _))
  have M1 : Hid (Mv q W w1) := zH (by rw [← hws]; exact M0.out.trans (Mv.of_below (zB.alloc zL _) (Nat.le_of_lt QL.out)))
  have Kr1 : Hid (Blk w1 W.heap.size 30 #[.int .i64 0, .string ⟨#[]⟩, .string ⟨#[]⟩]) := zH (by rw [← hws]; exact Blk.new _ _ _)
  have S1 : W.heap.size ≤ w1.heap.size := by rw [← hws]; simp
  clear f0 f1 f2 f3 f4 f5
  clear hws
  obtain ⟨f0, f1, f2, f3, f4, f5⟩ := P1.out.facts
  obtain ⟨r0, rz0, r1, rz1, r2, rz2, lr⟩ := Kr1.out.f3
  have LQ : q < W.heap.size := QL.out
  have N2 : Hid (Calls Tryd.prog 15 #[.pointer (some ⟨q, 0, none⟩), .string ⟨#[46]⟩] w1 fun e w' => e = .returned (.bool false) ∧ Quiet w1 w') := zH (t_next ⟨#[46]⟩ (by decide) false (by rw [next_one (c := 46) rfl]; rw [hc]; rfl) P1.out)
  go_upto_region 4 with (go_at_call 15; (with_reducible refine N2.out.mono ?_); rintro e w' ⟨rfl, nq, rfl⟩)
  generalize hws : World.drewN _ _ = w3
  have P3 : Hid (RdS q s v i w3) := zH (by rw [← hws]; exact P1.out.quiet ⟨_, rfl⟩)
  have M3 : Hid (Mv q W w3) := zH (by rw [← hws]; exact M1.out.trans (Mv.quiet ⟨_, rfl⟩))
  have Kr3 : Hid (Blk w3 W.heap.size 30 #[.int .i64 0, .string ⟨#[]⟩, .string ⟨#[]⟩]) := zH (by rw [← hws]; exact Kr1.out)
  have S3 : w1.heap.size ≤ w3.heap.size := by rw [← hws]; simp
  clear f0 f1 f2 f3 f4 f5 r0 rz0 r1 rz1 r2 rz2 lr
  clear hws
  obtain ⟨f0, f1, f2, f3, f4, f5⟩ := P3.out.facts
  obtain ⟨r0, rz0, r1, rz1, r2, rz2, lr⟩ := Kr3.out.f3
  have N4 : Hid (Calls Tryd.prog 15 #[.pointer (some ⟨q, 0, none⟩), .string ⟨#[35]⟩] w3 fun e w' => e = .returned (.bool false) ∧ Quiet w3 w') := zH (t_next ⟨#[35]⟩ (by decide) false (by rw [next_one (c := 35) rfl]; rw [hc]; rfl) P3.out)
  go_upto_region 11 with (go_at_call 15; (with_reducible refine N4.out.mono ?_); rintro e w' ⟨rfl, nq, rfl⟩)
  generalize hws : World.drewN _ _ = w5
  have P5 : Hid (RdS q s v i w5) := zH (by rw [← hws]; exact P3.out.quiet ⟨_, rfl⟩)
  have M5 : Hid (Mv q W w5) := zH (by rw [← hws]; exact M3.out.trans (Mv.quiet ⟨_, rfl⟩))
  have Kr5 : Hid (Blk w5 W.heap.size 30 #[.int .i64 0, .string ⟨#[]⟩, .string ⟨#[]⟩]) := zH (by rw [← hws]; exact Kr3.out)
  have S5 : w3.heap.size ≤ w5.heap.size := by rw [← hws]; simp
  clear f0 f1 f2 f3 f4 f5 r0 rz0 r1 rz1 r2 rz2 lr
  clear hws
  obtain ⟨f0, f1, f2, f3, f4, f5⟩ := P5.out.facts
  obtain ⟨r0, rz0, r1, rz1, r2, rz2, lr⟩ := Kr5.out.f3
  have N6 : Hid (Calls Tryd.prog 15 #[.pointer (some ⟨q, 0, none⟩), .string ⟨#[45]⟩] w5 fun e w' => e = .returned (.bool true) ∧ Quiet w5 w') := zH (t_next ⟨#[45]⟩ (by decide) true (by rw [next_one (c := 45) rfl]; rw [hc]; rfl) P5.out)
  go_upto_region 12 with (go_at_call 15; (with_reducible refine N6.out.mono ?_); rintro e w' ⟨rfl, nq, rfl⟩)
  generalize hws : World.drewN _ _ = w7
  have P7 : Hid (RdS q s v i w7) := zH (by rw [← hws]; exact P5.out.quiet ⟨_, rfl⟩)
  have M7 : Hid (Mv q W w7) := zH (by rw [← hws]; exact M5.out.trans (Mv.quiet ⟨_, rfl⟩))
  have Kr7 : Hid (Blk w7 W.heap.size 30 #[.int .i64 0, .string ⟨#[]⟩, .string ⟨#[]⟩]) := zH (by rw [← hws]; exact Kr5.out)
  have S7 : w5.heap.size ≤ w7.heap.size := by rw [← hws]; simp
  clear f0 f1 f2 f3 f4 f5 r0 rz0 r1 rz1 r2 rz2 lr
  clear hws
  obtain ⟨f0, f1, f2, f3, f4, f5⟩ := P7.out.facts
  obtain ⟨r0, rz0, r1, rz1, r2, rz2, lr⟩ := Kr7.out.f3
  go_upto_region 13 with fail
  generalize hws : World.setCell _ _ _ = w8
  have P8 : Hid (RdS q s v (i + 1) w8) := zH (by rw [← hws]; exact (P7.out.step (j := i + 1) (by go_num) (by rw [← bs_len]; exact (List.getElem?_eq_some_iff.1 hc).1) 0).2)
  have M8 : Hid (Mv q W w8) := zH (by rw [← hws]; exact M7.out.trans (Mv.set _ _ _ _))
  have Kr8 : Hid (Blk w8 W.heap.size 30 #[.int .i64 0, .string ⟨#[]⟩, .string ⟨#[]⟩]) := zH (by rw [← hws]; exact Kr7.out.far (p := ⟨q, 1, none⟩) (by show W.heap.size ≠ q; omega) _)
  have S8 : w7.heap.size ≤ w8.heap.size := by rw [← hws]; simp
  clear f0 f1 f2 f3 f4 f5 r0 rz0 r1 rz1 r2 rz2 lr
  clear hws
  obtain ⟨f0, f1, f2, f3, f4, f5⟩ := P8.out.facts
  obtain ⟨r0, rz0, r1, rz1, r2, rz2, lr⟩ := Kr8.out.f3
  have N9 : Hid (Calls Tryd.prog 17 #[.pointer (some ⟨q, 0, none⟩), .string ⟨#[62]⟩] w8 fun e w' => e = .returned (.tuple #[]) ∧ Mv q w8 w' ∧ RdS q s v (i + 1 + 1) w') := zH (t_must_yes ⟨#[62]⟩ (c := 62) rfl he P8.out)
  go_upto_region 14 with (go_at_call 17; (with_reducible refine N9.out.mono ?_); rintro e v9 ⟨rfl, h1, h2⟩; have A9 := zH h1; have P9 := zH h2; have M9 := zH (M8.out.trans h1); have S9 := h1.low.size; have Kr9 := zH (h1.blk Kr8.out (by omega)); clear f0 f1 f2 f3 f4 f5 r0 rz0 r1 rz1 r2 rz2 lr h1 h2; obtain ⟨f0, f1, f2, f3, f4, f5⟩ := P9.out.facts; obtain ⟨r0, rz0, r1, rz1, r2, rz2, lr⟩ := Kr9.out.f3)
  have N10 : Hid (Calls Tryd.prog 28 #[.pointer (some ⟨q, 0, none⟩)] v9 fun e w' => e = .returned (.string (txt t)) ∧ Mv q v9 w' ∧ RdS q s v j w') := zH (t_name hn P9.out)
  go_upto_region 15 with (go_at_call 28; (with_reducible refine N10.out.mono ?_); rintro e v10 ⟨rfl, h1, h2⟩; have A10 := zH h1; have P10 := zH h2; have M10 := zH (M9.out.trans h1); have S10 := h1.low.size; have Kr10 := zH (h1.blk Kr9.out (by omega)); clear f0 f1 f2 f3 f4 f5 r0 rz0 r1 rz1 r2 rz2 lr h1 h2; obtain ⟨f0, f1, f2, f3, f4, f5⟩ := P10.out.facts; obtain ⟨r0, rz0, r1, rz1, r2, rz2, lr⟩ := Kr10.out.f3)
  have hLP : W.heap.size < v10.heap.size := Kr10.out.lt
  generalize hws : World.alloc _ _ = w11
  have P11 : Hid (RdS q s v j w11) := zH (by rw [← hws]; exact P10.out.keep (zB.alloc zL _))
  have M11 : Hid (Mv q W w11) := zH (by rw [← hws]; exact M10.out.trans (Mv.of_below (zB.alloc zL _) (Nat.le_of_lt P10.out.box.lt)))
  have Kr11 : Hid (Blk w11 W.heap.size 30 #[.int .i64 0, .string ⟨#[]⟩, .string ⟨#[]⟩]) := zH (by rw [← hws]; exact Kr10.out.alloc _)
  have Kp11 : Hid (Blk w11 v10.heap.size 30 #[.int .i64 4, .string (txt t), .string ⟨#[]⟩]) := zH (by rw [← hws]; exact Blk.new _ _ _)
  have S11 : v10.heap.size ≤ w11.heap.size := by rw [← hws]; simp
  clear f0 f1 f2 f3 f4 f5 r0 rz0 r1 rz1 r2 rz2 lr
  clear hws
  obtain ⟨f0, f1, f2, f3, f4, f5⟩ := P11.out.facts
  obtain ⟨r0, rz0, r1, rz1, r2, rz2, lr⟩ := Kr11.out.f3
  obtain ⟨p0, pz0, p1, pz1, p2, pz2, lp⟩ := Kp11.out.f3
  have N12 : Hid (Calls Tryd.prog 15 #[.pointer (some ⟨q, 0, none⟩), .string ⟨#[46]⟩] w11 fun e w' => e = .returned (.bool false) ∧ Quiet w11 w') := zH (t_next ⟨#[46]⟩ (by decide) false (by rw [next_one (c := 46) rfl]; simpa using hd) P11.out)
  go_upto_region 18 with (go_at_call 15; (with_reducible refine N12.out.mono ?_); rintro e w' ⟨rfl, nq, rfl⟩)
  generalize hws : World.drewN _ _ = w13
  have P13 : Hid (RdS q s v j w13) := zH (by rw [← hws]; exact P11.out.quiet ⟨_, rfl⟩)
  have M13 : Hid (Mv q W w13) := zH (by rw [← hws]; exact M11.out.trans (Mv.quiet ⟨_, rfl⟩))
  have Kr13 : Hid (Blk w13 W.heap.size 30 #[.int .i64 0, .string ⟨#[]⟩, .string ⟨#[]⟩]) := zH (by rw [← hws]; exact Kr11.out)
  have Kp13 : Hid (Blk w13 v10.heap.size 30 #[.int .i64 4, .string (txt t), .string ⟨#[]⟩]) := zH (by rw [← hws]; exact Kp11.out)
  have S13 : w11.heap.size ≤ w13.heap.size := by rw [← hws]; simp
  clear f0 f1 f2 f3 f4 f5 r0 rz0 r1 rz1 r2 rz2 lr p0 pz0 p1 pz1 p2 pz2 lp
  clear hws
  obtain ⟨f0, f1, f2, f3, f4, f5⟩ := P13.out.facts
  obtain ⟨r0, rz0, r1, rz1, r2, rz2, lr⟩ := Kr13.out.f3
  obtain ⟨p0, pz0, p1, pz1, p2, pz2, lp⟩ := Kp13.out.f3
  go_wp2_with fail
  generalize hws : World.setCell (World.setCell (World.setCell _ _ _) _ _) _ _ = wz
  have KZ : Blk wz W.heap.size 30 #[.int .i64 4, .string (txt t), .string ⟨#[]⟩] := by rw [← hws]; have := ((Kr13.out.set_ 0 (.int .i64 4)).set_ 1 (.string (txt t))).set_ 2 (.string ⟨#[]⟩); simpa using this
  have PZ : RdS q s v j wz := by rw [← hws]; exact ((P13.out.farN (by omega) _).farN (by omega) _).farN (by omega) _
  have MZ : Mv q W wz := by rw [← hws]; exact ((M13.out.setN0 (by omega) (by omega) _).setN0 (by omega) (by omega) _).setN0 (by omega) (by omega) _
  have z0 := KZ.cell (i := 0) rfl
  have z1 := KZ.cell (i := 1) rfl
  have z2 := KZ.cell (i := 2) rfl
  clear hws f0 f1 f2 f3 f4 f5 r0 rz0 r1 rz1 r2 rz2 lr p0 pz0 p1 pz1 p2 pz2 lp
  refine bodyPost_ret (v := .agg #[.int .i64 4, .string (txt t), .string ⟨#[]⟩]) (by simp [results, Tryd.results16, go_sem, z0, z1, z2]) rfl ?_
  exact ⟨rfl, MZ, PZ⟩
theorem ins_refm_no {t : List Nat} {j : Nat} (hc : (bs s)[i]? = some 45) (he : (bs s)[i + 1]? = some 62) (hn : nameS (bs s) (i + 1 + 1) = .inl (t, j)) (hd : (bs s)[j]? = some 46) {k : Nat} (hm : nameS (bs s) (j + 1) = .inr k) (h : RdS q s v i W) : Calls Tryd.prog 16 #[.pointer (some ⟨q, 0, none⟩)] W fun e w' => e = .panicked (thrownT k 200) ∧ Mv q W w' := by
  have H := zH h
  obtain ⟨f0, f1, f2, f3, f4, f5⟩ := h.facts
  have QL := zH f5
  have hfew := h.few
  have hle := h.le
  have i0 : (0 : Int) ≤ (i : Int) := Int.natCast_nonneg _
  have i5 : (i : Int) ≤ 4096 := by omega
  have hj := name_some (by rw [bs_len]; exact (by have := (List.getElem?_eq_some_iff.1 he).1; rw [bs_len] at this; exact this)) hn
  rw [bs_len] at hj
  have hj1 := hj.2.2.1
  have hj2 := hj.2.2.2
  clear hj
  have j5 : (j : Int) ≤ 4096 := by omega
  have j0 : (0 : Int) ≤ (j : Int) := Int.natCast_nonneg _
  go_enter Tryd.func16, Tryd.ntmps16
  go_upto_region 1 with fail
  have M0 := zH (Mv.refl q W)
  generalize hws : World.alloc _ _ = w1
  have P1 : Hid (RdS q s v i w1) := zH (by rw [← hws]; exact H.out.keep (zB.alloc zL _))
  have M1 : Hid (Mv q W w1) := zH (by rw [← hws]; exact M0.out.trans (Mv.of_below (zB.alloc zL _) (Nat.le_of_lt QL.out)))
  have Kr1 : Hid (Blk w1 W.heap.size 30 #[.int .i64 0, .string ⟨#[]⟩, .string ⟨#[]⟩]) := zH (by rw [← hws]; exact Blk.new _ _ _)
  have S1 : W.heap.size ≤ w1.heap.size := by rw [← hws]; simp
  clear f0 f1 f2 f3 f4 f5
  clear hws
  obtain ⟨f0, f1, f2, f3, f4, f5⟩ := P1.out.facts
  obtain ⟨r0, rz0, r1, rz1, r2, rz2, lr⟩ := Kr1.out.f3
  have LQ : q < W.heap.size := QL.out
  have N2 : Hid (Calls Tryd.prog 15 #[.pointer (some ⟨q, 0, none⟩), .string ⟨#[46]⟩] w1 fun e w' => e = .returned (.bool false) ∧ Quiet w1 w') := zH (t_next ⟨#[46]⟩ (by decide) false (by rw [next_one (c := 46) rfl]; rw [hc]; rfl) P1.out)
  go_upto_region 4 with (go_at_call 15; (with_reducible refine N2.out.mono ?_); rintro e w' ⟨rfl, nq, rfl⟩)
  generalize hws : World.drewN _ _ = w3
  have P3 : Hid (RdS q s v i w3) := zH (by rw [← hws]; exact P1.out.quiet ⟨_, rfl⟩)
  have M3 : Hid (Mv q W w3) := zH (by rw [← hws]; exact M1.out.trans (Mv.quiet ⟨_, rfl⟩))
  have Kr3 : Hid (Blk w3 W.heap.size 30 #[.int .i64 0, .string ⟨#[]⟩, .string ⟨#[]⟩]) := zH (by rw [← hws]; exact Kr1.out)
  have S3 : w1.heap.size ≤ w3.heap.size := by rw [← hws]; simp
  clear f0 f1 f2 f3 f4 f5 r0 rz0 r1 rz1 r2 rz2 lr
  clear hws
  obtain ⟨f0, f1, f2, f3, f4, f5⟩ := P3.out.facts
  obtain ⟨r0, rz0, r1, rz1, r2, rz2, lr⟩ := Kr3.out.f3
  have N4 : Hid (Calls Tryd.prog 15 #[.pointer (some ⟨q, 0, none⟩), .string ⟨#[35]⟩] w3 fun e w' => e = .returned (.bool false) ∧ Quiet w3 w') := zH (t_next ⟨#[35]⟩ (by decide) false (by rw [next_one (c := 35) rfl]; rw [hc]; rfl) P3.out)
  go_upto_region 11 with (go_at_call 15; (with_reducible refine N4.out.mono ?_); rintro e w' ⟨rfl, nq, rfl⟩)
  generalize hws : World.drewN _ _ = w5
  have P5 : Hid (RdS q s v i w5) := zH (by rw [← hws]; exact P3.out.quiet ⟨_, rfl⟩)
  have M5 : Hid (Mv q W w5) := zH (by rw [← hws]; exact M3.out.trans (Mv.quiet ⟨_, rfl⟩))
  have Kr5 : Hid (Blk w5 W.heap.size 30 #[.int .i64 0, .string ⟨#[]⟩, .string ⟨#[]⟩]) := zH (by rw [← hws]; exact Kr3.out)
  have S5 : w3.heap.size ≤ w5.heap.size := by rw [← hws]; simp
  clear f0 f1 f2 f3 f4 f5 r0 rz0 r1 rz1 r2 rz2 lr
  clear hws
  obtain ⟨f0, f1, f2, f3, f4, f5⟩ := P5.out.facts
  obtain ⟨r0, rz0, r1, rz1, r2, rz2, lr⟩ := Kr5.out.f3
  have N6 : Hid (Calls Tryd.prog 15 #[.pointer (some ⟨q, 0, none⟩), .string ⟨#[45]⟩] w5 fun e w' => e = .returned (.bool true) ∧ Quiet w5 w') := zH (t_next ⟨#[45]⟩ (by decide) true (by rw [next_one (c := 45) rfl]; rw [hc]; rfl) P5.out)
  go_upto_region 12 with (go_at_call 15; (with_reducible refine N6.out.mono ?_); rintro e w' ⟨rfl, nq, rfl⟩)
  generalize hws : World.drewN _ _ = w7
  have P7 : Hid (RdS q s v i w7) := zH (by rw [← hws]; exact P5.out.quiet ⟨_, rfl⟩)
  have M7 : Hid (Mv q W w7) := zH (by rw [← hws]; exact M5.out.trans (Mv.quiet ⟨_, rfl⟩))
  have Kr7 : Hid (Blk w7 W.heap.size 30 #[.int .i64 0, .string ⟨#[]⟩, .string ⟨#[]⟩]) := zH (by rw [← hws]; exact Kr5.out)
  have S7 : w5.heap.size ≤ w7.heap.size := by rw [← hws]; simp
  clear f0 f1 f2 f3 f4 f5 r0 rz0 r1 rz1 r2 rz2 lr
  clear hws
  obtain ⟨f0, f1, f2, f3, f4, f5⟩ := P7.out.facts
  obtain ⟨r0, rz0, r1, rz1, r2, rz2, lr⟩ := Kr7.out.f3
  go_upto_region 13 with fail
  generalize hws : World.setCell _ _ _ = w8
  have P8 : Hid (RdS q s v (i + 1) w8) := zH (by rw [← hws]; exact (P7.out.step (j := i + 1) (by go_num) (by rw [← bs_len]; exact (List.getElem?_eq_some_iff.1 hc).1) 0).2)
  have M8 : Hid (Mv q W w8) := zH (by rw [← hws]; exact M7.out.trans (Mv.set _ _ _ _))
  have Kr8 : Hid (Blk w8 W.heap.size 30 #[.int .i64 0, .string ⟨#[]⟩, .string ⟨#[]⟩]) := zH (by rw [← hws]; exact Kr7.out.far (p := ⟨q, 1, none⟩) (by show W.heap.size ≠ q; omega) _)
  have S8 : w7.heap.size ≤ w8.heap.size := by rw [← hws]; simp
  clear f0 f1 f2 f3 f4 f5 r0 rz0 r1 rz1 r2 rz2 lr
  clear hws
  obtain ⟨f0, f1, f2, f3, f4, f5⟩ := P8.out.facts
  obtain ⟨r0, rz0, r1, rz1, r2, rz2, lr⟩ := Kr8.out.f3
  have N9 : Hid (Calls Tryd.prog 17 #[.pointer (some ⟨q, 0, none⟩), .string ⟨#[62]⟩] w8 fun e w' => e = .returned (.tuple #[]) ∧ Mv q w8 w' ∧ RdS q s v (i + 1 + 1) w') := zH (t_must_yes ⟨#[62]⟩ (c := 62) rfl he P8.out)
  go_upto_region 14 with (go_at_call 17; (with_reducible refine N9.out.mono ?_); rintro e v9 ⟨rfl, h1, h2⟩; have A9 := zH h1; have P9 := zH h2; have M9 := zH (M8.out.trans h1); have S9 := h1.low.size; have Kr9 := zH (h1.blk Kr8.out (by omega)); clear f0 f1 f2 f3 f4 f5 r0 rz0 r1 rz1 r2 rz2 lr h1 h2; obtain ⟨f0, f1, f2, f3, f4, f5⟩ := P9.out.facts; obtain ⟨r0, rz0, r1, rz1, r2, rz2, lr⟩ := Kr9.out.f3)
  have N10 : Hid (Calls Tryd.prog 28 #[.pointer (some ⟨q, 0, none⟩)] v9 fun e w' => e = .returned (.string (txt t)) ∧ Mv q v9 w' ∧ RdS q s v j w') := zH (t_name hn P9.out)
  go_upto_region 15 with (go_at_call 28; (with_reducible refine N10.out.mono ?_); rintro e v10 ⟨rfl, h1, h2⟩; have A10 := zH h1; have P10 := zH h2; have M10 := zH (M9.out.trans h1); have S10 := h1.low.size; have Kr10 := zH (h1.blk Kr9.out (by omega)); clear f0 f1 f2 f3 f4 f5 r0 rz0 r1 rz1 r2 rz2 lr h1 h2; obtain ⟨f0, f1, f2, f3, f4, f5⟩ := P10.out.facts; obtain ⟨r0, rz0, r1, rz1, r2, rz2, lr⟩ := Kr10.out.f3)
  have hLP : W.heap.size < v10.heap.size := Kr10.out.lt
  generalize hws : World.alloc _ _ = w11
  have P11 : Hid (RdS q s v j w11) := zH (by rw [← hws]; exact P10.out.keep (zB.alloc zL _))
  have M11 : Hid (Mv q W w11) := zH (by rw [← hws]; exact M10.out.trans (Mv.of_below (zB.alloc zL _) (Nat.le_of_lt P10.out.box.lt)))
  have Kr11 : Hid (Blk w11 W.heap.size 30 #[.int .i64 0, .string ⟨#[]⟩, .string ⟨#[]⟩]) := zH (by rw [← hws]; exact Kr10.out.alloc _)
  have Kp11 : Hid (Blk w11 v10.heap.size 30 #[.int .i64 4, .string (txt t), .string ⟨#[]⟩]) := zH (by rw [← hws]; exact Blk.new _ _ _)
  have S11 : v10.heap.size ≤ w11.heap.size := by rw [← hws]; simp
  clear f0 f1 f2 f3 f4 f5 r0 rz0 r1 rz1 r2 rz2 lr
  clear hws
  obtain ⟨f0, f1, f2, f3, f4, f5⟩ := P11.out.facts
  obtain ⟨r0, rz0, r1, rz1, r2, rz2, lr⟩ := Kr11.out.f3
  obtain ⟨p0, pz0, p1, pz1, p2, pz2, lp⟩ := Kp11.out.f3
  have N12 : Hid (Calls Tryd.prog 15 #[.pointer (some ⟨q, 0, none⟩), .string ⟨#[46]⟩] w11 fun e w' => e = .returned (.bool true) ∧ Quiet w11 w') := zH (t_next ⟨#[46]⟩ (by decide) true (by rw [next_one (c := 46) rfl]; rw [hd]; rfl) P11.out)
  go_upto_region 16 with (go_at_call 15; (with_reducible refine N12.out.mono ?_); rintro e w' ⟨rfl, nq, rfl⟩)
  generalize hws : World.drewN _ _ = w13
  have P13 : Hid (RdS q s v j w13) := zH (by rw [← hws]; exact P11.out.quiet ⟨_, rfl⟩)
  have M13 : Hid (Mv q W w13) := zH (by rw [← hws]; exact M11.out.trans (Mv.quiet ⟨_, rfl⟩))
  have Kr13 : Hid (Blk w13 W.heap.size 30 #[.int .i64 0, .string ⟨#[]⟩, .string ⟨#[]⟩]) := zH (by rw [← hws]; exact Kr11.out)
  have Kp13 : Hid (Blk w13 v10.heap.size 30 #[.int .i64 4, .string (txt t), .string ⟨#[]⟩]) := zH (by rw [← hws]; exact Kp11.out)
  have S13 : w11.heap.size ≤ w13.heap.size := by rw [← hws]; simp
  clear f0 f1 f2 f3 f4 f5 r0 rz0 r1 rz1 r2 rz2 lr p0 pz0 p1 pz1 p2 pz2 lp
  clear hws
  obtain ⟨f0, f1, f2, f3, f4, f5⟩ := P13.out.facts
  obtain ⟨r0, rz0, r1, rz1, r2, rz2, lr⟩ := Kr13.out.f3
  obtain ⟨p0, pz0, p1, pz1, p2, pz2, lp⟩ := Kp13.out.f3
  go_upto_region 17 with fail
  generalize hws : World.setCell _ _ _ = w14
  have P14 : Hid (RdS q s v (j + 1) w14) := zH (by rw [← hws]; exact (P13.out.step (j := j + 1) (by go_num) (by rw [← bs_len]; exact (List.getElem?_eq_some_iff.1 hd).1) 0).2)
  have M14 : Hid (Mv q W w14) := zH (by rw [← hws]; exact M13.out.trans (Mv.set _ _ _ _))
  have Kr14 : Hid (Blk w14 W.heap.size 30 #[.int .i64 0, .string ⟨#[]⟩, .string ⟨#[]⟩]) := zH (by rw [← hws]; exact Kr13.out.far (p := ⟨q, 1, none⟩) (by show W.heap.size ≠ q; omega) _)
  have Kp14 : Hid (Blk w14 v10.heap.size 30 #[.int .i64 4, .string (txt t), .string ⟨#[]⟩]) := zH (by rw [← hws]; exact Kp13.out.far (p := ⟨q, 1, none⟩) (by show v10.heap.size ≠ q; omega) _)
  have S14 : w13.heap.size ≤ w14.heap.size := by rw [← hws]; simp
  clear f0 f1 f2 f3 f4 f5 r0 rz0 r1 rz1 r2 rz2 lr p0 pz0 p1 pz1 p2 pz2 lp
  clear hws
  obtain ⟨f0, f1, f2, f3, f4, f5⟩ := P14.out.facts
  obtain ⟨r0, rz0, r1, rz1, r2, rz2, lr⟩ := Kr14.out.f3
  obtain ⟨p0, pz0, p1, pz1, p2, pz2, lp⟩ := Kp14.out.f3
  have N15 : Hid (Calls Tryd.prog 28 #[.pointer (some ⟨q, 0, none⟩)] w14 fun e w' => e = .panicked (thrownT k 200) ∧ Mv q w14 w') := zH (t_name hm P14.out)
  go_wp2_with (go_at_call 28; (with_reducible refine N15.out.mono ?_); rintro e w' ⟨rfl, h1⟩; have M9 := zH (M14.out.trans h1); clear h1)
  exact ⟨rfl, rfl, M9.out⟩
theorem ins_refm {t : List Nat} {j : Nat} (hc : (bs s)[i]? = some 45) (he : (bs s)[i + 1]? = some 62) (hn : nameS (bs s) (i + 1 + 1) = .inl (t, j)) (hd : (bs s)[j]? = some 46) {m : List Nat} {k : Nat} (hm : nameS (bs s) (j + 1) = .inl (m, k)) (h : RdS q s v i W) : Calls Tryd.prog 16 #[.pointer (some ⟨q, 0, none⟩)] W fun e w' => e = .returned (.agg #[.int .i64 4, .string (txt t), .string (txt m)]) ∧ Mv q W w' ∧ RdS q s v k w' := by
  have H := zH h
  obtain ⟨f0, f1, f2, f3, f4, f5⟩ := h.facts
  have QL := zH f5
  have hfew := h.few
  have hle := h.le
  have i0 : (0 : Int) ≤ (i : Int) := Int.natCast_nonneg _
  have i5 : (i : Int) ≤ 4096 := by omega
  have hj := name_some (by rw [bs_len]; exact (by have := (List.getElem?_eq_some_iff.1 he).1; rw [bs_len] at this; exact this)) hn
  rw [bs_len] at hj
  have hj1 := hj.2.2.1
  have hj2 := hj.2.2.2
  clear hj
  have j5 : (j : Int) ≤ 4096 := by omega
  have j0 : (0 : Int) ≤ (j : Int) := Int.natCast_nonneg _
  go_enter Tryd.func16, Tryd.ntmps16
  go_upto_region 1 with fail
  have M0 := zH (Mv.refl q W)
  generalize hws : World.alloc _ _ = w1
  have P1 : Hid (RdS q s v i w1) := zH (by rw [← hws]; exact H.out.keep (zB.alloc zL _))
  have M1 : Hid (Mv q W w1) := zH (by rw [← hws]; exact M0.out.trans (Mv.of_below (zB.alloc zL _) (Nat.le_of_lt QL.out)))
  have Kr1 : Hid (Blk w1 W.heap.size 30 #[.int .i64 0, .string ⟨#[]⟩, .string ⟨#[]⟩]) := zH (by rw [← hws]; exact Blk.new _ _ _)
  have S1 : W.heap.size ≤ w1.heap.size := by rw [← hws]; simp
  clear f0 f1 f2 f3 f4 f5
  clear hws
  obtain ⟨f0, f1, f2, f3, f4, f5⟩ := P1.out.facts
  obtain ⟨r0, rz0, r1, rz1, r2, rz2, lr⟩ := Kr1.out.f3
  have LQ : q < W.heap.size := QL.out
  have N2 : Hid (Calls Tryd.prog 15 #[.pointer (some ⟨q, 0, none⟩), .string ⟨#[46]⟩] w1 fun e w' => e = .returned (.bool false) ∧ Quiet w1 w') := zH (t_next ⟨#[46]⟩ (by decide) false (by rw [next_one (c := 46) rfl]; rw [hc]; rfl) P1.out)
  go_upto_region 4 with (go_at_call 15; (with_reducible refine N2.out.mono ?_); rintro e w' ⟨rfl, nq, rfl⟩)
  generalize hws : World.drewN _ _ = w3
  have P3 : Hid (RdS q s v i w3) := zH (by rw [← hws]; exact P1.out.quiet ⟨_, rfl⟩)
  have M3 : Hid (Mv q W w3) := zH (by rw [← hws]; exact M1.out.trans (Mv.quiet ⟨_, rfl⟩))
  have Kr3 : Hid (Blk w3 W.heap.size 30 #[.int .i64 0, .string ⟨#[]⟩, .string ⟨#[]⟩]) := zH (by rw [← hws]; exact Kr1.out)
  have S3 : w1.heap.size ≤ w3.heap.size := by rw [← hws]; simp
  clear f0 f1 f2 f3 f4 f5 r0 rz0 r1 rz1 r2 rz2 lr
  clear hws
  obtain ⟨f0, f1, f2, f3, f4, f5⟩ := P3.out.facts
  obtain ⟨r0, rz0, r1, rz1, r2, rz2, lr⟩ := Kr3.out.f3
  have N4 : Hid (Calls Tryd.prog 15 #[.pointer (some ⟨q, 0, none⟩), .string ⟨#[35]⟩] w3 fun e w' => e = .returned (.bool false) ∧ Quiet w3 w') := zH (t_next ⟨#[35]⟩ (by decide) false (by rw [next_one (c := 35) rfl]; rw [hc]; rfl) P3.out)
  go_upto_region 11 with (go_at_call 15; (with_reducible refine N4.out.mono ?_); rintro e w' ⟨rfl, nq, rfl⟩)
  generalize hws : World.drewN _ _ = w5
  have P5 : Hid (RdS q s v i w5) := zH (by rw [← hws]; exact P3.out.quiet ⟨_, rfl⟩)
  have M5 : Hid (Mv q W w5) := zH (by rw [← hws]; exact M3.out.trans (Mv.quiet ⟨_, rfl⟩))
  have Kr5 : Hid (Blk w5 W.heap.size 30 #[.int .i64 0, .string ⟨#[]⟩, .string ⟨#[]⟩]) := zH (by rw [← hws]; exact Kr3.out)
  have S5 : w3.heap.size ≤ w5.heap.size := by rw [← hws]; simp
  clear f0 f1 f2 f3 f4 f5 r0 rz0 r1 rz1 r2 rz2 lr
  clear hws
  obtain ⟨f0, f1, f2, f3, f4, f5⟩ := P5.out.facts
  obtain ⟨r0, rz0, r1, rz1, r2, rz2, lr⟩ := Kr5.out.f3
  have N6 : Hid (Calls Tryd.prog 15 #[.pointer (some ⟨q, 0, none⟩), .string ⟨#[45]⟩] w5 fun e w' => e = .returned (.bool true) ∧ Quiet w5 w') := zH (t_next ⟨#[45]⟩ (by decide) true (by rw [next_one (c := 45) rfl]; rw [hc]; rfl) P5.out)
  go_upto_region 12 with (go_at_call 15; (with_reducible refine N6.out.mono ?_); rintro e w' ⟨rfl, nq, rfl⟩)
  generalize hws : World.drewN _ _ = w7
  have P7 : Hid (RdS q s v i w7) := zH (by rw [← hws]; exact P5.out.quiet ⟨_, rfl⟩)
  have M7 : Hid (Mv q W w7) := zH (by rw [← hws]; exact M5.out.trans (Mv.quiet ⟨_, rfl⟩))
  have Kr7 : Hid (Blk w7 W.heap.size 30 #[.int .i64 0, .string ⟨#[]⟩, .string ⟨#[]⟩]) := zH (by rw [← hws]; exact Kr5.out)
  have S7 : w5.heap.size ≤ w7.heap.size := by rw [← hws]; simp
  clear f0 f1 f2 f3 f4 f5 r0 rz0 r1 rz1 r2 rz2 lr
  clear hws
  obtain ⟨f0, f1, f2, f3, f4, f5⟩ := P7.out.facts
  obtain ⟨r0, rz0, r1, rz1, r2, rz2, lr⟩ := Kr7.out.f3
  go_upto_region 13 with fail
  generalize hws : World.setCell _ _ _ = w8
  have P8 : Hid (RdS q s v (i + 1) w8) := zH (by rw [← hws]; exact (P7.out.step (j := i + 1) (by go_num) (by rw [← bs_len]; exact (List.getElem?_eq_some_iff.1 hc).1) 0).2)
  have M8 : Hid (Mv q W w8) := zH (by rw [← hws]; exact M7.out.trans (Mv.set _ _ _ _))
  have Kr8 : Hid (Blk w8 W.heap.size 30 #[.int .i64 0, .string ⟨#[]⟩, .string ⟨#[]⟩]) := zH (by rw [← hws]; exact Kr7.out.far (p := ⟨q, 1, none⟩) (by show W.heap.size ≠ q; omega) _)
  have S8 : w7.heap.size ≤ w8.heap.size := by rw [← hws]; simp
  clear f0 f1 f2 f3 f4 f5 r0 rz0 r1 rz1 r2 rz2 lr
  clear hws
  obtain ⟨f0, f1, f2, f3, f4, f5⟩ := P8.out.facts
  obtain ⟨r0, rz0, r1, rz1, r2, rz2, lr⟩ := Kr8.out.f3
  have N9 : Hid (Calls Tryd.prog 17 #[.pointer (some ⟨q, 0, none⟩), .string ⟨#[62]⟩] w8 fun e w' => e = .returned (.tuple #[]) ∧ Mv q w8 w' ∧ RdS q s v (i + 1 + 1) w') := zH (t_must_yes ⟨#[62]⟩ (c := 62) rfl he P8.out)
  go_upto_region 14 with (go_at_call 17; (with_reducible refine N9.out.mono ?_); rintro e v9 ⟨rfl, h1, h2⟩; have A9 := zH h1; have P9 := zH h2; have M9 := zH (M8.out.trans h1); have S9 := h1.low.size; have Kr9 := zH (h1.blk Kr8.out (by omega)); clear f0 f1 f2 f3 f4 f5 r0 rz0 r1 rz1 r2 rz2 lr h1 h2; obtain ⟨f0, f1, f2, f3, f4, f5⟩ := P9.out.facts; obtain ⟨r0, rz0, r1, rz1, r2, rz2, lr⟩ := Kr9.out.f3)
  have N10 : Hid (Calls Tryd.prog 28 #[.pointer (some ⟨q, 0, none⟩)] v9 fun e w' => e = .returned (.string (txt t)) ∧ Mv q v9 w' ∧ RdS q s v j w') := zH (t_name hn P9.out)
  go_upto_region 15 with (go_at_call 28; (with_reducible refine N10.out.mono ?_); rintro e v10 ⟨rfl, h1, h2⟩; have A10 := zH h1; have P10 := zH h2; have M10 := zH (M9.out.trans h1); have S10 := h1.low.size; have Kr10 := zH (h1.blk Kr9.out (by omega)); clear f0 f1 f2 f3 f4 f5 r0 rz0 r1 rz1 r2 rz2 lr h1 h2; obtain ⟨f0, f1, f2, f3, f4, f5⟩ := P10.out.facts; obtain ⟨r0, rz0, r1, rz1, r2, rz2, lr⟩ := Kr10.out.f3)
  have hLP : W.heap.size < v10.heap.size := Kr10.out.lt
  generalize hws : World.alloc _ _ = w11
  have P11 : Hid (RdS q s v j w11) := zH (by rw [← hws]; exact P10.out.keep (zB.alloc zL _))
  have M11 : Hid (Mv q W w11) := zH (by rw [← hws]; exact M10.out.trans (Mv.of_below (zB.alloc zL _) (Nat.le_of_lt P10.out.box.lt)))
  have Kr11 : Hid (Blk w11 W.heap.size 30 #[.int .i64 0, .string ⟨#[]⟩, .string ⟨#[]⟩]) := zH (by rw [← hws]; exact Kr10.out.alloc _)
  have Kp11 : Hid (Blk w11 v10.heap.size 30 #[.int .i64 4, .string (txt t), .string ⟨#[]⟩]) := zH (by rw [← hws]; exact Blk.new _ _ _)
  have S11 : v10.heap.size ≤ w11.heap.size := by rw [← hws]; simp
  clear f0 f1 f2 f3 f4 f5 r0 rz0 r1 rz1 r2 rz2 lr
  clear hws
  obtain ⟨f0, f1, f2, f3, f4, f5⟩ := P11.out.facts
  obtain ⟨r0, rz0, r1, rz1, r2, rz2, lr⟩ := Kr11.out.f3
  obtain ⟨p0, pz0, p1, pz1, p2, pz2, lp⟩ := Kp11.out.f3
  have N12 : Hid (Calls Tryd.prog 15 #[.pointer (some ⟨q, 0, none⟩), .string ⟨#[46]⟩] w11 fun e w' => e = .returned (.bool true) ∧ Quiet w11 w') := zH (t_next ⟨#[46]⟩ (by decide) true (by rw [next_one (c := 46) rfl]; rw [hd]; rfl) P11.out)
  go_upto_region 16 with (go_at_call 15; (with_reducible refine N12.out.mono ?_); rintro e w' ⟨rfl, nq, rfl⟩)
  generalize hws : World.drewN _ _ = w13
  have P13 : Hid (RdS q s v j w13) := zH (by rw [← hws]; exact P11.out.quiet ⟨_, rfl⟩)
  have M13 : Hid (Mv q W w13) := zH (by rw [← hws]; exact M11.out.trans (Mv.quiet ⟨_, rfl⟩))
  have Kr13 : Hid (Blk w13 W.heap.size 30 #[.int .i64 0, .string ⟨#[]⟩, .string ⟨#[]⟩]) := zH (by rw [← hws]; exact Kr11.out)
  have Kp13 : Hid (Blk w13 v10.heap.size 30 #[.int .i64 4, .string (txt t), .string ⟨#[]⟩]) := zH (by rw [← hws]; exact Kp11.out)
  have S13 : w11.heap.size ≤ w13.heap.size := by rw [← hws]; simp
  clear f0 f1 f2 f3 f4 f5 r0 rz0 r1 rz1 r2 rz2 lr p0 pz0 p1 pz1 p2 pz2 lp
  clear hws
  obtain ⟨f0, f1, f2, f3, f4, f5⟩ := P13.out.facts
  obtain ⟨r0, rz0, r1, rz1, r2, rz2, lr⟩ := Kr13.out.f3
  obtain ⟨p0, pz0, p1, pz1, p2, pz2, lp⟩ := Kp13.out.f3
  go_upto_region 17 with fail
  generalize hws : World.setCell _ _ _ = w14
  have P14 : Hid (RdS q s v (j + 1) w14) := zH (by rw [← hws]; exact (P13.out.step (j := j + 1) (by go_num) (by rw [← bs_len]; exact (List.getElem?_eq_some_iff.1 hd).1) 0).2)
  have M14 : Hid (Mv q W w14) := zH (by rw [← hws]; exact M13.out.trans (Mv.set _ _ _ _))
  have Kr14 : Hid (Blk w14 W.heap.size 30 #[.int .i64 0, .string ⟨#[]⟩, .string ⟨#[]⟩]) := zH (by rw [← hws]; exact Kr13.out.far (p := ⟨q, 1, none⟩) (by show W.heap.size ≠ q; omega) _)
  have Kp14 : Hid (Blk w14 v10.heap.size 30 #[.int .i64 4, .string (txt t), .string ⟨#[]⟩]) := zH (by rw [← hws]; exact Kp13.out.far (p := ⟨q, 1, none⟩) (by show v10.heap.size ≠ q; omega) _)
  have S14 : w13.heap.size ≤ w14.heap.size := by rw [← hws]; simp
  clear f0 f1 f2 f3 f4 f5 r0 rz0 r1 rz1 r2 rz2 lr p0 pz0 p1 pz1 p2 pz2 lp
  clear hws
  obtain ⟨f0, f1, f2, f3, f4, f5⟩ := P14.out.facts
  obtain ⟨r0, rz0, r1, rz1, r2, rz2, lr⟩ := Kr14.out.f3
  obtain ⟨p0, pz0, p1, pz1, p2, pz2, lp⟩ := Kp14.out.f3
  have N15 : Hid (Calls Tryd.prog 28 #[.pointer (some ⟨q, 0, none⟩)] w14 fun e w' => e = .returned (.string (txt m)) ∧ Mv q w14 w' ∧ RdS q s v k w') := zH (t_name hm P14.out)
  go_upto_region 18 with (go_at_call 28; (with_reducible refine N15.out.mono ?_); rintro e v15 ⟨rfl, h1, h2⟩; have A15 := zH h1; have P15 := zH h2; have M15 := zH (M14.out.trans h1); have S15 := h1.low.size; have Kr15 := zH (h1.blk Kr14.out (by omega)); have Kp15 := zH (h1.blk Kp14.out (by omega)); clear f0 f1 f2 f3 f4 f5 r0 rz0 r1 rz1 r2 rz2 lr p0 pz0 p1 pz1 p2 pz2 lp h1 h2; obtain ⟨f0, f1, f2, f3, f4, f5⟩ := P15.out.facts; obtain ⟨r0, rz0, r1, rz1, r2, rz2, lr⟩ := Kr15.out.f3; obtain ⟨p0, pz0, p1, pz1, p2, pz2, lp⟩ := Kp15.out.f3)
  generalize hws : World.setCell _ _ _ = w16
  have P16 : Hid (RdS q s v k w16) := zH (by rw [← hws]; exact P15.out.farN (by omega) _)
  have M16 : Hid (Mv q W w16) := zH (by rw [← hws]; exact M15.out.setN0 (by omega) (by omega) _)
  have Kr16 : Hid (Blk w16 W.heap.size 30 #[.int .i64 0, .string ⟨#[]⟩, .string ⟨#[]⟩]) := zH (by rw [← hws]; exact Kr15.out.far (p := ⟨v10.heap.size, 2, none⟩) (by show W.heap.size ≠ v10.heap.size; omega) _)
  have Kp16 : Hid (Blk w16 v10.heap.size 30 #[.int .i64 4, .string (txt t), .string (txt m)]) := zH (by rw [← hws]; exact (by have := Kp15.out.set_ 2 (.string (txt m)); simpa using this))
  have S16 : v15.heap.size ≤ w16.heap.size := by rw [← hws]; simp
  clear f0 f1 f2 f3 f4 f5 r0 rz0 r1 rz1 r2 rz2 lr p0 pz0 p1 pz1 p2 pz2 lp
  clear hws
  obtain ⟨f0, f1, f2, f3, f4, f5⟩ := P16.out.facts
  obtain ⟨r0, rz0, r1, rz1, r2, rz2, lr⟩ := Kr16.out.f3
  obtain ⟨p0, pz0, p1, pz1, p2, pz2, lp⟩ := Kp16.out.f3
  go_wp2_with fail
  generalize hws : World.setCell (World.setCell (World.setCell _ _ _) _ _) _ _ = wz
  have KZ : Blk wz W.heap.size 30 #[.int .i64 4, .string (txt t), .string (txt m)] := by rw [← hws]; have := ((Kr16.out.set_ 0 (.int .i64 4)).set_ 1 (.string (txt t))).set_ 2 (.string (txt m)); simpa using this
  have PZ : RdS q s v k wz := by rw [← hws]; exact ((P16.out.farN (by omega) _).farN (by omega) _).farN (by omega) _
  have MZ : Mv q W wz := by rw [← hws]; exact ((M16.out.setN0 (by omega) (by omega) _).setN0 (by omega) (by omega) _).setN0 (by omega) (by omega) _
  have z0 := KZ.cell (i := 0) rfl
  have z1 := KZ.cell (i := 1) rfl
  have z2 := KZ.cell (i := 2) rfl
  clear hws f0 f1 f2 f3 f4 f5 r0 rz0 r1 rz1 r2 rz2 lr p0 pz0 p1 pz1 p2 pz2 lp
  refine bodyPost_ret (v := .agg #[.int .i64 4, .string (txt t), .string (txt m)]) (by simp [results, Tryd.results16, go_sem, z0, z1, z2]) rfl ?_
  exact ⟨rfl, MZ, PZ⟩
theorem ins_none (h1 : (bs s)[i]? ≠ some 46) (h2 : (bs s)[i]? ≠ some 35) (h3 : (bs s)[i]? ≠ some 45) (hc : (bs s)[i]? ≠ some 61) (h : RdS q s v i W) : Calls Tryd.prog 16 #[.pointer (some ⟨q, 0, none⟩)] W fun e w' => e = .panicked (thrownT i 200) ∧ Mv q W w' := by
  have H := zH h
  obtain ⟨f0, f1, f2, f3, f4, f5⟩ := h.facts
  have QL := zH f5
  have hfew := h.few
  have hle := h.le
  have i0 : (0 : Int) ≤ (i : Int) := Int.natCast_nonneg _
  have i5 : (i : Int) ≤ 4096 := by omega
  go_enter Tryd.func16, Tryd.ntmps16
  go_upto_region 1 with fail
  have M0 := zH (Mv.refl q W)
  generalize hws : World.alloc _ _ = w1
  have P1 : Hid (RdS q s v i w1) := zH (by rw [← hws]; exact H.out.keep (zB.alloc zL _))
  have M1 : Hid (Mv q W w1) := zH (by rw [← hws]; exact M0.out.trans (Mv.of_below (zB.alloc zL _) (Nat.le_of_lt QL.out)))
  have Kr1 : Hid (Blk w1 W.heap.size 30 #[.int .i64 0, .string ⟨#[]⟩, .string ⟨#[]⟩]) := zH (by rw [← hws]; exact Blk.new _ _ _)
  have S1 : W.heap.size ≤ w1.heap.size := by rw [← hws]; simp
  clear f0 f1 f2 f3 f4 f5
  clear hws
  obtain ⟨f0, f1, f2, f3, f4, f5⟩ := P1.out.facts
  obtain ⟨r0, rz0, r1, rz1, r2, rz2, lr⟩ := Kr1.out.f3
  have LQ : q < W.heap.size := QL.out
  have N2 : Hid (Calls Tryd.prog 15 #[.pointer (some ⟨q, 0, none⟩), .string ⟨#[46]⟩] w1 fun e w' => e = .returned (.bool false) ∧ Quiet w1 w') := zH (t_next ⟨#[46]⟩ (by decide) false (by rw [next_one (c := 46) rfl]; simpa using h1) P1.out)
  go_upto_region 4 with (go_at_call 15; (with_reducible refine N2.out.mono ?_); rintro e w' ⟨rfl, nq, rfl⟩)
  generalize hws : World.drewN _ _ = w3
  have P3 : Hid (RdS q s v i w3) := zH (by rw [← hws]; exact P1.out.quiet ⟨_, rfl⟩)
  have M3 : Hid (Mv q W w3) := zH (by rw [← hws]; exact M1.out.trans (Mv.quiet ⟨_, rfl⟩))
  have Kr3 : Hid (Blk w3 W.heap.size 30 #[.int .i64 0, .string ⟨#[]⟩, .string ⟨#[]⟩]) := zH (by rw [← hws]; exact Kr1.out)
  have S3 : w1.heap.size ≤ w3.heap.size := by rw [← hws]; simp
  clear f0 f1 f2 f3 f4 f5 r0 rz0 r1 rz1 r2 rz2 lr
  clear hws
  obtain ⟨f0, f1, f2, f3, f4, f5⟩ := P3.out.facts
  obtain ⟨r0, rz0, r1, rz1, r2, rz2, lr⟩ := Kr3.out.f3
  have N4 : Hid (Calls Tryd.prog 15 #[.pointer (some ⟨q, 0, none⟩), .string ⟨#[35]⟩] w3 fun e w' => e = .returned (.bool false) ∧ Quiet w3 w') := zH (t_next ⟨#[35]⟩ (by decide) false (by rw [next_one (c := 35) rfl]; simpa using h2) P3.out)
  go_upto_region 11 with (go_at_call 15; (with_reducible refine N4.out.mono ?_); rintro e w' ⟨rfl, nq, rfl⟩)
  generalize hws : World.drewN _ _ = w5
  have P5 : Hid (RdS q s v i w5) := zH (by rw [← hws]; exact P3.out.quiet ⟨_, rfl⟩)
  have M5 : Hid (Mv q W w5) := zH (by rw [← hws]; exact M3.out.trans (Mv.quiet ⟨_, rfl⟩))
  have Kr5 : Hid (Blk w5 W.heap.size 30 #[.int .i64 0, .string ⟨#[]⟩, .string ⟨#[]⟩]) := zH (by rw [← hws]; exact Kr3.out)
  have S5 : w3.heap.size ≤ w5.heap.size := by rw [← hws]; simp
  clear f0 f1 f2 f3 f4 f5 r0 rz0 r1 rz1 r2 rz2 lr
  clear hws
  obtain ⟨f0, f1, f2, f3, f4, f5⟩ := P5.out.facts
  obtain ⟨r0, rz0, r1, rz1, r2, rz2, lr⟩ := Kr5.out.f3
  have N6 : Hid (Calls Tryd.prog 15 #[.pointer (some ⟨q, 0, none⟩), .string ⟨#[45]⟩] w5 fun e w' => e = .returned (.bool false) ∧ Quiet w5 w') := zH (t_next ⟨#[45]⟩ (by decide) false (by rw [next_one (c := 45) rfl]; simpa using h3) P5.out)
  go_upto_region 19 with (go_at_call 15; (with_reducible refine N6.out.mono ?_); rintro e w' ⟨rfl, nq, rfl⟩)
  generalize hws : World.drewN _ _ = w7
  have P7 : Hid (RdS q s v i w7) := zH (by rw [← hws]; exact P5.out.quiet ⟨_, rfl⟩)
  have M7 : Hid (Mv q W w7) := zH (by rw [← hws]; exact M5.out.trans (Mv.quiet ⟨_, rfl⟩))
  have Kr7 : Hid (Blk w7 W.heap.size 30 #[.int .i64 0, .string ⟨#[]⟩, .string ⟨#[]⟩]) := zH (by rw [← hws]; exact Kr5.out)
  have S7 : w5.heap.size ≤ w7.heap.size := by rw [← hws]; simp
  clear f0 f1 f2 f3 f4 f5 r0 rz0 r1 rz1 r2 rz2 lr
  clear hws
  obtain ⟨f0, f1, f2, f3, f4, f5⟩ := P7.out.facts
  obtain ⟨r0, rz0, r1, rz1, r2, rz2, lr⟩ := Kr7.out.f3
  have N8 : Hid (Calls Tryd.prog 17 #[.pointer (some ⟨q, 0, none⟩), .string ⟨#[61]⟩] w7 fun e w' => e = .panicked (thrownT i 200) ∧ Mv q w7 w') := zH ((t_must_no ⟨#[61]⟩ (c := 61) rfl hc P7.out).mono fun e w' h => ⟨h.1, Mv.quiet h.2⟩)
  go_wp2_with (go_at_call 17; (with_reducible refine N8.out.mono ?_); rintro e w' ⟨rfl, h1⟩; have M9 := zH (M7.out.trans h1); clear h1)
  exact ⟨rfl, rfl, M9.out⟩
theorem ins_expr_no {j : Nat} (h1 : (bs s)[i]? ≠ some 46) (h2 : (bs s)[i]? ≠ some 35) (h3 : (bs s)[i]? ≠ some 45) (hc : (bs s)[i]? = some 61) (hn : exprS (bs s) (i + 1) = .inr j) (h : RdS q s v i W) : Calls Tryd.prog 16 #[.pointer (some ⟨q, 0, none⟩)] W fun e w' => e = .panicked (thrownT j 200) ∧ Mv q W w' := by
  have H := zH h
  obtain ⟨f0, f1, f2, f3, f4, f5⟩ := h.facts
  have QL := zH f5
  have hfew := h.few
  have hle := h.le
  have i0 : (0 : Int) ≤ (i : Int) := Int.natCast_nonneg _
  have i5 : (i : Int) ≤ 4096 := by omega
  go_enter Tryd.func16, Tryd.ntmps16
  go_upto_region 1 with fail
  have M0 := zH (Mv.refl q W)
  generalize hws : World.alloc _ _ = w1
  have P1 : Hid (RdS q s v i w1) := zH (by rw [← hws]; exact H.out.keep (zB.alloc zL _))
  have M1 : Hid (Mv q W w1) := zH (by rw [← hws]; exact M0.out.trans (Mv.of_below (zB.alloc zL _) (Nat.le_of_lt QL.out)))
  have Kr1 : Hid (Blk w1 W.heap.size 30 #[.int .i64 0, .string ⟨#[]⟩, .string ⟨#[]⟩]) := zH (by rw [← hws]; exact Blk.new _ _ _)
  have S1 : W.heap.size ≤ w1.heap.size := by rw [← hws]; simp
  clear f0 f1 f2 f3 f4 f5
  clear hws
  obtain ⟨f0, f1, f2, f3, f4, f5⟩ := P1.out.facts
  obtain ⟨r0, rz0, r1, rz1, r2, rz2, lr⟩ := Kr1.out.f3
  have LQ : q < W.heap.size := QL.out
  have N2 : Hid (Calls Tryd.prog 15 #[.pointer (some ⟨q, 0, none⟩), .string ⟨#[46]⟩] w1 fun e w' => e = .returned (.bool false) ∧ Quiet w1 w') := zH (t_next ⟨#[46]⟩ (by decide) false (by rw [next_one (c := 46) rfl]; simpa using h1) P1.out)
  go_upto_region 4 with (go_at_call 15; (with_reducible refine N2.out.mono ?_); rintro e w' ⟨rfl, nq, rfl⟩)
  generalize hws : World.drewN _ _ = w3
  have P3 : Hid (RdS q s v i w3) := zH (by rw [← hws]; exact P1.out.quiet ⟨_, rfl⟩)
  have M3 : Hid (Mv q W w3) := zH (by rw [← hws]; exact M1.out.trans (Mv.quiet ⟨_, rfl⟩))
  have Kr3 : Hid (Blk w3 W.heap.size 30 #[.int .i64 0, .string ⟨#[]⟩, .string ⟨#[]⟩]) := zH (by rw [← hws]; exact Kr1.out)
  have S3 : w1.heap.size ≤ w3.heap.size := by rw [← hws]; simp
  clear f0 f1 f2 f3 f4 f5 r0 rz0 r1 rz1 r2 rz2 lr
  clear hws
  obtain ⟨f0, f1, f2, f3, f4, f5⟩ := P3.out.facts
  obtain ⟨r0, rz0, r1, rz1, r2, rz2, lr⟩ := Kr3.out.f3
  have N4 : Hid (Calls Tryd.prog 15 #[.pointer (some ⟨q, 0, none⟩), .string ⟨#[35]⟩] w3 fun e w' => e = .returned (.bool false) ∧ Quiet w3 w') := zH (t_next ⟨#[35]⟩ (by decide) false (by rw [next_one (c := 35) rfl]; simpa using h2) P3.out)
  go_upto_region 11 with (go_at_call 15; (with_reducible refine N4.out.mono ?_); rintro e w' ⟨rfl, nq, rfl⟩)
  generalize hws : World.drewN _ _ = w5
  have P5 : Hid (RdS q s v i w5) := zH (by rw [← hws]; exact P3.out.quiet ⟨_, rfl⟩)
  have M5 : Hid (Mv q W w5) := zH (by rw [← hws]; exact M3.out.trans (Mv.quiet ⟨_, rfl⟩))
  have Kr5 : Hid (Blk w5 W.heap.size 30 #[.int .i64 0, .string ⟨#[]⟩, .string ⟨#[]⟩]) := zH (by rw [← hws]; exact Kr3.out)
  have S5 : w3.heap.size ≤ w5.heap.size := by rw [← hws]; simp
  clear f0 f1 f2 f3 f4 f5 r0 rz0 r1 rz1 r2 rz2 lr
  clear hws
  obtain ⟨f0, f1, f2, f3, f4, f5⟩ := P5.out.facts
  obtain ⟨r0, rz0, r1, rz1, r2, rz2, lr⟩ := Kr5.out.f3
  have N6 : Hid (Calls Tryd.prog 15 #[.pointer (some ⟨q, 0, none⟩), .string ⟨#[45]⟩] w5 fun e w' => e = .returned (.bool false) ∧ Quiet w5 w') := zH (t_next ⟨#[45]⟩ (by decide) false (by rw [next_one (c := 45) rfl]; simpa using h3) P5.out)
  go_upto_region 19 with (go_at_call 15; (with_reducible refine N6.out.mono ?_); rintro e w' ⟨rfl, nq, rfl⟩)
  generalize hws : World.drewN _ _ = w7
  have P7 : Hid (RdS q s v i w7) := zH (by rw [← hws]; exact P5.out.quiet ⟨_, rfl⟩)
  have M7 : Hid (Mv q W w7) := zH (by rw [← hws]; exact M5.out.trans (Mv.quiet ⟨_, rfl⟩))
  have Kr7 : Hid (Blk w7 W.heap.size 30 #[.int .i64 0, .string ⟨#[]⟩, .string ⟨#[]⟩]) := zH (by rw [← hws]; exact Kr5.out)
  have S7 : w5.heap.size ≤ w7.heap.size := by rw [← hws]; simp
  clear f0 f1 f2 f3 f4 f5 r0 rz0 r1 rz1 r2 rz2 lr
  clear hws
  obtain ⟨f0, f1, f2, f3, f4, f5⟩ := P7.out.facts
  obtain ⟨r0, rz0, r1, rz1, r2, rz2, lr⟩ := Kr7.out.f3
  have N8 : Hid (Calls Tryd.prog 17 #[.pointer (some ⟨q, 0, none⟩), .string ⟨#[61]⟩] w7 fun e w' => e = .returned (.tuple #[]) ∧ Mv q w7 w' ∧ RdS q s v (i + 1) w') := zH (t_must_yes ⟨#[61]⟩ (c := 61) rfl hc P7.out)
  go_upto_region 20 with (go_at_call 17; (with_reducible refine N8.out.mono ?_); rintro e v8 ⟨rfl, h1, h2⟩; have A8 := zH h1; have P8 := zH h2; have M8 := zH (M7.out.trans h1); have S8 := h1.low.size; have Kr8 := zH (h1.blk Kr7.out (by omega)); clear f0 f1 f2 f3 f4 f5 r0 rz0 r1 rz1 r2 rz2 lr h1 h2; obtain ⟨f0, f1, f2, f3, f4, f5⟩ := P8.out.facts; obtain ⟨r0, rz0, r1, rz1, r2, rz2, lr⟩ := Kr8.out.f3)
  have N9 : Hid (Calls Tryd.prog 30 #[.pointer (some ⟨q, 0, none⟩)] v8 fun e w' => e = .panicked (thrownT j 200) ∧ Mv q v8 w') := zH (t_expr hn P8.out)
  go_wp2_with (go_at_call 30; (with_reducible refine N9.out.mono ?_); rintro e w' ⟨rfl, h1⟩; have M9 := zH (M8.out.trans h1); clear h1)
  exact ⟨rfl, rfl, M9.out⟩
theorem ins_expr {t : List Nat} {j : Nat} (h1 : (bs s)[i]? ≠ some 46) (h2 : (bs s)[i]? ≠ some 35) (h3 : (bs s)[i]? ≠ some 45) (hc : (bs s)[i]? = some 61) (hn : exprS (bs s) (i + 1) = .inl (t, j)) (h : RdS q s v i W) : Calls Tryd.prog 16 #[.pointer (some ⟨q, 0, none⟩)] W fun e w' => e = .returned (.agg #[.int .i64 5, .string (txt t), .string ⟨#[]⟩]) ∧ Mv q W w' ∧ RdS q s v j w' := by
  have H := zH h
  obtain ⟨f0, f1, f2, f3, f4, f5⟩ := h.facts
  have QL := zH f5
  have hfew := h.few
  have hle := h.le
  have i0 : (0 : Int) ≤ (i : Int) := Int.natCast_nonneg _
  have i5 : (i : Int) ≤ 4096 := by omega
  go_enter Tryd.func16, Tryd.ntmps16
  go_upto_region 1 with fail
  have M0 := zH (Mv.refl q W)
  generalize hws : World.alloc _ _ = w1
  have P1 : Hid (RdS q s v i w1) := zH (by rw [← hws]; exact H.out.keep (zB.alloc zL _))
  have M1 : Hid (Mv q W w1) := zH (by rw [← hws]; exact M0.out.trans (Mv.of_below (zB.alloc zL _) (Nat.le_of_lt QL.out)))
  have Kr1 : Hid (Blk w1 W.heap.size 30 #[.int .i64 0, .string ⟨#[]⟩, .string ⟨#[]⟩]) := zH (by rw [← hws]; exact Blk.new _ _ _)
  have S1 : W.heap.size ≤ w1.heap.size := by rw [← hws]; simp
  clear f0 f1 f2 f3 f4 f5
  clear hws
  obtain ⟨f0, f1, f2, f3, f4, f5⟩ := P1.out.facts
  obtain ⟨r0, rz0, r1, rz1, r2, rz2, lr⟩ := Kr1.out.f3
  have LQ : q < W.heap.size := QL.out
  have N2 : Hid (Calls Tryd.prog 15 #[.pointer (some ⟨q, 0, none⟩), .string ⟨#[46]⟩] w1 fun e w' => e = .returned (.bool false) ∧ Quiet w1 w') := zH (t_next ⟨#[46]⟩ (by decide) false (by rw [next_one (c := 46) rfl]; simpa using h1) P1.out)
  go_upto_region 4 with (go_at_call 15; (with_reducible refine N2.out.mono ?_); rintro e w' ⟨rfl, nq, rfl⟩)
  generalize hws : World.drewN _ _ = w3
  have P3 : Hid (RdS q s v i w3) := zH (by rw [← hws]; exact P1.out.quiet ⟨_, rfl⟩)
  have M3 : Hid (Mv q W w3) := zH (by rw [← hws]; exact M1.out.trans (Mv.quiet ⟨_, rfl⟩))
  have Kr3 : Hid (Blk w3 W.heap.size 30 #[.int .i64 0, .string ⟨#[]⟩, .string ⟨#[]⟩]) := zH (by rw [← hws]; exact Kr1.out)
  have S3 : w1.heap.size ≤ w3.heap.size := by rw [← hws]; simp
  clear f0 f1 f2 f3 f4 f5 r0 rz0 r1 rz1 r2 rz2 lr
  clear hws
  obtain ⟨f0, f1, f2, f3, f4, f5⟩ := P3.out.facts
  obtain ⟨r0, rz0, r1, rz1, r2, rz2, lr⟩ := Kr3.out.f3
  have N4 : Hid (Calls Tryd.prog 15 #[.pointer (some ⟨q, 0, none⟩), .string ⟨#[35]⟩] w3 fun e w' => e = .returned (.bool false) ∧ Quiet w3 w') := zH (t_next ⟨#[35]⟩ (by decide) false (by rw [next_one (c := 35) rfl]; simpa using h2) P3.out)
  go_upto_region 11 with (go_at_call 15; (with_reducible refine N4.out.mono ?_); rintro e w' ⟨rfl, nq, rfl⟩)
  generalize hws : World.drewN _ _ = w5
  have P5 : Hid (RdS q s v i w5) := zH (by rw [← hws]; exact P3.out.quiet ⟨_, rfl⟩)
  have M5 : Hid (Mv q W w5) := zH (by rw [← hws]; exact M3.out.trans (Mv.quiet ⟨_, rfl⟩))
  have Kr5 : Hid (Blk w5 W.heap.size 30 #[.int .i64 0, .string ⟨#[]⟩, .string ⟨#[]⟩]) := zH (by rw [← hws]; exact Kr3.out)
  have S5 : w3.heap.size ≤ w5.heap.size := by rw [← hws]; simp
  clear f0 f1 f2 f3 f4 f5 r0 rz0 r1 rz1 r2 rz2 lr
  clear hws
  obtain ⟨f0, f1, f2, f3, f4, f5⟩ := P5.out.facts
  obtain ⟨r0, rz0, r1, rz1, r2, rz2, lr⟩ := Kr5.out.f3
  have N6 : Hid (Calls Tryd.prog 15 #[.pointer (some ⟨q, 0, none⟩), .string ⟨#[45]⟩] w5 fun e w' => e = .returned (.bool false) ∧ Quiet w5 w') := zH (t_next ⟨#[45]⟩ (by decide) false (by rw [next_one (c := 45) rfl]; simpa using h3) P5.out)
  go_upto_region 19 with (go_at_call 15; (with_reducible refine N6.out.mono ?_); rintro e w' ⟨rfl, nq, rfl⟩)
  generalize hws : World.drewN _ _ = w7
  have P7 : Hid (RdS q s v i w7) := zH (by rw [← hws]; exact P5.out.quiet ⟨_, rfl⟩)
  have M7 : Hid (Mv q W w7) := zH (by rw [← hws]; exact M5.out.trans (Mv.quiet ⟨_, rfl⟩))
  have Kr7 : Hid (Blk w7 W.heap.size 30 #[.int .i64 0, .string ⟨#[]⟩, .string ⟨#[]⟩]) := zH (by rw [← hws]; exact Kr5.out)
  have S7 : w5.heap.size ≤ w7.heap.size := by rw [← hws]; simp
  clear f0 f1 f2 f3 f4 f5 r0 rz0 r1 rz1 r2 rz2 lr
  clear hws
  obtain ⟨f0, f1, f2, f3, f4, f5⟩ := P7.out.facts
  obtain ⟨r0, rz0, r1, rz1, r2, rz2, lr⟩ := Kr7.out.f3
  have N8 : Hid (Calls Tryd.prog 17 #[.pointer (some ⟨q, 0, none⟩), .string ⟨#[61]⟩] w7 fun e w' => e = .returned (.tuple #[]) ∧ Mv q w7 w' ∧ RdS q s v (i + 1) w') := zH (t_must_yes ⟨#[61]⟩ (c := 61) rfl hc P7.out)
  go_upto_region 20 with (go_at_call 17; (with_reducible refine N8.out.mono ?_); rintro e v8 ⟨rfl, h1, h2⟩; have A8 := zH h1; have P8 := zH h2; have M8 := zH (M7.out.trans h1); have S8 := h1.low.size; have Kr8 := zH (h1.blk Kr7.out (by omega)); clear f0 f1 f2 f3 f4 f5 r0 rz0 r1 rz1 r2 rz2 lr h1 h2; obtain ⟨f0, f1, f2, f3, f4, f5⟩ := P8.out.facts; obtain ⟨r0, rz0, r1, rz1, r2, rz2, lr⟩ := Kr8.out.f3)
  have N9 : Hid (Calls Tryd.prog 30 #[.pointer (some ⟨q, 0, none⟩)] v8 fun e w' => e = .returned (.string (txt t)) ∧ Mv q v8 w' ∧ RdS q s v j w') := zH (t_expr hn P8.out)
  go_wp2_with (go_at_call 30; (with_reducible refine N9.out.mono ?_); rintro e v9 ⟨rfl, h1, h2⟩; have A9 := zH h1; have P9 := zH h2; have M9 := zH (M8.out.trans h1); have S9 := h1.low.size; have Kr9 := zH (h1.blk Kr8.out (by omega)); clear f0 f1 f2 f3 f4 f5 r0 rz0 r1 rz1 r2 rz2 lr h1 h2; obtain ⟨f0, f1, f2, f3, f4, f5⟩ := P9.out.facts; obtain ⟨r0, rz0, r1, rz1, r2, rz2, lr⟩ := Kr9.out.f3)
  generalize hws : World.setCell (World.setCell (World.setCell _ _ _) _ _) _ _ = wz
  have KZ : Blk wz W.heap.size 30 #[.int .i64 5, .string (txt t), .string ⟨#[]⟩] := by rw [← hws]; have := ((Kr9.out.set_ 0 (.int .i64 5)).set_ 1 (.string (txt t))).set_ 2 (.string ⟨#[]⟩); simpa using this
  have PZ : RdS q s v j wz := by rw [← hws]; exact ((P9.out.farN (by omega) _).farN (by omega) _).farN (by omega) _
  have MZ : Mv q W wz := by rw [← hws]; exact ((M9.out.setN0 (by omega) (by omega) _).setN0 (by omega) (by omega) _).setN0 (by omega) (by omega) _
  have z0 := KZ.cell (i := 0) rfl
  have z1 := KZ.cell (i := 1) rfl
  have z2 := KZ.cell (i := 2) rfl
  clear hws f0 f1 f2 f3 f4 f5 r0 rz0 r1 rz1 r2 rz2 lr
  refine bodyPost_ret (v := .agg #[.int .i64 5, .string (txt t), .string ⟨#[]⟩]) (by simp [results, Tryd.results16, go_sem, z0, z1, z2]) rfl ?_
  exact ⟨rfl, MZ, PZ⟩
theorem t_insert {R : (Pc × Nat) ⊕ Nat} (hR : insertS (bs s) i = R) (h : RdS q s v i W) : Calls Tryd.prog 16 #[.pointer (some ⟨q, 0, none⟩)] W (TReads q s v W Pc.val R) := by
  have E0 : txt [] = ⟨#[]⟩ := rfl
  unfold insertS at hR
  by_cases c1 : (bs s)[i]? = some 46
  · rw [if_pos c1] at hR
    cases hn : nameS (bs s) (i + 1) with
    | inr j => rw [hn] at hR; subst hR; exact ins_prop_no c1 hn h
    | inl x => obtain ⟨t, j⟩ := x; rw [hn] at hR; subst hR; exact ins_prop c1 hn h
  rw [if_neg c1] at hR
  by_cases c2 : (bs s)[i]? = some 35
  · rw [if_pos c2] at hR
    cases hn : nameS (bs s) (i + 1) with
    | inr j => rw [hn] at hR; subst hR; exact ins_kids_no c2 hn h
    | inl x =>
      obtain ⟨t, j⟩ := x
      rw [hn] at hR
      simp only [thenS] at hR
      by_cases hd : (bs s)[j]? = some 32
      · rw [if_pos hd] at hR
        cases hm : markS (bs s) (j + 1) with
        | inr k => rw [hm] at hR; subst hR; exact ins_mark_no c2 hn hd hm h
        | inl y => obtain ⟨m, k⟩ := y; rw [hm] at hR; subst hR; exact ins_mark c2 hn hd hm h
      · rw [if_neg hd] at hR; subst hR; exact ins_kids c2 hn hd h
  rw [if_neg c2] at hR
  by_cases c3 : (bs s)[i]? = some 45
  · rw [if_pos c3] at hR
    by_cases he : (bs s)[i + 1]? = some 62
    · rw [if_pos he] at hR
      cases hn : nameS (bs s) (i + 2) with
      | inr j => rw [hn] at hR; subst hR; exact ins_refn_no c3 he hn h
      | inl x =>
        obtain ⟨t, j⟩ := x
        rw [hn] at hR
        simp only [thenS] at hR
        by_cases hd : (bs s)[j]? = some 46
        · rw [if_pos hd] at hR
          cases hm : nameS (bs s) (j + 1) with
          | inr k => rw [hm] at hR; subst hR; exact ins_refm_no c3 he hn hd hm h
          | inl y => obtain ⟨m, k⟩ := y; rw [hm] at hR; subst hR; exact ins_refm c3 he hn hd hm h
        · rw [if_neg hd] at hR; subst hR; exact ins_ref c3 he hn hd h
    · rw [if_neg he] at hR; subst hR; exact ins_ref_no c3 he h
  rw [if_neg c3] at hR
  by_cases c4 : (bs s)[i]? = some 61
  · rw [if_pos c4] at hR
    cases hn : exprS (bs s) (i + 1) with
    | inr j => rw [hn] at hR; subst hR; exact ins_expr_no c1 c2 c3 c4 hn h
    | inl x => obtain ⟨t, j⟩ := x; rw [hn] at hR; subst hR; exact ins_expr c1 c2 c3 c4 hn h
  · rw [if_neg c4] at hR; subst hR; exact ins_none c1 c2 c3 c4 h
end
end Go.Proofs.YtpkggobhhieeoaaDoor
