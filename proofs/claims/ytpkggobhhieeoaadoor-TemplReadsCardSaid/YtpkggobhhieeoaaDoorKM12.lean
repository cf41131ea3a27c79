/- - - -/
import Derived.Test.YtpkggobhhieeoaaDoorKM11
set_option maxRecDepth 100000
set_option maxHeartbeats 32000000
set_option linter.unusedSimpArgs false
set_option linter.unusedVariables false
namespace Go.Proofs.YtpkggobhhieeoaaDoor
open Go.RowKit
def onesA : List (List Nat) := [[115, 105, 122, 101], [102, 105, 114, 115, 116], [116, 101, 120, 116], [99, 111, 110, 99, 101, 112, 116], [105, 100], [105, 110, 116]]
def loopsA : List (List Nat) := [[97, 110, 121], [101, 118, 101, 114, 121], [111, 110, 108, 121], [115, 117, 109]]
theorem IsTxt.get {W : World} {B g n c k : Nat} {L : List (List Nat)} {m : List Nat} (h : SlR W B 1 IsTxt (.slice (some ⟨g, 0, none⟩) n c) L) (hk : L[k]? = some m) : W.cell? ⟨g, k, none⟩ = some (.string (txt m)) ∧ Bytes m := by
  obtain ⟨b, off, x, hsome, _, _, ⟨rfl, hb, _⟩, hx⟩ := h.at_ hk
  injection hsome with hsome
  injection hsome with e1 e2
  subst e1 e2
  have h0 := hx 0 _ rfl
  simp only [Nat.mul_one, Nat.add_zero, Nat.zero_add] at h0
  exact ⟨h0, hb⟩
section
variable {q : Nat} {a : Option Addr} {c sz : Nat} {l : List Tok} {i : Nat} {es : List (EN × Value)} {X : World} {r : PR}
theorem r_word_one (k0 : Nat) {tt : List Nat} (hk0 : k0 < 6) (hk : onesA[k0]? = some tt) (f : Nat) (HO : RLevel q a c sz l 46 [.int .i64 1] (fun i => pL l f 1 i)) (hes : es.length ≤ i) (hlt : i + 1 ≤ l.length) (h : RSt q a c sz l i (-1) es X)
    (hr : kMust l openT (kLev l f (kMust l closeT (kEnd (14 + k0) [] 0))) [] (i + 1) = r) (hne : r ≠ .out) : Calls Tryd.prog 97 #[.pointer (some ⟨q, 0, none⟩), .string (txt tt)] X (RReads q a c sz l i es X r) := by
  have hdist : ∀ k, k < k0 → onesA[k]? ≠ some tt := by
    have h0 : ∀ k0, k0 < 6 → ∀ k, k < k0 → onesA[k]? ≠ onesA[k0]? := by decide
    rw [← hk]
    exact h0 k0 hk0
  have hfew := h.few
  have i5 : (i : Int) ≤ 5000 := by omega
  have i0 : (0 : Int) ≤ (i : Int) := Int.natCast_nonneg _
  have MO := (show Hid (∀ gs K Y, UW q a c sz l i es X r gs (kMust l openT K) Y → Calls Tryd.prog 96 #[.pointer (some ⟨q, 0, none⟩), .string ⟨#[40]⟩] Y fun e w' => e = .returned (.tuple #[]) ∧ UW q a c sz l i es X r gs K w') from zH (fun gs K Y hY => by rw [← lit_openT]; exact u_must openT (show ∀ n ∈ openT, n < 256 by decide) hY))
  have MC := (show Hid (∀ gs K Y, UW q a c sz l i es X r gs (kMust l closeT K) Y → Calls Tryd.prog 96 #[.pointer (some ⟨q, 0, none⟩), .string ⟨#[41]⟩] Y fun e w' => e = .returned (.tuple #[]) ∧ UW q a c sz l i es X r gs K w') from zH (fun gs K Y hY => by rw [← lit_closeT]; exact u_must closeT (show ∀ n ∈ closeT, n < 256 by decide) hY))
  have LV := (show Hid (∀ gs K Y, UW q a c sz l i es X r gs (kLev l f K) Y → Calls Tryd.prog 46 #[.pointer (some ⟨q, 0, none⟩), .int .i64 1] Y fun e w' => ∃ g : Nat, e = .returned (.int .i64 (g : Int)) ∧ UW q a c sz l i es X r (gs ++ [g]) K w') from zH (fun gs K Y hY => u_level f HO hes hne hY))
  have AD : Hid (∀ g Y, UW q a c sz l i es X r [g] (kEnd (14 + k0) [] 0) Y → Calls Tryd.prog 64 #[.pointer (some ⟨q, 0, none⟩), .int .i64 (14 + (k0 : Int)), .string ⟨#[]⟩, .int .i64 0, .slice (some ⟨Y.heap.size, 0, none⟩) 1 1] (Y.alloc (.cells #[.int .i64 (g : Int)] 3)) fun e w' => ∃ g : Nat, e = .returned (.int .i64 (g : Int)) ∧ RReads q a c sz l i es X r (.returned (.int .i64 (g : Int))) w') := zH (fun g Y hY => by
    have h0 := u_add (14 + k0) [] 0 _ _ _ ((Below.refl _ Y).alloc zL _) (ints1 Y g) (by simp) hes hY
    rw [show ((14 + k0 : Nat) : Int) = 14 + (k0 : Int) by omega] at h0
    exact h0)
  have H := zH h
  have HR := zH hr
  have HK := zH hk
  have HD := zH hdist
  have LQ := zH h.lt
  clear h hr hk hdist HO
  go_enter Tryd.func97, Tryd.ntmps97
  go_wp2_with fail
  generalize hwq : World.alloc _ _ = W1
  have B1 : Hid (Below q X W1) := zH (by rw [← hwq]; exact (Below.refl q X).alloc (Nat.le_of_lt LQ.out) _)
  have S1 : Hid (RSt q a c sz l i (-1) es W1) := zH (by rw [← hwq]; exact H.out.keep ((Below.refl _ X).alloc zL _))
  have R1 : Hid (SlR W1 W1.heap.size 1 IsTxt (.slice (some ⟨X.heap.size, 0, none⟩) 6 6) onesA) := zH (by rw [← hwq]; exact texts_read onesA (by unfold Bytes; decide) (by decide) (Blk.new X 9 _) 6 6 rfl rfl)
  clear hwq
  have UST : Hid (UW q a c sz l i es X r [] (kMust l openT (kLev l f (kMust l closeT (kEnd (14 + k0) [] 0)))) (W1.setCell ⟨q, 1, none⟩ (.int .i64 ((i : Int) + 1)))) := zH (UW.start zL (B1.out.trans ((Below.refl q W1).setCell (p := ⟨q, 1, none⟩) (Nat.le_refl q) _)) (S1.out.at_ (by go_num) hlt) HR.out)
  obtain ⟨f0, f1, f2, f3, f4, f5, f6⟩ := S1.out.facts
  obtain ⟨xs, hxs⟩ : ∃ z, X.heap.size = z := ⟨_, rfl⟩
  rw [hxs] at R1 ⊢
  clear f0 f2 f3 f5 hxs
  go_loopw [6, 7] (fun j v wr => ∃ k : Nat, k ≤ k0 ∧ j = .int .i64 (k : Int) ∧ W1 = wr) (fun j _ _ => k0 - (intOf j).toNat)
  case atStart => exact ⟨0, Nat.zero_le _, rfl, rfl⟩
  case round =>
    obtain ⟨k, hkk, rfl, rfl⟩ := hrel
    have c1 : (0 : Int) ≤ (k : Int) := Int.natCast_nonneg _
    have c6 : (k : Int) < 6 := by omega
    have dk : decide (k < 6) = true := by simp; omega
    obtain ⟨m, hm⟩ := get_some (l := onesA) (n := 6) rfl (show k < 6 by omega)
    obtain ⟨t1, hmb⟩ := IsTxt.get R1.out hm
    by_cases hkq : k = k0
    · subst hkq
      have hmt : m = tt := by have h0 := HK.out; rw [hm] at h0; injection h0
      subst hmt
      clear hm hmb
      go_wp2_with (first
        | (go_at_call 96; (with_reducible refine (MO.out _ _ _ UST.out).mono ?_); rintro e w_U2 ⟨rfl, h2⟩; have U2 := zH h2; clear h2 UST)
        | (go_at_call 46; (with_reducible refine (LV.out _ _ _ U2.out).mono ?_); rintro e w_U3 ⟨g3, rfl, h2⟩; simp only [List.nil_append, List.cons_append] at h2; have U3 := zH h2; clear h2 U2)
        | (go_at_call 96; (with_reducible refine (MC.out _ _ _ U3.out).mono ?_); rintro e w_U4 ⟨rfl, h2⟩; have U4 := zH h2; clear h2 U3)
        | (go_at_call 64; (with_reducible refine (AD.out _ _ U4.out).mono ?_); rintro e w_5 ⟨g5, rfl, h2⟩; have U5 := zH h2; clear h2))
      go_ret
      exact U5.out
    · have hne2 : ¬ (txt m).toList = (txt tt).toList := fun e => HD.out k (by omega) (by rw [hm]; exact congrArg some (txt_inj hmb (by have := HK.out; exact (show ∀ m ∈ onesA, Bytes m by unfold Bytes; decide) _ (List.mem_iff_getElem?.2 ⟨k0, this⟩)) e))
      have e1 : ((txt m).toList == (txt tt).toList) = false := by rw [beq_eq_false_iff_ne]; exact hne2
      clear hm hmb
      go_wp2_with fail
      go_roundw
      case rel => exact ⟨k + 1, by omega, by go_num, by first | rfl | trivial⟩
      case measure => simp [intOf]; omega
theorem r_word_loop (k0 : Nat) {tt : List Nat} (hk0 : k0 < 4) (hk : loopsA[k0]? = some tt) (f : Nat) (HO : RLevel q a c sz l 46 [.int .i64 1] (fun i => pL l f 1 i)) (hes : es.length ≤ i) (hlt : i + 1 ≤ l.length) (h : RSt q a c sz l i (-1) es X)
    (hr : kName l (fun s => kMust l inT (kLev l f (kMust l colonT (kLev l f (kMust l endT (kEnd (31 + k0) s 0)))))) [] (i + 1) = r) (hne : r ≠ .out) : Calls Tryd.prog 97 #[.pointer (some ⟨q, 0, none⟩), .string (txt tt)] X (RReads q a c sz l i es X r) := by
  have hdist : ∀ k, k < k0 → loopsA[k]? ≠ some tt := by
    have h0 : ∀ k0, k0 < 4 → ∀ k, k < k0 → loopsA[k]? ≠ loopsA[k0]? := by decide
    rw [← hk]
    exact h0 k0 hk0
  have hmem : tt ∈ loopsA := List.mem_iff_getElem?.2 ⟨k0, hk⟩
  have HN1 : Hid (tt ∉ onesA) := zH ((show ∀ m ∈ loopsA, m ∉ onesA by decide) tt hmem)
  have HTB : Hid (Bytes tt) := zH ((show ∀ m ∈ loopsA, Bytes m by unfold Bytes; decide) tt hmem)
  have hfew := h.few
  have i5 : (i : Int) ≤ 5000 := by omega
  have i0 : (0 : Int) ≤ (i : Int) := Int.natCast_nonneg _
  have NM : Hid (∀ gs K Y, UW q a c sz l i es X r gs (kName l K) Y → Calls Tryd.prog 86 #[.pointer (some ⟨q, 0, none⟩)] Y fun e w' => ∃ s, e = .returned (.string (txt s)) ∧ UW q a c sz l i es X r gs (K s) w') := zH (fun gs K Y hY => u_name hY)
  have MI := (show Hid (∀ gs K Y, UW q a c sz l i es X r gs (kMust l inT K) Y → Calls Tryd.prog 96 #[.pointer (some ⟨q, 0, none⟩), .string ⟨#[105, 110]⟩] Y fun e w' => e = .returned (.tuple #[]) ∧ UW q a c sz l i es X r gs K w') from zH (fun gs K Y hY => by rw [← lit_inT]; exact u_must inT (show ∀ n ∈ inT, n < 256 by decide) hY))
  have MC := (show Hid (∀ gs K Y, UW q a c sz l i es X r gs (kMust l colonT K) Y → Calls Tryd.prog 96 #[.pointer (some ⟨q, 0, none⟩), .string ⟨#[58]⟩] Y fun e w' => e = .returned (.tuple #[]) ∧ UW q a c sz l i es X r gs K w') from zH (fun gs K Y hY => by rw [← lit_colonT]; exact u_must colonT (show ∀ n ∈ colonT, n < 256 by decide) hY))
  have ME := (show Hid (∀ gs K Y, UW q a c sz l i es X r gs (kMust l endT K) Y → Calls Tryd.prog 96 #[.pointer (some ⟨q, 0, none⟩), .string ⟨#[101, 110, 100]⟩] Y fun e w' => e = .returned (.tuple #[]) ∧ UW q a c sz l i es X r gs K w') from zH (fun gs K Y hY => by rw [← lit_endT]; exact u_must endT (show ∀ n ∈ endT, n < 256 by decide) hY))
  have LV := (show Hid (∀ gs K Y, UW q a c sz l i es X r gs (kLev l f K) Y → Calls Tryd.prog 46 #[.pointer (some ⟨q, 0, none⟩), .int .i64 1] Y fun e w' => ∃ g : Nat, e = .returned (.int .i64 (g : Int)) ∧ UW q a c sz l i es X r (gs ++ [g]) K w') from zH (fun gs K Y hY => u_level f HO hes hne hY))
  have AD : Hid (∀ s g1 g2 Y, UW q a c sz l i es X r [g1, g2] (kEnd (31 + k0) s 0) Y → Calls Tryd.prog 64 #[.pointer (some ⟨q, 0, none⟩), .int .i64 (31 + (k0 : Int)), .string (txt s), .int .i64 0, .slice (some ⟨Y.heap.size, 0, none⟩) 2 2] (Y.alloc (.cells #[.int .i64 (g1 : Int), .int .i64 (g2 : Int)] 3)) fun e w' => ∃ g : Nat, e = .returned (.int .i64 (g : Int)) ∧ RReads q a c sz l i es X r (.returned (.int .i64 (g : Int))) w') := zH (fun s g1 g2 Y hY => by
    have h0 := u_add (31 + k0) s 0 _ _ _ ((Below.refl _ Y).alloc zL _) (ints2 Y g1 g2) (by simp) hes hY
    rw [show ((31 + k0 : Nat) : Int) = 31 + (k0 : Int) by omega] at h0
    exact h0)
  have H := zH h
  have HR := zH hr
  have HK := zH hk
  have HD := zH hdist
  have LQ := zH h.lt
  clear h hr hk hdist HO hmem
  go_enter Tryd.func97, Tryd.ntmps97
  go_wp2_with fail
  generalize hwq : World.alloc _ _ = W1
  have B1 : Hid (Below q X W1) := zH (by rw [← hwq]; exact (Below.refl q X).alloc (Nat.le_of_lt LQ.out) _)
  have S1 : Hid (RSt q a c sz l i (-1) es W1) := zH (by rw [← hwq]; exact H.out.keep ((Below.refl _ X).alloc zL _))
  have R1 : Hid (SlR W1 W1.heap.size 1 IsTxt (.slice (some ⟨X.heap.size, 0, none⟩) 6 6) onesA) := zH (by rw [← hwq]; exact texts_read onesA (by unfold Bytes; decide) (by decide) (Blk.new X 9 _) 6 6 rfl rfl)
  have LW1 := zH S1.out.lt
  clear hwq
  obtain ⟨xs, hxs⟩ : ∃ z, X.heap.size = z := ⟨_, rfl⟩
  rw [hxs] at R1 ⊢
  clear hxs
  go_loopw [6, 7] (fun j v wr => ∃ k : Nat, k ≤ 6 ∧ j = .int .i64 (k : Int) ∧ W1 = wr) (fun j _ _ => 6 - (intOf j).toNat)
  case atStart => exact ⟨0, Nat.zero_le _, rfl, rfl⟩
  case round =>
    obtain ⟨k, hkk, rfl, rfl⟩ := hrel
    have c1 : (0 : Int) ≤ (k : Int) := Int.natCast_nonneg _
    by_cases hk6 : k < 6
    · have c6 : (k : Int) < 6 := by omega
      have dk : decide (k < 6) = true := by simp; omega
      obtain ⟨m, hm⟩ := get_some (l := onesA) (n := 6) rfl (show k < 6 by omega)
      obtain ⟨t1, hmb⟩ := IsTxt.get R1.out hm
      have hne2 : ¬ (txt m).toList = (txt tt).toList := fun e => HN1.out (by rw [← txt_inj hmb HTB.out e]; exact List.mem_iff_getElem?.2 ⟨k, hm⟩)
      have e1 : ((txt m).toList == (txt tt).toList) = false := by rw [beq_eq_false_iff_ne]; exact hne2
      clear hm hmb
      go_wp2_with fail
      go_roundw
      case rel => exact ⟨k + 1, by omega, by go_num, by first | rfl | trivial⟩
      case measure => simp [intOf]; omega
    · obtain rfl : k = 6 := by omega
      have dk : decide (((6 : Nat) : Int) < 6) = false := by decide
      clear hk6 hkk c1
      go_wp2_with fail
      obtain ⟨ws, hws⟩ : ∃ z, W1.heap.size = z := ⟨_, rfl⟩
      generalize hwq : World.alloc _ _ = W2
      have B2 : Hid (Below q X W2) := zH (by rw [← hwq]; exact B1.out.alloc (Nat.le_of_lt LW1.out) _)
      have S2 : Hid (RSt q a c sz l i (-1) es W2) := zH (by rw [← hwq]; exact S1.out.keep ((Below.refl _ W1).alloc zL _))
      have R2 : Hid (SlR W2 W2.heap.size 1 IsTxt (.slice (some ⟨W1.heap.size, 0, none⟩) 4 4) loopsA) := zH (by rw [← hwq]; exact texts_read loopsA (by unfold Bytes; decide) (by decide) (Blk.new W1 9 _) 4 4 rfl rfl)
      rw [hws] at R2 ⊢
      clear hwq hws dk
      have UST : Hid (UW q a c sz l i es X r [] (kName l (fun s => kMust l inT (kLev l f (kMust l colonT (kLev l f (kMust l endT (kEnd (31 + k0) s 0))))))) (W2.setCell ⟨q, 1, none⟩ (.int .i64 ((i : Int) + 1)))) := zH (UW.start zL (B2.out.trans ((Below.refl q W2).setCell (p := ⟨q, 1, none⟩) (Nat.le_refl q) _)) (S2.out.at_ (by go_num) hlt) HR.out)
      obtain ⟨f0, f1, f2, f3, f4, f5, f6⟩ := S2.out.facts
      clear f0 f2 f3 f5 B1 S1 R1
      go_loopw [9, 10, 11, 12] (fun j _ _ _ wr => ∃ k : Nat, k ≤ k0 ∧ j = .int .i64 (k : Int) ∧ W2 = wr) (fun j _ _ _ _ => k0 - (intOf j).toNat)
      case atStart => exact ⟨0, Nat.zero_le _, rfl, rfl⟩
      case round =>
        obtain ⟨k, hkk, rfl, rfl⟩ := hrel
        have c1 : (0 : Int) ≤ (k : Int) := Int.natCast_nonneg _
        have c6 : (k : Int) < 4 := by omega
        have dk : decide (k < 4) = true := by simp; omega
        obtain ⟨m, hm⟩ := get_some (l := loopsA) (n := 4) rfl (show k < 4 by omega)
        obtain ⟨t1, hmb⟩ := IsTxt.get R2.out hm
        by_cases hkq : k = k0
        · subst hkq
          have hmt : m = tt := by have h0 := HK.out; rw [hm] at h0; injection h0
          subst hmt
          clear hm hmb
          go_wp2_with (first
            | (go_at_call 86; (with_reducible refine (NM.out _ _ _ UST.out).mono ?_); rintro e w_U1 ⟨s1, rfl, h2⟩; have U1 := zH h2; clear h2 UST)
            | (go_at_call 96; (with_reducible refine (MI.out _ _ _ U1.out).mono ?_); rintro e w_U2 ⟨rfl, h2⟩; have U2 := zH h2; clear h2 U1)
            | (go_at_call 46; (with_reducible refine (LV.out _ _ _ U2.out).mono ?_); rintro e w_U3 ⟨g3, rfl, h2⟩; simp only [List.nil_append, List.cons_append] at h2; have U3 := zH h2; clear h2 U2)
            | (go_at_call 96; (with_reducible refine (MC.out _ _ _ U3.out).mono ?_); rintro e w_U4 ⟨rfl, h2⟩; have U4 := zH h2; clear h2 U3)
            | (go_at_call 46; (with_reducible refine (LV.out _ _ _ U4.out).mono ?_); rintro e w_U5 ⟨g5, rfl, h2⟩; simp only [List.nil_append, List.cons_append] at h2; have U5 := zH h2; clear h2 U4)
            | (go_at_call 96; (with_reducible refine (ME.out _ _ _ U5.out).mono ?_); rintro e w_U6 ⟨rfl, h2⟩; have U6 := zH h2; clear h2 U5)
            | (go_at_call 64; (with_reducible refine (AD.out _ _ _ _ U6.out).mono ?_); rintro e w_7 ⟨g7, rfl, h2⟩; have U7 := zH h2; clear h2))
          go_ret
          exact U7.out
        · have hne2 : ¬ (txt m).toList = (txt tt).toList := fun e => HD.out k (by omega) (by rw [hm]; exact congrArg some (txt_inj hmb HTB.out e))
          have e1 : ((txt m).toList == (txt tt).toList) = false := by rw [beq_eq_false_iff_ne]; exact hne2
          clear hm hmb
          go_wp2_with fail
          go_roundw
          case rel => exact ⟨k + 1, by omega, by go_num, by first | rfl | trivial⟩
          case measure => simp [intOf]; omega
theorem r_word_no {tt : List Nat} (hb : Bytes tt) (h1 : tt ∉ onesA) (h2 : tt ∉ loopsA) (h : RSt q a c sz l i (-1) es X) : Calls Tryd.prog 97 #[.pointer (some ⟨q, 0, none⟩), .string (txt tt)] X (RReads q a c sz l i es X (.no i)) := by
  have HN1 := zH h1
  have HN2 := zH h2
  have HTB := zH hb
  have H := zH h
  have LQ := zH h.lt
  clear h h1 h2 hb
  go_enter Tryd.func97, Tryd.ntmps97
  go_wp2_with fail
  generalize hwq : World.alloc _ _ = W1
  have B1 : Hid (Below q X W1) := zH (by rw [← hwq]; exact (Below.refl q X).alloc (Nat.le_of_lt LQ.out) _)
  have S1 : Hid (RSt q a c sz l i (-1) es W1) := zH (by rw [← hwq]; exact H.out.keep ((Below.refl _ X).alloc zL _))
  have R1 : Hid (SlR W1 W1.heap.size 1 IsTxt (.slice (some ⟨X.heap.size, 0, none⟩) 6 6) onesA) := zH (by rw [← hwq]; exact texts_read onesA (by unfold Bytes; decide) (by decide) (Blk.new X 9 _) 6 6 rfl rfl)
  have LW1 := zH S1.out.lt
  clear hwq
  obtain ⟨xs, hxs⟩ : ∃ z, X.heap.size = z := ⟨_, rfl⟩
  rw [hxs] at R1 ⊢
  clear hxs
  go_loopw [6, 7] (fun j v wr => ∃ k : Nat, k ≤ 6 ∧ j = .int .i64 (k : Int) ∧ W1 = wr) (fun j _ _ => 6 - (intOf j).toNat)
  case atStart => exact ⟨0, Nat.zero_le _, rfl, rfl⟩
  case round =>
    obtain ⟨k, hkk, rfl, rfl⟩ := hrel
    have c1 : (0 : Int) ≤ (k : Int) := Int.natCast_nonneg _
    by_cases hk6 : k < 6
    · have c6 : (k : Int) < 6 := by omega
      have dk : decide (k < 6) = true := by simp; omega
      obtain ⟨m, hm⟩ := get_some (l := onesA) (n := 6) rfl (show k < 6 by omega)
      obtain ⟨t1, hmb⟩ := IsTxt.get R1.out hm
      have hne2 : ¬ (txt m).toList = (txt tt).toList := fun e => HN1.out (by rw [← txt_inj hmb HTB.out e]; exact List.mem_iff_getElem?.2 ⟨k, hm⟩)
      have e1 : ((txt m).toList == (txt tt).toList) = false := by rw [beq_eq_false_iff_ne]; exact hne2
      clear hm hmb
      go_wp2_with fail
      go_roundw
      case rel => exact ⟨k + 1, by omega, by go_num, by first | rfl | trivial⟩
      case measure => simp [intOf]; omega
    · obtain rfl : k = 6 := by omega
      have dk : decide (((6 : Nat) : Int) < 6) = false := by decide
      clear hk6 hkk c1
      go_wp2_with fail
      obtain ⟨ws, hws⟩ : ∃ z, W1.heap.size = z := ⟨_, rfl⟩
      generalize hwq : World.alloc _ _ = W2
      have B2 : Hid (Below q X W2) := zH (by rw [← hwq]; exact B1.out.alloc (Nat.le_of_lt LW1.out) _)
      have S2 : Hid (RSt q a c sz l i (-1) es W2) := zH (by rw [← hwq]; exact S1.out.keep ((Below.refl _ W1).alloc zL _))
      have R2 : Hid (SlR W2 W2.heap.size 1 IsTxt (.slice (some ⟨W1.heap.size, 0, none⟩) 4 4) loopsA) := zH (by rw [← hwq]; exact texts_read loopsA (by unfold Bytes; decide) (by decide) (Blk.new W1 9 _) 4 4 rfl rfl)
      rw [hws] at R2 ⊢
      clear hwq hws dk
      clear B1 S1 R1
      go_loopw [9, 10, 11, 12] (fun j _ _ _ wr => ∃ k : Nat, k ≤ 4 ∧ j = .int .i64 (k : Int) ∧ W2 = wr) (fun j _ _ _ _ => 4 - (intOf j).toNat)
      case atStart => exact ⟨0, Nat.zero_le _, rfl, rfl⟩
      case round =>
        obtain ⟨k, hkk, rfl, rfl⟩ := hrel
        have c1 : (0 : Int) ≤ (k : Int) := Int.natCast_nonneg _
        by_cases hk4 : k < 4
        · have c6 : (k : Int) < 4 := by omega
          have dk : decide (k < 4) = true := by simp; omega
          obtain ⟨m, hm⟩ := get_some (l := loopsA) (n := 4) rfl (show k < 4 by omega)
          obtain ⟨t1, hmb⟩ := IsTxt.get R2.out hm
          have hne2 : ¬ (txt m).toList = (txt tt).toList := fun e => HN2.out (by rw [← txt_inj hmb HTB.out e]; exact List.mem_iff_getElem?.2 ⟨k, hm⟩)
          have e1 : ((txt m).toList == (txt tt).toList) = false := by rw [beq_eq_false_iff_ne]; exact hne2
          clear hm hmb
          go_wp2_with fail
          go_roundw
          case rel => exact ⟨k + 1, by omega, by go_num, by first | rfl | trivial⟩
          case measure => simp [intOf]; omega
        · obtain rfl : k = 4 := by omega
          have dk : decide (((4 : Nat) : Int) < 4) = false := by decide
          clear hk4 hkk c1
          go_wp2_with (first
            | (go_at_call 47; (refine (r_stop S2.out).mono ?_); rintro e w2 ⟨rfl, h2, h3⟩; have S3 := zH (And.intro (B2.out.trans h2) h3); clear h2 h3))
          go_ret
          exact u_stop ⟨0, rfl⟩ S3.out.1 zL S3.out.2
end
end Go.Proofs.YtpkggobhhieeoaaDoor
namespace Go.Proofs.YtpkggobhhieeoaaDoor
open Go.RowKit
def Free (v : Value) (es : List (EN × Value)) (b : Nat) : Prop := v.ownBlock ≠ some b ∧ ∀ p ∈ es, p.2.ownBlock ≠ some b
def Keeps (X : World) (v : Value) (es : List (EN × Value)) (w' : World) (v' : Value) (es' : List (EN × Value)) : Prop :=
  X.heap.size ≤ w'.heap.size ∧ ∀ b, b < X.heap.size → Free v es b → w'.heap[b]? = X.heap[b]? ∧ Free v' es' b
section
variable {X Y Z : World} {B : Nat} {v u t : Value} {es ds cs : List (EN × Value)}
theorem Keeps.refl (X : World) (v : Value) (es : List (EN × Value)) : Keeps X v es X v es := ⟨Nat.le_refl _, fun _ _ h => ⟨rfl, h⟩⟩
theorem Keeps.trans (h : Keeps X v es Y u ds) (k : Keeps Y u ds Z t cs) : Keeps X v es Z t cs :=
  ⟨Nat.le_trans h.1 k.1, fun b hb hf => by
    obtain ⟨h1, h2⟩ := h.2 b hb hf
    obtain ⟨k1, k2⟩ := k.2 b (Nat.lt_of_lt_of_le hb h.1) h2
    exact ⟨k1.trans h1, k2⟩⟩
theorem Keeps.alloc (X : World) (v : Value) (es : List (EN × Value)) (o : Obj) : Keeps X v es (X.alloc o) v es :=
  ⟨by rw [World.size_alloc]; omega, fun b hb hf => ⟨Below.heap_alloc X o b hb, hf⟩⟩
theorem Free.new (h : EL X B v es) {b : Nat} (hb : X.heap.size ≤ b) : Free v es b := by
  refine ⟨fun e => ?_, fun p hp e => ?_⟩
  · have := (h.main.block b e).2; omega
  · obtain ⟨i, hi⟩ := List.mem_iff_getElem?.1 hp
    have := ((h.kids i p hi).block b e).2; omega
theorem Keeps.push (o : Obj) {e : EN} {w' : World} (hg : (X.alloc o).grownBy w' v.ownBlock) (hat : u.ownBlock = v.ownBlock ∨ u.ownBlock = some (X.alloc o).heap.size) : Keeps X v es w' u (es ++ [(e, .slice none 0 0)]) := by
  have hs : X.heap.size < (X.alloc o).heap.size := by rw [World.size_alloc]; omega
  refine ⟨by have := hg.size; omega, fun b hb hf => ⟨(hg.block b (by omega) (fun e => hf.1 e.symm)).trans (Below.heap_alloc X o b hb), fun e => ?_, fun p hp => ?_⟩⟩
  · rcases hat with h | h
    · exact hf.1 (h ▸ e)
    · rw [h] at e; injection e with e; omega
  · rcases List.mem_append.1 hp with hp | hp
    · exact hf.2 p hp
    · simp at hp; subst hp; exact fun e => by cases e
theorem Keeps.kid {g n c p : Nat} {e e' : EN} {kv kv' : Value} {X2 : World} (hp : es[p]? = some (e, kv)) (o : Obj) (hg : (X.alloc o).grownBy X2 kv.ownBlock) (hat : kv'.ownBlock = kv.ownBlock ∨ kv'.ownBlock = some (X.heap.size + 1)) :
    Keeps X (.slice (some ⟨g, 0, none⟩) n c) es (X2.setCell ⟨g, p * 4 + 3, none⟩ kv') (.slice (some ⟨g, 0, none⟩) n c) (es.set p (e', kv')) := by
  have hs : X.heap.size < (X.alloc o).heap.size := by rw [World.size_alloc]; omega
  refine ⟨by rw [World.size_setCell]; have := hg.size; omega, fun b hb hf => ⟨?_, hf.1, fun x hx => ?_⟩⟩
  · have hbg : b ≠ g := fun e1 => hf.1 (by rw [e1]; rfl)
    rw [Below.heap_setCell X2 ⟨g, p * 4 + 3, none⟩ kv' b hbg]
    exact (hg.block b (by omega) (fun e1 => hf.2 _ (List.mem_iff_getElem?.2 ⟨p, hp⟩) e1.symm)).trans (Below.heap_alloc X o b hb)
  · rcases List.mem_or_eq_of_mem_set hx with h | h
    · exact hf.2 x h
    · subst h
      rcases hat with h | h
      · exact fun e1 => hf.2 _ (List.mem_iff_getElem?.2 ⟨p, hp⟩) (h ▸ e1)
      · rw [h]; intro e1; injection e1 with e1; omega
theorem kid_stays {p : Nat} {e : EN} {kv : Value} {X2 : World} {b : Nat} (hp : es[p]? = some (e, kv)) (o : Obj) (hg : (X.alloc o).grownBy X2 kv.ownBlock) (hb : b < X.heap.size) (hf : Free v es b) : X2.heap[b]? = X.heap[b]? := by
  have hs : X.heap.size < (X.alloc o).heap.size := by rw [World.size_alloc]; omega
  exact (hg.block b (by omega) (fun e1 => hf.2 _ (List.mem_iff_getElem?.2 ⟨p, hp⟩) e1.symm)).trans (Below.heap_alloc X o b hb)
theorem Reps.len {MS : List EN} : ∀ {ts : List Tr} {gs : List Nat}, Reps MS ts gs → gs.length = ts.length
  | [], gs, h => by simp only [Reps] at h; subst h; rfl
  | t :: ts, gs, h => by
    simp only [Reps] at h
    obtain ⟨g, gs', rfl, _, h⟩ := h
    simp only [List.length_cons, h.len]
theorem Reps.get {MS : List EN} : ∀ {ts : List Tr} {gs : List Nat} {j : Nat} {t : Tr} {g : Nat}, Reps MS ts gs → ts[j]? = some t → gs[j]? = some g → Rep MS t g
  | [], _, j, t, g, _, h1, _ => by simp at h1
  | u :: ts, gs, 0, t, g, h, h1, h2 => by
    simp only [Reps] at h
    obtain ⟨g', gs', rfl, h3, _⟩ := h
    simp at h1 h2
    subst h1 h2
    exact h3
  | u :: ts, gs, j + 1, t, g, h, h1, h2 => by
    simp only [Reps] at h
    obtain ⟨g', gs', rfl, _, h4⟩ := h
    simp only [List.getElem?_cons_succ] at h1 h2
    exact Reps.get h4 h1 h2
def OrdIs (B : Nat) (X : World) (v : Value) (t : Tr) (es : List (EN × Value)) (e : Ending) (w' : World) : Prop :=
  ∃ (v' : Value) (es' : List (EN × Value)), e = .returned (.tuple #[v', .int .i64 (t.deep : Int)]) ∧ EL w' B v' (es ++ es') ∧ es'.map (·.1) = t.flat es.length ∧ Below B X w' ∧ Keeps X v es w' v' (es ++ es')
end
end Go.Proofs.YtpkggobhhieeoaaDoor
