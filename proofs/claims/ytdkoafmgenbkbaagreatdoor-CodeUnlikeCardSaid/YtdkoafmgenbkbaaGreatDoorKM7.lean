/- - - - - - - - - - - - -/
import Derived.Test.YtdkoafmgenbkbaaGreatDoorKM6
import Derived.Test.YtdkoafmgenbkbaaGreatDoorKLEWd
import Derived.Test.YtdkoafmgenbkbaaGreatDoorKM5
import Derived.Test.YtdkoafmgenbkbaaGreatDoorKM1
import Derived.Test.YtdkoafmgenbkbaaGreatDoorKM3
set_option maxRecDepth 100000
set_option maxHeartbeats 32000000
set_option linter.unusedSimpArgs false
set_option linter.unusedVariables false
namespace Go.Proofs.YtdkoafmgenbkbaaGreatDoor
open Go.RowKit
section
variable {q : Nat} {a : Option Addr} {c sz : Nat} {l : List Tok} {i : Nat} {W : World}
theorem Reads.leaf {X : World} {k j g : Nat} {s : List Nat} {v : Int} (hm : Mv q W X) (hp : PSt q a c sz l j X) (hg : g = X.heap.size) :
    Reads q a c sz l W (.ok (.node k s v []) j) (.returned (.pointer (some ⟨g, 0, none⟩))) (X.alloc (.cells #[.int .i64 (k : Int), .string (txt s), .int .i64 v, .slice none 0 0, .slice none 0 0] 135)) := by
  subst hg
  have hb := (Below.refl X.heap.size X).alloc zL (.cells #[.int .i64 (k : Int), .string (txt s), .int .i64 v, .slice none 0 0, .slice none 0 0] 135)
  exact Reads.mk_ (node0 hm.low.size (Blk.new X 135 _)) (hm.trans (Mv.of_below hb (Nat.le_of_lt hp.box.lt))) (hp.keep hb)
theorem pP_none (f : Nat) (h : l[i]? = none) : pP l (f + 1) i = .no i := by rw [pP, h]
theorem pP_some (f : Nat) {t : Tok} (h : l[i]? = some t) : pP l (f + 1) i = if t.kind = 1 then .ok (.node 1 [] t.num []) (i + 1) else if t.kind = 2 then .ok (.node 2 t.text 0 []) (i + 1) else if t.kind = 3 then .ok (.node 7 t.text 0 []) (i + 1) else if t.kind = 5 then markR l f i t.text else wordR l f i t.text := by
  rw [pP, h, ← wordR_match]
  rfl
theorem p_prim (f : Nat) (HO : LevelC q a c sz l 51 (fun i => pL l f 1 i)) : LevelC q a c sz l 118 (fun i => pP l (f + 1) i) := by
  intro i W h hr
  simp only at hr ⊢
  have H := zH h
  have QL := zH h.box.lt
  obtain ⟨f0, f1, f2, f3, f4⟩ := h.facts
  obtain ⟨n, hn⟩ : ∃ n, l.length = n := ⟨_, rfl⟩
  have Hn := zH hn
  have hle := h.le
  have hfew := h.few
  rw [hn] at f0 hle hfew
  have n63 : n ≤ 9223372036854775807 := by omega
  have i5 : (i : Int) ≤ 5000 := by omega
  have i0 : (0 : Int) ≤ (i : Int) := Int.natCast_nonneg _
  by_cases hlt : i < n
  · obtain ⟨t, ht⟩ := get_some hn hlt
    have hg := h.good t (List.mem_iff_getElem?.2 ⟨i, ht⟩)
    rw [pP_some f ht] at hr ⊢
    obtain ⟨b0, off, rfl, t0, t1, t2, t3, hok⟩ := h.tok ht
    have HT := zH ht
    have ST := zH (fun X (hX : PSt q (some ⟨b0, off, none⟩) c sz l i X) (n : Nat) => hX.step (j := i + 1) (u := .int .i64 ((i : Int) + 1)) (by go_num) (by omega) n)
    have dlt : ((i : Int) == (n : Int)) = false := by simp; omega
    have ilt : (i : Int) < (n : Int) := by omega
    obtain ⟨⟨kd, tt, tn, tp⟩, htt⟩ : ∃ z, t = z := ⟨_, rfl⟩
    subst htt
    simp only at t0 t1 t2 t3 hr ⊢
    have HTG := zH hg
    clear hg hok h ht hn hfew hle
    by_cases hk1 : kd = 1
    · subst hk1
      simp only [if_true] at hr ⊢
      go_enter Tryz.func118, Tryz.ntmps118
      go_wp2_with fail
      go_quiet (fail)
      go_wp2_with fail
      generalize hwq : World.drewN W _ = W1
      have g0 : W1.cell? ⟨q, 0, none⟩ = some (.slice (some ⟨b0, off, none⟩) n c) := by rw [← hwq]; exact f0
      have g1 : W1.cell? ⟨q, 1, none⟩ = some (.int .i64 (i : Int)) := by rw [← hwq]; exact f1
      have u0 : W1.cell? ⟨b0, off + i * 4, none⟩ = some (.int .i64 1) := by rw [← hwq]; exact t0
      have u1 : W1.cell? ⟨b0, off + i * 4 + 1, none⟩ = some (.string (txt tt)) := by rw [← hwq]; exact t1
      have u2 : W1.cell? ⟨b0, off + i * 4 + 2, none⟩ = some (.int .i64 tn) := by rw [← hwq]; exact t2
      have u3 : W1.cell? ⟨b0, off + i * 4 + 3, none⟩ = some (.int .i64 tp) := by rw [← hwq]; exact t3
      have P1 : Hid (PSt q (some ⟨b0, off, none⟩) c sz l i W1) := zH (by rw [← hwq]; exact H.out.quiet ⟨_, rfl⟩)
      have M1 : Hid (Mv q W W1) := zH (by rw [← hwq]; exact Mv.quiet ⟨_, rfl⟩)
      clear hwq f0 f1 f2 f3 f4 t0 t1 t2 t3
      have n0 := World.new_ne W1 _ g0
      have n1 := World.new_ne W1 _ g1
      have n2 := World.new_ne W1 _ u0
      go_region_held3 (fun w' => w'.cell? ⟨q, 0, none⟩ = some (.slice (some ⟨b0, off, none⟩) n c) ∧ w'.cell? ⟨q, 1, none⟩ = some (.int .i64 (i : Int)) ∧ w'.cell? ⟨b0, off + i * 4, none⟩ = some (.int .i64 1) ∧ w'.cell? ⟨b0, off + i * 4 + 1, none⟩ = some (.string (txt tt)) ∧ w'.cell? ⟨b0, off + i * 4 + 2, none⟩ = some (.int .i64 tn) ∧ w'.cell? ⟨b0, off + i * 4 + 3, none⟩ = some (.int .i64 tp))
        (first | go_keep | fail)
        (first | fail)
      have bo := ((Below.refl W1.heap.size W1).alloc zL (.cells #[.int .i64 1, .string (txt tt), .int .i64 tn, .int .i64 tp] 127)).drew
      have bk : Blk (W1.alloc (.cells #[.int .i64 1, .string (txt tt), .int .i64 tn, .int .i64 tp] 127)).drew W1.heap.size 127 #[.int .i64 1, .string (txt tt), .int .i64 tn, .int .i64 tp] := Blk.new W1 _ _
      have lq := P1.out.box.lt
      generalize hwq : World.drew (World.alloc _ _) = W2
      rw [hwq] at bo bk
      clear hwq
      obtain ⟨bt, hbt⟩ : ∃ z, W1.heap.size = z := ⟨_, rfl⟩
      have M2 : Hid (Mv q W W2) := zH (M1.out.trans (Mv.of_below bo (Nat.le_of_lt lq)))
      have P2 := zH (P1.out.keep bo)
      rw [hbt] at lq bk ⊢
      have v0 : W2.cell? ⟨bt, 0, none⟩ = some (.int .i64 1) := bk.cell rfl
      have v1 : W2.cell? ⟨bt, 1, none⟩ = some (.string (txt tt)) := bk.cell rfl
      have v2 : W2.cell? ⟨bt, 2, none⟩ = some (.int .i64 tn) := bk.cell rfl
      have lbt := bk.lt
      have hbq : ¬ bt = q := by omega
      have hbq2 : ¬ q = bt := by omega
      clear bo bk hbt n0 n1 n2 g0 g1 u0 u1 u2 u3
      obtain ⟨g0, g1, g2, g3, g4⟩ := P2.out.facts
      rw [Hn.out] at g0
      go_wp2_with fail
      go_ret
      have hse : W2.heap.size = (W2.setCell ⟨q, 1, none⟩ (.int .i64 ((i : Int) + 1))).heap.size := by rw [World.size_setCell]
      exact Reads.leaf (k := 1) (s := []) (v := tn) (M2.out.trans (Mv.set q W2 1 (.int .i64 ((i : Int) + 1)))) (P2.out.set (j := i + 1) (by go_num) (by rw [Hn.out]; omega)) hse
    by_cases hk2 : kd = 2
    · subst hk2
      simp only [if_neg hk1, if_true] at hr ⊢
      go_enter Tryz.func118, Tryz.ntmps118
      go_wp2_with fail
      go_quiet (fail)
      go_wp2_with fail
      generalize hwq : World.drewN W _ = W1
      have g0 : W1.cell? ⟨q, 0, none⟩ = some (.slice (some ⟨b0, off, none⟩) n c) := by rw [← hwq]; exact f0
      have g1 : W1.cell? ⟨q, 1, none⟩ = some (.int .i64 (i : Int)) := by rw [← hwq]; exact f1
      have u0 : W1.cell? ⟨b0, off + i * 4, none⟩ = some (.int .i64 2) := by rw [← hwq]; exact t0
      have u1 : W1.cell? ⟨b0, off + i * 4 + 1, none⟩ = some (.string (txt tt)) := by rw [← hwq]; exact t1
      have u2 : W1.cell? ⟨b0, off + i * 4 + 2, none⟩ = some (.int .i64 tn) := by rw [← hwq]; exact t2
      have u3 : W1.cell? ⟨b0, off + i * 4 + 3, none⟩ = some (.int .i64 tp) := by rw [← hwq]; exact t3
      have P1 : Hid (PSt q (some ⟨b0, off, none⟩) c sz l i W1) := zH (by rw [← hwq]; exact H.out.quiet ⟨_, rfl⟩)
      have M1 : Hid (Mv q W W1) := zH (by rw [← hwq]; exact Mv.quiet ⟨_, rfl⟩)
      clear hwq f0 f1 f2 f3 f4 t0 t1 t2 t3
      have n0 := World.new_ne W1 _ g0
      have n1 := World.new_ne W1 _ g1
      have n2 := World.new_ne W1 _ u0
      go_region_held3 (fun w' => w'.cell? ⟨q, 0, none⟩ = some (.slice (some ⟨b0, off, none⟩) n c) ∧ w'.cell? ⟨q, 1, none⟩ = some (.int .i64 (i : Int)) ∧ w'.cell? ⟨b0, off + i * 4, none⟩ = some (.int .i64 2) ∧ w'.cell? ⟨b0, off + i * 4 + 1, none⟩ = some (.string (txt tt)) ∧ w'.cell? ⟨b0, off + i * 4 + 2, none⟩ = some (.int .i64 tn) ∧ w'.cell? ⟨b0, off + i * 4 + 3, none⟩ = some (.int .i64 tp))
        (first | go_keep | fail)
        (first | fail)
      have bo := ((Below.refl W1.heap.size W1).alloc zL (.cells #[.int .i64 2, .string (txt tt), .int .i64 tn, .int .i64 tp] 127)).drew
      have bk : Blk (W1.alloc (.cells #[.int .i64 2, .string (txt tt), .int .i64 tn, .int .i64 tp] 127)).drew W1.heap.size 127 #[.int .i64 2, .string (txt tt), .int .i64 tn, .int .i64 tp] := Blk.new W1 _ _
      have lq := P1.out.box.lt
      generalize hwq : World.drew (World.alloc _ _) = W2
      rw [hwq] at bo bk
      clear hwq
      obtain ⟨bt, hbt⟩ : ∃ z, W1.heap.size = z := ⟨_, rfl⟩
      have M2 : Hid (Mv q W W2) := zH (M1.out.trans (Mv.of_below bo (Nat.le_of_lt lq)))
      have P2 := zH (P1.out.keep bo)
      rw [hbt] at lq bk ⊢
      have v0 : W2.cell? ⟨bt, 0, none⟩ = some (.int .i64 2) := bk.cell rfl
      have v1 : W2.cell? ⟨bt, 1, none⟩ = some (.string (txt tt)) := bk.cell rfl
      have v2 : W2.cell? ⟨bt, 2, none⟩ = some (.int .i64 tn) := bk.cell rfl
      have lbt := bk.lt
      have hbq : ¬ bt = q := by omega
      have hbq2 : ¬ q = bt := by omega
      clear bo bk hbt n0 n1 n2 g0 g1 u0 u1 u2 u3
      obtain ⟨g0, g1, g2, g3, g4⟩ := P2.out.facts
      rw [Hn.out] at g0
      go_wp2_with (first
        | (go_at_call 85; refine (p_of 2 tt _ _ _ _).mono ?_; rintro e w4 ⟨rfl, rfl⟩))
      go_ret
      have hse : W2.heap.size = (W2.setCell ⟨q, 1, none⟩ (.int .i64 ((i : Int) + 1))).heap.size := by rw [World.size_setCell]
      exact Reads.leaf (k := 2) (s := tt) (v := 0) (M2.out.trans (Mv.set q W2 1 (.int .i64 ((i : Int) + 1)))) (P2.out.set (j := i + 1) (by go_num) (by rw [Hn.out]; omega)) hse
    by_cases hk3 : kd = 3
    · subst hk3
      simp only [if_neg hk1, if_neg hk2, if_true] at hr ⊢
      go_enter Tryz.func118, Tryz.ntmps118
      go_wp2_with fail
      go_quiet (fail)
      go_wp2_with fail
      generalize hwq : World.drewN W _ = W1
      have g0 : W1.cell? ⟨q, 0, none⟩ = some (.slice (some ⟨b0, off, none⟩) n c) := by rw [← hwq]; exact f0
      have g1 : W1.cell? ⟨q, 1, none⟩ = some (.int .i64 (i : Int)) := by rw [← hwq]; exact f1
      have u0 : W1.cell? ⟨b0, off + i * 4, none⟩ = some (.int .i64 3) := by rw [← hwq]; exact t0
      have u1 : W1.cell? ⟨b0, off + i * 4 + 1, none⟩ = some (.string (txt tt)) := by rw [← hwq]; exact t1
      have u2 : W1.cell? ⟨b0, off + i * 4 + 2, none⟩ = some (.int .i64 tn) := by rw [← hwq]; exact t2
      have u3 : W1.cell? ⟨b0, off + i * 4 + 3, none⟩ = some (.int .i64 tp) := by rw [← hwq]; exact t3
      have P1 : Hid (PSt q (some ⟨b0, off, none⟩) c sz l i W1) := zH (by rw [← hwq]; exact H.out.quiet ⟨_, rfl⟩)
      have M1 : Hid (Mv q W W1) := zH (by rw [← hwq]; exact Mv.quiet ⟨_, rfl⟩)
      clear hwq f0 f1 f2 f3 f4 t0 t1 t2 t3
      have n0 := World.new_ne W1 _ g0
      have n1 := World.new_ne W1 _ g1
      have n2 := World.new_ne W1 _ u0
      go_region_held3 (fun w' => w'.cell? ⟨q, 0, none⟩ = some (.slice (some ⟨b0, off, none⟩) n c) ∧ w'.cell? ⟨q, 1, none⟩ = some (.int .i64 (i : Int)) ∧ w'.cell? ⟨b0, off + i * 4, none⟩ = some (.int .i64 3) ∧ w'.cell? ⟨b0, off + i * 4 + 1, none⟩ = some (.string (txt tt)) ∧ w'.cell? ⟨b0, off + i * 4 + 2, none⟩ = some (.int .i64 tn) ∧ w'.cell? ⟨b0, off + i * 4 + 3, none⟩ = some (.int .i64 tp))
        (first | go_keep | fail)
        (first | fail)
      have bo := ((Below.refl W1.heap.size W1).alloc zL (.cells #[.int .i64 3, .string (txt tt), .int .i64 tn, .int .i64 tp] 127)).drew
      have bk : Blk (W1.alloc (.cells #[.int .i64 3, .string (txt tt), .int .i64 tn, .int .i64 tp] 127)).drew W1.heap.size 127 #[.int .i64 3, .string (txt tt), .int .i64 tn, .int .i64 tp] := Blk.new W1 _ _
      have lq := P1.out.box.lt
      generalize hwq : World.drew (World.alloc _ _) = W2
      rw [hwq] at bo bk
      clear hwq
      obtain ⟨bt, hbt⟩ : ∃ z, W1.heap.size = z := ⟨_, rfl⟩
      have M2 : Hid (Mv q W W2) := zH (M1.out.trans (Mv.of_below bo (Nat.le_of_lt lq)))
      have P2 := zH (P1.out.keep bo)
      rw [hbt] at lq bk ⊢
      have v0 : W2.cell? ⟨bt, 0, none⟩ = some (.int .i64 3) := bk.cell rfl
      have v1 : W2.cell? ⟨bt, 1, none⟩ = some (.string (txt tt)) := bk.cell rfl
      have v2 : W2.cell? ⟨bt, 2, none⟩ = some (.int .i64 tn) := bk.cell rfl
      have lbt := bk.lt
      have hbq : ¬ bt = q := by omega
      have hbq2 : ¬ q = bt := by omega
      clear bo bk hbt n0 n1 n2 g0 g1 u0 u1 u2 u3
      obtain ⟨g0, g1, g2, g3, g4⟩ := P2.out.facts
      rw [Hn.out] at g0
      go_wp2_with (first
        | (go_at_call 85; refine (p_of 7 tt _ _ _ _).mono ?_; rintro e w4 ⟨rfl, rfl⟩))
      go_ret
      have hse : W2.heap.size = (W2.setCell ⟨q, 1, none⟩ (.int .i64 ((i : Int) + 1))).heap.size := by rw [World.size_setCell]
      exact Reads.leaf (k := 7) (s := tt) (v := 0) (M2.out.trans (Mv.set q W2 1 (.int .i64 ((i : Int) + 1)))) (P2.out.set (j := i + 1) (by go_num) (by rw [Hn.out]; omega)) hse
    by_cases hk5 : kd = 5
    · subst hk5
      simp only [if_neg hk1, if_neg hk2, if_neg hk3, if_true] at hr ⊢
      obtain ⟨r, hrr⟩ : ∃ r, markR l f i tt = r := ⟨_, rfl⟩
      have hr0 := hr
      have HX : Hid (∀ X, PSt q (some ⟨b0, off, none⟩) c sz l i X → Calls Tryz.prog 120 #[.pointer (some ⟨q, 0, none⟩)] X (Reads q (some ⟨b0, off, none⟩) c sz l X r)) := zH (fun X hX => by rw [← hrr]; exact p_mark HT.out rfl f HO hX hr)
      rw [hrr] at hr ⊢
      clear hk1 hk2 hk3
      clear hrr HO hr0
      cases r with
      | out => exact absurd rfl hr
      | no j =>
        clear hr
        go_enter Tryz.func118, Tryz.ntmps118
        go_wp2_with fail
        go_quiet (fail)
        go_wp2_with fail
        generalize hwq : World.drewN W _ = W1
        have g0 : W1.cell? ⟨q, 0, none⟩ = some (.slice (some ⟨b0, off, none⟩) n c) := by rw [← hwq]; exact f0
        have g1 : W1.cell? ⟨q, 1, none⟩ = some (.int .i64 (i : Int)) := by rw [← hwq]; exact f1
        have u0 : W1.cell? ⟨b0, off + i * 4, none⟩ = some (.int .i64 5) := by rw [← hwq]; exact t0
        have u1 : W1.cell? ⟨b0, off + i * 4 + 1, none⟩ = some (.string (txt tt)) := by rw [← hwq]; exact t1
        have u2 : W1.cell? ⟨b0, off + i * 4 + 2, none⟩ = some (.int .i64 tn) := by rw [← hwq]; exact t2
        have u3 : W1.cell? ⟨b0, off + i * 4 + 3, none⟩ = some (.int .i64 tp) := by rw [← hwq]; exact t3
        have P1 : Hid (PSt q (some ⟨b0, off, none⟩) c sz l i W1) := zH (by rw [← hwq]; exact H.out.quiet ⟨_, rfl⟩)
        have M1 : Hid (Mv q W W1) := zH (by rw [← hwq]; exact Mv.quiet ⟨_, rfl⟩)
        clear hwq f0 f1 f2 f3 f4 t0 t1 t2 t3
        have n0 := World.new_ne W1 _ g0
        have n1 := World.new_ne W1 _ g1
        have n2 := World.new_ne W1 _ u0
        go_region_held3 (fun w' => w'.cell? ⟨q, 0, none⟩ = some (.slice (some ⟨b0, off, none⟩) n c) ∧ w'.cell? ⟨q, 1, none⟩ = some (.int .i64 (i : Int)) ∧ w'.cell? ⟨b0, off + i * 4, none⟩ = some (.int .i64 5) ∧ w'.cell? ⟨b0, off + i * 4 + 1, none⟩ = some (.string (txt tt)) ∧ w'.cell? ⟨b0, off + i * 4 + 2, none⟩ = some (.int .i64 tn) ∧ w'.cell? ⟨b0, off + i * 4 + 3, none⟩ = some (.int .i64 tp))
          (first | go_keep | fail)
          (first | fail)
        have bo := ((Below.refl W1.heap.size W1).alloc zL (.cells #[.int .i64 5, .string (txt tt), .int .i64 tn, .int .i64 tp] 127)).drew
        have bk : Blk (W1.alloc (.cells #[.int .i64 5, .string (txt tt), .int .i64 tn, .int .i64 tp] 127)).drew W1.heap.size 127 #[.int .i64 5, .string (txt tt), .int .i64 tn, .int .i64 tp] := Blk.new W1 _ _
        have lq := P1.out.box.lt
        generalize hwq : World.drew (World.alloc _ _) = W2
        rw [hwq] at bo bk
        clear hwq
        obtain ⟨bt, hbt⟩ : ∃ z, W1.heap.size = z := ⟨_, rfl⟩
        have M2 : Hid (Mv q W W2) := zH (M1.out.trans (Mv.of_below bo (Nat.le_of_lt lq)))
        have P2 := zH (P1.out.keep bo)
        rw [hbt] at lq bk ⊢
        have v0 : W2.cell? ⟨bt, 0, none⟩ = some (.int .i64 5) := bk.cell rfl
        have v1 : W2.cell? ⟨bt, 1, none⟩ = some (.string (txt tt)) := bk.cell rfl
        have v2 : W2.cell? ⟨bt, 2, none⟩ = some (.int .i64 tn) := bk.cell rfl
        have lbt := bk.lt
        have hbq : ¬ bt = q := by omega
        have hbq2 : ¬ q = bt := by omega
        clear bo bk hbt n0 n1 n2 g0 g1 u0 u1 u2 u3
        obtain ⟨g0, g1, g2, g3, g4⟩ := P2.out.facts
        rw [Hn.out] at g0
        go_wp2_with (first
          | (go_at_call 120; refine (HX.out _ P2.out).mono ?_; rintro e w4 ⟨rfl, h1⟩; have M4 := zH h1; clear h1))
        exact ⟨rfl, rfl, M2.out.trans M4.out⟩
      | ok t j =>
        clear hr
        go_enter Tryz.func118, Tryz.ntmps118
        go_wp2_with fail
        go_quiet (fail)
        go_wp2_with fail
        generalize hwq : World.drewN W _ = W1
        have g0 : W1.cell? ⟨q, 0, none⟩ = some (.slice (some ⟨b0, off, none⟩) n c) := by rw [← hwq]; exact f0
        have g1 : W1.cell? ⟨q, 1, none⟩ = some (.int .i64 (i : Int)) := by rw [← hwq]; exact f1
        have u0 : W1.cell? ⟨b0, off + i * 4, none⟩ = some (.int .i64 5) := by rw [← hwq]; exact t0
        have u1 : W1.cell? ⟨b0, off + i * 4 + 1, none⟩ = some (.string (txt tt)) := by rw [← hwq]; exact t1
        have u2 : W1.cell? ⟨b0, off + i * 4 + 2, none⟩ = some (.int .i64 tn) := by rw [← hwq]; exact t2
        have u3 : W1.cell? ⟨b0, off + i * 4 + 3, none⟩ = some (.int .i64 tp) := by rw [← hwq]; exact t3
        have P1 : Hid (PSt q (some ⟨b0, off, none⟩) c sz l i W1) := zH (by rw [← hwq]; exact H.out.quiet ⟨_, rfl⟩)
        have M1 : Hid (Mv q W W1) := zH (by rw [← hwq]; exact Mv.quiet ⟨_, rfl⟩)
        clear hwq f0 f1 f2 f3 f4 t0 t1 t2 t3
        have n0 := World.new_ne W1 _ g0
        have n1 := World.new_ne W1 _ g1
        have n2 := World.new_ne W1 _ u0
        go_region_held3 (fun w' => w'.cell? ⟨q, 0, none⟩ = some (.slice (some ⟨b0, off, none⟩) n c) ∧ w'.cell? ⟨q, 1, none⟩ = some (.int .i64 (i : Int)) ∧ w'.cell? ⟨b0, off + i * 4, none⟩ = some (.int .i64 5) ∧ w'.cell? ⟨b0, off + i * 4 + 1, none⟩ = some (.string (txt tt)) ∧ w'.cell? ⟨b0, off + i * 4 + 2, none⟩ = some (.int .i64 tn) ∧ w'.cell? ⟨b0, off + i * 4 + 3, none⟩ = some (.int .i64 tp))
          (first | go_keep | fail)
          (first | fail)
        have bo := ((Below.refl W1.heap.size W1).alloc zL (.cells #[.int .i64 5, .string (txt tt), .int .i64 tn, .int .i64 tp] 127)).drew
        have bk : Blk (W1.alloc (.cells #[.int .i64 5, .string (txt tt), .int .i64 tn, .int .i64 tp] 127)).drew W1.heap.size 127 #[.int .i64 5, .string (txt tt), .int .i64 tn, .int .i64 tp] := Blk.new W1 _ _
        have lq := P1.out.box.lt
        generalize hwq : World.drew (World.alloc _ _) = W2
        rw [hwq] at bo bk
        clear hwq
        obtain ⟨bt, hbt⟩ : ∃ z, W1.heap.size = z := ⟨_, rfl⟩
        have M2 : Hid (Mv q W W2) := zH (M1.out.trans (Mv.of_below bo (Nat.le_of_lt lq)))
        have P2 := zH (P1.out.keep bo)
        rw [hbt] at lq bk ⊢
        have v0 : W2.cell? ⟨bt, 0, none⟩ = some (.int .i64 5) := bk.cell rfl
        have v1 : W2.cell? ⟨bt, 1, none⟩ = some (.string (txt tt)) := bk.cell rfl
        have v2 : W2.cell? ⟨bt, 2, none⟩ = some (.int .i64 tn) := bk.cell rfl
        have lbt := bk.lt
        have hbq : ¬ bt = q := by omega
        have hbq2 : ¬ q = bt := by omega
        clear bo bk hbt n0 n1 n2 g0 g1 u0 u1 u2 u3
        obtain ⟨g0, g1, g2, g3, g4⟩ := P2.out.facts
        rw [Hn.out] at g0
        go_wp2_with (first
          | (go_at_call 120; refine (HX.out _ P2.out).mono ?_; rintro e w4 h1; obtain ⟨g9, rfl, h3, h4, h5⟩ := h1.get; have M4 := zH (And.intro h3 (And.intro h4 h5)); clear h1 h3 h4 h5))
        go_ret
        exact (Reads.mk_ M4.out.1 M4.out.2.1 M4.out.2.2).back M2.out
    · have h0 : (kd = 1 ∧ 0 ≤ tn) ∨ kd = 2 ∨ kd = 3 ∨ (kd = 4 ∧ tt ∈ wordsL) ∨ (kd = 5 ∧ tt ∈ marksL) := HTG.out
      have h1 : kd = 4 ∧ tt ∈ wordsL := by
        rcases h0 with h | h | h | h | h
        · exact absurd h.1 hk1
        · exact absurd h hk2
        · exact absurd h hk3
        · exact h
        · exact absurd h.1 hk5
      obtain ⟨hk4, hwd⟩ := h1
      clear h0
      subst hk4
      simp only [if_neg hk1, if_neg hk2, if_neg hk3, if_neg hk5] at hr ⊢
      obtain ⟨r, hrr⟩ : ∃ r, wordR l f i tt = r := ⟨_, rfl⟩
      have hr0 := hr
      have HX : Hid (∀ X, PSt q (some ⟨b0, off, none⟩) c sz l i X → Calls Tryz.prog 121 #[.pointer (some ⟨q, 0, none⟩)] X (Reads q (some ⟨b0, off, none⟩) c sz l X r)) := zH (fun X hX => by rw [← hrr]; exact p_word HT.out hwd f HO hX hr)
      rw [hrr] at hr ⊢
      clear hk1 hk2 hk3 hk5 hwd
      clear hrr HO hr0
      cases r with
      | out => exact absurd rfl hr
      | no j =>
        clear hr
        go_enter Tryz.func118, Tryz.ntmps118
        go_wp2_with fail
        go_quiet (fail)
        go_wp2_with fail
        generalize hwq : World.drewN W _ = W1
        have g0 : W1.cell? ⟨q, 0, none⟩ = some (.slice (some ⟨b0, off, none⟩) n c) := by rw [← hwq]; exact f0
        have g1 : W1.cell? ⟨q, 1, none⟩ = some (.int .i64 (i : Int)) := by rw [← hwq]; exact f1
        have u0 : W1.cell? ⟨b0, off + i * 4, none⟩ = some (.int .i64 4) := by rw [← hwq]; exact t0
        have u1 : W1.cell? ⟨b0, off + i * 4 + 1, none⟩ = some (.string (txt tt)) := by rw [← hwq]; exact t1
        have u2 : W1.cell? ⟨b0, off + i * 4 + 2, none⟩ = some (.int .i64 tn) := by rw [← hwq]; exact t2
        have u3 : W1.cell? ⟨b0, off + i * 4 + 3, none⟩ = some (.int .i64 tp) := by rw [← hwq]; exact t3
        have P1 : Hid (PSt q (some ⟨b0, off, none⟩) c sz l i W1) := zH (by rw [← hwq]; exact H.out.quiet ⟨_, rfl⟩)
        have M1 : Hid (Mv q W W1) := zH (by rw [← hwq]; exact Mv.quiet ⟨_, rfl⟩)
        clear hwq f0 f1 f2 f3 f4 t0 t1 t2 t3
        have n0 := World.new_ne W1 _ g0
        have n1 := World.new_ne W1 _ g1
        have n2 := World.new_ne W1 _ u0
        go_region_held3 (fun w' => w'.cell? ⟨q, 0, none⟩ = some (.slice (some ⟨b0, off, none⟩) n c) ∧ w'.cell? ⟨q, 1, none⟩ = some (.int .i64 (i : Int)) ∧ w'.cell? ⟨b0, off + i * 4, none⟩ = some (.int .i64 4) ∧ w'.cell? ⟨b0, off + i * 4 + 1, none⟩ = some (.string (txt tt)) ∧ w'.cell? ⟨b0, off + i * 4 + 2, none⟩ = some (.int .i64 tn) ∧ w'.cell? ⟨b0, off + i * 4 + 3, none⟩ = some (.int .i64 tp))
          (first | go_keep | fail)
          (first | fail)
        have bo := ((Below.refl W1.heap.size W1).alloc zL (.cells #[.int .i64 4, .string (txt tt), .int .i64 tn, .int .i64 tp] 127)).drew
        have bk : Blk (W1.alloc (.cells #[.int .i64 4, .string (txt tt), .int .i64 tn, .int .i64 tp] 127)).drew W1.heap.size 127 #[.int .i64 4, .string (txt tt), .int .i64 tn, .int .i64 tp] := Blk.new W1 _ _
        have lq := P1.out.box.lt
        generalize hwq : World.drew (World.alloc _ _) = W2
        rw [hwq] at bo bk
        clear hwq
        obtain ⟨bt, hbt⟩ : ∃ z, W1.heap.size = z := ⟨_, rfl⟩
        have M2 : Hid (Mv q W W2) := zH (M1.out.trans (Mv.of_below bo (Nat.le_of_lt lq)))
        have P2 := zH (P1.out.keep bo)
        rw [hbt] at lq bk ⊢
        have v0 : W2.cell? ⟨bt, 0, none⟩ = some (.int .i64 4) := bk.cell rfl
        have v1 : W2.cell? ⟨bt, 1, none⟩ = some (.string (txt tt)) := bk.cell rfl
        have v2 : W2.cell? ⟨bt, 2, none⟩ = some (.int .i64 tn) := bk.cell rfl
        have lbt := bk.lt
        have hbq : ¬ bt = q := by omega
        have hbq2 : ¬ q = bt := by omega
        clear bo bk hbt n0 n1 n2 g0 g1 u0 u1 u2 u3
        obtain ⟨g0, g1, g2, g3, g4⟩ := P2.out.facts
        rw [Hn.out] at g0
        go_wp2_with (first
          | (go_at_call 121; refine (HX.out _ P2.out).mono ?_; rintro e w4 ⟨rfl, h1⟩; have M4 := zH h1; clear h1))
        exact ⟨rfl, rfl, M2.out.trans M4.out⟩
      | ok t j =>
        clear hr
        go_enter Tryz.func118, Tryz.ntmps118
        go_wp2_with fail
        go_quiet (fail)
        go_wp2_with fail
        generalize hwq : World.drewN W _ = W1
        have g0 : W1.cell? ⟨q, 0, none⟩ = some (.slice (some ⟨b0, off, none⟩) n c) := by rw [← hwq]; exact f0
        have g1 : W1.cell? ⟨q, 1, none⟩ = some (.int .i64 (i : Int)) := by rw [← hwq]; exact f1
        have u0 : W1.cell? ⟨b0, off + i * 4, none⟩ = some (.int .i64 4) := by rw [← hwq]; exact t0
        have u1 : W1.cell? ⟨b0, off + i * 4 + 1, none⟩ = some (.string (txt tt)) := by rw [← hwq]; exact t1
        have u2 : W1.cell? ⟨b0, off + i * 4 + 2, none⟩ = some (.int .i64 tn) := by rw [← hwq]; exact t2
        have u3 : W1.cell? ⟨b0, off + i * 4 + 3, none⟩ = some (.int .i64 tp) := by rw [← hwq]; exact t3
        have P1 : Hid (PSt q (some ⟨b0, off, none⟩) c sz l i W1) := zH (by rw [← hwq]; exact H.out.quiet ⟨_, rfl⟩)
        have M1 : Hid (Mv q W W1) := zH (by rw [← hwq]; exact Mv.quiet ⟨_, rfl⟩)
        clear hwq f0 f1 f2 f3 f4 t0 t1 t2 t3
        have n0 := World.new_ne W1 _ g0
        have n1 := World.new_ne W1 _ g1
        have n2 := World.new_ne W1 _ u0
        go_region_held3 (fun w' => w'.cell? ⟨q, 0, none⟩ = some (.slice (some ⟨b0, off, none⟩) n c) ∧ w'.cell? ⟨q, 1, none⟩ = some (.int .i64 (i : Int)) ∧ w'.cell? ⟨b0, off + i * 4, none⟩ = some (.int .i64 4) ∧ w'.cell? ⟨b0, off + i * 4 + 1, none⟩ = some (.string (txt tt)) ∧ w'.cell? ⟨b0, off + i * 4 + 2, none⟩ = some (.int .i64 tn) ∧ w'.cell? ⟨b0, off + i * 4 + 3, none⟩ = some (.int .i64 tp))
          (first | go_keep | fail)
          (first | fail)
        have bo := ((Below.refl W1.heap.size W1).alloc zL (.cells #[.int .i64 4, .string (txt tt), .int .i64 tn, .int .i64 tp] 127)).drew
        have bk : Blk (W1.alloc (.cells #[.int .i64 4, .string (txt tt), .int .i64 tn, .int .i64 tp] 127)).drew W1.heap.size 127 #[.int .i64 4, .string (txt tt), .int .i64 tn, .int .i64 tp] := Blk.new W1 _ _
        have lq := P1.out.box.lt
        generalize hwq : World.drew (World.alloc _ _) = W2
        rw [hwq] at bo bk
        clear hwq
        obtain ⟨bt, hbt⟩ : ∃ z, W1.heap.size = z := ⟨_, rfl⟩
        have M2 : Hid (Mv q W W2) := zH (M1.out.trans (Mv.of_below bo (Nat.le_of_lt lq)))
        have P2 := zH (P1.out.keep bo)
        rw [hbt] at lq bk ⊢
        have v0 : W2.cell? ⟨bt, 0, none⟩ = some (.int .i64 4) := bk.cell rfl
        have v1 : W2.cell? ⟨bt, 1, none⟩ = some (.string (txt tt)) := bk.cell rfl
        have v2 : W2.cell? ⟨bt, 2, none⟩ = some (.int .i64 tn) := bk.cell rfl
        have lbt := bk.lt
        have hbq : ¬ bt = q := by omega
        have hbq2 : ¬ q = bt := by omega
        clear bo bk hbt n0 n1 n2 g0 g1 u0 u1 u2 u3
        obtain ⟨g0, g1, g2, g3, g4⟩ := P2.out.facts
        rw [Hn.out] at g0
        go_wp2_with (first
          | (go_at_call 121; refine (HX.out _ P2.out).mono ?_; rintro e w4 h1; obtain ⟨g9, rfl, h3, h4, h5⟩ := h1.get; have M4 := zH (And.intro h3 (And.intro h4 h5)); clear h1 h3 h4 h5))
        go_ret
        exact (Reads.mk_ M4.out.1 M4.out.2.1 M4.out.2.2).back M2.out
  · have hnone : l[i]? = none := List.getElem?_eq_none (by omega)
    rw [pP_none f hnone] at hr ⊢
    obtain rfl : i = n := by omega
    have dlt : ((i : Int) == (i : Int)) = true := by simp
    clear h hn hr hnone hlt HO
    go_enter Tryz.func118, Tryz.ntmps118
    go_wp2_with fail
    go_quiet (fail)
    go_wp2_with (first
      | (go_at_call 52; (refine (p_give (H.out.quiet ⟨_, rfl⟩)).mono ?_); rintro e w2 ⟨rfl, q2⟩; have Q2 := zH q2; clear q2))
    exact ⟨rfl, rfl, (Mv.quiet ⟨_, rfl⟩).trans (Mv.quiet Q2.out)⟩
end
end Go.Proofs.YtdkoafmgenbkbaaGreatDoor
namespace Go.Proofs.YtdkoafmgenbkbaaGreatDoor
open Go.RowKit
section
variable {q : Nat} {a : Option Addr} {c sz : Nat} {l : List Tok} {i : Nat} {W : World}
theorem pL_row (l : List Tok) (f n i : Nat) (h3 : n ≠ 3) (h7 : n ≠ 7) : pL l (f + 1) n i = rowR l f n i := by
  rw [pL, if_neg h3, if_neg h7]
  rfl
theorem p_or (f : Nat) (HB : ∀ f', f' ≤ f → LevelC q a c sz l 71 (fun i => pL l f' 2 i)) : LevelC q a c sz l 51 (fun i => pL l (f + 1) 1 i) := by
  intro i W h hr
  have hr0 : pL l (f + 1) 1 i = rowR l f 1 i := pL_row l f 1 i (by omega) (by omega)
  simp only at hr ⊢
  rw [hr0] at hr ⊢
  have HX : Hid (Calls Tryz.prog 70 #[.pointer (some ⟨q, 0, none⟩), .int .i64 1, .func (.func 71) #[.pointer (some ⟨q, 0, none⟩)] #[], .bool false] W (Reads q a c sz l W (rowR l f 1 i))) := zH (p_row 1 f 71 false (by decide) (fun _ _ => rfl) HB h hr)
  have hmf : ∀ (fn : Fn) (first cap : Array Value) (w : World), (Instr.makeFunc fn first cap).run Tryz.prog w = .ok (.func fn first cap) w := fun _ _ _ _ => rfl
  obtain ⟨r, hrr⟩ : ∃ r, rowR l f 1 i = r := ⟨_, rfl⟩
  rw [hrr] at hr HX ⊢
  clear hr0 HB h hrr
  cases r with
  | out => exact absurd rfl hr
  | no j =>
    clear hr
    go_enter Tryz.func51, Tryz.ntmps51
    go_wp2_with (first
      | (go_at_call 70; refine HX.out.mono ?_; rintro e w1 ⟨rfl, h1⟩; have M1 := zH h1; clear h1))
    exact ⟨rfl, rfl, M1.out⟩
  | ok t j =>
    clear hr
    go_enter Tryz.func51, Tryz.ntmps51
    go_wp2_with (first
      | (go_at_call 70; refine HX.out.mono ?_; rintro e w1 h1; obtain ⟨g, rfl, h3, h4, h5⟩ := h1.get; have M1 := zH (And.intro h3 (And.intro h4 h5)); clear h1 h3 h4 h5))
    go_ret
    exact Reads.mk_ M1.out.1 M1.out.2.1 M1.out.2.2
theorem p_and (f : Nat) (HB : ∀ f', f' ≤ f → LevelC q a c sz l 86 (fun i => pL l f' 3 i)) : LevelC q a c sz l 71 (fun i => pL l (f + 1) 2 i) := by
  intro i W h hr
  have hr0 : pL l (f + 1) 2 i = rowR l f 2 i := pL_row l f 2 i (by omega) (by omega)
  simp only at hr ⊢
  rw [hr0] at hr ⊢
  have HX : Hid (Calls Tryz.prog 70 #[.pointer (some ⟨q, 0, none⟩), .int .i64 2, .func (.func 86) #[.pointer (some ⟨q, 0, none⟩)] #[], .bool false] W (Reads q a c sz l W (rowR l f 2 i))) := zH (p_row 2 f 86 false (by decide) (fun _ _ => rfl) HB h hr)
  have hmf : ∀ (fn : Fn) (first cap : Array Value) (w : World), (Instr.makeFunc fn first cap).run Tryz.prog w = .ok (.func fn first cap) w := fun _ _ _ _ => rfl
  obtain ⟨r, hrr⟩ : ∃ r, rowR l f 2 i = r := ⟨_, rfl⟩
  rw [hrr] at hr HX ⊢
  clear hr0 HB h hrr
  cases r with
  | out => exact absurd rfl hr
  | no j =>
    clear hr
    go_enter Tryz.func71, Tryz.ntmps71
    go_wp2_with (first
      | (go_at_call 70; refine HX.out.mono ?_; rintro e w1 ⟨rfl, h1⟩; have M1 := zH h1; clear h1))
    exact ⟨rfl, rfl, M1.out⟩
  | ok t j =>
    clear hr
    go_enter Tryz.func71, Tryz.ntmps71
    go_wp2_with (first
      | (go_at_call 70; refine HX.out.mono ?_; rintro e w1 h1; obtain ⟨g, rfl, h3, h4, h5⟩ := h1.get; have M1 := zH (And.intro h3 (And.intro h4 h5)); clear h1 h3 h4 h5))
    go_ret
    exact Reads.mk_ M1.out.1 M1.out.2.1 M1.out.2.2
theorem p_cmp (f : Nat) (HB : ∀ f', f' ≤ f → LevelC q a c sz l 112 (fun i => pL l f' 5 i)) : LevelC q a c sz l 101 (fun i => pL l (f + 1) 4 i) := by
  intro i W h hr
  have hr0 : pL l (f + 1) 4 i = rowR l f 4 i := pL_row l f 4 i (by omega) (by omega)
  simp only at hr ⊢
  rw [hr0] at hr ⊢
  have HX : Hid (Calls Tryz.prog 70 #[.pointer (some ⟨q, 0, none⟩), .int .i64 4, .func (.func 112) #[.pointer (some ⟨q, 0, none⟩)] #[], .bool true] W (Reads q a c sz l W (rowR l f 4 i))) := zH (p_row 4 f 112 true (by decide) (fun _ _ => rfl) HB h hr)
  have hmf : ∀ (fn : Fn) (first cap : Array Value) (w : World), (Instr.makeFunc fn first cap).run Tryz.prog w = .ok (.func fn first cap) w := fun _ _ _ _ => rfl
  obtain ⟨r, hrr⟩ : ∃ r, rowR l f 4 i = r := ⟨_, rfl⟩
  rw [hrr] at hr HX ⊢
  clear hr0 HB h hrr
  cases r with
  | out => exact absurd rfl hr
  | no j =>
    clear hr
    go_enter Tryz.func101, Tryz.ntmps101
    go_wp2_with (first
      | (go_at_call 70; refine HX.out.mono ?_; rintro e w1 ⟨rfl, h1⟩; have M1 := zH h1; clear h1))
    exact ⟨rfl, rfl, M1.out⟩
  | ok t j =>
    clear hr
    go_enter Tryz.func101, Tryz.ntmps101
    go_wp2_with (first
      | (go_at_call 70; refine HX.out.mono ?_; rintro e w1 h1; obtain ⟨g, rfl, h3, h4, h5⟩ := h1.get; have M1 := zH (And.intro h3 (And.intro h4 h5)); clear h1 h3 h4 h5))
    go_ret
    exact Reads.mk_ M1.out.1 M1.out.2.1 M1.out.2.2
theorem p_sum (f : Nat) (HB : ∀ f', f' ≤ f → LevelC q a c sz l 116 (fun i => pL l f' 6 i)) : LevelC q a c sz l 112 (fun i => pL l (f + 1) 5 i) := by
  intro i W h hr
  have hr0 : pL l (f + 1) 5 i = rowR l f 5 i := pL_row l f 5 i (by omega) (by omega)
  simp only at hr ⊢
  rw [hr0] at hr ⊢
  have HX : Hid (Calls Tryz.prog 70 #[.pointer (some ⟨q, 0, none⟩), .int .i64 5, .func (.func 116) #[.pointer (some ⟨q, 0, none⟩)] #[], .bool false] W (Reads q a c sz l W (rowR l f 5 i))) := zH (p_row 5 f 116 false (by decide) (fun _ _ => rfl) HB h hr)
  have hmf : ∀ (fn : Fn) (first cap : Array Value) (w : World), (Instr.makeFunc fn first cap).run Tryz.prog w = .ok (.func fn first cap) w := fun _ _ _ _ => rfl
  obtain ⟨r, hrr⟩ : ∃ r, rowR l f 5 i = r := ⟨_, rfl⟩
  rw [hrr] at hr HX ⊢
  clear hr0 HB h hrr
  cases r with
  | out => exact absurd rfl hr
  | no j =>
    clear hr
    go_enter Tryz.func112, Tryz.ntmps112
    go_wp2_with (first
      | (go_at_call 70; refine HX.out.mono ?_; rintro e w1 ⟨rfl, h1⟩; have M1 := zH h1; clear h1))
    exact ⟨rfl, rfl, M1.out⟩
  | ok t j =>
    clear hr
    go_enter Tryz.func112, Tryz.ntmps112
    go_wp2_with (first
      | (go_at_call 70; refine HX.out.mono ?_; rintro e w1 h1; obtain ⟨g, rfl, h3, h4, h5⟩ := h1.get; have M1 := zH (And.intro h3 (And.intro h4 h5)); clear h1 h3 h4 h5))
    go_ret
    exact Reads.mk_ M1.out.1 M1.out.2.1 M1.out.2.2
theorem p_prod (f : Nat) (HB : ∀ f', f' ≤ f → LevelC q a c sz l 117 (fun i => pL l f' 7 i)) : LevelC q a c sz l 116 (fun i => pL l (f + 1) 6 i) := by
  intro i W h hr
  have hr0 : pL l (f + 1) 6 i = rowR l f 6 i := pL_row l f 6 i (by omega) (by omega)
  simp only at hr ⊢
  rw [hr0] at hr ⊢
  have HX : Hid (Calls Tryz.prog 70 #[.pointer (some ⟨q, 0, none⟩), .int .i64 6, .func (.func 117) #[.pointer (some ⟨q, 0, none⟩)] #[], .bool false] W (Reads q a c sz l W (rowR l f 6 i))) := zH (p_row 6 f 117 false (by decide) (fun _ _ => rfl) HB h hr)
  have hmf : ∀ (fn : Fn) (first cap : Array Value) (w : World), (Instr.makeFunc fn first cap).run Tryz.prog w = .ok (.func fn first cap) w := fun _ _ _ _ => rfl
  obtain ⟨r, hrr⟩ : ∃ r, rowR l f 6 i = r := ⟨_, rfl⟩
  rw [hrr] at hr HX ⊢
  clear hr0 HB h hrr
  cases r with
  | out => exact absurd rfl hr
  | no j =>
    clear hr
    go_enter Tryz.func116, Tryz.ntmps116
    go_wp2_with (first
      | (go_at_call 70; refine HX.out.mono ?_; rintro e w1 ⟨rfl, h1⟩; have M1 := zH h1; clear h1))
    exact ⟨rfl, rfl, M1.out⟩
  | ok t j =>
    clear hr
    go_enter Tryz.func116, Tryz.ntmps116
    go_wp2_with (first
      | (go_at_call 70; refine HX.out.mono ?_; rintro e w1 h1; obtain ⟨g, rfl, h3, h4, h5⟩ := h1.get; have M1 := zH (And.intro h3 (And.intro h4 h5)); clear h1 h3 h4 h5))
    go_ret
    exact Reads.mk_ M1.out.1 M1.out.2.1 M1.out.2.2
theorem p_all (q : Nat) (a : Option Addr) (c sz : Nat) (l : List Tok) : ∀ F f : Nat, f ≤ F → LevelC q a c sz l 51 (fun i => pL l f 1 i) ∧ LevelC q a c sz l 71 (fun i => pL l f 2 i) ∧ LevelC q a c sz l 86 (fun i => pL l f 3 i) ∧ LevelC q a c sz l 101 (fun i => pL l f 4 i) ∧ LevelC q a c sz l 112 (fun i => pL l f 5 i) ∧ LevelC q a c sz l 116 (fun i => pL l f 6 i) ∧ LevelC q a c sz l 117 (fun i => pL l f 7 i) ∧ LevelC q a c sz l 118 (fun i => pP l f i) := by
  have zero : ∀ (fn : FuncId) (n : Nat), LevelC q a c sz l fn (fun i => pL l 0 n i) := fun fn n i W h hr => absurd (by simp only [pL]) hr
  intro F
  induction F with
  | zero =>
    intro f hf
    obtain rfl : f = 0 := by omega
    exact ⟨zero _ _, zero _ _, zero _ _, zero _ _, zero _ _, zero _ _, zero _ _, fun i W h hr => absurd (by simp only [pP]) hr⟩
  | succ F ih =>
    intro f hf
    rcases Nat.lt_or_ge f (F + 1) with h1 | h1
    · exact ih f (by omega)
    · obtain rfl : f = F + 1 := by omega
      have hF := ih F zL
      exact ⟨p_or F (fun f' h => (ih f' h).2.1), p_and F (fun f' h => (ih f' h).2.2.1), p_not F hF.2.2.1 hF.2.2.2.1, p_cmp F (fun f' h => (ih f' h).2.2.2.2.1), p_sum F (fun f' h => (ih f' h).2.2.2.2.2.1), p_prod F (fun f' h => (ih f' h).2.2.2.2.2.2.1), p_post F hF.2.2.2.2.2.2.2, p_prim F hF.1⟩
theorem p_top (h : PSt q a c sz l 0 W) : Calls Tryz.prog 51 #[.pointer (some ⟨q, 0, none⟩)] W (Reads q a c sz l W (pL l (12 * l.length + 10) 1 0)) := by
  refine (p_all q a c sz l (12 * l.length + 10) (12 * l.length + 10) zL).1 0 W h ?_
  intro e
  have := parse_told l
  simp only at e
  rw [e] at this
  exact this
end
end Go.Proofs.YtdkoafmgenbkbaaGreatDoor
namespace Go.Proofs.YtdkoafmgenbkbaaGreatDoor
theorem step_good {r : List Nat} {k n : Nat} {s : List Nat} {v : Int} {p : Int} (h : stepP r = (some (k, s, v), n)) : TokG ⟨k, s, v, p⟩ := by
  unfold TokG
  simp only
  unfold stepP at h
  split at h
  · simp at h
  · rename_i c t
    split at h
    · split at h
      · injection h with h1 h2
        injection h1 with h1
        injection h1 with h1 h3
        injection h3 with h3 h4
        left
        exact ⟨by rw [← h1]; rfl, by rw [← h4]; exact Int.natCast_nonneg _⟩
      · simp at h
    · split at h
      · split at h
        · injection h with h1 h2
          injection h1 with h1
          injection h1 with h1 h3
          injection h3 with h3 h4
          by_cases hw : (c :: t).takeWhile furtherN ∈ wordsL
          · rw [if_pos hw] at h1
            exact .inr (.inr (.inr (.inl ⟨by rw [← h1]; rfl, by rw [← h3]; exact hw⟩)))
          · rw [if_neg hw] at h1
            exact .inr (.inr (.inl (by rw [← h1]; rfl)))
        · simp at h
      · split at h
        · simp at h
        · rename_i hm
          injection h with h1 h2
          injection h1 with h1
          injection h1 with h1 h3
          injection h3 with h3 h4
          refine .inr (.inr (.inr (.inr ⟨by rw [← h1]; rfl, ?_⟩)))
          rw [← h3]
          unfold markN at hm ⊢
          cases hf : marksL.find? (fun m => m.isPrefixOf (c :: t)) with
          | none => rw [hf] at hm; exfalso; revert hm; simp only; split <;> simp
          | some m => exact List.mem_of_find?_eq_some hf
theorem scanT_good {l : List Nat} (hl : Bytes l) : ∀ (f i : Nat) (o : List Tok), (∀ t ∈ o, TokG t) → o.length ≤ i → i ≤ l.length → (scanT l f i o).2.2 = 0 → (∀ t ∈ (scanT l f i o).1, TokG t) ∧ (scanT l f i o).1.length ≤ l.length
  | 0, i, o, ho, hi, hil, _ => ⟨by rw [scanT]; exact ho, by rw [scanT]; simp only; omega⟩
  | f + 1, i, o, ho, hi, hil, he => by
    rw [scanT] at he ⊢
    cases hc : l[i]? with
    | none => exact ⟨ho, by simp only; omega⟩
    | some c =>
      rw [hc] at he
      have hlt := (List.getElem?_eq_some_iff.1 hc).1
      simp only at he ⊢
      by_cases h1 : c = 32 ∨ c = 10
      · rw [if_pos h1] at he ⊢
        exact scanT_good hl f (i + 1) o ho (by omega) (by omega) he
      · rw [if_neg h1] at he ⊢
        by_cases h2 : c = 34
        · rw [if_pos h2] at he ⊢
          by_cases h3 : (quoteAt l i).2.2 = 0
          · rw [if_pos h3] at he ⊢
            obtain ⟨a1, a2, a3⟩ := unq_some (l.length + 1) (i + 1) l [] (quoteAt l i).1 (quoteAt l i).2.1 hl (fun x hx => by cases hx) (by show quoteAt l i = _; rw [← h3])
            refine scanT_good hl f _ _ (fun t ht => ?_) (by simp; omega) a3 he
            rcases List.mem_append.1 ht with ht | ht
            · exact ho t ht
            · simp at ht
              subst ht
              exact .inr (.inl rfl)
          · rw [if_neg h3] at he
            simp at he
        · rw [if_neg h2] at he ⊢
          cases hs : (stepP (l.drop i)).1 with
          | none => rw [hs] at he; simp at he
          | some x =>
            obtain ⟨k, s, v⟩ := x
            rw [hs] at he
            simp only at he ⊢
            have hst : stepP (l.drop i) = (some (k, s, v), (stepP (l.drop i)).2) := by rw [← hs]
            obtain ⟨b1, b2, _⟩ := step_some (fun x hx => hl x (List.mem_of_mem_drop hx)) hst
            rw [List.length_drop] at b2
            refine scanT_good hl f _ _ (fun t ht => ?_) (by simp; omega) (by omega) he
            rcases List.mem_append.1 ht with ht | ht
            · exact ho t ht
            · simp at ht
              subst ht
              exact step_good hst
theorem scanT_place {l : List Nat} : ∀ (f i : Nat) (o : List Tok), (∀ t ∈ o, 0 ≤ t.place) → ∀ t ∈ (scanT l f i o).1, 0 ≤ t.place
  | 0, i, o, ho => by rw [scanT]; exact ho
  | f + 1, i, o, ho => by
    have snoc : ∀ (x : Tok), 0 ≤ x.place → ∀ t ∈ o ++ [x], 0 ≤ t.place := fun x hx t ht => by
      rcases List.mem_append.1 ht with ht | ht
      · exact ho t ht
      · simp at ht; subst ht; exact hx
    rw [scanT]
    cases hc : l[i]? with
    | none => exact ho
    | some c =>
      simp only
      by_cases h1 : c = 32 ∨ c = 10
      · rw [if_pos h1]; exact scanT_place f (i + 1) o ho
      · rw [if_neg h1]
        by_cases h2 : c = 34
        · rw [if_pos h2]
          by_cases h3 : (quoteAt l i).2.2 = 0
          · rw [if_pos h3]; exact scanT_place f _ _ (snoc _ (Int.natCast_nonneg _))
          · rw [if_neg h3]; intro t ht; cases ht
        · rw [if_neg h2]
          cases hs : (stepP (l.drop i)).1 with
          | none => intro t ht; cases ht
          | some x =>
            obtain ⟨k, s, v⟩ := x
            exact scanT_place f _ _ (snoc _ (Int.natCast_nonneg _))
theorem scan_place {l : List Nat} : ∀ t ∈ (scanN l).1, 0 ≤ t.place := by
  unfold scanN
  split
  · intro t ht; cases ht
  · exact scanT_place _ _ _ (fun t ht => by cases ht)
theorem scan_good {l : List Nat} (hl : Bytes l) (he : (scanN l).2.2 = 0) : (∀ t ∈ (scanN l).1, TokG t) ∧ (scanN l).1.length ≤ 4096 ∧ l.length ≤ 4096 := by
  unfold scanN at he ⊢
  by_cases h : 4096 < l.length
  · rw [if_pos h] at he; simp at he
  · rw [if_neg h] at he ⊢
    obtain ⟨h1, h2⟩ := scanT_good hl (l.length + 1) 0 [] (by simp) zL (Nat.zero_le _) he
    exact ⟨h1, by omega, by omega⟩
end Go.Proofs.YtdkoafmgenbkbaaGreatDoor
namespace Go.Proofs.YtdkoafmgenbkbaaGreatDoor
open Go.RowKit
def ENode.Is (w : World) (B : Nat) (x : List Value) (d : EN) : Prop := ∃ kv, x = [.int .i64 (d.kind : Int), .string (txt d.text), .int .i64 d.num, kv] ∧ SlR w B 1 IsNat kv d.kids
theorem EL.read {X : World} {B : Nat} {v : Value} {es : List (EN × Value)} (h : EL X B v es) : SlR X X.heap.size 4 (ENode.Is X X.heap.size) v (es.map (·.1)) := by
  obtain ⟨a, c, rfl, h1, h2, h3⟩ := h.main.read (by omega)
  refine ⟨a, c, by rw [List.length_map], by rw [List.length_map]; exact h1, h2, fun hl => ?_⟩
  rw [List.length_map] at hl
  obtain ⟨b, off, hb, hlt, hat⟩ := h3 hl
  refine ⟨b, off, hb, hlt, fun i y hy => ?_⟩
  rw [List.getElem?_map] at hy
  cases he : es[i]? with
  | none => rw [he] at hy; cases hy
  | some p =>
    rw [he] at hy
    injection hy with hy
    subst hy
    obtain ⟨x, hx, ⟨hR, _⟩, hc⟩ := hat i p he
    exact ⟨x, hx, ⟨p.2, hR, (h.kids i p he).read (by omega)⟩, hc⟩
def ParseIs (w : World) (R : List EN × Nat × Nat) (e : Ending) (w' : World) : Prop :=
  ∃ v, e = .returned (.tuple #[.agg #[v], .int .i64 (R.2.1 : Int), .int .i64 (R.2.2 : Int)]) ∧ SlR w' w'.heap.size 4 (ENode.Is w' w'.heap.size) v R.1 ∧ Below w.heap.size w w'
theorem parse8_any (s : ByteArray) (hs : s.size ≤ maxLen) (w : World) (hm : Marks w) (hg : Signs w) : Calls Tryz.prog 29 #[.string s] w (ParseIs w (parseN (bs s))) := by
  have hmf : ∀ (fn : Fn) (first cap : Array Value) (w : World), (Instr.makeFunc fn first cap).run Tryz.prog w = .ok (.func fn first cap) w := fun _ _ _ _ => rfl
  have HS := zH (fun W (hW : Below w.heap.size w W) => scan_any s hs W (hm.below hW))
  have HG := zH hg
  have h1w : 3 < w.heap.size := by
    obtain ⟨t, fr, h⟩ := signs_block hg
    rcases Nat.lt_or_ge 3 w.heap.size with h0 | h0
    · exact h0
    · rw [Array.getElem?_eq_none h0] at h; cases h
  have B0 : Hid (Below w.heap.size w (((w.alloc (.cells #[.slice none 0 0] 37)).alloc (.cells #[.int .i64 0] 3)).alloc (.cells #[.int .i64 0] 26))) := zH (((zB.alloc zL _).alloc (by simp) _).alloc (by simp; omega) _)
  have X0 := zH (Bx.new w)
  obtain ⟨R, hR⟩ : ∃ R, scanN (bs s) = R := ⟨_, rfl⟩
  by_cases he : R.2.2 = 0
  · have hgd := scan_good (bs_bytes s) (by rw [hR]; exact he)
    have hpl := scan_place (l := bs s)
    rw [hR] at hgd hpl HS
    obtain ⟨toks, at_, err⟩ := R
    simp only at he hgd hpl
    subst he
    obtain ⟨hgood, hfew, hs4⟩ := hgd
    obtain ⟨R2, hR2⟩ : ∃ R2, parseN (bs s) = R2 := ⟨_, rfl⟩
    rw [hR2]
    obtain ⟨sz, hsz⟩ : ∃ z, s.size = z := ⟨_, rfl⟩
    have hbl : (bs s).length = sz := by rw [bs_len, hsz]
    have HGD := zH hgood
    have HPL := zH hpl
    have HFW := zH hfew
    have hsz5 : (sz : Int) ≤ 5000 := by rw [hbl] at hs4; omega
    have HSZ := zH hsz
    -- what the grammar says of it
    have hpn : ∀ r, pL toks (12 * toks.length + 10) 1 0 = r → R2 = (match r.bind (fun t i => if i < toks.length then PR.no i else .ok t i) with
        | .ok t _ => if 256 < t.size ∨ 32 < t.deep then ([], 0, 4) else (t.flat 0, 0, 0)
        | .no i => ([], (match toks[i]? with | some x => x.place.toNat | none => sz), 80)
        | .out => ([], 0, 0)) := by
      intro r hr
      rw [← hR2, ← hr]
      unfold parseN parseT
      rw [hR, if_neg (by simp)]
      simp only [hbl]
      rfl
    have HPN := zH hpn
    obtain ⟨r, hrr⟩ : ∃ r, pL toks (12 * toks.length + 10) 1 0 = r := ⟨_, rfl⟩
    have hin := parse_told toks
    rw [hrr] at hin
    have HR2 := zH (hpn r hrr)
    have HT : Hid (∀ (q : Nat) (a : Option Addr) (c : Nat) (X : World), PSt q a c sz toks 0 X → Calls Tryz.prog 51 #[.pointer (some ⟨q, 0, none⟩)] X (Reads q a c sz toks X r)) := zH (fun q a c X h => by rw [← hrr]; exact p_top h)
    clear hm hg hR hgood hpl hfew hs4 hR2 hbl hpn HPN hrr
    -- the state in which the parser begins
    have HP : Hid (∀ (w1 : World) (a : Option Addr) (n c : Nat), Own1 w1 (((w.alloc (.cells #[.slice none 0 0] 37)).alloc (.cells #[.int .i64 0] 3)).alloc (.cells #[.int .i64 0] 26)).heap.size 127 4 Tok.Is (.slice a n c) toks → Below w.heap.size w w1 → Bx w1 w.heap.size (.slice none 0 0) 0 0 →
        ∀ X1, X1 = ((w1.setCell ⟨w.heap.size + 1, 0, none⟩ (.int .i64 (at_ : Int))).setCell ⟨w.heap.size + 1 + 1, 0, none⟩ (.int .i64 0)).alloc (.cells #[.slice a n c, .int .i64 0, .int .i64 (sz : Int)] 110) →
        n = toks.length ∧ PSt w1.heap.size a c sz toks 0 X1 ∧ Bx X1 w.heap.size (.slice none 0 0) at_ 0 ∧ Below w.heap.size w X1 ∧ w.heap.size + 2 < w1.heap.size) := zH (fun w1 a n c hO hB hX X1 hX1 => by
      subst hX1
      obtain ⟨a', c', hform⟩ := hO.form
      injection hform with _ e2 _
      subst e2
      have h2 := hX.set2 (at_ : Int) 0
      have lb := hX.err.lt
      have hO2 : Own1 ((w1.setCell ⟨w.heap.size + 1, 0, none⟩ (.int .i64 (at_ : Int))).setCell ⟨w.heap.size + 1 + 1, 0, none⟩ (.int .i64 0)) (((w.alloc (.cells #[.slice none 0 0] 37)).alloc (.cells #[.int .i64 0] 3)).alloc (.cells #[.int .i64 0] 26)).heap.size 127 4 Tok.Is (.slice a toks.length c) toks := (hO.setFar (by simp) _).setFar (by simp) _
      have hsz2 : ((w1.setCell ⟨w.heap.size + 1, 0, none⟩ (.int .i64 (at_ : Int))).setCell ⟨w.heap.size + 1 + 1, 0, none⟩ (.int .i64 0)).heap.size = w1.heap.size := by rw [World.size_setCell, World.size_setCell]
      have hR := hO2.read (by omega)
      rw [hsz2] at hR
      have ba := (Below.refl w1.heap.size ((w1.setCell ⟨w.heap.size + 1, 0, none⟩ (.int .i64 (at_ : Int))).setCell ⟨w.heap.size + 1 + 1, 0, none⟩ (.int .i64 0))).alloc (Nat.le_of_eq hsz2.symm) (.cells #[.slice a toks.length c, .int .i64 0, .int .i64 (sz : Int)] 110)
      have bw := (hB.trans h2.2).trans (ba.mono hB.size)
      refine ⟨rfl, ⟨hR.below ba, Blk.new_ hsz2.symm _ _, by omega, ?_, Nat.zero_le _, by have := HFW.out; omega, HGD.out⟩, h2.1.below ba lb, bw, lb⟩
      exact HG.out.of_block (bw.block 3 h1w))
    cases r with
    | out => exact absurd hin (by simp [PR.In])
    | no i =>
      have hres : R2 = ([], (match toks[i]? with | some x => x.place.toNat | none => sz), 80) := HR2.out
      obtain ⟨k, hk⟩ : ∃ k : Nat, placeAt toks sz i = (k : Int) ∧ (match toks[i]? with | some x => x.place.toNat | none => sz) = k := by
        unfold placeAt
        cases hx : toks[i]? with
        | none => exact ⟨sz, rfl, rfl⟩
        | some x =>
          have h0 := HPL.out x (List.mem_iff_getElem?.2 ⟨i, hx⟩)
          exact ⟨x.place.toNat, by simp only; omega, rfl⟩
      rw [hk.2] at hres
      subst hres
      have HK := zH hk.1
      clear hk hin HR2
      go_enter_defers Tryz.func29, Tryz.ntmps29
      go_wp2_with (first
        | (go_at_call 49; refine (HS.out _ B0.out).mono ?_; rintro e w1 ⟨a, n, c, rfl, hO, hB⟩; have X1 := zH (X0.out.below hB (by simp)); have B1 : Hid (Below w.heap.size w w1) := zH (B0.out.trans (hB.mono B0.out.size)); have O1 := zH hO; obtain ⟨c0, c1, c2, z0, z1, z2, lb⟩ := X1.out.cells; clear hO hB))
      generalize hwq : World.alloc (World.setCell (World.setCell _ _ _) _ _) _ = W2
      obtain ⟨rfl, hp, hx, hb, lbw⟩ := HP.out w1 a n c O1.out B1.out X1.out W2 (by rw [← hwq])
      clear hwq c0 c1 c2 z0 z1 z2 lb O1 X1 B0 X0
      have P2 := zH hp
      have X2 := zH hx
      have B2 := zH hb
      have LBW := zH lbw
      clear hp hx hb lbw
      refine (HT.out _ _ _ _ P2.out).mono ?_
      rintro e w5 ⟨rfl, h5⟩
      have q2 : w.heap.size + 2 < w1.heap.size := LBW.out
      have X5 := X2.out.below h5.low q2
      have B5 : Below w.heap.size w w5 := B2.out.trans (h5.low.mono (by omega))
      rw [HK.out]
      clear P2 X2 B2 HT HP HS HPL HGD
      refine leaves_cons (f := 50) (args := #[.pointer (some ⟨w.heap.size, 0, none⟩), .pointer (some ⟨w.heap.size + 1, 0, none⟩), .pointer (some ⟨w.heap.size + 1 + 1, 0, none⟩)]) (by simp) (by simp [go_sem]) ?_
      refine (catch_wrong w.heap.size (k : Int) _ _ [] w5 _ ⟨_, _, _, rfl⟩ X5).mono ?_
      rintro e u' wf ⟨rfl, rfl, hBf, hKf⟩
      obtain ⟨c0, c1, c2, z0, z1, z2, lb⟩ := hKf.cells
      have c2' : wf.cell? ⟨w.heap.size + 1 + 1, 0, none⟩ = some (.int .i64 80) := c2
      have HF : Hid (Below w.heap.size w wf) := zH (B5.trans hBf)
      clear c2 hBf hKf X5 B5 z0 z1 z2 lb
      simp [Leaves, settle, results, Tryz.results29, go_sem, c0, c1, c2']
      exact ⟨.slice none 0 0, rfl, SlR.nil_ _ (by unfold maxLen; omega) _, HF.out⟩
    | ok t j =>
      obtain ⟨tl, htl⟩ : ∃ z, toks.length = z := ⟨_, rfl⟩
      have Htl := zH htl
      simp only [PR.In] at hin
      obtain ⟨hin1, hin2, hin3⟩ := hin
      have hfew5 := HFW.out
      rw [htl] at hin2 hfew5
      have j5 : (j : Int) ≤ 5000 := by omega
      have tl63 : tl ≤ 9223372036854775807 := by omega
      clear htl
      by_cases hlt : j < tl
      · obtain ⟨x, hx⟩ := get_some Htl.out hlt
        have hplx := HPL.out x (List.mem_iff_getElem?.2 ⟨j, hx⟩)
        obtain ⟨k, hk⟩ : ∃ k : Nat, x.place = (k : Int) := ⟨x.place.toNat, by omega⟩
        have hres : R2 = ([], k, 80) := by
          have h0 := HR2.out
          simp only [PR.bind] at h0
          rw [if_pos (by rw [Htl.out]; exact hlt)] at h0
          simp only [hx, hk, Int.toNat_natCast] at h0
          exact h0
        subst hres
        have HK : Hid (placeAt toks sz j = (k : Int)) := zH (by unfold placeAt; rw [hx]; exact hk)
        have dlt : decide (j < tl) = true := by simpa using hlt
        clear hx hplx hk hlt HR2
        go_enter_defers Tryz.func29, Tryz.ntmps29
        go_wp2_with (first
          | (go_at_call 49; refine (HS.out _ B0.out).mono ?_; rintro e w1 ⟨a, n, c, rfl, hO, hB⟩; have X1 := zH (X0.out.below hB (by simp)); have B1 : Hid (Below w.heap.size w w1) := zH (B0.out.trans (hB.mono B0.out.size)); have O1 := zH hO; obtain ⟨c0, c1, c2, z0, z1, z2, lb⟩ := X1.out.cells; clear hO hB))
        generalize hwq : World.alloc (World.setCell (World.setCell _ _ _) _ _) _ = W2
        obtain ⟨rfl, hp, hx, hb, lbw⟩ := HP.out w1 a n c O1.out B1.out X1.out W2 (by rw [← hwq])
        clear hwq c0 c1 c2 z0 z1 z2 lb O1 X1 B0 X0
        have P2 := zH hp
        have X2 := zH hx
        have B2 := zH hb
        have LBW := zH lbw
        clear hp hx hb lbw
        refine (HT.out _ _ _ _ P2.out).mono ?_
        rintro e w5 h5
        obtain ⟨g, rfl, hT5, hM5, hP5⟩ := h5.get
        have T5 := zH hT5
        have M5 := zH hM5
        have P5 := zH hP5
        obtain ⟨g0, g1, g2, g3, g4⟩ := hP5.facts
        rw [Htl.out] at g0 ⊢
        have X5 := zH (X2.out.below hM5.low LBW.out)
        have B5 : Hid (Below w.heap.size w w5) := zH (B2.out.trans (hM5.low.mono (by have := LBW.out; omega)))
        clear h5 hT5 hM5 hP5 g2 g3 X2 B2 P2
        go_wp2_with fail
        go_quiet (fail)
        rename_i nq
        have Q6 : Hid (Quiet w5 (w5.drewN nq)) := zH ⟨nq, rfl⟩
        go_wp2_with (first
          | (go_at_call 52; refine (p_give (P5.out.quiet Q6.out)).mono ?_; rintro e w6 ⟨rfl, q6⟩; have Q7 := zH (Q6.out.trans q6); clear q6))
        have lq5 : w.heap.size + 2 < w5.heap.size := by have := LBW.out; have := M5.out.low.size; have := P5.out.box.lt; omega
        have X6 := X5.out.below (Q7.out.below w5.heap.size) lq5
        have B6 : Below w.heap.size w w6 := B5.out.trans (Q7.out.below _)
        rw [HK.out]
        refine leaves_cons (f := 50) (args := #[.pointer (some ⟨w.heap.size, 0, none⟩), .pointer (some ⟨w.heap.size + 1, 0, none⟩), .pointer (some ⟨w.heap.size + 1 + 1, 0, none⟩)]) (by simp) (by simp [go_sem]) ?_
        refine (catch_wrong w.heap.size (k : Int) _ _ [] w6 _ ⟨_, _, _, rfl⟩ X6).mono ?_
        rintro e u' wf ⟨rfl, rfl, hBf, hKf⟩
        obtain ⟨c0, c1, c2, z0, z1, z2, lb⟩ := hKf.cells
        have c2' : wf.cell? ⟨w.heap.size + 1 + 1, 0, none⟩ = some (.int .i64 80) := c2
        have HF : Hid (Below w.heap.size w wf) := zH (B6.trans hBf)
        clear c2 hBf hKf X6 B6 z0 z1 z2 lb g0 g1 g4 HT HP HS HPL HGD
        simp [Leaves, settle, results, Tryz.results29, go_sem, c0, c1, c2']
        exact ⟨.slice none 0 0, rfl, SlR.nil_ _ (by unfold maxLen; omega) _, HF.out⟩
      · have hjt : j = tl := by omega
        subst hjt
        clear hlt
        have hres : R2 = if 256 < t.size ∨ 32 < t.deep then ([], 0, 4) else (t.flat 0, 0, 0) := by
          have h0 := HR2.out
          simp only [PR.bind] at h0
          rw [if_neg (by rw [Htl.out]; omega)] at h0
          exact h0
        have dlt : decide (j < j) = false := by simp
        have HRES := zH hres
        have hsz5 : t.size ≤ 5000 := by omega
        have hdp5 : t.deep ≤ 5000 := by have := deep_le t; omega
        have HTS := zH hsz5
        clear hres HR2
        go_enter_defers Tryz.func29, Tryz.ntmps29
        go_wp2_with (first
          | (go_at_call 49; refine (HS.out _ B0.out).mono ?_; rintro e w1 ⟨a, n, c, rfl, hO, hB⟩; have X1 := zH (X0.out.below hB (by simp)); have B1 : Hid (Below w.heap.size w w1) := zH (B0.out.trans (hB.mono B0.out.size)); have O1 := zH hO; obtain ⟨c0, c1, c2, z0, z1, z2, lb⟩ := X1.out.cells; clear hO hB))
        generalize hwq : World.alloc (World.setCell (World.setCell _ _ _) _ _) _ = W2
        obtain ⟨rfl, hp, hx, hb, lbw⟩ := HP.out w1 a n c O1.out B1.out X1.out W2 (by rw [← hwq])
        clear hwq c0 c1 c2 z0 z1 z2 lb O1 X1 B0 X0
        have P2 := zH hp
        have X2 := zH hx
        have B2 := zH hb
        have LBW := zH lbw
        clear hp hx hb lbw
        refine (HT.out _ _ _ _ P2.out).mono ?_
        rintro e w5 h5
        obtain ⟨g, rfl, hT5, hM5, hP5⟩ := h5.get
        have T5 := zH hT5
        have M5 := zH hM5
        have P5 := zH hP5
        obtain ⟨g0, g1, g2, g3, g4⟩ := hP5.facts
        rw [Htl.out] at g0 ⊢
        have X5 := zH (X2.out.below hM5.low LBW.out)
        have B5 : Hid (Below w.heap.size w w5) := zH (B2.out.trans (hM5.low.mono (by have := LBW.out; omega)))
        clear h5 hT5 hM5 hP5 g2 g3 X2 B2 P2
        go_wp2_with fail
        go_quiet (fail)
        rename_i nq
        have Q6 : Hid (Quiet w5 (w5.drewN nq)) := zH ⟨nq, rfl⟩
        have HFL := zH (p_flat _ w5 t.size t g (w5.drewN nq) (.slice none 0 0) [] zL T5.out (Q6.out.below _) (EL.nil _ _) (by simpa using HTS.out))
        have LQ5 : Hid (w.heap.size + 2 < w5.heap.size) := zH (by have := LBW.out; have := M5.out.low.size; have := P5.out.box.lt; omega)
        obtain ⟨dp, hdp⟩ : ∃ z, t.deep = z := ⟨_, rfl⟩
        obtain ⟨n6, hn6⟩ : ∃ z, t.size = z := ⟨_, rfl⟩
        rw [hdp, hn6] at HRES
        rw [hdp] at hdp5
        rw [hn6] at hsz5
        have HDP := zH hdp
        have HN6 := zH hn6
        clear hdp hn6 g0 g1 g4 HTS
        go_wp2_with (first
          | (go_at_call 53; refine HFL.out.mono ?_; rintro e w6 ⟨v6, es6, rfl, hE6, hm6, hB6⟩; rw [List.nil_append] at hE6; obtain ⟨a6, c6, rfl⟩ := hE6.main.form; have hl6 : es6.length = n6 := by have := congrArg List.length hm6; rw [List.length_map, trFlat_len, HN6.out] at this; exact this
             rw [hl6] at hE6 ⊢; rw [HDP.out]; have E6 := zH hE6; have HM6 : Hid (es6.map (·.1) = t.flat 0) := zH hm6; have hx6 := (X5.out.below (Q6.out.below w5.heap.size) LQ5.out).below hB6 LQ5.out; have X6 := zH hx6; have B6 : Hid (Below w.heap.size w w6) := zH ((B5.out.trans (Q6.out.below _)).trans (hB6.mono (by have := LQ5.out; omega))); obtain ⟨y0, y1, y2', x0, x1, x2', ly2'⟩ := hx6.cells; have y2 : w6.cell? ⟨w.heap.size + 1 + 1, 0, none⟩ = some (.int .i64 0) := y2'; have x2 : w6.frozen? ⟨w.heap.size + 1 + 1, 0, none⟩ = false := x2'; have ly2 : w.heap.size + 1 + 1 < w6.heap.size := ly2'; have ly1 : w.heap.size + 1 < w6.heap.size := by omega
             have ly : w.heap.size < w6.heap.size := by omega
             clear hE6 hm6 hx6 hB6 hl6 y2' x2' ly2'))
        · have hr := HRES.out
          rw [if_pos (by omega)] at hr
          subst hr
          generalize hwq : World.setCell (World.setCell (World.setCell _ _ _) _ _) _ _ = W7
          have hs7 := X6.out.set (.slice none 0 0) 0 4
          have h7 : Bx W7 w.heap.size (.slice none 0 0) 0 4 ∧ Below w.heap.size w6 W7 := by rw [← hwq]; exact hs7
          have E7 : EL W7 w5.heap.size (.slice a6 n6 c6) es6 := by
            rw [← hwq]
            have far : ∀ (p : Addr) (u : Value) (Y : World), p.block < w5.heap.size → EL Y w5.heap.size (.slice a6 n6 c6) es6 → EL (Y.setCell p u) w5.heap.size (.slice a6 n6 c6) es6 := fun p u Y hp h => ⟨h.main.setFar hp u, fun i x hx => (h.kids i x hx).setFar hp u, h.apart⟩
            exact far _ _ _ (by show w.heap.size + 2 < _; exact LQ5.out) (far _ _ _ (by show w.heap.size + 1 < _; have := LQ5.out; omega) (far _ _ _ (by show w.heap.size < _; have := LQ5.out; omega) E6.out))
          have B7 : Hid (Below w.heap.size w W7) := zH (B6.out.trans h7.2)
          have hrd := E7.read
          rw [HM6.out] at hrd
          obtain ⟨c0, c1, c2, z0, z1, z2, lb⟩ := h7.1.cells
          have c2' : W7.cell? ⟨w.heap.size + 1 + 1, 0, none⟩ = some (.int .i64 4) := c2
          clear hwq hs7 c2 z0 z1 z2 lb h7 y0 y1 y2 x0 x1 x2 ly ly1 ly2
          refine leaves_cons (f := 50) (args := #[.pointer (some ⟨w.heap.size, 0, none⟩), .pointer (some ⟨w.heap.size + 1, 0, none⟩), .pointer (some ⟨w.heap.size + 1 + 1, 0, none⟩)]) (by simp) (by simp [go_sem]) ?_
          refine (catch_idle _ _ _ _).mono ?_
          rintro e u' wf ⟨rfl, rfl, rfl⟩
          simp [Leaves, settle, results, Tryz.results29, go_sem, c0, c1, c2']
          exact ⟨(.slice none 0 0), rfl, SlR.nil_ _ (by unfold maxLen; omega) _, B7.out⟩
        · have hr := HRES.out
          rw [if_neg (by omega)] at hr
          subst hr
          generalize hwq : World.setCell (World.setCell (World.setCell _ _ _) _ _) _ _ = W7
          have hs7 := X6.out.set (.slice a6 n6 c6) 0 0
          have h7 : Bx W7 w.heap.size (.slice a6 n6 c6) 0 0 ∧ Below w.heap.size w6 W7 := by rw [← hwq]; exact hs7
          have E7 : EL W7 w5.heap.size (.slice a6 n6 c6) es6 := by
            rw [← hwq]
            have far : ∀ (p : Addr) (u : Value) (Y : World), p.block < w5.heap.size → EL Y w5.heap.size (.slice a6 n6 c6) es6 → EL (Y.setCell p u) w5.heap.size (.slice a6 n6 c6) es6 := fun p u Y hp h => ⟨h.main.setFar hp u, fun i x hx => (h.kids i x hx).setFar hp u, h.apart⟩
            exact far _ _ _ (by show w.heap.size + 2 < _; exact LQ5.out) (far _ _ _ (by show w.heap.size + 1 < _; have := LQ5.out; omega) (far _ _ _ (by show w.heap.size < _; have := LQ5.out; omega) E6.out))
          have B7 : Hid (Below w.heap.size w W7) := zH (B6.out.trans h7.2)
          have hrd := E7.read
          rw [HM6.out] at hrd
          obtain ⟨c0, c1, c2, z0, z1, z2, lb⟩ := h7.1.cells
          have c2' : W7.cell? ⟨w.heap.size + 1 + 1, 0, none⟩ = some (.int .i64 0) := c2
          clear hwq hs7 c2 z0 z1 z2 lb h7 y0 y1 y2 x0 x1 x2 ly ly1 ly2
          refine leaves_cons (f := 50) (args := #[.pointer (some ⟨w.heap.size, 0, none⟩), .pointer (some ⟨w.heap.size + 1, 0, none⟩), .pointer (some ⟨w.heap.size + 1 + 1, 0, none⟩)]) (by simp) (by simp [go_sem]) ?_
          refine (catch_idle _ _ _ _).mono ?_
          rintro e u' wf ⟨rfl, rfl, rfl⟩
          simp [Leaves, settle, results, Tryz.results29, go_sem, c0, c1, c2']
          exact ⟨(.slice a6 n6 c6), rfl, hrd, B7.out⟩
        · have hr := HRES.out
          rw [if_pos (by omega)] at hr
          subst hr
          generalize hwq : World.setCell (World.setCell (World.setCell _ _ _) _ _) _ _ = W7
          have hs7 := X6.out.set (.slice none 0 0) 0 4
          have h7 : Bx W7 w.heap.size (.slice none 0 0) 0 4 ∧ Below w.heap.size w6 W7 := by rw [← hwq]; exact hs7
          have E7 : EL W7 w5.heap.size (.slice a6 n6 c6) es6 := by
            rw [← hwq]
            have far : ∀ (p : Addr) (u : Value) (Y : World), p.block < w5.heap.size → EL Y w5.heap.size (.slice a6 n6 c6) es6 → EL (Y.setCell p u) w5.heap.size (.slice a6 n6 c6) es6 := fun p u Y hp h => ⟨h.main.setFar hp u, fun i x hx => (h.kids i x hx).setFar hp u, h.apart⟩
            exact far _ _ _ (by show w.heap.size + 2 < _; exact LQ5.out) (far _ _ _ (by show w.heap.size + 1 < _; have := LQ5.out; omega) (far _ _ _ (by show w.heap.size < _; have := LQ5.out; omega) E6.out))
          have B7 : Hid (Below w.heap.size w W7) := zH (B6.out.trans h7.2)
          have hrd := E7.read
          rw [HM6.out] at hrd
          obtain ⟨c0, c1, c2, z0, z1, z2, lb⟩ := h7.1.cells
          have c2' : W7.cell? ⟨w.heap.size + 1 + 1, 0, none⟩ = some (.int .i64 4) := c2
          clear hwq hs7 c2 z0 z1 z2 lb h7 y0 y1 y2 x0 x1 x2 ly ly1 ly2
          refine leaves_cons (f := 50) (args := #[.pointer (some ⟨w.heap.size, 0, none⟩), .pointer (some ⟨w.heap.size + 1, 0, none⟩), .pointer (some ⟨w.heap.size + 1 + 1, 0, none⟩)]) (by simp) (by simp [go_sem]) ?_
          refine (catch_idle _ _ _ _).mono ?_
          rintro e u' wf ⟨rfl, rfl, rfl⟩
          simp [Leaves, settle, results, Tryz.results29, go_sem, c0, c1, c2']
          exact ⟨(.slice none 0 0), rfl, SlR.nil_ _ (by unfold maxLen; omega) _, B7.out⟩
  · have hp : parseN (bs s) = ([], R.2.1, R.2.2) := by unfold parseN; rw [hR, if_pos he]
    rw [hp]
    clear hp hm hg
    rw [hR] at HS
    obtain ⟨toks, at_, err⟩ := R
    simp only at he ⊢
    have e1 : ((err : Int) != 0) = true := by simp; omega
    have e2 : ¬ (err : Int) = 0 := by omega
    clear he hR
    go_enter_defers Tryz.func29, Tryz.ntmps29
    go_wp2_with (first
      | (go_at_call 49; refine (HS.out _ B0.out).mono ?_; rintro e w1 ⟨a, n, c, rfl, hO, hB⟩; have X1 := zH (X0.out.below hB (by simp)); have B1 : Hid (Below w.heap.size w w1) := zH (B0.out.trans (hB.mono B0.out.size)); obtain ⟨c0, c1, c2, z0, z1, z2, lb⟩ := X1.out.cells; clear hO hB))
    generalize hwq : World.setCell (World.setCell _ _ _) _ _ = W2
    have hX2 := X1.out.set2 (at_ : Int) (err : Int)
    have h2 : Bx W2 w.heap.size (.slice none 0 0) at_ err ∧ Below w.heap.size w1 W2 := by rw [← hwq]; exact hX2
    clear hwq hX2 c0 c1 c2 z0 z1 z2 lb X0 B0
    have X2 := zH h2.1
    have B2 : Hid (Below w.heap.size w W2) := zH (B1.out.trans h2.2)
    obtain ⟨c0, c1, c2, z0, z1, z2, lb⟩ := h2.1.cells
    clear h2 X1 B1
    have c2' : W2.cell? ⟨w.heap.size + 1 + 1, 0, none⟩ = some (.int .i64 (err : Int)) := c2
    have z2' : W2.frozen? ⟨w.heap.size + 1 + 1, 0, none⟩ = false := z2
    have lb' : w.heap.size + 1 + 1 < W2.heap.size := lb
    have lb1 : w.heap.size + 1 < W2.heap.size := by omega
    have lb0 : w.heap.size < W2.heap.size := by omega
    clear c2 z2 lb
    go_region
    generalize hwq : World.drew _ = W3
    have hX3 := X2.out.set (.slice none 0 0) (at_ : Int) (err : Int)
    have h3 : Bx W3 w.heap.size (.slice none 0 0) at_ err ∧ Below w.heap.size W2 W3 := by rw [← hwq]; exact ⟨hX3.1.below (zB.drew) hX3.1.err.lt, hX3.2.drew⟩
    clear hwq hX3 c0 c1 c2' z0 z1 z2' lb' lb1 lb0 X2
    obtain ⟨c0, c1, c2, z0, z1, z2, lb⟩ := h3.1.cells
    have c2' : W3.cell? ⟨w.heap.size + 1 + 1, 0, none⟩ = some (.int .i64 (err : Int)) := c2
    have B3 : Hid (Below w.heap.size w W3) := zH (B2.out.trans h3.2)
    clear h3 c2 z0 z1 z2 lb
    go_wp2_with fail
    simp [bodyPostD, Leaves, settle, results, Tryz.results29, go_sem, c0, c1, c2']
    exact ⟨.slice none 0 0, rfl, SlR.nil_ _ (by unfold maxLen; omega) _, B3.out⟩
end Go.Proofs.YtdkoafmgenbkbaaGreatDoor
namespace Go.Proofs.YtdkoafmgenbkbaaGreatDoor
open Go.RowKit
section
variable {q : Nat} {a : Option Addr} {c sz : Nat} {l : List Tok} {i : Nat} {bad : Int} {es : List (EN × Value)} {X : World}
theorem EL.setFar {Y : World} {B : Nat} {v : Value} (h : EL Y B v es) {p : Addr} (hp : p.block < B) (u : Value) : EL (Y.setCell p u) B v es := ⟨h.main.setFar hp u, fun j x hx => (h.kids j x hx).setFar hp u, h.apart⟩
theorem EL.keep {Y Y' : World} {B C : Nat} {v : Value} (h : EL Y B v es) (hb : Below C Y Y') (hC : Y.heap.size ≤ C) : EL Y' B v es := ⟨h.main.below hb hC, fun j x hx => (h.kids j x hx).below hb hC, h.apart⟩
end
end Go.Proofs.YtdkoafmgenbkbaaGreatDoor
namespace Go.Proofs.YtdkoafmgenbkbaaGreatDoor
open Go.RowKit
structure ND where
  kind : Int
  text : List Nat
  num : Int
  kids : List Int
  deriving DecidableEq
def IsI (x : List Value) (n : Int) : Prop := x = [.int .i64 n]
def ND.Is (w : World) (B : Nat) (x : List Value) (d : ND) : Prop := ∃ kv, x = [.int .i64 d.kind, .string (txt d.text), .int .i64 d.num, kv] ∧ SlR w B 1 IsI kv d.kids
def EN.nd (d : EN) : ND := ⟨d.kind, d.text, d.num, d.kids.map fun n : Nat => (n : Int)⟩
theorem SlR.map_ {α β : Type} {w : World} {B size : Nat} {R : List Value → α → Prop} {R' : List Value → β → Prop} {v : Value} {l : List α} (f : α → β) (h : SlR w B size R v l) (hR : ∀ x y, R x y → R' x (f y)) : SlR w B size R' v (l.map f) := by
  obtain ⟨a, c, e1, e2, e3, e4⟩ := h
  refine ⟨a, c, by rw [List.length_map]; exact e1, by rw [List.length_map]; exact e2, e3, fun hl => ?_⟩
  rw [List.length_map] at hl
  obtain ⟨b, off, k1, k2, k3⟩ := e4 hl
  refine ⟨b, off, k1, k2, fun i y hy => ?_⟩
  rw [List.getElem?_map] at hy
  obtain ⟨z, hz, rfl⟩ := Option.map_eq_some_iff.1 hy
  obtain ⟨x, m1, m2, m3⟩ := k3 i z hz
  exact ⟨x, m1, hR x z m2, m3⟩
theorem ENode.nd {w : World} {B : Nat} {x : List Value} {d : EN} (h : ENode.Is w B x d) : ND.Is w B x d.nd := by
  obtain ⟨kv, rfl, h2⟩ := h
  exact ⟨kv, rfl, h2.map_ _ (fun x y h => h)⟩
theorem ND.keep {w w' : World} {B : Nat} {x : List Value} {d : ND} (h : ND.Is w B x d) (hb : Below B w w') : ND.Is w' B x d := by
  obtain ⟨kv, h1, h2⟩ := h
  exact ⟨kv, h1, h2.below hb⟩
theorem ND.more {w : World} {B B' : Nat} {x : List Value} {d : ND} (h : ND.Is w B x d) (hb : B ≤ B') : ND.Is w B' x d := by
  obtain ⟨kv, h1, h2⟩ := h
  exact ⟨kv, h1, h2.more hb⟩
def NdOk (d : ND) : Prop := Bytes d.text ∧ d.text.length ≤ 140737488355328 ∧ -9223372036854775808 ≤ d.num ∧ d.num ≤ 9223372036854775807
def kidsN (k : Int) : Int := if 1 ≤ k ∧ k ≤ 7 then 0 else if (8 ≤ k ∧ k ≤ 19) ∨ k = 29 then 1 else if (20 ≤ k ∧ k ≤ 28) ∨ (31 ≤ k ∧ k ≤ 34) then 2 else if k = 30 then 3 else -1
def namedL : List Int := [7, 8, 9, 10, 12, 13, 31, 32, 33, 34]
def plain8N (s : List Nat) : Bool := rightN s && !decide (s ∈ wordsL)
def mayE (d : ND) : Bool :=
  decide (kidsN d.kind = (d.kids.length : Int)) && !(decide (d.num ≠ 0) && decide (d.kind ≠ 1)) && !decide (d.num = -9223372036854775808) &&
    (if d.kind ∈ namedL then plain8N d.text else decide (d.text = []) || (decide (d.kind = 2) && decide (d.text.length ≤ 4096)))
def metL (g : Nat → Option (Nat × Nat)) : List Int → Nat → Nat → Option (Nat × Nat)
  | [], n, dp => some (dp, n)
  | k :: ks, n, dp => if k = (n : Int) then (match g n with | none => none | some r => metL g ks r.2 (max dp r.1)) else none
def metN (l : List ND) : Nat → Nat → Option (Nat × Nat)
  | 0, _ => none
  | f + 1, m => match l[m]? with
    | none => none
    | some d => if mayE d = true then (metL (metN l f) d.kids (m + 1) 0).map fun r => (r.1 + 1, r.2) else none
def rightE (l : List ND) : Nat :=
  if 256 < l.length then 4
  else match metN l l.length 0 with
    | none => 80
    | some r => if r.2 ≠ l.length then 80 else if 32 < r.1 then 4 else 0
theorem metL_in {l : List ND} {g : Nat → Option (Nat × Nat)} (hg : ∀ n r, g n = some r → n < r.2 ∧ r.2 ≤ l.length ∧ 1 ≤ r.1 ∧ r.1 + n ≤ r.2) : ∀ (ks : List Int) (n dp : Nat) (r : Nat × Nat), n ≤ l.length → metL g ks n dp = some r → n ≤ r.2 ∧ r.2 ≤ l.length ∧ dp ≤ r.1 ∧ (r.1 ≤ dp ∨ r.1 + n ≤ r.2)
  | [], n, dp, r, hn, h => by simp only [metL] at h; injection h with h; subst h; simp; exact hn
  | k :: ks, n, dp, r, hn, h => by
    simp only [metL] at h
    split at h
    · split at h
      · cases h
      · rename_i x hx
        obtain ⟨h1, h2, h3, h4⟩ := hg n x hx
        obtain ⟨k1, k2, k3, k4⟩ := metL_in hg ks x.2 (max dp x.1) r h2 h
        refine ⟨by omega, k2, by omega, ?_⟩
        rcases k4 with k4 | k4 <;> omega
    · cases h
theorem metN_in (l : List ND) : ∀ (f m : Nat) (r : Nat × Nat), metN l f m = some r → m < r.2 ∧ r.2 ≤ l.length ∧ 1 ≤ r.1 ∧ r.1 + m ≤ r.2
  | 0, m, r, h => by simp only [metN] at h; cases h
  | f + 1, m, r, h => by
    simp only [metN] at h
    cases hd : l[m]? with
    | none => rw [hd] at h; cases h
    | some d =>
      rw [hd] at h
      have hm := (List.getElem?_eq_some_iff.1 hd).1
      simp only at h
      split at h
      · obtain ⟨x, hx, rfl⟩ := Option.map_eq_some_iff.1 h
        obtain ⟨k1, k2, k3, k4⟩ := metL_in (l := l) (fun n r hr => metN_in l f n r hr) d.kids (m + 1) 0 x hm hx
        simp only
        refine ⟨by omega, k2, by omega, ?_⟩
        rcases k4 with k4 | k4 <;> omega
      · cases h
end Go.Proofs.YtdkoafmgenbkbaaGreatDoor
namespace Go.Proofs.YtdkoafmgenbkbaaGreatDoor
def mayN (t : Tok) : Bool :=
  if t.kind = 1 then decide (0 ≤ t.num) && decide (t.text = [])
  else if t.num ≠ 0 then false
  else if t.kind = 2 then true
  else if t.kind = 3 then rightN t.text && !decide (t.text ∈ wordsL)
  else if t.kind = 4 then decide (t.text ∈ wordsL)
  else if t.kind = 5 then decide (t.text ∈ marksL)
  else false
def shownN (t : Tok) : List Nat := if t.kind = 1 then showN t.num else if t.kind = 2 then quoteN t.text else t.text
def joinAll (o : List Nat) (first : Bool) : List Tok → List Nat
  | [] => o
  | t :: r => joinAll ((if first then o else o ++ [32]) ++ shownN t) false r
def joinN (l : List Tok) : List Nat × Nat := if l.all mayN = true then (if 4096 < (joinAll [] true l).length then ([], 3) else (joinAll [] true l, 0)) else ([], 2)
theorem joinAll_le : ∀ (l : List Tok) (o : List Nat) (b : Bool), o.length ≤ (joinAll o b l).length
  | [], o, b => Nat.le_refl _
  | t :: r, o, b => by
    have := joinAll_le r ((if b then o else o ++ [32]) ++ shownN t) false
    have h2 : o.length ≤ ((if b then o else o ++ [32]) ++ shownN t).length := by cases b <;> simp <;> omega
    unfold joinAll
    omega
theorem quote_len (l : List Nat) : l.length ≤ (l.flatMap formN).length := by
  induction l with
  | nil => simp
  | cons a l ih =>
    have := (form_len a).1
    simp only [List.flatMap_cons, List.length_append, List.length_cons]
    omega
theorem shown_len {t : Tok} (h : mayN t = true) : t.text.length ≤ (shownN t).length := by
  unfold shownN
  split
  · rename_i hk
    unfold mayN at h
    rw [if_pos hk, Bool.and_eq_true, decide_eq_true_eq, decide_eq_true_eq] at h
    rw [h.2]
    simp
  · split
    · unfold quoteN
      have := quote_len t.text
      simp only [List.length_cons, List.length_append, List.length_nil]
      omega
    · exact Nat.le_refl _
theorem joinAll_cons (o : List Nat) (b : Bool) (t : Tok) (r : List Tok) : joinAll o b (t :: r) = joinAll ((if b then o else o ++ [32]) ++ shownN t) false r := rfl
theorem join_long {l : List Tok} {t : Tok} {o : List Nat} {b : Bool} (h : mayN t = true) (hl : 4096 < (if b then o else o ++ [32]).length + t.text.length) : 4096 < (joinAll o b (t :: l)).length := by
  rw [joinAll_cons]
  have h1 := joinAll_le l ((if b then o else o ++ [32]) ++ shownN t) false
  have h2 := shown_len h
  rw [List.length_append] at h1
  omega
end Go.Proofs.YtdkoafmgenbkbaaGreatDoor
namespace Go.Proofs.YtdkoafmgenbkbaaGreatDoor
open Go.RowKit
theorem txt_empty {s : List Nat} (hb : Bytes s) (h : ¬ s = []) : ¬ (txt s).toList = [] := fun e => h (by
  have := (toList_inj (txt s) (txt [])).1 (e.trans (by rw [ByteArray.toList_eq]; rfl))
  rw [← bs_txt hb, this]
  rfl)
theorem nil_facts : (txt []).toList = [] := by rw [ByteArray.toList_eq]; rfl
theorem Quiet.cells {w w' : World} (h : Quiet w w') : ∀ p, w'.cell? p = w.cell? p := by
  obtain ⟨n, rfl⟩ := h
  exact fun _ => rfl
theorem marks_contains (m : List Nat) (hm : Bytes m) (b : Bool) (hb : decide (m ∈ marksL) = b) (w : World) (h : Marks w) : Calls Tryz.prog 98 #[.slice (some ⟨2, 0, none⟩) 16 16, .string (txt m)] w fun e w' => e = .returned (.bool b) ∧ w' = w := by
  have hz : ∀ j, j < (marksL.map txt).length → w.cell? ⟨2, 0 + j, none⟩ = some (.string ((marksL.map txt).getD j ByteArray.empty)) := fun j hj => by
    have hj' : j < marksL.length := by simpa using hj
    obtain ⟨t, fr, hg⟩ := marks_block h
    have hc : marksV[j]? = some (.string (txt marksL[j])) := by
      unfold marksV
      rw [List.getElem?_toArray, List.getElem?_map, List.getElem?_eq_getElem hj']
      rfl
    rw [Nat.zero_add]
    simp only [World.cell?, hg, hc]
    rw [List.getD_eq_getElem?_getD, List.getElem?_map, List.getElem?_eq_getElem hj']
    rfl
  have := Go.Proofs.Tryz.slices_Contains_string 2 0 16 16 (marksL.map txt) (txt m) w (by decide) (by omega) hz
  have e : Lib.containsS ((marksL.map txt).take 16) (txt m) = b := by
    rw [← hb, Bool.eq_iff_iff, decide_eq_true_eq]
    rw [List.take_of_length_le (by decide), Lib.containsS_iff]
    constructor
    · intro h
      obtain ⟨m', hm', e⟩ := List.mem_map.1 h
      have e2 : bs (txt m') = bs (txt m) := by rw [e]
      have hb' : Bytes m' := by
        have : ∀ m ∈ marksL, ∀ n ∈ m, n < 256 := by decide
        exact this m' hm'
      rw [bs_txt hb', bs_txt hm] at e2
      rw [← e2]
      exact hm'
    · intro h
      exact List.mem_map.2 ⟨m, h, rfl⟩
  rw [e] at this
  exact this
theorem may_any (t : Tok) (ht : t.ok) (w : World) (hm : Marks w) : Calls Tryz.prog 80 #[.agg t.cells.toArray] w fun e w' => e = .returned (.bool (mayN t)) ∧ Below w.heap.size w w' := by
  obtain ⟨k, s, v, p⟩ := t
  obtain ⟨hby, hsl, hk, hv, hp⟩ := ht
  dsimp only at hby hsl hk hv hp
  show Calls Tryz.prog 80 #[.agg #[.int .i64 k, .string (txt s), .int .i64 v, .int .i64 p]] w _
  by_cases k1 : k = 1
  · subst k1
    by_cases v0 : 0 ≤ v
    · by_cases s0 : s = []
      · subst s0
        have n0 := nil_facts
        have n1 : (txt []).toList.isEmpty = true := by rw [n0]; rfl
        have hV : mayN ⟨1, [], v, p⟩ = true := by simp [mayN, *]
        rw [hV]
        clear hV hby hsl hk hv hp hm
        go_enter Tryz.func80, Tryz.ntmps80
        go_wp2_with fail
        go_ret
        exact ⟨rfl, zB.alloc zL _⟩
      · have n0 := txt_empty hby s0
        have n1 : (txt s).toList.isEmpty = false := by simpa using n0
        have n2 : ((txt s).toList == []) = false := by simpa using n0
        have hV : mayN ⟨1, s, v, p⟩ = false := by simp [mayN, *]
        rw [hV]
        clear hV hby hsl hk hv hp hm s0
        go_enter Tryz.func80, Tryz.ntmps80
        go_wp2_with fail
        go_ret
        exact ⟨rfl, zB.alloc zL _⟩
    · have d0 : decide (0 ≤ v) = false := decide_eq_false v0
      have hV : mayN ⟨1, s, v, p⟩ = false := by simp [mayN, *]
      rw [hV]
      clear hV hby hsl hk hv hp hm
      go_enter Tryz.func80, Tryz.ntmps80
      go_wp2_with fail
      go_ret
      exact ⟨rfl, zB.alloc zL _⟩
  have e1 : (k == 1) = false := by simpa using k1
  by_cases v0 : v = 0
  rotate_left
  · have d0 : (v != 0) = true := by simpa using v0
    have hV : mayN ⟨k, s, v, p⟩ = false := by simp [mayN, *]
    rw [hV]
    clear hV hby hsl hk hv hp hm
    go_enter Tryz.func80, Tryz.ntmps80
    go_wp2_with fail
    go_ret
    exact ⟨rfl, zB.alloc zL _⟩
  subst v0
  by_cases k2 : k = 2
  · subst k2
    have hV : mayN ⟨2, s, 0, p⟩ = true := by simp [mayN, *]
    rw [hV]
    clear hV hby hsl hk hv hp hm
    go_enter Tryz.func80, Tryz.ntmps80
    go_wp2_with fail
    go_ret
    exact ⟨rfl, zB.alloc zL _⟩
  have e2 : (k == 2) = false := by simpa using k2
  by_cases k3 : k = 3
  · subst k3
    cases hr : rightN s with
    | false =>
      have RT : Hid (∀ W, Calls Tryz.prog 35 #[.string (txt s)] W fun e w' => e = .returned (.bool false) ∧ Quiet W w') := zH (fun W => by
        have := right_any (txt s) (by rw [txt_size]; exact hsl) W
        rw [bs_txt hby, hr] at this
        exact this)
      have hV : mayN ⟨3, s, 0, p⟩ = false := by simp [mayN, *]
      rw [hV]
      clear hV hby hsl hk hv hp hm hr
      go_enter Tryz.func80, Tryz.ntmps80
      go_wp2_with (first
        | (go_at_call 35
           refine (RT.out _).mono ?_
           rintro e w1 ⟨rfl, q1⟩
           have C1 := q1.cells ⟨w.heap.size, 1, none⟩
           simp at C1
           have B1 := zH (((Below.refl w.heap.size w).alloc zL _).trans (q1.below _))
           clear q1))
      go_ret
      exact ⟨rfl, B1.out⟩
    | true =>
      have RT : Hid (∀ W, Calls Tryz.prog 35 #[.string (txt s)] W fun e w' => e = .returned (.bool true) ∧ Quiet W w') := zH (fun W => by
        have := right_any (txt s) (by rw [txt_size]; exact hsl) W
        rw [bs_txt hby, hr] at this
        exact this)
      by_cases hw : s ∈ wordsL
      · have RV : Hid (∀ W, Calls Tryz.prog 68 #[.string (txt s)] W fun e w' => e = .returned (.bool true) ∧ Quiet W w') := zH (fun W => by
          have := lex_reserved_any (txt s) W
          rw [bs_txt hby, decide_eq_true hw] at this
          exact this)
        have hV : mayN ⟨3, s, 0, p⟩ = false := by simp [mayN, *]
        rw [hV]
        clear hV hby hsl hk hv hp hm hr hw
        go_enter Tryz.func80, Tryz.ntmps80
        go_wp2_with (first
        | (go_at_call 35
           refine (RT.out _).mono ?_
           rintro e w1 ⟨rfl, q1⟩
           have C1 := q1.cells ⟨w.heap.size, 1, none⟩
           simp at C1
           have B1 := zH (((Below.refl w.heap.size w).alloc zL _).trans (q1.below _))
           clear q1)
        | (go_at_call 68
           refine (RV.out _).mono ?_
           rintro e w2 ⟨rfl, q2⟩
           have B2 := zH (B1.out.trans (q2.below _))
           clear q2))
        go_ret
        exact ⟨rfl, B2.out⟩
      · have RV : Hid (∀ W, Calls Tryz.prog 68 #[.string (txt s)] W fun e w' => e = .returned (.bool false) ∧ Quiet W w') := zH (fun W => by
          have := lex_reserved_any (txt s) W
          rw [bs_txt hby, decide_eq_false hw] at this
          exact this)
        have hV : mayN ⟨3, s, 0, p⟩ = true := by simp [mayN, *]
        rw [hV]
        clear hV hby hsl hk hv hp hm hr hw
        go_enter Tryz.func80, Tryz.ntmps80
        go_wp2_with (first
        | (go_at_call 35
           refine (RT.out _).mono ?_
           rintro e w1 ⟨rfl, q1⟩
           have C1 := q1.cells ⟨w.heap.size, 1, none⟩
           simp at C1
           have B1 := zH (((Below.refl w.heap.size w).alloc zL _).trans (q1.below _))
           clear q1)
        | (go_at_call 68
           refine (RV.out _).mono ?_
           rintro e w2 ⟨rfl, q2⟩
           have B2 := zH (B1.out.trans (q2.below _))
           clear q2))
        go_ret
        exact ⟨rfl, B2.out⟩
  have e3 : (k == 3) = false := by simpa using k3
  by_cases k4 : k = 4
  · subst k4
    by_cases hw : s ∈ wordsL
    · have RV : Hid (∀ W, Calls Tryz.prog 68 #[.string (txt s)] W fun e w' => e = .returned (.bool true) ∧ Quiet W w') := zH (fun W => by
        have := lex_reserved_any (txt s) W
        rw [bs_txt hby, decide_eq_true hw] at this
        exact this)
      have hV : mayN ⟨4, s, 0, p⟩ = true := by simp [mayN, *]
      rw [hV]
      clear hV hby hsl hk hv hp hm hw
      go_enter Tryz.func80, Tryz.ntmps80
      go_wp2_with (first
        | (go_at_call 68
           refine (RV.out _).mono ?_
           rintro e w2 ⟨rfl, q2⟩
           have B2 := zH (((Below.refl w.heap.size w).alloc zL _).trans (q2.below _))
           clear q2))
      go_ret
      exact ⟨rfl, B2.out⟩
    · have RV : Hid (∀ W, Calls Tryz.prog 68 #[.string (txt s)] W fun e w' => e = .returned (.bool false) ∧ Quiet W w') := zH (fun W => by
        have := lex_reserved_any (txt s) W
        rw [bs_txt hby, decide_eq_false hw] at this
        exact this)
      have hV : mayN ⟨4, s, 0, p⟩ = false := by simp [mayN, *]
      rw [hV]
      clear hV hby hsl hk hv hp hm hw
      go_enter Tryz.func80, Tryz.ntmps80
      go_wp2_with (first
        | (go_at_call 68
           refine (RV.out _).mono ?_
           rintro e w2 ⟨rfl, q2⟩
           have B2 := zH (((Below.refl w.heap.size w).alloc zL _).trans (q2.below _))
           clear q2))
      go_ret
      exact ⟨rfl, B2.out⟩
  have e4 : (k == 4) = false := by simpa using k4
  by_cases k5 : k = 5
  · subst k5
    have hM : Marks (w.alloc (.cells #[.int .i64 5, .string (txt s), .int .i64 0, .int .i64 p] 127)) := hm.below (zB.alloc zL _)
    by_cases hw : s ∈ marksL
    · have MC : Hid (∀ W, Marks W → Calls Tryz.prog 98 #[.slice (some ⟨2, 0, none⟩) 16 16, .string (txt s)] W fun e w' => e = .returned (.bool true) ∧ w' = W) := zH (fun W hW => marks_contains s hby true (decide_eq_true hw) W hW)
      have HM := zH hM
      have hV : mayN ⟨5, s, 0, p⟩ = true := by simp [mayN, *]
      rw [hV]
      clear hV hby hsl hk hv hp hm hw hM
      go_enter Tryz.func80, Tryz.ntmps80
      go_wp2_with fail
      go_quiet ((go_at_call 98; exact Calls.quiet_of_same (MC.out _ (HM.out.drewN _))))
      go_wp2_with fail
      go_ret
      exact ⟨rfl, below_drewN (zB.alloc zL _) _⟩
    · have MC : Hid (∀ W, Marks W → Calls Tryz.prog 98 #[.slice (some ⟨2, 0, none⟩) 16 16, .string (txt s)] W fun e w' => e = .returned (.bool false) ∧ w' = W) := zH (fun W hW => marks_contains s hby false (decide_eq_false hw) W hW)
      have HM := zH hM
      have hV : mayN ⟨5, s, 0, p⟩ = false := by simp [mayN, *]
      rw [hV]
      clear hV hby hsl hk hv hp hm hw hM
      go_enter Tryz.func80, Tryz.ntmps80
      go_wp2_with fail
      go_quiet ((go_at_call 98; exact Calls.quiet_of_same (MC.out _ (HM.out.drewN _))))
      go_wp2_with fail
      go_ret
      exact ⟨rfl, below_drewN (zB.alloc zL _) _⟩
  have e5 : (k == 5) = false := by simpa using k5
  have hV : mayN ⟨k, s, 0, p⟩ = false := by simp [mayN, *]
  rw [hV]
  clear hV hby hsl hk hv hp hm
  go_enter Tryz.func80, Tryz.ntmps80
  go_wp2_with fail
  go_ret
  exact ⟨rfl, zB.alloc zL _⟩
theorem lshown_any (t : Tok) (ht : t.ok) (hl : t.text.length ≤ 4096) (w : World) (hm : Pow w) : Calls Tryz.prog 82 #[.agg t.cells.toArray] w fun e w' => e = .returned (.string (txt (shownN t))) ∧ Below w.heap.size w w' := by
  obtain ⟨k, s, v, p⟩ := t
  obtain ⟨hby, hsl, hk, hv, hp⟩ := ht
  dsimp only at hby hsl hk hv hp hl
  have hv' := hv
  simp [Lit.wf, IntKind.min, IntKind.max, IntKind.signed, IntKind.bits] at hv'
  obtain ⟨v1, v2⟩ := hv'
  show Calls Tryz.prog 82 #[.agg #[.int .i64 k, .string (txt s), .int .i64 v, .int .i64 p]] w _
  by_cases k1 : k = 1
  · subst k1
    have SH : Hid (∀ W, Below w.heap.size w W → Calls Tryz.prog 32 #[.int .i64 v] W fun e w' => e = .returned (.string (txt (showN v))) ∧ Below W.heap.size W w') := zH (fun W hW => show_any v v1 v2 W (hm.below hW))
    show Calls Tryz.prog 82 #[.agg #[.int .i64 1, .string (txt s), .int .i64 v, .int .i64 p]] w fun e w' => e = .returned (.string (txt (showN v))) ∧ Below w.heap.size w w'
    clear hby hsl hk hv hp hm hl
    go_enter Tryz.func82, Tryz.ntmps82
    go_wp2_with (first
        | (go_at_call 32
           refine (SH.out _ (zB.alloc zL _)).mono ?_
           rintro e w1 ⟨rfl, b1⟩
           have B1 := zH (((Below.refl w.heap.size w).alloc zL _).trans (b1.mono (by simp)))
           clear b1))
    go_ret
    exact ⟨rfl, B1.out⟩
  have e1 : (k == 1) = false := by simpa using k1
  by_cases k2 : k = 2
  · subst k2
    have QU : Hid (∀ W, Calls Tryz.prog 33 #[.string (txt s)] W fun e w' => e = .returned (.string (txt (quoteN s))) ∧ Below W.heap.size W w') := zH (fun W => by
      have := quote_any (txt s) (by rw [txt_size]; omega) W
      rw [bs_txt hby] at this
      exact this)
    show Calls Tryz.prog 82 #[.agg #[.int .i64 2, .string (txt s), .int .i64 v, .int .i64 p]] w fun e w' => e = .returned (.string (txt (quoteN s))) ∧ Below w.heap.size w w'
    clear hby hsl hk hv hp hm hl
    go_enter Tryz.func82, Tryz.ntmps82
    go_wp2_with (first
        | (go_at_call 33
           refine (QU.out _).mono ?_
           rintro e w1 ⟨rfl, b1⟩
           have B1 := zH (((Below.refl w.heap.size w).alloc zL _).trans (b1.mono (by simp)))
           clear b1))
    go_ret
    exact ⟨rfl, B1.out⟩
  have e2 : (k == 2) = false := by simpa using k2
  have hV : shownN ⟨k, s, v, p⟩ = s := by simp [shownN, k1, k2]
  rw [hV]
  clear hV hby hsl hk hv hp hm hl
  go_enter Tryz.func82, Tryz.ntmps82
  go_wp2_with fail
  go_ret
  exact ⟨rfl, zB.alloc zL _⟩
end Go.Proofs.YtdkoafmgenbkbaaGreatDoor
namespace Go.Proofs.YtdkoafmgenbkbaaGreatDoor
open Go.RowKit
theorem BuiltSt.drewN {w : World} {B b : Nat} {l : List Nat} (h : BuiltSt w B b l) (n : Nat) : BuiltSt (w.drewN n) B b l := h
theorem join_end {o J : List Nat} {l : List Tok} {k : Nat} (h : joinAll o (decide (k = 0)) (l.drop k) = J) (hk : l.length ≤ k) : o = J := by
  rw [List.drop_of_length_le hk] at h
  exact h
theorem join_step {o J : List Nat} {l : List Tok} {k : Nat} {t : Tok} (h : joinAll o (decide (k = 0)) (l.drop k) = J) (hk : l[k]? = some t) : joinAll ((if k = 0 then o else o ++ [32]) ++ shownN t) (decide (k + 1 = 0)) (l.drop (k + 1)) = J := by
  have hl := (List.getElem?_eq_some_iff.1 hk).1
  rw [List.drop_eq_getElem_cons hl, (List.getElem?_eq_some_iff.1 hk).2, joinAll_cons] at h
  rw [show decide (k + 1 = 0) = false from rfl, ← h]
  simp
theorem join_far {o J : List Nat} {l : List Tok} {k : Nat} {t : Tok} (h : joinAll o (decide (k = 0)) (l.drop k) = J) (hk : l[k]? = some t) (hm : mayN t = true) (hl : 4096 < (if k = 0 then o else o ++ [32]).length + t.text.length) : 4096 < J.length := by
  have hkl := (List.getElem?_eq_some_iff.1 hk).1
  rw [List.drop_eq_getElem_cons hkl, (List.getElem?_eq_some_iff.1 hk).2] at h
  rw [← h]
  refine join_long hm ?_
  simpa using hl
theorem joinN_no {l : List Tok} {k : Nat} {t : Tok} (hk : l[k]? = some t) (h : mayN t = false) : joinN l = ([], 2) := by
  unfold joinN
  rw [if_neg]
  intro ha
  have := List.all_eq_true.1 ha t (List.mem_iff_getElem?.2 ⟨k, hk⟩)
  rw [h] at this
  cases this
theorem all_may {l : List Tok} (h : ∀ i t, i < l.length → l[i]? = some t → mayN t = true) : l.all mayN = true := by
  rw [List.all_eq_true]
  intro t ht
  obtain ⟨i, hi⟩ := List.mem_iff_getElem?.1 ht
  exact h i t (List.getElem?_eq_some_iff.1 hi).1 hi
theorem joinN_long {l : List Tok} (ha : l.all mayN = true) (h : 4096 < (joinAll [] true l).length) : joinN l = ([], 3) := by
  unfold joinN
  rw [if_pos ha, if_pos h]
theorem joinN_yes {l : List Tok} (ha : l.all mayN = true) (h : ¬ 4096 < (joinAll [] true l).length) : joinN l = (joinAll [] true l, 0) := by
  unfold joinN
  rw [if_pos ha, if_neg h]
theorem showN_len {v : Int} (h1 : -9223372036854775808 ≤ v) (h2 : v ≤ 9223372036854775807) : (showN v).length ≤ 20 := (intN_some (intN_show h1 h2)).2.2.2
theorem shown_bound {t : Tok} (ht : t.ok) (h : t.text.length ≤ 4096) : (shownN t).length ≤ 16500 ∧ Bytes (shownN t) := by
  obtain ⟨hb, _, _, hv, _⟩ := ht
  unfold shownN
  split
  · have hv' := hv
    simp [Lit.wf, IntKind.min, IntKind.max, IntKind.signed, IntKind.bits] at hv'
    refine ⟨by have := showN_len hv'.1 hv'.2; omega, ?_⟩
    intro n hn
    unfold showN at hn
    split at hn
    · rcases List.mem_cons.1 hn with rfl | hn
      · omega
      · have := dec_digits _ n hn; omega
    · have := dec_digits _ n hn; omega
  · split
    · refine ⟨?_, quote_bytes hb⟩
      unfold quoteN
      have := flat_len t.text
      simp only [List.length_cons, List.length_append, List.length_nil]
      omega
    · exact ⟨by omega, hb⟩
theorem join_any {l : List Tok} {v : Value} (w w0 : World) (hs : SlR w0 w0.heap.size 4 Tok.Is v l) (hw : Below w0.heap.size w0 w) (hbig : ∀ t ∈ l, t.text.length ≤ 281474976710656) (hm : Marks w) (hp : Pow w) :
    Calls Tryz.prog 62 #[v] w fun e w' => e = .returned (.tuple #[.string (txt (joinN l).1), .int .i64 ((joinN l).2 : Int)]) ∧ Below w.heap.size w w' := by
  obtain ⟨a, c, rfl⟩ : ∃ a c, v = .slice a l.length c := by obtain ⟨a, c, h, _⟩ := hs.form; exact ⟨a, c, h⟩
  have hn : l.length ≤ 9223372036854775807 := by have := hs.caps; unfold maxLen at this; omega
  obtain ⟨R, hR⟩ : ∃ R, joinN l = R := ⟨_, rfl⟩
  rw [hR]
  obtain ⟨n, hlen⟩ : ∃ n, l.length = n := ⟨_, rfl⟩
  rw [hlen] at hs hn ⊢
  have Hlen := zH hlen
  have HR := zH hR
  have Hs := zH hs
  have Hw := zH hw
  have Hbig := zH hbig
  have Hwz := hw.size
  have Hm := zH hm
  have Hp := zH hp
  clear hs hlen hw hR hbig hm hp
  go_enter Tryz.func62, Tryz.ntmps62
  go_wp2_with fail
  go_loopw [11] (fun i wr => ∃ k : Nat, k ≤ n ∧ i = .int .i64 (k : Int) ∧ Hid (∀ i t, i < k → l[i]? = some t → mayN t = true) ∧ Hid (Below w.heap.size w wr)) (fun i _ => n - (intOf i).toNat)
  case atStart => exact ⟨0, Nat.zero_le _, rfl, fun i t h => by omega, zB⟩
  case round =>
    obtain ⟨k, hk, rfl, hall, hb⟩ := hrel
    have b1 : (0 : Int) ≤ (k : Int) := Int.natCast_nonneg _
    have hbz := hb.out.size
    by_cases hlt : k < n
    · have d1 : decide ((k : Int) < (n : Int)) = true := by simp; omega
      obtain ⟨y, hd⟩ := get_some Hlen.out hlt
      have hw1 := Hw.out.trans (hb.out.mono Hw.out.size)
      obtain ⟨b, off, x, rfl, hbB, hxl, ⟨rfl, hok⟩, hx⟩ := (Hs.out.below hw1).at_ hd
      have h0 := hx 0 _ rfl
      have h1 := hx 1 _ rfl
      have h2 := hx 2 _ rfl
      have h3 := hx 3 _ rfl
      simp only [Nat.add_zero] at h0
      have Hd := zH hd
      have Hok := zH hok
      have MA : Hid (∀ W, Below w.heap.size w W → Calls Tryz.prog 80 #[.agg #[.int .i64 y.kind, .string (txt y.text), .int .i64 y.num, .int .i64 y.place]] W fun e w' => e = .returned (.bool (mayN y)) ∧ Below W.heap.size W w') := zH (fun W hW => may_any y hok W (Hm.out.below hW))
      clear hd hx hxl hw1 hok
      cases hmay : mayN y with
      | false =>
        have hv := joinN_no Hd.out hmay
        rw [HR.out] at hv
        have HV := zH hv
        rw [hmay] at MA
        clear hv hmay
        go_wp2_with (first
          | (go_at_call 80
             refine (MA.out _ (by exact hb.out.alloc hbz _)).mono ?_
             rintro e w1 ⟨rfl, b1'⟩
             have B1 : Hid (Below w.heap.size w w1) := zH ((hb.out.alloc hbz _).trans (b1'.mono (by simp; omega)))
             clear b1'))
        (try simp only [Exit.inBlock, Exit.then, Exit.noGoto_ret])
        go_ret2
        exact ⟨by rw [HV.out]; rfl, B1.out⟩
      | true =>
        have hnew := so_far1 Hd.out hmay hall.out
        have HN := zH hnew
        rw [hmay] at MA
        clear hnew hmay hall
        go_wp2_with (first
          | (go_at_call 80
             refine (MA.out _ (by exact hb.out.alloc hbz _)).mono ?_
             rintro e w1 ⟨rfl, b1'⟩
             have B1 : Hid (Below w.heap.size w w1) := zH ((hb.out.alloc hbz _).trans (b1'.mono (by simp; omega)))
             clear b1'))
        go_roundw
        case rel => exact ⟨k + 1, by omega, by go_num, HN.out, B1.out⟩
        case measure => simp [intOf]; omega
    · have hkn : k = n := by omega
      have hdec : decide (k < n) = false := by simp; omega
      have hdec2 : decide ((k : Int) < (n : Int)) = false := by simp; omega
      have ha : l.all mayN = true := all_may (fun i t hi ht => hall.out i t (by have := Hlen.out; omega) ht)
      obtain ⟨J, hJ⟩ : ∃ J, joinAll [] true l = J := ⟨_, rfl⟩
      have hlong := fun h => joinN_long (l := l) ha h
      have hyes := fun h => joinN_yes (l := l) ha h
      rw [hJ, HR.out] at hlong hyes
      have hall2 : ∀ i t, l[i]? = some t → mayN t = true := fun i t ht => hall.out i t (by have := (List.getElem?_eq_some_iff.1 ht).1; have := Hlen.out; omega) ht
      have HJ := zH (And.intro hlong (And.intro hyes (And.intro hJ hall2)))
      clear hlong hyes hJ hall hall2 hkn ha
      obtain ⟨wo, hwo⟩ : ∃ wo, wo = wr := ⟨wr, rfl⟩
      subst hwo
      go_wp2_with fail
      go_loopw [21] (fun i wr => ∃ (k : Nat) (o : List Nat), k ≤ n ∧ i = .int .i64 (k : Int) ∧ o.length ≤ 30000 ∧ Hid (joinAll o (decide (k = 0)) (l.drop k) = J) ∧ Hid (BuiltSt wr wo.heap.size wo.heap.size o ∧ Below w.heap.size w wr) ∧ wo.heap.size < wr.heap.size) (fun i _ => n - (intOf i).toNat)
      case atStart => exact ⟨0, [], Nat.zero_le _, rfl, by simp, HJ.out.2.2.1, ⟨BuiltSt.new wo, hb.out.alloc hbz _⟩, by simp⟩
      case round =>
        clear hlt hdec hdec2 hk b1
        obtain ⟨k, o, hk, rfl, ho, hj, hB, hwz⟩ := hrel
        have b1 : (0 : Int) ≤ (k : Int) := Int.natCast_nonneg _
        have hbz2 := hB.out.2.size
        by_cases hlt : k < n
        · have d1 : decide ((k : Int) < (n : Int)) = true := by simp; omega
          have hb2 := zH hB.out.2
          obtain ⟨y, hd⟩ := get_some Hlen.out hlt
          have hw1 := Hw.out.trans (hB.out.2.mono Hw.out.size)
          obtain ⟨b, off, x, rfl, hbB, hxl, ⟨rfl, hok⟩, hx⟩ := (Hs.out.below hw1).at_ hd
          have h0 := hx 0 _ rfl
          have h1 := hx 1 _ rfl
          have h2 := hx 2 _ rfl
          have h3 := hx 3 _ rfl
          simp only [Nat.add_zero] at h0
          have Hd := zH hd
          have Hok := zH hok
          have hmay := HJ.out.2.2.2 k y hd
          obtain ⟨o', ho'⟩ : ∃ o', (if k = 0 then o else o ++ [32]) = o' := ⟨_, rfl⟩
          have hol : o'.length ≤ 30001 := by rw [← ho']; split; omega; rw [List.length_append]; simp; omega
          have hsz : ((txt y.text).size : Int) = (y.text.length : Int) := by rw [txt_size]
          have hstep := join_step hj.out hd
          have hfar := join_far hj.out hd hmay
          rw [ho'] at hstep hfar
          have H3 := zH (And.intro hstep hfar)
          have hyz : y.text.length ≤ 281474976710656 := Hbig.out y (List.mem_iff_getElem?.2 ⟨k, hd⟩)
          clear hstep hfar hd hx hxl hw1 hok hmay hj
          have hk0 : k = 0 ∨ 0 < k := by omega
          rcases hk0 with rfl | hk0
          · rw [if_pos rfl] at ho'
            subst ho'
            simp only [Nat.zero_mul, Nat.add_zero] at h0 h1 h2 h3
            have hol' : (o.length : Int) ≤ 30001 := by omega
            have hyz' : (y.text.length : Int) ≤ 281474976710656 := by omega
            have hnn : (0 : Int) ≤ (o.length : Int) := Int.natCast_nonneg _
            have hnn2 : (0 : Int) ≤ (y.text.length : Int) := Int.natCast_nonneg _
            by_cases hlong : 4096 < o.length + y.text.length
            · have dl : decide (4096 < (o.length : Int) + (y.text.length : Int)) = true := by simp only [decide_eq_true_eq]; omega
              have HV := zH (HJ.out.1 (H3.out.2 hlong))
              go_wp2_with (first
              | (fail))
              have sw : IntKind.i64.wrap ((o.length : Int) + (y.text.length : Int)) = (o.length : Int) + (y.text.length : Int) := IntWalk.i64_in _ (by omega)
              go_quiet ((go_at_call 19; exact Calls.quiet_of_same (built_len ((hB.out.1.keep (zB.alloc zL _)).drewN _))))
              clear sw
              go_wp2_with fail
              (try simp only [Exit.inBlock, Exit.then, Exit.noGoto_ret])
              go_ret2
              exact ⟨by rw [HV.out]; rfl, below_drewN (hB.out.2.alloc hbz2 _) _⟩
            · have dl : decide (4096 < (o.length : Int) + (y.text.length : Int)) = false := by simp only [decide_eq_false_iff_not]; omega
              have SH : Hid (∀ W, Below w.heap.size w W → Calls Tryz.prog 82 #[.agg #[.int .i64 y.kind, .string (txt y.text), .int .i64 y.num, .int .i64 y.place]] W fun e w' => e = .returned (.string (txt (shownN y))) ∧ Below W.heap.size W w') := zH (fun W hW => lshown_any y Hok.out (by omega) W (Hp.out.below hW))
              have hsb := shown_bound Hok.out (show y.text.length ≤ 4096 by omega)
              have Hsb := zH (And.intro hsb.1 (And.intro (bs_txt hsb.2) (txt_size (shownN y))))
              clear hsb
              go_wp2_with (first
              | (fail))
              have sw : IntKind.i64.wrap ((o.length : Int) + (y.text.length : Int)) = (o.length : Int) + (y.text.length : Int) := IntWalk.i64_in _ (by omega)
              go_quiet ((go_at_call 19; exact Calls.quiet_of_same (built_len ((hB.out.1.keep (zB.alloc zL _)).drewN _))))
              clear sw
              go_wp2_with (first
                | (go_at_call 82
                   refine (SH.out _ (below_drewN (hB.out.2.alloc hbz2 _) _)).mono ?_
                   rintro e w3 ⟨rfl, b3⟩
                   have S3 := zH (And.intro (((hB.out.1.keep (zB.alloc zL _)).drewN _).keep b3) ((below_drewN (hB.out.2.alloc hbz2 _) _).trans (b3.mono (Nat.le_trans hbz2 (Nat.le_of_lt (by simp))))))
                   have z3 : wo.heap.size ≤ w3.heap.size := Nat.le_trans (by simp; omega) b3.size
                   clear b3)
                | (go_at_call 17
                   refine (write_text _ S3.out.1 (by rw [Hsb.out.2.2]; have := Hsb.out.1; omega) z3).mono ?_
                   rintro e w4 ⟨rfl, s4, b4, _⟩
                   rw [Hsb.out.2.1] at s4
                   have S4 := zH (And.intro s4 (S3.out.2.trans (b4.mono hbz)))
                   have z4 : wo.heap.size < w4.heap.size := by obtain ⟨_, _, _, _, hbk, _⟩ := s4; exact hbk.lt
                   clear s4 b4))
              go_roundw
              case rel => exact ⟨0 + 1, o ++ shownN y, by omega, by go_num, by rw [List.length_append]; have := Hsb.out.1; omega, H3.out.1, S4.out, z4⟩
              case measure => simp [intOf]; omega
          · rw [if_neg (by omega)] at ho'
            have dk : decide (0 < (k : Int)) = true := by simp; omega
            have Ho := zH ho'
            clear ho'
            have hol' : (o'.length : Int) ≤ 30001 := by omega
            have hyz' : (y.text.length : Int) ≤ 281474976710656 := by omega
            have hnn : (0 : Int) ≤ (o'.length : Int) := Int.natCast_nonneg _
            have hnn2 : (0 : Int) ≤ (y.text.length : Int) := Int.natCast_nonneg _
            by_cases hlong : 4096 < o'.length + y.text.length
            · have dl : decide (4096 < (o'.length : Int) + (y.text.length : Int)) = true := by simp only [decide_eq_true_eq]; omega
              have HV := zH (HJ.out.1 (H3.out.2 hlong))
              go_wp2_with (first
              | (go_at_call 81
                 refine (write_byte 32 (by omega) (hB.out.1.keep (zB.alloc zL _)) (by omega) (by simp; omega)).mono ?_
                 rintro e w1 ⟨rfl, s1, b1', k1⟩
                 rw [Ho.out] at s1
                 have S1 := zH (And.intro s1 (And.intro ((hB.out.2.alloc hbz2 _).trans (b1'.mono hbz)) (k1 _ _ _ (Blk.new wr _ _) (by decide) (by omega))))
                 have c0 := S1.out.2.2.cell (i := 0) rfl
                 have c1 := S1.out.2.2.cell (i := 1) rfl
                 have c2 := S1.out.2.2.cell (i := 2) rfl
                 have c3 := S1.out.2.2.cell (i := 3) rfl
                 have z0 := S1.out.2.2.lt
                 have z1 : wo.heap.size ≤ w1.heap.size := Nat.le_trans (Nat.le_trans (Nat.le_of_lt hwz) (by simp)) b1'.size
                 clear s1 b1' k1))
              have sw : IntKind.i64.wrap ((o'.length : Int) + (y.text.length : Int)) = (o'.length : Int) + (y.text.length : Int) := IntWalk.i64_in _ (by omega)
              go_quiet ((go_at_call 19; exact Calls.quiet_of_same (built_len (S1.out.1.drewN _))))
              clear sw
              go_wp2_with fail
              (try simp only [Exit.inBlock, Exit.then, Exit.noGoto_ret])
              go_ret2
              exact ⟨by rw [HV.out]; rfl, below_drewN S1.out.2.1 _⟩
            · have dl : decide (4096 < (o'.length : Int) + (y.text.length : Int)) = false := by simp only [decide_eq_false_iff_not]; omega
              have SH : Hid (∀ W, Below w.heap.size w W → Calls Tryz.prog 82 #[.agg #[.int .i64 y.kind, .string (txt y.text), .int .i64 y.num, .int .i64 y.place]] W fun e w' => e = .returned (.string (txt (shownN y))) ∧ Below W.heap.size W w') := zH (fun W hW => lshown_any y Hok.out (by omega) W (Hp.out.below hW))
              have hsb := shown_bound Hok.out (show y.text.length ≤ 4096 by omega)
              have Hsb := zH (And.intro hsb.1 (And.intro (bs_txt hsb.2) (txt_size (shownN y))))
              clear hsb
              go_wp2_with (first
              | (go_at_call 81
                 refine (write_byte 32 (by omega) (hB.out.1.keep (zB.alloc zL _)) (by omega) (by simp; omega)).mono ?_
                 rintro e w1 ⟨rfl, s1, b1', k1⟩
                 rw [Ho.out] at s1
                 have S1 := zH (And.intro s1 (And.intro ((hB.out.2.alloc hbz2 _).trans (b1'.mono hbz)) (k1 _ _ _ (Blk.new wr _ _) (by decide) (by omega))))
                 have c0 := S1.out.2.2.cell (i := 0) rfl
                 have c1 := S1.out.2.2.cell (i := 1) rfl
                 have c2 := S1.out.2.2.cell (i := 2) rfl
                 have c3 := S1.out.2.2.cell (i := 3) rfl
                 have z0 := S1.out.2.2.lt
                 have z1 : wo.heap.size ≤ w1.heap.size := Nat.le_trans (Nat.le_trans (Nat.le_of_lt hwz) (by simp)) b1'.size
                 clear s1 b1' k1))
              have sw : IntKind.i64.wrap ((o'.length : Int) + (y.text.length : Int)) = (o'.length : Int) + (y.text.length : Int) := IntWalk.i64_in _ (by omega)
              go_quiet ((go_at_call 19; exact Calls.quiet_of_same (built_len (S1.out.1.drewN _))))
              clear sw
              go_wp2_with (first
                | (go_at_call 82
                   refine (SH.out _ (below_drewN S1.out.2.1 _)).mono ?_
                   rintro e w3 ⟨rfl, b3⟩
                   have S3 := zH (And.intro ((S1.out.1.drewN _).keep b3) ((below_drewN S1.out.2.1 _).trans (b3.mono S1.out.2.1.size)))
                   have z3 : wo.heap.size ≤ w3.heap.size := Nat.le_trans z1 b3.size
                   clear b3)
                | (go_at_call 17
                   refine (write_text _ S3.out.1 (by rw [Hsb.out.2.2]; have := Hsb.out.1; omega) z3).mono ?_
                   rintro e w4 ⟨rfl, s4, b4, _⟩
                   rw [Hsb.out.2.1] at s4
                   have S4 := zH (And.intro s4 (S3.out.2.trans (b4.mono hbz)))
                   have z4 : wo.heap.size < w4.heap.size := by obtain ⟨_, _, _, _, hbk, _⟩ := s4; exact hbk.lt
                   clear s4 b4))
              go_roundw
              case rel => exact ⟨k + 1, o' ++ shownN y, by omega, by go_num, by rw [List.length_append]; have := Hsb.out.1; omega, H3.out.1, S4.out, z4⟩
              case measure => simp [intOf]; omega
        · have hdec : decide (k < n) = false := by simp; omega
          have hdec2 : decide ((k : Int) < (n : Int)) = false := by simp; omega
          have hoJ := join_end hj.out (by rw [Hlen.out]; omega)
          subst hoJ
          have LN : Hid (∀ W, BuiltSt W wo.heap.size wo.heap.size o → Calls Tryz.prog 19 #[.pointer (some ⟨wo.heap.size, 0, none⟩)] W fun e w' => e = .returned (.int .i64 (o.length : Int)) ∧ w' = W) := zH (fun W h => built_len h)
          by_cases hbig' : 4096 < o.length
          · have hd : decide (4096 < (o.length : Int)) = true := by simp; omega
            have HV := zH (HJ.out.1 hbig')
            clear hj
            go_wp2_with (first
              | (go_at_call 19
                 refine (LN.out _ hB.out.1).mono ?_
                 rintro e w1 ⟨rfl, rfl⟩))
            (try simp only [Exit.inBlock, Exit.then, Exit.noGoto_ret])
            go_ret2
            exact ⟨by rw [HV.out]; rfl, hB.out.2⟩
          · have hd : decide (4096 < (o.length : Int)) = false := by simp; omega
            have HV := zH (HJ.out.2.1 hbig')
            clear hj
            go_wp2_with (first
              | (go_at_call 19
                 refine (LN.out _ hB.out.1).mono ?_
                 rintro e w1 ⟨rfl, rfl⟩)
              | (go_at_call 20
                 refine (built_text hB.out.1 (Nat.le_of_lt hwz)).mono ?_
                 rintro e w2 ⟨rfl, b2⟩
                 have B2 := zH (hB.out.2.trans (b2.mono hbz))
                 clear b2))
            (try simp only [Exit.inBlock, Exit.then, Exit.noGoto_ret])
            go_ret2
            exact ⟨by rw [HV.out]; rfl, B2.out⟩
end Go.Proofs.YtdkoafmgenbkbaaGreatDoor
namespace Go.Proofs.YtdkoafmgenbkbaaGreatDoor
open Go.RowKit
def levelN (k : Int) : Nat := match signsL.find? (fun x => decide ((x.2.1 : Int) = k)) with
  | some x => x.2.2
  | none => if k = 29 then 3 else 8
def markT (k : Int) : List Nat := match signsL.find? (fun x => decide ((x.2.1 : Int) = k)) with
  | some x => x.1
  | none => []
def tellL : List (List Nat × Nat) := [([116, 114, 117, 101], 3), ([102, 97, 108, 115, 101], 4), ([115, 101, 108, 102], 5), ([110, 111, 110, 101], 6), ([115, 105, 122, 101], 14), ([102, 105, 114, 115, 116], 15), ([116, 101, 120, 116], 16), ([99, 111, 110, 99, 101, 112, 116], 17), ([105, 100], 18), ([105, 110, 116], 19), ([97, 110, 121], 31), ([101, 118, 101, 114, 121], 32), ([111, 110, 108, 121], 33), ([115, 117, 109], 34), ([105, 102], 30)]
def wordT (k : Int) : List Nat := match tellL.find? (fun x => decide ((x.2 : Int) = k)) with
  | some x => x.1
  | none => []
end Go.Proofs.YtdkoafmgenbkbaaGreatDoor
namespace Go.Proofs.YtdkoafmgenbkbaaGreatDoor
open Go.RowKit
def kidT (g : Nat → Nat → List Nat) (d : ND) (i t : Nat) : List Nat := match d.kids[i]? with
  | some k => g k.toNat t
  | none => []
def bodyT (g : Nat → Nat → List Nat) (d : ND) : List Nat :=
  if d.kind = 1 then showN d.num
  else if d.kind = 2 then quoteN d.text
  else if d.kind = 7 then d.text
  else if levelN d.kind = 7 then kidT g d 0 7 ++ (markT d.kind ++ d.text)
  else if d.kind = 29 then [110, 111, 116, 32] ++ kidT g d 0 3
  else if levelN d.kind < 7 then kidT g d 0 (if levelN d.kind = 4 then 5 else levelN d.kind) ++ (([32] ++ markT d.kind) ++ [32]) ++ kidT g d 1 (levelN d.kind + 1)
  else if d.kind = 30 then [105, 102, 32] ++ kidT g d 0 0 ++ [32, 116, 104, 101, 110, 32] ++ kidT g d 1 0 ++ [32, 101, 108, 115, 101, 32] ++ kidT g d 2 0 ++ [32, 101, 110, 100]
  else if 31 ≤ d.kind then (((wordT d.kind ++ [32]) ++ d.text) ++ [32, 105, 110, 32]) ++ kidT g d 0 0 ++ [58, 32] ++ kidT g d 1 0 ++ [32, 101, 110, 100]
  else if d.kids.length = 1 then (wordT d.kind ++ [40]) ++ kidT g d 0 0 ++ [41]
  else wordT d.kind
def tellN (l : List ND) : Nat → Nat → Nat → List Nat
  | 0, _, _ => []
  | f + 1, m, t => match l[m]? with
    | none => []
    | some d => if levelN d.kind < t then [40] ++ bodyT (tellN l f) d ++ [41] else bodyT (tellN l f) d
section
variable {B b bb eb nb : Nat} {v : Value} {cs : Array Value} {W Y Y' : World} {o o' : List Nat}
theorem KeptBut.of_below {b : Nat} {w w' : World} (h : Below w.heap.size w w') : KeptBut b w w' := fun _ _ _ hb _ _ => hb.below h hb.lt
end
end Go.Proofs.YtdkoafmgenbkbaaGreatDoor
