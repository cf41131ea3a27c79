/- - -/
import Derived.Test.YtpkggobhhieeoaaDoorKM7
import Derived.Test.YtpkggobhhieeoaaDoorKLWd
set_option maxRecDepth 100000
set_option maxHeartbeats 32000000
set_option linter.unusedSimpArgs false
set_option linter.unusedVariables false
namespace Go.Proofs.YtpkggobhhieeoaaDoor
open Go.RowKit
section
variable {q : Nat} {a : Option Addr} {c sz : Nat} {l : List Tok} {i : Nat} {W : World}
theorem Reads.leaf {X : World} {k j g : Nat} {s : List Nat} {v : Int} (hm : Mv q W X) (hp : PSt q a c sz l j X) (hg : g = X.heap.size) :
    Reads q a c sz l W (.ok (.node k s v []) j) (.returned (.pointer (some ⟨g, 0, none⟩))) (X.alloc (.cells #[.int .i64 (k : Int), .string (txt s), .int .i64 v, .slice none 0 0, .slice none 0 0] 126)) := by
  subst hg
  have hb := (Below.refl X.heap.size X).alloc zL (.cells #[.int .i64 (k : Int), .string (txt s), .int .i64 v, .slice none 0 0, .slice none 0 0] 126)
  exact Reads.mk_ (node0 hm.low.size (Blk.new X 126 _)) (hm.trans (Mv.of_below hb (Nat.le_of_lt hp.box.lt))) (hp.keep hb)
theorem pP_none (f : Nat) (h : l[i]? = none) : pP l (f + 1) i = .no i := by rw [pP, h]
theorem pP_some (f : Nat) {t : Tok} (h : l[i]? = some t) : pP l (f + 1) i = if t.kind = 1 then .ok (.node 1 [] t.num []) (i + 1) else if t.kind = 2 then .ok (.node 2 t.text 0 []) (i + 1) else if t.kind = 3 then .ok (.node 7 t.text 0 []) (i + 1) else if t.kind = 5 then markR l f i t.text else wordR l f i t.text := by
  rw [pP, h, ← wordR_match]
  rfl
theorem p_prim (f : Nat) (HO : LevelC q a c sz l 55 (fun i => pL l f 1 i)) : LevelC q a c sz l 110 (fun i => pP l (f + 1) i) := by
  intro i W h hr
  simp only at hr ⊢
  have H := zH h
  have QL := zH h.box.lt
  obtain ⟨f0, f1, f2, f3, f4⟩ := h.facts
  obtain ⟨n, hn⟩ : ∃ n, l.length = n := ⟨_, rfl⟩
  have Hn := zH hn
  have hle := h.le
  have hfew := h.few
  rw [hn] at f0 hle hfew
  have n63 : n ≤ 9223372036854775807 := by omega
  have i5 : (i : Int) ≤ 5000 := by omega
  have i0 : (0 : Int) ≤ (i : Int) := Int.natCast_nonneg _
  by_cases hlt : i < n
  · obtain ⟨t, ht⟩ := get_some hn hlt
    have hg := h.good t (List.mem_iff_getElem?.2 ⟨i, ht⟩)
    rw [pP_some f ht] at hr ⊢
    obtain ⟨b0, off, rfl, t0, t1, t2, t3, hok⟩ := h.tok ht
    have HT := zH ht
    have ST := zH (fun X (hX : PSt q (some ⟨b0, off, none⟩) c sz l i X) (n : Nat) => hX.step (j := i + 1) (u := .int .i64 ((i : Int) + 1)) (by go_num) (by omega) n)
    have dlt : ((i : Int) == (n : Int)) = false := by simp; omega
    have ilt : (i : Int) < (n : Int) := by omega
    obtain ⟨⟨kd, tt, tn, tp⟩, htt⟩ : ∃ z, t = z := ⟨_, rfl⟩
    subst htt
    simp only at t0 t1 t2 t3 hr ⊢
    have HTG := zH hg
    clear hg hok h ht hn hfew hle
    by_cases hk1 : kd = 1
    · subst hk1
      simp only [if_true] at hr ⊢
      go_enter Tryd.func110, Tryd.ntmps110
      go_wp2_with fail
      go_quiet (fail)
      go_wp2_with fail
      generalize hwq : World.drewN W _ = W1
      have g0 : W1.cell? ⟨q, 0, none⟩ = some (.slice (some ⟨b0, off, none⟩) n c) := by rw [← hwq]; exact f0
      have g1 : W1.cell? ⟨q, 1, none⟩ = some (.int .i64 (i : Int)) := by rw [← hwq]; exact f1
      have u0 : W1.cell? ⟨b0, off + i * 4, none⟩ = some (.int .i64 1) := by rw [← hwq]; exact t0
      have u1 : W1.cell? ⟨b0, off + i * 4 + 1, none⟩ = some (.string (txt tt)) := by rw [← hwq]; exact t1
      have u2 : W1.cell? ⟨b0, off + i * 4 + 2, none⟩ = some (.int .i64 tn) := by rw [← hwq]; exact t2
      have u3 : W1.cell? ⟨b0, off + i * 4 + 3, none⟩ = some (.int .i64 tp) := by rw [← hwq]; exact t3
      have P1 : Hid (PSt q (some ⟨b0, off, none⟩) c sz l i W1) := zH (by rw [← hwq]; exact H.out.quiet ⟨_, rfl⟩)
      have M1 : Hid (Mv q W W1) := zH (by rw [← hwq]; exact Mv.quiet ⟨_, rfl⟩)
      clear hwq f0 f1 f2 f3 f4 t0 t1 t2 t3
      have n0 := World.new_ne W1 _ g0
      have n1 := World.new_ne W1 _ g1
      have n2 := World.new_ne W1 _ u0
      go_region_held3 (fun w' => w'.cell? ⟨q, 0, none⟩ = some (.slice (some ⟨b0, off, none⟩) n c) ∧ w'.cell? ⟨q, 1, none⟩ = some (.int .i64 (i : Int)) ∧ w'.cell? ⟨b0, off + i * 4, none⟩ = some (.int .i64 1) ∧ w'.cell? ⟨b0, off + i * 4 + 1, none⟩ = some (.string (txt tt)) ∧ w'.cell? ⟨b0, off + i * 4 + 2, none⟩ = some (.int .i64 tn) ∧ w'.cell? ⟨b0, off + i * 4 + 3, none⟩ = some (.int .i64 tp))
        (first | go_keep | fail)
        (first | fail)
      have bo := ((Below.refl W1.heap.size W1).alloc zL (.cells #[.int .i64 1, .string (txt tt), .int .i64 tn, .int .i64 tp] 110)).drew
      have bk : Blk (W1.alloc (.cells #[.int .i64 1, .string (txt tt), .int .i64 tn, .int .i64 tp] 110)).drew W1.heap.size 110 #[.int .i64 1, .string (txt tt), .int .i64 tn, .int .i64 tp] := Blk.new W1 _ _
      have lq := P1.out.box.lt
      generalize hwq : World.drew (World.alloc _ _) = W2
      rw [hwq] at bo bk
      clear hwq
      obtain ⟨bt, hbt⟩ : ∃ z, W1.heap.size = z := ⟨_, rfl⟩
      have M2 : Hid (Mv q W W2) := zH (M1.out.trans (Mv.of_below bo (Nat.le_of_lt lq)))
      have P2 := zH (P1.out.keep bo)
      rw [hbt] at lq bk ⊢
      have v0 : W2.cell? ⟨bt, 0, none⟩ = some (.int .i64 1) := bk.cell rfl
      have v1 : W2.cell? ⟨bt, 1, none⟩ = some (.string (txt tt)) := bk.cell rfl
      have v2 : W2.cell? ⟨bt, 2, none⟩ = some (.int .i64 tn) := bk.cell rfl
      have lbt := bk.lt
      have hbq : ¬ bt = q := by omega
      have hbq2 : ¬ q = bt := by omega
      clear bo bk hbt n0 n1 n2 g0 g1 u0 u1 u2 u3
      obtain ⟨g0, g1, g2, g3, g4⟩ := P2.out.facts
      rw [Hn.out] at g0
      go_wp2_with fail
      go_ret
      have hse : W2.heap.size = (W2.setCell ⟨q, 1, none⟩ (.int .i64 ((i : Int) + 1))).heap.size := by rw [World.size_setCell]
      exact Reads.leaf (k := 1) (s := []) (v := tn) (M2.out.trans (Mv.set q W2 1 (.int .i64 ((i : Int) + 1)))) (P2.out.set (j := i + 1) (by go_num) (by rw [Hn.out]; omega)) hse
    by_cases hk2 : kd = 2
    · subst hk2
      simp only [if_neg hk1, if_true] at hr ⊢
      go_enter Tryd.func110, Tryd.ntmps110
      go_wp2_with fail
      go_quiet (fail)
      go_wp2_with fail
      generalize hwq : World.drewN W _ = W1
      have g0 : W1.cell? ⟨q, 0, none⟩ = some (.slice (some ⟨b0, off, none⟩) n c) := by rw [← hwq]; exact f0
      have g1 : W1.cell? ⟨q, 1, none⟩ = some (.int .i64 (i : Int)) := by rw [← hwq]; exact f1
      have u0 : W1.cell? ⟨b0, off + i * 4, none⟩ = some (.int .i64 2) := by rw [← hwq]; exact t0
      have u1 : W1.cell? ⟨b0, off + i * 4 + 1, none⟩ = some (.string (txt tt)) := by rw [← hwq]; exact t1
      have u2 : W1.cell? ⟨b0, off + i * 4 + 2, none⟩ = some (.int .i64 tn) := by rw [← hwq]; exact t2
      have u3 : W1.cell? ⟨b0, off + i * 4 + 3, none⟩ = some (.int .i64 tp) := by rw [← hwq]; exact t3
      have P1 : Hid (PSt q (some ⟨b0, off, none⟩) c sz l i W1) := zH (by rw [← hwq]; exact H.out.quiet ⟨_, rfl⟩)
      have M1 : Hid (Mv q W W1) := zH (by rw [← hwq]; exact Mv.quiet ⟨_, rfl⟩)
      clear hwq f0 f1 f2 f3 f4 t0 t1 t2 t3
      have n0 := World.new_ne W1 _ g0
      have n1 := World.new_ne W1 _ g1
      have n2 := World.new_ne W1 _ u0
      go_region_held3 (fun w' => w'.cell? ⟨q, 0, none⟩ = some (.slice (some ⟨b0, off, none⟩) n c) ∧ w'.cell? ⟨q, 1, none⟩ = some (.int .i64 (i : Int)) ∧ w'.cell? ⟨b0, off + i * 4, none⟩ = some (.int .i64 2) ∧ w'.cell? ⟨b0, off + i * 4 + 1, none⟩ = some (.string (txt tt)) ∧ w'.cell? ⟨b0, off + i * 4 + 2, none⟩ = some (.int .i64 tn) ∧ w'.cell? ⟨b0, off + i * 4 + 3, none⟩ = some (.int .i64 tp))
        (first | go_keep | fail)
        (first | fail)
      have bo := ((Below.refl W1.heap.size W1).alloc zL (.cells #[.int .i64 2, .string (txt tt), .int .i64 tn, .int .i64 tp] 110)).drew
      have bk : Blk (W1.alloc (.cells #[.int .i64 2, .string (txt tt), .int .i64 tn, .int .i64 tp] 110)).drew W1.heap.size 110 #[.int .i64 2, .string (txt tt), .int .i64 tn, .int .i64 tp] := Blk.new W1 _ _
      have lq := P1.out.box.lt
      generalize hwq : World.drew (World.alloc _ _) = W2
      rw [hwq] at bo bk
      clear hwq
      obtain ⟨bt, hbt⟩ : ∃ z, W1.heap.size = z := ⟨_, rfl⟩
      have M2 : Hid (Mv q W W2) := zH (M1.out.trans (Mv.of_below bo (Nat.le_of_lt lq)))
      have P2 := zH (P1.out.keep bo)
      rw [hbt] at lq bk ⊢
      have v0 : W2.cell? ⟨bt, 0, none⟩ = some (.int .i64 2) := bk.cell rfl
      have v1 : W2.cell? ⟨bt, 1, none⟩ = some (.string (txt tt)) := bk.cell rfl
      have v2 : W2.cell? ⟨bt, 2, none⟩ = some (.int .i64 tn) := bk.cell rfl
      have lbt := bk.lt
      have hbq : ¬ bt = q := by omega
      have hbq2 : ¬ q = bt := by omega
      clear bo bk hbt n0 n1 n2 g0 g1 u0 u1 u2 u3
      obtain ⟨g0, g1, g2, g3, g4⟩ := P2.out.facts
      rw [Hn.out] at g0
      go_wp2_with (first
        | (go_at_call 93; refine (p_of 2 tt _ _ _ _).mono ?_; rintro e w4 ⟨rfl, rfl⟩))
      go_ret
      have hse : W2.heap.size = (W2.setCell ⟨q, 1, none⟩ (.int .i64 ((i : Int) + 1))).heap.size := by rw [World.size_setCell]
      exact Reads.leaf (k := 2) (s := tt) (v := 0) (M2.out.trans (Mv.set q W2 1 (.int .i64 ((i : Int) + 1)))) (P2.out.set (j := i + 1) (by go_num) (by rw [Hn.out]; omega)) hse
    by_cases hk3 : kd = 3
    · subst hk3
      simp only [if_neg hk1, if_neg hk2, if_true] at hr ⊢
      go_enter Tryd.func110, Tryd.ntmps110
      go_wp2_with fail
      go_quiet (fail)
      go_wp2_with fail
      generalize hwq : World.drewN W _ = W1
      have g0 : W1.cell? ⟨q, 0, none⟩ = some (.slice (some ⟨b0, off, none⟩) n c) := by rw [← hwq]; exact f0
      have g1 : W1.cell? ⟨q, 1, none⟩ = some (.int .i64 (i : Int)) := by rw [← hwq]; exact f1
      have u0 : W1.cell? ⟨b0, off + i * 4, none⟩ = some (.int .i64 3) := by rw [← hwq]; exact t0
      have u1 : W1.cell? ⟨b0, off + i * 4 + 1, none⟩ = some (.string (txt tt)) := by rw [← hwq]; exact t1
      have u2 : W1.cell? ⟨b0, off + i * 4 + 2, none⟩ = some (.int .i64 tn) := by rw [← hwq]; exact t2
      have u3 : W1.cell? ⟨b0, off + i * 4 + 3, none⟩ = some (.int .i64 tp) := by rw [← hwq]; exact t3
      have P1 : Hid (PSt q (some ⟨b0, off, none⟩) c sz l i W1) := zH (by rw [← hwq]; exact H.out.quiet ⟨_, rfl⟩)
      have M1 : Hid (Mv q W W1) := zH (by rw [← hwq]; exact Mv.quiet ⟨_, rfl⟩)
      clear hwq f0 f1 f2 f3 f4 t0 t1 t2 t3
      have n0 := World.new_ne W1 _ g0
      have n1 := World.new_ne W1 _ g1
      have n2 := World.new_ne W1 _ u0
      go_region_held3 (fun w' => w'.cell? ⟨q, 0, none⟩ = some (.slice (some ⟨b0, off, none⟩) n c) ∧ w'.cell? ⟨q, 1, none⟩ = some (.int .i64 (i : Int)) ∧ w'.cell? ⟨b0, off + i * 4, none⟩ = some (.int .i64 3) ∧ w'.cell? ⟨b0, off + i * 4 + 1, none⟩ = some (.string (txt tt)) ∧ w'.cell? ⟨b0, off + i * 4 + 2, none⟩ = some (.int .i64 tn) ∧ w'.cell? ⟨b0, off + i * 4 + 3, none⟩ = some (.int .i64 tp))
        (first | go_keep | fail)
        (first | fail)
      have bo := ((Below.refl W1.heap.size W1).alloc zL (.cells #[.int .i64 3, .string (txt tt), .int .i64 tn, .int .i64 tp] 110)).drew
      have bk : Blk (W1.alloc (.cells #[.int .i64 3, .string (txt tt), .int .i64 tn, .int .i64 tp] 110)).drew W1.heap.size 110 #[.int .i64 3, .string (txt tt), .int .i64 tn, .int .i64 tp] := Blk.new W1 _ _
      have lq := P1.out.box.lt
      generalize hwq : World.drew (World.alloc _ _) = W2
      rw [hwq] at bo bk
      clear hwq
      obtain ⟨bt, hbt⟩ : ∃ z, W1.heap.size = z := ⟨_, rfl⟩
      have M2 : Hid (Mv q W W2) := zH (M1.out.trans (Mv.of_below bo (Nat.le_of_lt lq)))
      have P2 := zH (P1.out.keep bo)
      rw [hbt] at lq bk ⊢
      have v0 : W2.cell? ⟨bt, 0, none⟩ = some (.int .i64 3) := bk.cell rfl
      have v1 : W2.cell? ⟨bt, 1, none⟩ = some (.string (txt tt)) := bk.cell rfl
      have v2 : W2.cell? ⟨bt, 2, none⟩ = some (.int .i64 tn) := bk.cell rfl
      have lbt := bk.lt
      have hbq : ¬ bt = q := by omega
      have hbq2 : ¬ q = bt := by omega
      clear bo bk hbt n0 n1 n2 g0 g1 u0 u1 u2 u3
      obtain ⟨g0, g1, g2, g3, g4⟩ := P2.out.facts
      rw [Hn.out] at g0
      go_wp2_with (first
        | (go_at_call 93; refine (p_of 7 tt _ _ _ _).mono ?_; rintro e w4 ⟨rfl, rfl⟩))
      go_ret
      have hse : W2.heap.size = (W2.setCell ⟨q, 1, none⟩ (.int .i64 ((i : Int) + 1))).heap.size := by rw [World.size_setCell]
      exact Reads.leaf (k := 7) (s := tt) (v := 0) (M2.out.trans (Mv.set q W2 1 (.int .i64 ((i : Int) + 1)))) (P2.out.set (j := i + 1) (by go_num) (by rw [Hn.out]; omega)) hse
    by_cases hk5 : kd = 5
    · subst hk5
      simp only [if_neg hk1, if_neg hk2, if_neg hk3, if_true] at hr ⊢
      obtain ⟨r, hrr⟩ : ∃ r, markR l f i tt = r := ⟨_, rfl⟩
      have hr0 := hr
      have HX : Hid (∀ X, PSt q (some ⟨b0, off, none⟩) c sz l i X → Calls Tryd.prog 112 #[.pointer (some ⟨q, 0, none⟩)] X (Reads q (some ⟨b0, off, none⟩) c sz l X r)) := zH (fun X hX => by rw [← hrr]; exact p_mark HT.out rfl f HO hX hr)
      rw [hrr] at hr ⊢
      clear hk1 hk2 hk3
      clear hrr HO hr0
      cases r with
      | out => exact absurd rfl hr
      | no j =>
        clear hr
        go_enter Tryd.func110, Tryd.ntmps110
        go_wp2_with fail
        go_quiet (fail)
        go_wp2_with fail
        generalize hwq : World.drewN W _ = W1
        have g0 : W1.cell? ⟨q, 0, none⟩ = some (.slice (some ⟨b0, off, none⟩) n c) := by rw [← hwq]; exact f0
        have g1 : W1.cell? ⟨q, 1, none⟩ = some (.int .i64 (i : Int)) := by rw [← hwq]; exact f1
        have u0 : W1.cell? ⟨b0, off + i * 4, none⟩ = some (.int .i64 5) := by rw [← hwq]; exact t0
        have u1 : W1.cell? ⟨b0, off + i * 4 + 1, none⟩ = some (.string (txt tt)) := by rw [← hwq]; exact t1
        have u2 : W1.cell? ⟨b0, off + i * 4 + 2, none⟩ = some (.int .i64 tn) := by rw [← hwq]; exact t2
        have u3 : W1.cell? ⟨b0, off + i * 4 + 3, none⟩ = some (.int .i64 tp) := by rw [← hwq]; exact t3
        have P1 : Hid (PSt q (some ⟨b0, off, none⟩) c sz l i W1) := zH (by rw [← hwq]; exact H.out.quiet ⟨_, rfl⟩)
        have M1 : Hid (Mv q W W1) := zH (by rw [← hwq]; exact Mv.quiet ⟨_, rfl⟩)
        clear hwq f0 f1 f2 f3 f4 t0 t1 t2 t3
        have n0 := World.new_ne W1 _ g0
        have n1 := World.new_ne W1 _ g1
        have n2 := World.new_ne W1 _ u0
        go_region_held3 (fun w' => w'.cell? ⟨q, 0, none⟩ = some (.slice (some ⟨b0, off, none⟩) n c) ∧ w'.cell? ⟨q, 1, none⟩ = some (.int .i64 (i : Int)) ∧ w'.cell? ⟨b0, off + i * 4, none⟩ = some (.int .i64 5) ∧ w'.cell? ⟨b0, off + i * 4 + 1, none⟩ = some (.string (txt tt)) ∧ w'.cell? ⟨b0, off + i * 4 + 2, none⟩ = some (.int .i64 tn) ∧ w'.cell? ⟨b0, off + i * 4 + 3, none⟩ = some (.int .i64 tp))
          (first | go_keep | fail)
          (first | fail)
        have bo := ((Below.refl W1.heap.size W1).alloc zL (.cells #[.int .i64 5, .string (txt tt), .int .i64 tn, .int .i64 tp] 110)).drew
        have bk : Blk (W1.alloc (.cells #[.int .i64 5, .string (txt tt), .int .i64 tn, .int .i64 tp] 110)).drew W1.heap.size 110 #[.int .i64 5, .string (txt tt), .int .i64 tn, .int .i64 tp] := Blk.new W1 _ _
        have lq := P1.out.box.lt
        generalize hwq : World.drew (World.alloc _ _) = W2
        rw [hwq] at bo bk
        clear hwq
        obtain ⟨bt, hbt⟩ : ∃ z, W1.heap.size = z := ⟨_, rfl⟩
        have M2 : Hid (Mv q W W2) := zH (M1.out.trans (Mv.of_below bo (Nat.le_of_lt lq)))
        have P2 := zH (P1.out.keep bo)
        rw [hbt] at lq bk ⊢
        have v0 : W2.cell? ⟨bt, 0, none⟩ = some (.int .i64 5) := bk.cell rfl
        have v1 : W2.cell? ⟨bt, 1, none⟩ = some (.string (txt tt)) := bk.cell rfl
        have v2 : W2.cell? ⟨bt, 2, none⟩ = some (.int .i64 tn) := bk.cell rfl
        have lbt := bk.lt
        have hbq : ¬ bt = q := by omega
        have hbq2 : ¬ q = bt := by omega
        clear bo bk hbt n0 n1 n2 g0 g1 u0 u1 u2 u3
        obtain ⟨g0, g1, g2, g3, g4⟩ := P2.out.facts
        rw [Hn.out] at g0
        go_wp2_with (first
          | (go_at_call 112; refine (HX.out _ P2.out).mono ?_; rintro e w4 ⟨rfl, h1⟩; have M4 := zH h1; clear h1))
        exact ⟨rfl, rfl, M2.out.trans M4.out⟩
      | ok t j =>
        clear hr
        go_enter Tryd.func110, Tryd.ntmps110
        go_wp2_with fail
        go_quiet (fail)
        go_wp2_with fail
        generalize hwq : World.drewN W _ = W1
        have g0 : W1.cell? ⟨q, 0, none⟩ = some (.slice (some ⟨b0, off, none⟩) n c) := by rw [← hwq]; exact f0
        have g1 : W1.cell? ⟨q, 1, none⟩ = some (.int .i64 (i : Int)) := by rw [← hwq]; exact f1
        have u0 : W1.cell? ⟨b0, off + i * 4, none⟩ = some (.int .i64 5) := by rw [← hwq]; exact t0
        have u1 : W1.cell? ⟨b0, off + i * 4 + 1, none⟩ = some (.string (txt tt)) := by rw [← hwq]; exact t1
        have u2 : W1.cell? ⟨b0, off + i * 4 + 2, none⟩ = some (.int .i64 tn) := by rw [← hwq]; exact t2
        have u3 : W1.cell? ⟨b0, off + i * 4 + 3, none⟩ = some (.int .i64 tp) := by rw [← hwq]; exact t3
        have P1 : Hid (PSt q (some ⟨b0, off, none⟩) c sz l i W1) := zH (by rw [← hwq]; exact H.out.quiet ⟨_, rfl⟩)
        have M1 : Hid (Mv q W W1) := zH (by rw [← hwq]; exact Mv.quiet ⟨_, rfl⟩)
        clear hwq f0 f1 f2 f3 f4 t0 t1 t2 t3
        have n0 := World.new_ne W1 _ g0
        have n1 := World.new_ne W1 _ g1
        have n2 := World.new_ne W1 _ u0
        go_region_held3 (fun w' => w'.cell? ⟨q, 0, none⟩ = some (.slice (some ⟨b0, off, none⟩) n c) ∧ w'.cell? ⟨q, 1, none⟩ = some (.int .i64 (i : Int)) ∧ w'.cell? ⟨b0, off + i * 4, none⟩ = some (.int .i64 5) ∧ w'.cell? ⟨b0, off + i * 4 + 1, none⟩ = some (.string (txt tt)) ∧ w'.cell? ⟨b0, off + i * 4 + 2, none⟩ = some (.int .i64 tn) ∧ w'.cell? ⟨b0, off + i * 4 + 3, none⟩ = some (.int .i64 tp))
          (first | go_keep | fail)
          (first | fail)
        have bo := ((Below.refl W1.heap.size W1).alloc zL (.cells #[.int .i64 5, .string (txt tt), .int .i64 tn, .int .i64 tp] 110)).drew
        have bk : Blk (W1.alloc (.cells #[.int .i64 5, .string (txt tt), .int .i64 tn, .int .i64 tp] 110)).drew W1.heap.size 110 #[.int .i64 5, .string (txt tt), .int .i64 tn, .int .i64 tp] := Blk.new W1 _ _
        have lq := P1.out.box.lt
        generalize hwq : World.drew (World.alloc _ _) = W2
        rw [hwq] at bo bk
        clear hwq
        obtain ⟨bt, hbt⟩ : ∃ z, W1.heap.size = z := ⟨_, rfl⟩
        have M2 : Hid (Mv q W W2) := zH (M1.out.trans (Mv.of_below bo (Nat.le_of_lt lq)))
        have P2 := zH (P1.out.keep bo)
        rw [hbt] at lq bk ⊢
        have v0 : W2.cell? ⟨bt, 0, none⟩ = some (.int .i64 5) := bk.cell rfl
        have v1 : W2.cell? ⟨bt, 1, none⟩ = some (.string (txt tt)) := bk.cell rfl
        have v2 : W2.cell? ⟨bt, 2, none⟩ = some (.int .i64 tn) := bk.cell rfl
        have lbt := bk.lt
        have hbq : ¬ bt = q := by omega
        have hbq2 : ¬ q = bt := by omega
        clear bo bk hbt n0 n1 n2 g0 g1 u0 u1 u2 u3
        obtain ⟨g0, g1, g2, g3, g4⟩ := P2.out.facts
        rw [Hn.out] at g0
        go_wp2_with (first
          | (go_at_call 112; refine (HX.out _ P2.out).mono ?_; rintro e w4 h1; obtain ⟨g9, rfl, h3, h4, h5⟩ := h1.get; have M4 := zH (And.intro h3 (And.intro h4 h5)); clear h1 h3 h4 h5))
        go_ret
        exact (Reads.mk_ M4.out.1 M4.out.2.1 M4.out.2.2).back M2.out
    · have h0 : (kd = 1 ∧ 0 ≤ tn) ∨ kd = 2 ∨ kd = 3 ∨ (kd = 4 ∧ tt ∈ wordsL) ∨ (kd = 5 ∧ tt ∈ marksL) := HTG.out
      have h1 : kd = 4 ∧ tt ∈ wordsL := by
        rcases h0 with h | h | h | h | h
        · exact absurd h.1 hk1
        · exact absurd h hk2
        · exact absurd h hk3
        · exact h
        · exact absurd h.1 hk5
      obtain ⟨hk4, hwd⟩ := h1
      clear h0
      subst hk4
      simp only [if_neg hk1, if_neg hk2, if_neg hk3, if_neg hk5] at hr ⊢
      obtain ⟨r, hrr⟩ : ∃ r, wordR l f i tt = r := ⟨_, rfl⟩
      have hr0 := hr
      have HX : Hid (∀ X, PSt q (some ⟨b0, off, none⟩) c sz l i X → Calls Tryd.prog 113 #[.pointer (some ⟨q, 0, none⟩)] X (Reads q (some ⟨b0, off, none⟩) c sz l X r)) := zH (fun X hX => by rw [← hrr]; exact p_word HT.out hwd f HO hX hr)
      rw [hrr] at hr ⊢
      clear hk1 hk2 hk3 hk5 hwd
      clear hrr HO hr0
      cases r with
      | out => exact absurd rfl hr
      | no j =>
        clear hr
        go_enter Tryd.func110, Tryd.ntmps110
        go_wp2_with fail
        go_quiet (fail)
        go_wp2_with fail
        generalize hwq : World.drewN W _ = W1
        have g0 : W1.cell? ⟨q, 0, none⟩ = some (.slice (some ⟨b0, off, none⟩) n c) := by rw [← hwq]; exact f0
        have g1 : W1.cell? ⟨q, 1, none⟩ = some (.int .i64 (i : Int)) := by rw [← hwq]; exact f1
        have u0 : W1.cell? ⟨b0, off + i * 4, none⟩ = some (.int .i64 4) := by rw [← hwq]; exact t0
        have u1 : W1.cell? ⟨b0, off + i * 4 + 1, none⟩ = some (.string (txt tt)) := by rw [← hwq]; exact t1
        have u2 : W1.cell? ⟨b0, off + i * 4 + 2, none⟩ = some (.int .i64 tn) := by rw [← hwq]; exact t2
        have u3 : W1.cell? ⟨b0, off + i * 4 + 3, none⟩ = some (.int .i64 tp) := by rw [← hwq]; exact t3
        have P1 : Hid (PSt q (some ⟨b0, off, none⟩) c sz l i W1) := zH (by rw [← hwq]; exact H.out.quiet ⟨_, rfl⟩)
        have M1 : Hid (Mv q W W1) := zH (by rw [← hwq]; exact Mv.quiet ⟨_, rfl⟩)
        clear hwq f0 f1 f2 f3 f4 t0 t1 t2 t3
        have n0 := World.new_ne W1 _ g0
        have n1 := World.new_ne W1 _ g1
        have n2 := World.new_ne W1 _ u0
        go_region_held3 (fun w' => w'.cell? ⟨q, 0, none⟩ = some (.slice (some ⟨b0, off, none⟩) n c) ∧ w'.cell? ⟨q, 1, none⟩ = some (.int .i64 (i : Int)) ∧ w'.cell? ⟨b0, off + i * 4, none⟩ = some (.int .i64 4) ∧ w'.cell? ⟨b0, off + i * 4 + 1, none⟩ = some (.string (txt tt)) ∧ w'.cell? ⟨b0, off + i * 4 + 2, none⟩ = some (.int .i64 tn) ∧ w'.cell? ⟨b0, off + i * 4 + 3, none⟩ = some (.int .i64 tp))
          (first | go_keep | fail)
          (first | fail)
        have bo := ((Below.refl W1.heap.size W1).alloc zL (.cells #[.int .i64 4, .string (txt tt), .int .i64 tn, .int .i64 tp] 110)).drew
        have bk : Blk (W1.alloc (.cells #[.int .i64 4, .string (txt tt), .int .i64 tn, .int .i64 tp] 110)).drew W1.heap.size 110 #[.int .i64 4, .string (txt tt), .int .i64 tn, .int .i64 tp] := Blk.new W1 _ _
        have lq := P1.out.box.lt
        generalize hwq : World.drew (World.alloc _ _) = W2
        rw [hwq] at bo bk
        clear hwq
        obtain ⟨bt, hbt⟩ : ∃ z, W1.heap.size = z := ⟨_, rfl⟩
        have M2 : Hid (Mv q W W2) := zH (M1.out.trans (Mv.of_below bo (Nat.le_of_lt lq)))
        have P2 := zH (P1.out.keep bo)
        rw [hbt] at lq bk ⊢
        have v0 : W2.cell? ⟨bt, 0, none⟩ = some (.int .i64 4) := bk.cell rfl
        have v1 : W2.cell? ⟨bt, 1, none⟩ = some (.string (txt tt)) := bk.cell rfl
        have v2 : W2.cell? ⟨bt, 2, none⟩ = some (.int .i64 tn) := bk.cell rfl
        have lbt := bk.lt
        have hbq : ¬ bt = q := by omega
        have hbq2 : ¬ q = bt := by omega
        clear bo bk hbt n0 n1 n2 g0 g1 u0 u1 u2 u3
        obtain ⟨g0, g1, g2, g3, g4⟩ := P2.out.facts
        rw [Hn.out] at g0
        go_wp2_with (first
          | (go_at_call 113; refine (HX.out _ P2.out).mono ?_; rintro e w4 ⟨rfl, h1⟩; have M4 := zH h1; clear h1))
        exact ⟨rfl, rfl, M2.out.trans M4.out⟩
      | ok t j =>
        clear hr
        go_enter Tryd.func110, Tryd.ntmps110
        go_wp2_with fail
        go_quiet (fail)
        go_wp2_with fail
        generalize hwq : World.drewN W _ = W1
        have g0 : W1.cell? ⟨q, 0, none⟩ = some (.slice (some ⟨b0, off, none⟩) n c) := by rw [← hwq]; exact f0
        have g1 : W1.cell? ⟨q, 1, none⟩ = some (.int .i64 (i : Int)) := by rw [← hwq]; exact f1
        have u0 : W1.cell? ⟨b0, off + i * 4, none⟩ = some (.int .i64 4) := by rw [← hwq]; exact t0
        have u1 : W1.cell? ⟨b0, off + i * 4 + 1, none⟩ = some (.string (txt tt)) := by rw [← hwq]; exact t1
        have u2 : W1.cell? ⟨b0, off + i * 4 + 2, none⟩ = some (.int .i64 tn) := by rw [← hwq]; exact t2
        have u3 : W1.cell? ⟨b0, off + i * 4 + 3, none⟩ = some (.int .i64 tp) := by rw [← hwq]; exact t3
        have P1 : Hid (PSt q (some ⟨b0, off, none⟩) c sz l i W1) := zH (by rw [← hwq]; exact H.out.quiet ⟨_, rfl⟩)
        have M1 : Hid (Mv q W W1) := zH (by rw [← hwq]; exact Mv.quiet ⟨_, rfl⟩)
        clear hwq f0 f1 f2 f3 f4 t0 t1 t2 t3
        have n0 := World.new_ne W1 _ g0
        have n1 := World.new_ne W1 _ g1
        have n2 := World.new_ne W1 _ u0
        go_region_held3 (fun w' => w'.cell? ⟨q, 0, none⟩ = some (.slice (some ⟨b0, off, none⟩) n c) ∧ w'.cell? ⟨q, 1, none⟩ = some (.int .i64 (i : Int)) ∧ w'.cell? ⟨b0, off + i * 4, none⟩ = some (.int .i64 4) ∧ w'.cell? ⟨b0, off + i * 4 + 1, none⟩ = some (.string (txt tt)) ∧ w'.cell? ⟨b0, off + i * 4 + 2, none⟩ = some (.int .i64 tn) ∧ w'.cell? ⟨b0, off + i * 4 + 3, none⟩ = some (.int .i64 tp))
          (first | go_keep | fail)
          (first | fail)
        have bo := ((Below.refl W1.heap.size W1).alloc zL (.cells #[.int .i64 4, .string (txt tt), .int .i64 tn, .int .i64 tp] 110)).drew
        have bk : Blk (W1.alloc (.cells #[.int .i64 4, .string (txt tt), .int .i64 tn, .int .i64 tp] 110)).drew W1.heap.size 110 #[.int .i64 4, .string (txt tt), .int .i64 tn, .int .i64 tp] := Blk.new W1 _ _
        have lq := P1.out.box.lt
        generalize hwq : World.drew (World.alloc _ _) = W2
        rw [hwq] at bo bk
        clear hwq
        obtain ⟨bt, hbt⟩ : ∃ z, W1.heap.size = z := ⟨_, rfl⟩
        have M2 : Hid (Mv q W W2) := zH (M1.out.trans (Mv.of_below bo (Nat.le_of_lt lq)))
        have P2 := zH (P1.out.keep bo)
        rw [hbt] at lq bk ⊢
        have v0 : W2.cell? ⟨bt, 0, none⟩ = some (.int .i64 4) := bk.cell rfl
        have v1 : W2.cell? ⟨bt, 1, none⟩ = some (.string (txt tt)) := bk.cell rfl
        have v2 : W2.cell? ⟨bt, 2, none⟩ = some (.int .i64 tn) := bk.cell rfl
        have lbt := bk.lt
        have hbq : ¬ bt = q := by omega
        have hbq2 : ¬ q = bt := by omega
        clear bo bk hbt n0 n1 n2 g0 g1 u0 u1 u2 u3
        obtain ⟨g0, g1, g2, g3, g4⟩ := P2.out.facts
        rw [Hn.out] at g0
        go_wp2_with (first
          | (go_at_call 113; refine (HX.out _ P2.out).mono ?_; rintro e w4 h1; obtain ⟨g9, rfl, h3, h4, h5⟩ := h1.get; have M4 := zH (And.intro h3 (And.intro h4 h5)); clear h1 h3 h4 h5))
        go_ret
        exact (Reads.mk_ M4.out.1 M4.out.2.1 M4.out.2.2).back M2.out
  · have hnone : l[i]? = none := List.getElem?_eq_none (by omega)
    rw [pP_none f hnone] at hr ⊢
    obtain rfl : i = n := by omega
    have dlt : ((i : Int) == (i : Int)) = true := by simp
    clear h hn hr hnone hlt HO
    go_enter Tryd.func110, Tryd.ntmps110
    go_wp2_with fail
    go_quiet (fail)
    go_wp2_with (first
      | (go_at_call 56; (refine (p_give (H.out.quiet ⟨_, rfl⟩)).mono ?_); rintro e w2 ⟨rfl, q2⟩; have Q2 := zH q2; clear q2))
    exact ⟨rfl, rfl, (Mv.quiet ⟨_, rfl⟩).trans (Mv.quiet Q2.out)⟩
end
end Go.Proofs.YtpkggobhhieeoaaDoor
