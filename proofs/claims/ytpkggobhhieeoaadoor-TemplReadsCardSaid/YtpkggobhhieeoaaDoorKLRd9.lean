/- - -/
import Derived.Test.YtpkggobhhieeoaaDoorKM8
import Derived.Test.YtpkggobhhieeoaaDoorKLRScan
set_option maxRecDepth 100000
set_option maxHeartbeats 32000000
set_option linter.unusedSimpArgs false
set_option linter.unusedVariables false
namespace Go.Proofs.YtpkggobhhieeoaaDoor
open Go.RowKit
def trueT : List Nat := [116, 114, 117, 101]
def falseT : List Nat := [102, 97, 108, 115, 101]
def selfT : List Nat := [115, 101, 108, 102]
def noneT : List Nat := [110, 111, 110, 101]
def ifT : List Nat := [105, 102]
theorem tl_minusT : (txt minusT).toList = [45] := by rw [show txt minusT = ⟨#[45]⟩ from by decide]; simp
theorem tl_openT : (txt openT).toList = [40] := by rw [show txt openT = ⟨#[40]⟩ from by decide]; simp
theorem tl_trueT : (txt trueT).toList = [116, 114, 117, 101] := by rw [show txt trueT = ⟨#[116, 114, 117, 101]⟩ from by decide]; simp
theorem tl_falseT : (txt falseT).toList = [102, 97, 108, 115, 101] := by rw [show txt falseT = ⟨#[102, 97, 108, 115, 101]⟩ from by decide]; simp
theorem tl_selfT : (txt selfT).toList = [115, 101, 108, 102] := by rw [show txt selfT = ⟨#[115, 101, 108, 102]⟩ from by decide]; simp
theorem tl_noneT : (txt noneT).toList = [110, 111, 110, 101] := by rw [show txt noneT = ⟨#[110, 111, 110, 101]⟩ from by decide]; simp
theorem tl_ifT : (txt ifT).toList = [105, 102] := by rw [show txt ifT = ⟨#[105, 102]⟩ from by decide]; simp
section
variable {l : List Tok} {f i k : Nat} {s : List Nat}
theorem wordR_leaf (h : oneN s = (k, 0)) (hk : k ≠ 0) : wordR l f i s = .ok (.node k [] 0 []) (i + 1) := by
  unfold wordR
  rw [h]
  simp [hk]
theorem wordR_one (h : oneN s = (k, 1)) (hk : k ≠ 0) : wordR l f i s = kMust l openT (kLev l f (kMust l closeT (kEnd k [] 0))) [] (i + 1) := by
  unfold wordR
  rw [h]
  simp only [if_neg hk]
  rfl
theorem wordR_loop (h : oneN s = (k, 2)) (hk : k ≠ 0) : wordR l f i s = kName l (fun s => kMust l inT (kLev l f (kMust l colonT (kLev l f (kMust l endT (kEnd k s 0)))))) [] (i + 1) := by
  unfold wordR
  rw [h]
  simp only [if_neg hk]
  rfl
theorem wordR_if (h : oneN s = (k, 3)) (hk : k ≠ 0) : wordR l f i s = kLev l f (kMust l thenT (kLev l f (kMust l elseT (kLev l f (kMust l endT (kEnd k [] 0)))))) [] (i + 1) := by
  unfold wordR
  rw [h]
  simp only [if_neg hk]
  rfl
theorem wordR_no (h : (oneN s).1 = 0) : wordR l f i s = .no i := by
  unfold wordR
  rw [if_pos h]
theorem ones_at {k0 : Nat} (hk : onesA[k0]? = some s) : oneN s = (14 + k0, 1) ∧ k0 < 6 := by
  rcases k0 with _ | _ | _ | _ | _ | _ | k0 <;> first | (injection hk with hk; subst hk; decide) | (simp [onesA] at hk)
theorem loops_at {k0 : Nat} (hk : loopsA[k0]? = some s) : oneN s = (31 + k0, 2) ∧ k0 < 4 := by
  rcases k0 with _ | _ | _ | _ | k0 <;> first | (injection hk with hk; subst hk; decide) | (simp [loopsA] at hk)
theorem ones_none : ∀ m ∈ wordsL, m ∉ onesA → m ∉ loopsA → m ≠ trueT → m ≠ falseT → m ≠ selfT → m ≠ noneT → m ≠ ifT → (oneN m).1 = 0 := by decide
end
section
variable {q : Nat} {a : Option Addr} {c sz : Nat} {l : List Tok} {i : Nat} {es : List (EN × Value)} {X : World} {r : PR}
theorem r_word {tt : List Nat} (hb : Bytes tt) (hm : tt ∈ wordsL ∨ tt ∈ marksL) (h1 : tt ≠ trueT) (h2 : tt ≠ falseT) (h3 : tt ≠ selfT) (h4 : tt ≠ noneT) (h5 : tt ≠ ifT) (f : Nat) (HO : RLevel q a c sz l 46 [.int .i64 1] (fun i => pL l f 1 i)) (hes : es.length ≤ i) (hlt : i + 1 ≤ l.length) (h : RSt q a c sz l i (-1) es X)
    (hne : wordR l f i tt ≠ .out) : Calls Tryd.prog 97 #[.pointer (some ⟨q, 0, none⟩), .string (txt tt)] X (RReads q a c sz l i es X (wordR l f i tt)) := by
  by_cases k1 : tt ∈ onesA
  · obtain ⟨k0, hk⟩ := List.mem_iff_getElem?.1 k1
    obtain ⟨e1, hk0⟩ := ones_at hk
    exact r_word_one k0 hk0 hk f HO hes hlt h (wordR_one e1 (by omega)).symm hne
  · by_cases k2 : tt ∈ loopsA
    · obtain ⟨k0, hk⟩ := List.mem_iff_getElem?.1 k2
      obtain ⟨e1, hk0⟩ := loops_at hk
      exact r_word_loop k0 hk0 hk f HO hes hlt h (wordR_loop e1 (by omega)).symm hne
    · have h0 : (oneN tt).1 = 0 := by
        rcases hm with hm | hm
        · exact ones_none tt hm k1 k2 h1 h2 h3 h4 h5
        · exact (show ∀ m ∈ marksL, (oneN m).1 = 0 by decide) tt hm
      rw [wordR_no h0]
      exact r_word_no hb k1 k2 h
theorem r_prim (f : Nat) (HO : RLevel q a c sz l 46 [.int .i64 1] (fun i => pL l f 1 i)) : RLevel q a c sz l 85 [] (fun i => pP l (f + 1) i) := by
  intro i es X h hes hne
  simp only at hne ⊢
  obtain ⟨r, hr⟩ : ∃ r, pP l (f + 1) i = r := ⟨_, rfl⟩
  rw [hr] at hne ⊢
  show Calls _ _ #[.pointer (some ⟨q, 0, none⟩)] _ _
  have H := zH h
  have HES := zH hes
  obtain ⟨f0, f1, f2, f3, f4, f5, f6⟩ := h.facts
  obtain ⟨n, hn⟩ : ∃ n, l.length = n := ⟨_, rfl⟩
  have Hn := zH hn
  have hle := h.le
  have hfew := h.few
  rw [hn] at f0 hle hfew
  have n63 : n ≤ 9223372036854775807 := by omega
  have i5 : (i : Int) ≤ 5000 := by omega
  have i0 : (0 : Int) ≤ (i : Int) := Int.natCast_nonneg _
  by_cases hlt : i < n
  · obtain ⟨t, ht⟩ := get_some hn hlt
    have hg := h.good t (List.mem_iff_getElem?.2 ⟨i, ht⟩)
    rw [pP_some f ht] at hr
    obtain ⟨b0, off, rfl, t0, t1, t2, t3, hok⟩ := h.tok ht
    have dlt : decide ((n : Int) ≤ (i : Int)) = false := by simp; omega
    have dlt2 : decide (n ≤ i) = false := by simp; omega
    have ilt : (i : Int) < (n : Int) := by omega
    obtain ⟨⟨kd, tt, tn, tp⟩, htt⟩ : ∃ z, t = z := ⟨_, rfl⟩
    subst htt
    simp only at t0 t1 t2 t3 hr
    have HTB : Hid (Bytes tt) := zH hok.1
    have HTG := zH hg
    have HT := zH ht
    clear hg hok h ht hn hfew hle hes
    by_cases hk1 : kd = 1
    · subst hk1
      simp only [if_true] at hr
      have hres : PR.ok (.node 1 [] tn []) (i + 1) = r := hr
      have HR := zH hres
      clear hr hres
      go_enter Tryd.func85, Tryd.ntmps85
      go_wp2_with fail
      go_quiet (fail)
      go_wp2_with fail
      generalize hwq : World.drewN X _ = W1
      have g0 : W1.cell? ⟨q, 0, none⟩ = some (.slice (some ⟨b0, off, none⟩) n c) := by rw [← hwq]; exact f0
      have g1 : W1.cell? ⟨q, 1, none⟩ = some (.int .i64 (i : Int)) := by rw [← hwq]; exact f1
      have u0 : W1.cell? ⟨b0, off + i * 4, none⟩ = some (.int .i64 1) := by rw [← hwq]; exact t0
      have u1 : W1.cell? ⟨b0, off + i * 4 + 1, none⟩ = some (.string (txt tt)) := by rw [← hwq]; exact t1
      have u2 : W1.cell? ⟨b0, off + i * 4 + 2, none⟩ = some (.int .i64 tn) := by rw [← hwq]; exact t2
      have u3 : W1.cell? ⟨b0, off + i * 4 + 3, none⟩ = some (.int .i64 tp) := by rw [← hwq]; exact t3
      have P1 : Hid (RSt q (some ⟨b0, off, none⟩) c sz l i (-1) es W1) := zH (by rw [← hwq]; exact H.out.quiet ⟨_, rfl⟩)
      have M1 : Hid (Below q X W1) := zH (by rw [← hwq]; exact below_drewN (Below.refl q X) _)
      clear hwq f0 f1 f2 f3 f4 f5 f6 t0 t1 t2 t3
      have n0 := World.new_ne W1 _ g0
      have n1 := World.new_ne W1 _ g1
      have n2 := World.new_ne W1 _ u0
      go_region_held3 (fun w' => w'.cell? ⟨q, 0, none⟩ = some (.slice (some ⟨b0, off, none⟩) n c) ∧ w'.cell? ⟨q, 1, none⟩ = some (.int .i64 (i : Int)) ∧ w'.cell? ⟨b0, off + i * 4, none⟩ = some (.int .i64 1) ∧ w'.cell? ⟨b0, off + i * 4 + 1, none⟩ = some (.string (txt tt)) ∧ w'.cell? ⟨b0, off + i * 4 + 2, none⟩ = some (.int .i64 tn) ∧ w'.cell? ⟨b0, off + i * 4 + 3, none⟩ = some (.int .i64 tp))
        (first | go_keep | fail)
        (first | fail)
      have bo := ((Below.refl W1.heap.size W1).alloc zL (.cells #[.int .i64 1, .string (txt tt), .int .i64 tn, .int .i64 tp] 110)).drew
      have bk : Blk (W1.alloc (.cells #[.int .i64 1, .string (txt tt), .int .i64 tn, .int .i64 tp] 110)).drew W1.heap.size 110 #[.int .i64 1, .string (txt tt), .int .i64 tn, .int .i64 tp] := Blk.new W1 _ _
      have lq := P1.out.lt
      generalize hwq : World.drew (World.alloc _ _) = W2
      rw [hwq] at bo bk
      clear hwq
      obtain ⟨bt, hbt⟩ : ∃ z, W1.heap.size = z := ⟨_, rfl⟩
      have M2 : Hid (Below q X W2) := zH (M1.out.trans (bo.mono (Nat.le_of_lt lq)))
      have P2 := zH (P1.out.keep bo)
      rw [hbt] at lq bk ⊢
      have v0 : W2.cell? ⟨bt, 0, none⟩ = some (.int .i64 1) := bk.cell rfl
      have v1 : W2.cell? ⟨bt, 1, none⟩ = some (.string (txt tt)) := bk.cell rfl
      have v2 : W2.cell? ⟨bt, 2, none⟩ = some (.int .i64 tn) := bk.cell rfl
      have lbt := bk.lt
      have hbq : ¬ bt = q := by omega
      have hbq2 : ¬ q = bt := by omega
      clear bo bk hbt n0 n1 n2 g0 g1 u0 u1 u2 u3
      obtain ⟨f0, f1, f2, f3, f4, f5, f6⟩ := P2.out.facts
      rw [Hn.out] at f0
      have hlt1 : i + 1 ≤ l.length := by rw [Hn.out]; omega
      have UST : Hid (UW q (some ⟨b0, off, none⟩) c sz l i es X r [] (kEnd 1 [] tn) (W2.setCell ⟨q, 1, none⟩ (.int .i64 ((i : Int) + 1)))) := zH (UW.start zL (M2.out.trans ((Below.refl q W2).setCell (p := ⟨q, 1, none⟩) (Nat.le_refl q) _)) (P2.out.at_ (by go_num) hlt1) HR.out)
      clear hlt1 P2 M2
      have AD : Hid (Calls Tryd.prog 64 #[.pointer (some ⟨q, 0, none⟩), .int .i64 1, .string ⟨#[]⟩, .int .i64 tn, .slice none 0 0] (W2.setCell ⟨q, 1, none⟩ (.int .i64 ((i : Int) + 1))) fun e w' => ∃ g : Nat, e = .returned (.int .i64 (g : Int)) ∧ RReads q (some ⟨b0, off, none⟩) c sz l i es X r (.returned (.int .i64 (g : Int))) w') := zH (u_add 1 [] tn none 0 0 zB (SlR.nil_ _ (by unfold maxLen; omega) _) (by simp) HES.out UST.out)
      go_wp2_with (first
        | (go_at_call 64; (with_reducible refine AD.out.mono ?_); rintro e w_5 ⟨g5, rfl, h2⟩; have U5 := zH h2; clear h2))
      go_ret
      exact U5.out
    by_cases hk2 : kd = 2
    · subst hk2
      simp only [if_neg hk1, if_true] at hr
      have hres : PR.ok (.node 2 tt 0 []) (i + 1) = r := hr
      have HR := zH hres
      clear hr hres
      go_enter Tryd.func85, Tryd.ntmps85
      go_wp2_with fail
      go_quiet (fail)
      go_wp2_with fail
      generalize hwq : World.drewN X _ = W1
      have g0 : W1.cell? ⟨q, 0, none⟩ = some (.slice (some ⟨b0, off, none⟩) n c) := by rw [← hwq]; exact f0
      have g1 : W1.cell? ⟨q, 1, none⟩ = some (.int .i64 (i : Int)) := by rw [← hwq]; exact f1
      have u0 : W1.cell? ⟨b0, off + i * 4, none⟩ = some (.int .i64 2) := by rw [← hwq]; exact t0
      have u1 : W1.cell? ⟨b0, off + i * 4 + 1, none⟩ = some (.string (txt tt)) := by rw [← hwq]; exact t1
      have u2 : W1.cell? ⟨b0, off + i * 4 + 2, none⟩ = some (.int .i64 tn) := by rw [← hwq]; exact t2
      have u3 : W1.cell? ⟨b0, off + i * 4 + 3, none⟩ = some (.int .i64 tp) := by rw [← hwq]; exact t3
      have P1 : Hid (RSt q (some ⟨b0, off, none⟩) c sz l i (-1) es W1) := zH (by rw [← hwq]; exact H.out.quiet ⟨_, rfl⟩)
      have M1 : Hid (Below q X W1) := zH (by rw [← hwq]; exact below_drewN (Below.refl q X) _)
      clear hwq f0 f1 f2 f3 f4 f5 f6 t0 t1 t2 t3
      have n0 := World.new_ne W1 _ g0
      have n1 := World.new_ne W1 _ g1
      have n2 := World.new_ne W1 _ u0
      go_region_held3 (fun w' => w'.cell? ⟨q, 0, none⟩ = some (.slice (some ⟨b0, off, none⟩) n c) ∧ w'.cell? ⟨q, 1, none⟩ = some (.int .i64 (i : Int)) ∧ w'.cell? ⟨b0, off + i * 4, none⟩ = some (.int .i64 2) ∧ w'.cell? ⟨b0, off + i * 4 + 1, none⟩ = some (.string (txt tt)) ∧ w'.cell? ⟨b0, off + i * 4 + 2, none⟩ = some (.int .i64 tn) ∧ w'.cell? ⟨b0, off + i * 4 + 3, none⟩ = some (.int .i64 tp))
        (first | go_keep | fail)
        (first | fail)
      have bo := ((Below.refl W1.heap.size W1).alloc zL (.cells #[.int .i64 2, .string (txt tt), .int .i64 tn, .int .i64 tp] 110)).drew
      have bk : Blk (W1.alloc (.cells #[.int .i64 2, .string (txt tt), .int .i64 tn, .int .i64 tp] 110)).drew W1.heap.size 110 #[.int .i64 2, .string (txt tt), .int .i64 tn, .int .i64 tp] := Blk.new W1 _ _
      have lq := P1.out.lt
      generalize hwq : World.drew (World.alloc _ _) = W2
      rw [hwq] at bo bk
      clear hwq
      obtain ⟨bt, hbt⟩ : ∃ z, W1.heap.size = z := ⟨_, rfl⟩
      have M2 : Hid (Below q X W2) := zH (M1.out.trans (bo.mono (Nat.le_of_lt lq)))
      have P2 := zH (P1.out.keep bo)
      rw [hbt] at lq bk ⊢
      have v0 : W2.cell? ⟨bt, 0, none⟩ = some (.int .i64 2) := bk.cell rfl
      have v1 : W2.cell? ⟨bt, 1, none⟩ = some (.string (txt tt)) := bk.cell rfl
      have v2 : W2.cell? ⟨bt, 2, none⟩ = some (.int .i64 tn) := bk.cell rfl
      have lbt := bk.lt
      have hbq : ¬ bt = q := by omega
      have hbq2 : ¬ q = bt := by omega
      clear bo bk hbt n0 n1 n2 g0 g1 u0 u1 u2 u3
      obtain ⟨f0, f1, f2, f3, f4, f5, f6⟩ := P2.out.facts
      rw [Hn.out] at f0
      have hlt1 : i + 1 ≤ l.length := by rw [Hn.out]; omega
      have UST : Hid (UW q (some ⟨b0, off, none⟩) c sz l i es X r [] (kEnd 2 tt 0) (W2.setCell ⟨q, 1, none⟩ (.int .i64 ((i : Int) + 1)))) := zH (UW.start zL (M2.out.trans ((Below.refl q W2).setCell (p := ⟨q, 1, none⟩) (Nat.le_refl q) _)) (P2.out.at_ (by go_num) hlt1) HR.out)
      clear hlt1 P2 M2
      have AD : Hid (Calls Tryd.prog 64 #[.pointer (some ⟨q, 0, none⟩), .int .i64 2, .string (txt tt), .int .i64 0, .slice none 0 0] (W2.setCell ⟨q, 1, none⟩ (.int .i64 ((i : Int) + 1))) fun e w' => ∃ g : Nat, e = .returned (.int .i64 (g : Int)) ∧ RReads q (some ⟨b0, off, none⟩) c sz l i es X r (.returned (.int .i64 (g : Int))) w') := zH (u_add 2 tt 0 none 0 0 zB (SlR.nil_ _ (by unfold maxLen; omega) _) (by simp) HES.out UST.out)
      go_wp2_with (first
        | (go_at_call 64; (with_reducible refine AD.out.mono ?_); rintro e w_5 ⟨g5, rfl, h2⟩; have U5 := zH h2; clear h2))
      go_ret
      exact U5.out
    by_cases hk3 : kd = 3
    · subst hk3
      simp only [if_neg hk1, if_neg hk2, if_true] at hr
      have hres : PR.ok (.node 7 tt 0 []) (i + 1) = r := hr
      have HR := zH hres
      clear hr hres
      go_enter Tryd.func85, Tryd.ntmps85
      go_wp2_with fail
      go_quiet (fail)
      go_wp2_with fail
      generalize hwq : World.drewN X _ = W1
      have g0 : W1.cell? ⟨q, 0, none⟩ = some (.slice (some ⟨b0, off, none⟩) n c) := by rw [← hwq]; exact f0
      have g1 : W1.cell? ⟨q, 1, none⟩ = some (.int .i64 (i : Int)) := by rw [← hwq]; exact f1
      have u0 : W1.cell? ⟨b0, off + i * 4, none⟩ = some (.int .i64 3) := by rw [← hwq]; exact t0
      have u1 : W1.cell? ⟨b0, off + i * 4 + 1, none⟩ = some (.string (txt tt)) := by rw [← hwq]; exact t1
      have u2 : W1.cell? ⟨b0, off + i * 4 + 2, none⟩ = some (.int .i64 tn) := by rw [← hwq]; exact t2
      have u3 : W1.cell? ⟨b0, off + i * 4 + 3, none⟩ = some (.int .i64 tp) := by rw [← hwq]; exact t3
      have P1 : Hid (RSt q (some ⟨b0, off, none⟩) c sz l i (-1) es W1) := zH (by rw [← hwq]; exact H.out.quiet ⟨_, rfl⟩)
      have M1 : Hid (Below q X W1) := zH (by rw [← hwq]; exact below_drewN (Below.refl q X) _)
      clear hwq f0 f1 f2 f3 f4 f5 f6 t0 t1 t2 t3
      have n0 := World.new_ne W1 _ g0
      have n1 := World.new_ne W1 _ g1
      have n2 := World.new_ne W1 _ u0
      go_region_held3 (fun w' => w'.cell? ⟨q, 0, none⟩ = some (.slice (some ⟨b0, off, none⟩) n c) ∧ w'.cell? ⟨q, 1, none⟩ = some (.int .i64 (i : Int)) ∧ w'.cell? ⟨b0, off + i * 4, none⟩ = some (.int .i64 3) ∧ w'.cell? ⟨b0, off + i * 4 + 1, none⟩ = some (.string (txt tt)) ∧ w'.cell? ⟨b0, off + i * 4 + 2, none⟩ = some (.int .i64 tn) ∧ w'.cell? ⟨b0, off + i * 4 + 3, none⟩ = some (.int .i64 tp))
        (first | go_keep | fail)
        (first | fail)
      have bo := ((Below.refl W1.heap.size W1).alloc zL (.cells #[.int .i64 3, .string (txt tt), .int .i64 tn, .int .i64 tp] 110)).drew
      have bk : Blk (W1.alloc (.cells #[.int .i64 3, .string (txt tt), .int .i64 tn, .int .i64 tp] 110)).drew W1.heap.size 110 #[.int .i64 3, .string (txt tt), .int .i64 tn, .int .i64 tp] := Blk.new W1 _ _
      have lq := P1.out.lt
      generalize hwq : World.drew (World.alloc _ _) = W2
      rw [hwq] at bo bk
      clear hwq
      obtain ⟨bt, hbt⟩ : ∃ z, W1.heap.size = z := ⟨_, rfl⟩
      have M2 : Hid (Below q X W2) := zH (M1.out.trans (bo.mono (Nat.le_of_lt lq)))
      have P2 := zH (P1.out.keep bo)
      rw [hbt] at lq bk ⊢
      have v0 : W2.cell? ⟨bt, 0, none⟩ = some (.int .i64 3) := bk.cell rfl
      have v1 : W2.cell? ⟨bt, 1, none⟩ = some (.string (txt tt)) := bk.cell rfl
      have v2 : W2.cell? ⟨bt, 2, none⟩ = some (.int .i64 tn) := bk.cell rfl
      have lbt := bk.lt
      have hbq : ¬ bt = q := by omega
      have hbq2 : ¬ q = bt := by omega
      clear bo bk hbt n0 n1 n2 g0 g1 u0 u1 u2 u3
      obtain ⟨f0, f1, f2, f3, f4, f5, f6⟩ := P2.out.facts
      rw [Hn.out] at f0
      have hlt1 : i + 1 ≤ l.length := by rw [Hn.out]; omega
      have UST : Hid (UW q (some ⟨b0, off, none⟩) c sz l i es X r [] (kEnd 7 tt 0) (W2.setCell ⟨q, 1, none⟩ (.int .i64 ((i : Int) + 1)))) := zH (UW.start zL (M2.out.trans ((Below.refl q W2).setCell (p := ⟨q, 1, none⟩) (Nat.le_refl q) _)) (P2.out.at_ (by go_num) hlt1) HR.out)
      clear hlt1 P2 M2
      have AD : Hid (Calls Tryd.prog 64 #[.pointer (some ⟨q, 0, none⟩), .int .i64 7, .string (txt tt), .int .i64 0, .slice none 0 0] (W2.setCell ⟨q, 1, none⟩ (.int .i64 ((i : Int) + 1))) fun e w' => ∃ g : Nat, e = .returned (.int .i64 (g : Int)) ∧ RReads q (some ⟨b0, off, none⟩) c sz l i es X r (.returned (.int .i64 (g : Int))) w') := zH (u_add 7 tt 0 none 0 0 zB (SlR.nil_ _ (by unfold maxLen; omega) _) (by simp) HES.out UST.out)
      go_wp2_with (first
        | (go_at_call 64; (with_reducible refine AD.out.mono ?_); rintro e w_5 ⟨g5, rfl, h2⟩; have U5 := zH h2; clear h2))
      go_ret
      exact U5.out
    by_cases hk5 : kd = 5
    · subst hk5
      simp only [if_neg hk1, if_neg hk2, if_neg hk3, if_true] at hr
      have htm : tt ∈ marksL := by
        have h0 := HTG.out
        unfold TokG at h0
        rcases h0 with h | h | h | h | h <;> first | exact h.2 | (exfalso; simp at h)
      clear hk1 hk2 hk3
      by_cases n_minusT : tt = minusT
      · subst n_minusT
        have t1 : X.cell? ⟨b0, off + i * 4 + 1, none⟩ = some (.string ⟨#[45]⟩) := t1
        unfold markR at hr
        rw [if_pos rfl] at hr
        have MB : Hid (∀ W2, Below q X W2 → Below q X (W2.setCell ⟨q, 1, none⟩ (.int .i64 ((i : Int) + 1)))) := zH (fun W2 hW => hW.trans ((Below.refl q W2).setCell (p := ⟨q, 1, none⟩) (Nat.le_refl q) _))
        have MS : Hid (∀ W2, RSt q (some ⟨b0, off, none⟩) c sz l i (-1) es W2 → RSt q (some ⟨b0, off, none⟩) c sz l (i + 1) (-1) es (W2.setCell ⟨q, 1, none⟩ (.int .i64 ((i : Int) + 1)))) := zH (fun W2 hW => hW.at_ (by go_num) (by rw [Hn.out]; omega))
        have i00 : (0 : Int) ≤ (i : Int) + 1 := by omega
        by_cases hx : ∃ x, l[i + 1]? = some x ∧ x.kind = 1
        · obtain ⟨x, hx1, hxk⟩ := hx
          rw [hx1] at hr
          simp only at hr
          rw [if_pos hxk] at hr
          have hx2 : i + 1 < n := by rw [← Hn.out]; exact (List.getElem?_eq_some_iff.1 hx1).1
          have hxg := H.out.good x (List.mem_iff_getElem?.2 ⟨_, hx1⟩)
          have hnum : 0 ≤ x.num := by unfold TokG at hxg; omega
          have hxr := (H.out.tok hx1).choose_spec.choose_spec.2.2.2.2.2.2.2.2.1
          obtain ⟨xv, hxv⟩ : ∃ k, x.num = k := ⟨_, rfl⟩
          have HV := zH hxv
          have HXK := zH hxk
          have HX1 := zH hx1
          rw [hxv] at hnum hxr hr
          have hx63 : xv ≤ 9223372036854775807 := by
            have h2 := hxr
            unfold Lit.wf at h2
            rw [Bool.and_eq_true] at h2
            have h3 := of_decide_eq_true h2.2
            have h4 : IntKind.max .i64 = 9223372036854775807 := by decide
            omega
          have wn : IntKind.i64.wrap (-xv) = -xv := by rw [IntKind.wrap_i64]; omega
          have dlt3 : decide ((i : Int) + 1 < (n : Int)) = true := by simp; omega
          have dlt4 : (i : Int) + 1 < (n : Int) := by omega
          have HR := zH (show PR.ok (.node 1 [] (-xv) []) (i + 2) = r from hr)
          clear hr hxv hxk hx1 hxr hxg htm HO
          go_enter Tryd.func85, Tryd.ntmps85
          go_wp2_with fail
          go_quiet (fail)
          go_wp2_with fail
          generalize hwq : World.drewN X _ = W1
          have g0 : W1.cell? ⟨q, 0, none⟩ = some (.slice (some ⟨b0, off, none⟩) n c) := by rw [← hwq]; exact f0
          have g1 : W1.cell? ⟨q, 1, none⟩ = some (.int .i64 (i : Int)) := by rw [← hwq]; exact f1
          have u0 : W1.cell? ⟨b0, off + i * 4, none⟩ = some (.int .i64 5) := by rw [← hwq]; exact t0
          have u1 : W1.cell? ⟨b0, off + i * 4 + 1, none⟩ = some (.string ⟨#[45]⟩) := by rw [← hwq]; exact t1
          have u2 : W1.cell? ⟨b0, off + i * 4 + 2, none⟩ = some (.int .i64 tn) := by rw [← hwq]; exact t2
          have u3 : W1.cell? ⟨b0, off + i * 4 + 3, none⟩ = some (.int .i64 tp) := by rw [← hwq]; exact t3
          have P1 : Hid (RSt q (some ⟨b0, off, none⟩) c sz l i (-1) es W1) := zH (by rw [← hwq]; exact H.out.quiet ⟨_, rfl⟩)
          have M1 : Hid (Below q X W1) := zH (by rw [← hwq]; exact below_drewN (Below.refl q X) _)
          clear hwq f0 f1 f2 f3 f4 f5 f6 t0 t1 t2 t3
          have n0 := World.new_ne W1 _ g0
          have n1 := World.new_ne W1 _ g1
          have n2 := World.new_ne W1 _ u0
          go_region_held3 (fun w' => w'.cell? ⟨q, 0, none⟩ = some (.slice (some ⟨b0, off, none⟩) n c) ∧ w'.cell? ⟨q, 1, none⟩ = some (.int .i64 (i : Int)) ∧ w'.cell? ⟨b0, off + i * 4, none⟩ = some (.int .i64 5) ∧ w'.cell? ⟨b0, off + i * 4 + 1, none⟩ = some (.string ⟨#[45]⟩) ∧ w'.cell? ⟨b0, off + i * 4 + 2, none⟩ = some (.int .i64 tn) ∧ w'.cell? ⟨b0, off + i * 4 + 3, none⟩ = some (.int .i64 tp))
            (first | go_keep | fail)
            (first | fail)
          have bo := ((Below.refl W1.heap.size W1).alloc zL (.cells #[.int .i64 5, .string ⟨#[45]⟩, .int .i64 tn, .int .i64 tp] 110)).drew
          have bk : Blk (W1.alloc (.cells #[.int .i64 5, .string ⟨#[45]⟩, .int .i64 tn, .int .i64 tp] 110)).drew W1.heap.size 110 #[.int .i64 5, .string ⟨#[45]⟩, .int .i64 tn, .int .i64 tp] := Blk.new W1 _ _
          have lq := P1.out.lt
          generalize hwq : World.drew (World.alloc _ _) = W2
          rw [hwq] at bo bk
          clear hwq
          obtain ⟨bt, hbt⟩ : ∃ z, W1.heap.size = z := ⟨_, rfl⟩
          have M2 : Hid (Below q X W2) := zH (M1.out.trans (bo.mono (Nat.le_of_lt lq)))
          have P2 := zH (P1.out.keep bo)
          rw [hbt] at lq bk ⊢
          have v0 : W2.cell? ⟨bt, 0, none⟩ = some (.int .i64 5) := bk.cell rfl
          have v1 : W2.cell? ⟨bt, 1, none⟩ = some (.string ⟨#[45]⟩) := bk.cell rfl
          have v2 : W2.cell? ⟨bt, 2, none⟩ = some (.int .i64 tn) := bk.cell rfl
          have lbt := bk.lt
          have hbq : ¬ bt = q := by omega
          have hbq2 : ¬ q = bt := by omega
          clear bo bk hbt n0 n1 n2 g0 g1 u0 u1 u2 u3
          obtain ⟨f0, f1, f2, f3, f4, f5, f6⟩ := P2.out.facts
          rw [Hn.out] at f0
          go_wp2_with fail
          generalize hwq : World.setCell _ _ _ = W3
          have M3 : Hid (Below q X W3) := zH (by rw [← hwq]; exact MB.out _ M2.out)
          have P3 : Hid (RSt q (some ⟨b0, off, none⟩) c sz l (i + 1) (-1) es W3) := zH (by rw [← hwq]; exact MS.out _ P2.out)
          clear hwq f0 f1 f2 f3 f4 f5 f6 M2 P2 v0 v1 v2
          obtain ⟨f0, f1, f2, f3, f4, f5, f6⟩ := P3.out.facts
          rw [Hn.out] at f0
          have f1' : W3.cell? ⟨q, 1, none⟩ = some (.int .i64 ((i : Int) + 1)) := f1
          obtain ⟨b1, o1, e1, t0, _, t2, _, _⟩ := P3.out.tok HX1.out
          injection e1 with e1
          injection e1 with e1 e2
          subst e1 e2
          rw [HXK.out] at t0
          clear f1 t2
          go_quiet (fail)
          go_wp2_with fail
          generalize hwq : World.setCell _ _ _ = W4
          have M4 : Hid (Below q X W4) := zH (by rw [← hwq]; exact (below_drewN M3.out _).trans ((Below.refl q _).setCell (p := ⟨q, 1, none⟩) (Nat.le_refl q) _))
          have P4 : Hid (RSt q (some ⟨b0, off, none⟩) c sz l (i + 2) (-1) es W4) := zH (by rw [← hwq]; exact (P3.out.quiet ⟨_, rfl⟩).at_ (by go_num) (by rw [Hn.out]; omega))
          clear hwq f0 f1' f2 f3 f4 f5 f6 M3 P3 t0
          obtain ⟨f0, f1, f2, f3, f4, f5, f6⟩ := P4.out.facts
          rw [Hn.out] at f0
          have f1' : W4.cell? ⟨q, 1, none⟩ = some (.int .i64 ((i : Int) + 2)) := f1
          obtain ⟨b1, o1, e1, _, _, t2, _, _⟩ := P4.out.tok HX1.out
          injection e1 with e1
          injection e1 with e1 e2
          subst e1 e2
          rw [HV.out] at t2
          have ws : IntKind.i64.wrap ((i : Int) + 2 - 1) = (i : Int) + 1 := by rw [IntKind.wrap_i64]; omega
          have UST : Hid (UW q (some ⟨b0, off, none⟩) c sz l i es X r [] (kEnd 1 [] (-xv)) W4.drew) := zH (UW.start (by omega) M4.out.drew (P4.out.quiet ⟨1, rfl⟩) HR.out)
          have AD : Hid (Calls Tryd.prog 64 #[.pointer (some ⟨q, 0, none⟩), .int .i64 1, .string ⟨#[]⟩, .int .i64 (-xv), .slice none 0 0] W4.drew fun e w' => ∃ g : Nat, e = .returned (.int .i64 (g : Int)) ∧ RReads q (some ⟨b0, off, none⟩) c sz l i es X r (.returned (.int .i64 (g : Int))) w') := zH (u_add 1 [] (-xv) none 0 0 zB (SlR.nil_ _ (by unfold maxLen; omega) _) (by simp) HES.out UST.out)
          clear f1 f2 f3 f4 f5 f6 M4 P4
          go_still_tail 14, (by kernel_rfl)
          change wpList _ _ _ _ _ W4.drew
          go_wp2_with (first
            | (go_at_call 64; (with_reducible refine AD.out.mono ?_); rintro e w_5 ⟨g5, rfl, h2⟩; have U5 := zH h2; clear h2))
          go_ret
          exact U5.out
        · have hno : PR.no (i + 1) = r := by
            rw [← hr]
            cases hx1 : l[i + 1]? with
            | none => rfl
            | some x => exact (if_neg fun e => hx ⟨x, hx1, e⟩).symm
          clear hr
          subst hno
          by_cases hx2 : i + 1 < n
          · obtain ⟨x, hx1⟩ := get_some Hn.out hx2
            have hk1 : x.kind ≠ 1 := fun e => hx ⟨x, hx1, e⟩
            obtain ⟨kd, hkd⟩ : ∃ k, x.kind = k := ⟨_, rfl⟩
            have HX1 := zH hx1
            have HXK := zH hkd
            rw [hkd] at hk1
            have d1 : (kd == 1) = false := by simpa using hk1
            have dlt3 : decide ((i : Int) + 1 < (n : Int)) = true := by simp; omega
            have dlt4 : (i : Int) + 1 < (n : Int) := by omega
            clear hx hx1 hkd hk1 htm HO
            go_enter Tryd.func85, Tryd.ntmps85
            go_wp2_with fail
            go_quiet (fail)
            go_wp2_with fail
            generalize hwq : World.drewN X _ = W1
            have g0 : W1.cell? ⟨q, 0, none⟩ = some (.slice (some ⟨b0, off, none⟩) n c) := by rw [← hwq]; exact f0
            have g1 : W1.cell? ⟨q, 1, none⟩ = some (.int .i64 (i : Int)) := by rw [← hwq]; exact f1
            have u0 : W1.cell? ⟨b0, off + i * 4, none⟩ = some (.int .i64 5) := by rw [← hwq]; exact t0
            have u1 : W1.cell? ⟨b0, off + i * 4 + 1, none⟩ = some (.string ⟨#[45]⟩) := by rw [← hwq]; exact t1
            have u2 : W1.cell? ⟨b0, off + i * 4 + 2, none⟩ = some (.int .i64 tn) := by rw [← hwq]; exact t2
            have u3 : W1.cell? ⟨b0, off + i * 4 + 3, none⟩ = some (.int .i64 tp) := by rw [← hwq]; exact t3
            have P1 : Hid (RSt q (some ⟨b0, off, none⟩) c sz l i (-1) es W1) := zH (by rw [← hwq]; exact H.out.quiet ⟨_, rfl⟩)
            have M1 : Hid (Below q X W1) := zH (by rw [← hwq]; exact below_drewN (Below.refl q X) _)
            clear hwq f0 f1 f2 f3 f4 f5 f6 t0 t1 t2 t3
            have n0 := World.new_ne W1 _ g0
            have n1 := World.new_ne W1 _ g1
            have n2 := World.new_ne W1 _ u0
            go_region_held3 (fun w' => w'.cell? ⟨q, 0, none⟩ = some (.slice (some ⟨b0, off, none⟩) n c) ∧ w'.cell? ⟨q, 1, none⟩ = some (.int .i64 (i : Int)) ∧ w'.cell? ⟨b0, off + i * 4, none⟩ = some (.int .i64 5) ∧ w'.cell? ⟨b0, off + i * 4 + 1, none⟩ = some (.string ⟨#[45]⟩) ∧ w'.cell? ⟨b0, off + i * 4 + 2, none⟩ = some (.int .i64 tn) ∧ w'.cell? ⟨b0, off + i * 4 + 3, none⟩ = some (.int .i64 tp))
              (first | go_keep | fail)
              (first | fail)
            have bo := ((Below.refl W1.heap.size W1).alloc zL (.cells #[.int .i64 5, .string ⟨#[45]⟩, .int .i64 tn, .int .i64 tp] 110)).drew
            have bk : Blk (W1.alloc (.cells #[.int .i64 5, .string ⟨#[45]⟩, .int .i64 tn, .int .i64 tp] 110)).drew W1.heap.size 110 #[.int .i64 5, .string ⟨#[45]⟩, .int .i64 tn, .int .i64 tp] := Blk.new W1 _ _
            have lq := P1.out.lt
            generalize hwq : World.drew (World.alloc _ _) = W2
            rw [hwq] at bo bk
            clear hwq
            obtain ⟨bt, hbt⟩ : ∃ z, W1.heap.size = z := ⟨_, rfl⟩
            have M2 : Hid (Below q X W2) := zH (M1.out.trans (bo.mono (Nat.le_of_lt lq)))
            have P2 := zH (P1.out.keep bo)
            rw [hbt] at lq bk ⊢
            have v0 : W2.cell? ⟨bt, 0, none⟩ = some (.int .i64 5) := bk.cell rfl
            have v1 : W2.cell? ⟨bt, 1, none⟩ = some (.string ⟨#[45]⟩) := bk.cell rfl
            have v2 : W2.cell? ⟨bt, 2, none⟩ = some (.int .i64 tn) := bk.cell rfl
            have lbt := bk.lt
            have hbq : ¬ bt = q := by omega
            have hbq2 : ¬ q = bt := by omega
            clear bo bk hbt n0 n1 n2 g0 g1 u0 u1 u2 u3
            obtain ⟨f0, f1, f2, f3, f4, f5, f6⟩ := P2.out.facts
            rw [Hn.out] at f0
            go_wp2_with fail
            generalize hwq : World.setCell _ _ _ = W3
            have M3 : Hid (Below q X W3) := zH (by rw [← hwq]; exact MB.out _ M2.out)
            have P3 : Hid (RSt q (some ⟨b0, off, none⟩) c sz l (i + 1) (-1) es W3) := zH (by rw [← hwq]; exact MS.out _ P2.out)
            clear hwq f0 f1 f2 f3 f4 f5 f6 M2 P2 v0 v1 v2
            obtain ⟨f0, f1, f2, f3, f4, f5, f6⟩ := P3.out.facts
            rw [Hn.out] at f0
            have f1' : W3.cell? ⟨q, 1, none⟩ = some (.int .i64 ((i : Int) + 1)) := f1
            obtain ⟨b1, o1, e1, t0, _, _, _, _⟩ := P3.out.tok HX1.out
            injection e1 with e1
            injection e1 with e1 e2
            subst e1 e2
            rw [HXK.out] at t0
            clear f1
            go_quiet (fail)
            rename_i nq
            have Q4 : Hid (Quiet W3 (W3.drewN nq)) := zH ⟨nq, rfl⟩
            go_wp2_with (first
              | (go_at_call 47; (refine (r_stop (P3.out.quiet Q4.out)).mono ?_); rintro e w2 ⟨rfl, h2, h3⟩; have S3 := zH (And.intro (M3.out.trans ((Q4.out.below q).trans h2)) h3); clear h2 h3))
            go_ret
            exact u_stop ⟨0, rfl⟩ S3.out.1 (Nat.le_succ _) S3.out.2
          · have dlt3 : decide ((i : Int) + 1 < (n : Int)) = false := by simp; omega
            clear hx htm HO
            go_enter Tryd.func85, Tryd.ntmps85
            go_wp2_with fail
            go_quiet (fail)
            go_wp2_with fail
            generalize hwq : World.drewN X _ = W1
            have g0 : W1.cell? ⟨q, 0, none⟩ = some (.slice (some ⟨b0, off, none⟩) n c) := by rw [← hwq]; exact f0
            have g1 : W1.cell? ⟨q, 1, none⟩ = some (.int .i64 (i : Int)) := by rw [← hwq]; exact f1
            have u0 : W1.cell? ⟨b0, off + i * 4, none⟩ = some (.int .i64 5) := by rw [← hwq]; exact t0
            have u1 : W1.cell? ⟨b0, off + i * 4 + 1, none⟩ = some (.string ⟨#[45]⟩) := by rw [← hwq]; exact t1
            have u2 : W1.cell? ⟨b0, off + i * 4 + 2, none⟩ = some (.int .i64 tn) := by rw [← hwq]; exact t2
            have u3 : W1.cell? ⟨b0, off + i * 4 + 3, none⟩ = some (.int .i64 tp) := by rw [← hwq]; exact t3
            have P1 : Hid (RSt q (some ⟨b0, off, none⟩) c sz l i (-1) es W1) := zH (by rw [← hwq]; exact H.out.quiet ⟨_, rfl⟩)
            have M1 : Hid (Below q X W1) := zH (by rw [← hwq]; exact below_drewN (Below.refl q X) _)
            clear hwq f0 f1 f2 f3 f4 f5 f6 t0 t1 t2 t3
            have n0 := World.new_ne W1 _ g0
            have n1 := World.new_ne W1 _ g1
            have n2 := World.new_ne W1 _ u0
            go_region_held3 (fun w' => w'.cell? ⟨q, 0, none⟩ = some (.slice (some ⟨b0, off, none⟩) n c) ∧ w'.cell? ⟨q, 1, none⟩ = some (.int .i64 (i : Int)) ∧ w'.cell? ⟨b0, off + i * 4, none⟩ = some (.int .i64 5) ∧ w'.cell? ⟨b0, off + i * 4 + 1, none⟩ = some (.string ⟨#[45]⟩) ∧ w'.cell? ⟨b0, off + i * 4 + 2, none⟩ = some (.int .i64 tn) ∧ w'.cell? ⟨b0, off + i * 4 + 3, none⟩ = some (.int .i64 tp))
              (first | go_keep | fail)
              (first | fail)
            have bo := ((Below.refl W1.heap.size W1).alloc zL (.cells #[.int .i64 5, .string ⟨#[45]⟩, .int .i64 tn, .int .i64 tp] 110)).drew
            have bk : Blk (W1.alloc (.cells #[.int .i64 5, .string ⟨#[45]⟩, .int .i64 tn, .int .i64 tp] 110)).drew W1.heap.size 110 #[.int .i64 5, .string ⟨#[45]⟩, .int .i64 tn, .int .i64 tp] := Blk.new W1 _ _
            have lq := P1.out.lt
            generalize hwq : World.drew (World.alloc _ _) = W2
            rw [hwq] at bo bk
            clear hwq
            obtain ⟨bt, hbt⟩ : ∃ z, W1.heap.size = z := ⟨_, rfl⟩
            have M2 : Hid (Below q X W2) := zH (M1.out.trans (bo.mono (Nat.le_of_lt lq)))
            have P2 := zH (P1.out.keep bo)
            rw [hbt] at lq bk ⊢
            have v0 : W2.cell? ⟨bt, 0, none⟩ = some (.int .i64 5) := bk.cell rfl
            have v1 : W2.cell? ⟨bt, 1, none⟩ = some (.string ⟨#[45]⟩) := bk.cell rfl
            have v2 : W2.cell? ⟨bt, 2, none⟩ = some (.int .i64 tn) := bk.cell rfl
            have lbt := bk.lt
            have hbq : ¬ bt = q := by omega
            have hbq2 : ¬ q = bt := by omega
            clear bo bk hbt n0 n1 n2 g0 g1 u0 u1 u2 u3
            obtain ⟨f0, f1, f2, f3, f4, f5, f6⟩ := P2.out.facts
            rw [Hn.out] at f0
            go_wp2_with fail
            generalize hwq : World.setCell _ _ _ = W3
            have M3 : Hid (Below q X W3) := zH (by rw [← hwq]; exact MB.out _ M2.out)
            have P3 : Hid (RSt q (some ⟨b0, off, none⟩) c sz l (i + 1) (-1) es W3) := zH (by rw [← hwq]; exact MS.out _ P2.out)
            clear hwq f0 f1 f2 f3 f4 f5 f6 M2 P2 v0 v1 v2
            obtain ⟨f0, f1, f2, f3, f4, f5, f6⟩ := P3.out.facts
            rw [Hn.out] at f0
            have f1' : W3.cell? ⟨q, 1, none⟩ = some (.int .i64 ((i : Int) + 1)) := f1
            clear f1
            go_quiet (fail)
            rename_i nq
            have Q4 : Hid (Quiet W3 (W3.drewN nq)) := zH ⟨nq, rfl⟩
            go_wp2_with (first
              | (go_at_call 47; (refine (r_stop (P3.out.quiet Q4.out)).mono ?_); rintro e w2 ⟨rfl, h2, h3⟩; have S3 := zH (And.intro (M3.out.trans ((Q4.out.below q).trans h2)) h3); clear h2 h3))
            go_ret
            exact u_stop ⟨0, rfl⟩ S3.out.1 (Nat.le_succ _) S3.out.2
      by_cases n_openT : tt = openT
      · subst n_openT
        have t1 : X.cell? ⟨b0, off + i * 4 + 1, none⟩ = some (.string ⟨#[40]⟩) := t1
        unfold markR at hr
        rw [if_neg (by decide), if_pos rfl] at hr
        have HR := zH (show kLev l f (kMust l closeT kOne) [] (i + 1) = r from hr)
        have MC := (show Hid (∀ gs K Y, UW q (some ⟨b0, off, none⟩) c sz l i es X r gs (kMust l closeT K) Y → Calls Tryd.prog 96 #[.pointer (some ⟨q, 0, none⟩), .string ⟨#[41]⟩] Y fun e w' => e = .returned (.tuple #[]) ∧ UW q (some ⟨b0, off, none⟩) c sz l i es X r gs K w') from zH (fun gs K Y hY => by rw [← lit_closeT]; exact u_must closeT (show ∀ n ∈ closeT, n < 256 by decide) hY))
        have LV := (show Hid (∀ gs K Y, UW q (some ⟨b0, off, none⟩) c sz l i es X r gs (kLev l f K) Y → Calls Tryd.prog 46 #[.pointer (some ⟨q, 0, none⟩), .int .i64 1] Y fun e w' => ∃ g : Nat, e = .returned (.int .i64 (g : Int)) ∧ UW q (some ⟨b0, off, none⟩) c sz l i es X r (gs ++ [g]) K w') from zH (fun gs K Y hY => u_level f HO HES.out hne hY))
        clear hr htm HO n_minusT
        go_enter Tryd.func85, Tryd.ntmps85
        go_wp2_with fail
        go_quiet (fail)
        go_wp2_with fail
        generalize hwq : World.drewN X _ = W1
        have g0 : W1.cell? ⟨q, 0, none⟩ = some (.slice (some ⟨b0, off, none⟩) n c) := by rw [← hwq]; exact f0
        have g1 : W1.cell? ⟨q, 1, none⟩ = some (.int .i64 (i : Int)) := by rw [← hwq]; exact f1
        have u0 : W1.cell? ⟨b0, off + i * 4, none⟩ = some (.int .i64 5) := by rw [← hwq]; exact t0
        have u1 : W1.cell? ⟨b0, off + i * 4 + 1, none⟩ = some (.string ⟨#[40]⟩) := by rw [← hwq]; exact t1
        have u2 : W1.cell? ⟨b0, off + i * 4 + 2, none⟩ = some (.int .i64 tn) := by rw [← hwq]; exact t2
        have u3 : W1.cell? ⟨b0, off + i * 4 + 3, none⟩ = some (.int .i64 tp) := by rw [← hwq]; exact t3
        have P1 : Hid (RSt q (some ⟨b0, off, none⟩) c sz l i (-1) es W1) := zH (by rw [← hwq]; exact H.out.quiet ⟨_, rfl⟩)
        have M1 : Hid (Below q X W1) := zH (by rw [← hwq]; exact below_drewN (Below.refl q X) _)
        clear hwq f0 f1 f2 f3 f4 f5 f6 t0 t1 t2 t3
        have n0 := World.new_ne W1 _ g0
        have n1 := World.new_ne W1 _ g1
        have n2 := World.new_ne W1 _ u0
        go_region_held3 (fun w' => w'.cell? ⟨q, 0, none⟩ = some (.slice (some ⟨b0, off, none⟩) n c) ∧ w'.cell? ⟨q, 1, none⟩ = some (.int .i64 (i : Int)) ∧ w'.cell? ⟨b0, off + i * 4, none⟩ = some (.int .i64 5) ∧ w'.cell? ⟨b0, off + i * 4 + 1, none⟩ = some (.string ⟨#[40]⟩) ∧ w'.cell? ⟨b0, off + i * 4 + 2, none⟩ = some (.int .i64 tn) ∧ w'.cell? ⟨b0, off + i * 4 + 3, none⟩ = some (.int .i64 tp))
          (first | go_keep | fail)
          (first | fail)
        have bo := ((Below.refl W1.heap.size W1).alloc zL (.cells #[.int .i64 5, .string ⟨#[40]⟩, .int .i64 tn, .int .i64 tp] 110)).drew
        have bk : Blk (W1.alloc (.cells #[.int .i64 5, .string ⟨#[40]⟩, .int .i64 tn, .int .i64 tp] 110)).drew W1.heap.size 110 #[.int .i64 5, .string ⟨#[40]⟩, .int .i64 tn, .int .i64 tp] := Blk.new W1 _ _
        have lq := P1.out.lt
        generalize hwq : World.drew (World.alloc _ _) = W2
        rw [hwq] at bo bk
        clear hwq
        obtain ⟨bt, hbt⟩ : ∃ z, W1.heap.size = z := ⟨_, rfl⟩
        have M2 : Hid (Below q X W2) := zH (M1.out.trans (bo.mono (Nat.le_of_lt lq)))
        have P2 := zH (P1.out.keep bo)
        rw [hbt] at lq bk ⊢
        have v0 : W2.cell? ⟨bt, 0, none⟩ = some (.int .i64 5) := bk.cell rfl
        have v1 : W2.cell? ⟨bt, 1, none⟩ = some (.string ⟨#[40]⟩) := bk.cell rfl
        have v2 : W2.cell? ⟨bt, 2, none⟩ = some (.int .i64 tn) := bk.cell rfl
        have lbt := bk.lt
        have hbq : ¬ bt = q := by omega
        have hbq2 : ¬ q = bt := by omega
        clear bo bk hbt n0 n1 n2 g0 g1 u0 u1 u2 u3
        obtain ⟨f0, f1, f2, f3, f4, f5, f6⟩ := P2.out.facts
        rw [Hn.out] at f0
        have hlt1 : i + 1 ≤ l.length := by rw [Hn.out]; omega
        have UST : Hid (UW q (some ⟨b0, off, none⟩) c sz l i es X r [] (kLev l f (kMust l closeT kOne)) (W2.setCell ⟨q, 1, none⟩ (.int .i64 ((i : Int) + 1)))) := zH (UW.start zL (M2.out.trans ((Below.refl q W2).setCell (p := ⟨q, 1, none⟩) (Nat.le_refl q) _)) (P2.out.at_ (by go_num) hlt1) HR.out)
        clear hlt1 P2 M2
        go_wp2_with (first
          | (go_at_call 46; (with_reducible refine (LV.out _ _ _ UST.out).mono ?_); rintro e w_U2 ⟨g2, rfl, h2⟩; simp only [List.nil_append, List.cons_append] at h2; have U2 := zH h2; clear h2 UST)
          | (go_at_call 96; (with_reducible refine (MC.out _ _ _ U2.out).mono ?_); rintro e w_U3 ⟨rfl, h2⟩; have U3 := zH h2; clear h2 U2))
        go_ret
        exact u_done U3.out
      have n_trueT : tt ≠ trueT := fun e => (show trueT ∉ marksL by decide) (e ▸ htm)
      have n_falseT : tt ≠ falseT := fun e => (show falseT ∉ marksL by decide) (e ▸ htm)
      have n_selfT : tt ≠ selfT := fun e => (show selfT ∉ marksL by decide) (e ▸ htm)
      have n_noneT : tt ≠ noneT := fun e => (show noneT ∉ marksL by decide) (e ▸ htm)
      have n_ifT : tt ≠ ifT := fun e => (show ifT ∉ marksL by decide) (e ▸ htm)
      have HW : Hid (∀ Y, RSt q (some ⟨b0, off, none⟩) c sz l i (-1) es Y → Calls Tryd.prog 97 #[.pointer (some ⟨q, 0, none⟩), .string (txt tt)] Y (RReads q (some ⟨b0, off, none⟩) c sz l i es Y r)) := zH (fun Y hY => by
        have hw : wordR l f i tt = r := by rw [wordR_no ((show ∀ m ∈ marksL, (oneN m).1 = 0 by decide) tt htm), ← hr]; unfold markR; rw [if_neg n_minusT, if_neg n_openT]
        rw [← hw] at hne ⊢
        exact r_word HTB.out (.inr htm) n_trueT n_falseT n_selfT n_noneT n_ifT f HO HES.out (by rw [Hn.out]; omega) hY hne)
      have e_minusT : ((txt tt).toList == [45]) = false := by rw [beq_eq_false_iff_ne]; exact fun e => n_minusT (txt_inj HTB.out (show ∀ n ∈ minusT, n < 256 by decide) (by rw [e, tl_minusT]))
      have e_openT : ((txt tt).toList == [40]) = false := by rw [beq_eq_false_iff_ne]; exact fun e => n_openT (txt_inj HTB.out (show ∀ n ∈ openT, n < 256 by decide) (by rw [e, tl_openT]))
      have e_trueT : ((txt tt).toList == [116, 114, 117, 101]) = false := by rw [beq_eq_false_iff_ne]; exact fun e => n_trueT (txt_inj HTB.out (show ∀ n ∈ trueT, n < 256 by decide) (by rw [e, tl_trueT]))
      have e_falseT : ((txt tt).toList == [102, 97, 108, 115, 101]) = false := by rw [beq_eq_false_iff_ne]; exact fun e => n_falseT (txt_inj HTB.out (show ∀ n ∈ falseT, n < 256 by decide) (by rw [e, tl_falseT]))
      have e_selfT : ((txt tt).toList == [115, 101, 108, 102]) = false := by rw [beq_eq_false_iff_ne]; exact fun e => n_selfT (txt_inj HTB.out (show ∀ n ∈ selfT, n < 256 by decide) (by rw [e, tl_selfT]))
      have e_noneT : ((txt tt).toList == [110, 111, 110, 101]) = false := by rw [beq_eq_false_iff_ne]; exact fun e => n_noneT (txt_inj HTB.out (show ∀ n ∈ noneT, n < 256 by decide) (by rw [e, tl_noneT]))
      have e_ifT : ((txt tt).toList == [105, 102]) = false := by rw [beq_eq_false_iff_ne]; exact fun e => n_ifT (txt_inj HTB.out (show ∀ n ∈ ifT, n < 256 by decide) (by rw [e, tl_ifT]))
      clear hr HO n_minusT n_openT n_trueT n_falseT n_selfT n_noneT n_ifT htm
      cases r with
      | out => exact absurd rfl hne
      | no j =>
        clear hne
        go_enter Tryd.func85, Tryd.ntmps85
        go_wp2_with fail
        go_quiet (fail)
        go_wp2_with fail
        generalize hwq : World.drewN X _ = W1
        have g0 : W1.cell? ⟨q, 0, none⟩ = some (.slice (some ⟨b0, off, none⟩) n c) := by rw [← hwq]; exact f0
        have g1 : W1.cell? ⟨q, 1, none⟩ = some (.int .i64 (i : Int)) := by rw [← hwq]; exact f1
        have u0 : W1.cell? ⟨b0, off + i * 4, none⟩ = some (.int .i64 5) := by rw [← hwq]; exact t0
        have u1 : W1.cell? ⟨b0, off + i * 4 + 1, none⟩ = some (.string (txt tt)) := by rw [← hwq]; exact t1
        have u2 : W1.cell? ⟨b0, off + i * 4 + 2, none⟩ = some (.int .i64 tn) := by rw [← hwq]; exact t2
        have u3 : W1.cell? ⟨b0, off + i * 4 + 3, none⟩ = some (.int .i64 tp) := by rw [← hwq]; exact t3
        have P1 : Hid (RSt q (some ⟨b0, off, none⟩) c sz l i (-1) es W1) := zH (by rw [← hwq]; exact H.out.quiet ⟨_, rfl⟩)
        have M1 : Hid (Below q X W1) := zH (by rw [← hwq]; exact below_drewN (Below.refl q X) _)
        clear hwq f0 f1 f2 f3 f4 f5 f6 t0 t1 t2 t3
        have n0 := World.new_ne W1 _ g0
        have n1 := World.new_ne W1 _ g1
        have n2 := World.new_ne W1 _ u0
        go_region_held3 (fun w' => w'.cell? ⟨q, 0, none⟩ = some (.slice (some ⟨b0, off, none⟩) n c) ∧ w'.cell? ⟨q, 1, none⟩ = some (.int .i64 (i : Int)) ∧ w'.cell? ⟨b0, off + i * 4, none⟩ = some (.int .i64 5) ∧ w'.cell? ⟨b0, off + i * 4 + 1, none⟩ = some (.string (txt tt)) ∧ w'.cell? ⟨b0, off + i * 4 + 2, none⟩ = some (.int .i64 tn) ∧ w'.cell? ⟨b0, off + i * 4 + 3, none⟩ = some (.int .i64 tp))
          (first | go_keep | fail)
          (first | fail)
        have bo := ((Below.refl W1.heap.size W1).alloc zL (.cells #[.int .i64 5, .string (txt tt), .int .i64 tn, .int .i64 tp] 110)).drew
        have bk : Blk (W1.alloc (.cells #[.int .i64 5, .string (txt tt), .int .i64 tn, .int .i64 tp] 110)).drew W1.heap.size 110 #[.int .i64 5, .string (txt tt), .int .i64 tn, .int .i64 tp] := Blk.new W1 _ _
        have lq := P1.out.lt
        generalize hwq : World.drew (World.alloc _ _) = W2
        rw [hwq] at bo bk
        clear hwq
        obtain ⟨bt, hbt⟩ : ∃ z, W1.heap.size = z := ⟨_, rfl⟩
        have M2 : Hid (Below q X W2) := zH (M1.out.trans (bo.mono (Nat.le_of_lt lq)))
        have P2 := zH (P1.out.keep bo)
        rw [hbt] at lq bk ⊢
        have v0 : W2.cell? ⟨bt, 0, none⟩ = some (.int .i64 5) := bk.cell rfl
        have v1 : W2.cell? ⟨bt, 1, none⟩ = some (.string (txt tt)) := bk.cell rfl
        have v2 : W2.cell? ⟨bt, 2, none⟩ = some (.int .i64 tn) := bk.cell rfl
        have lbt := bk.lt
        have hbq : ¬ bt = q := by omega
        have hbq2 : ¬ q = bt := by omega
        clear bo bk hbt n0 n1 n2 g0 g1 u0 u1 u2 u3
        obtain ⟨f0, f1, f2, f3, f4, f5, f6⟩ := P2.out.facts
        rw [Hn.out] at f0
        go_wp2_with (first
          | (go_at_call 97; refine (HW.out _ P2.out).mono ?_; rintro e w_5 ⟨g5, es5, i5, rfl, h2⟩; have U5 := zH h2; clear h2))
        go_ret
        exact RReads.back M2.out zL (r := .no j) ⟨g5, es5, i5, rfl, U5.out⟩
      | ok tz j =>
        clear hne
        go_enter Tryd.func85, Tryd.ntmps85
        go_wp2_with fail
        go_quiet (fail)
        go_wp2_with fail
        generalize hwq : World.drewN X _ = W1
        have g0 : W1.cell? ⟨q, 0, none⟩ = some (.slice (some ⟨b0, off, none⟩) n c) := by rw [← hwq]; exact f0
        have g1 : W1.cell? ⟨q, 1, none⟩ = some (.int .i64 (i : Int)) := by rw [← hwq]; exact f1
        have u0 : W1.cell? ⟨b0, off + i * 4, none⟩ = some (.int .i64 5) := by rw [← hwq]; exact t0
        have u1 : W1.cell? ⟨b0, off + i * 4 + 1, none⟩ = some (.string (txt tt)) := by rw [← hwq]; exact t1
        have u2 : W1.cell? ⟨b0, off + i * 4 + 2, none⟩ = some (.int .i64 tn) := by rw [← hwq]; exact t2
        have u3 : W1.cell? ⟨b0, off + i * 4 + 3, none⟩ = some (.int .i64 tp) := by rw [← hwq]; exact t3
        have P1 : Hid (RSt q (some ⟨b0, off, none⟩) c sz l i (-1) es W1) := zH (by rw [← hwq]; exact H.out.quiet ⟨_, rfl⟩)
        have M1 : Hid (Below q X W1) := zH (by rw [← hwq]; exact below_drewN (Below.refl q X) _)
        clear hwq f0 f1 f2 f3 f4 f5 f6 t0 t1 t2 t3
        have n0 := World.new_ne W1 _ g0
        have n1 := World.new_ne W1 _ g1
        have n2 := World.new_ne W1 _ u0
        go_region_held3 (fun w' => w'.cell? ⟨q, 0, none⟩ = some (.slice (some ⟨b0, off, none⟩) n c) ∧ w'.cell? ⟨q, 1, none⟩ = some (.int .i64 (i : Int)) ∧ w'.cell? ⟨b0, off + i * 4, none⟩ = some (.int .i64 5) ∧ w'.cell? ⟨b0, off + i * 4 + 1, none⟩ = some (.string (txt tt)) ∧ w'.cell? ⟨b0, off + i * 4 + 2, none⟩ = some (.int .i64 tn) ∧ w'.cell? ⟨b0, off + i * 4 + 3, none⟩ = some (.int .i64 tp))
          (first | go_keep | fail)
          (first | fail)
        have bo := ((Below.refl W1.heap.size W1).alloc zL (.cells #[.int .i64 5, .string (txt tt), .int .i64 tn, .int .i64 tp] 110)).drew
        have bk : Blk (W1.alloc (.cells #[.int .i64 5, .string (txt tt), .int .i64 tn, .int .i64 tp] 110)).drew W1.heap.size 110 #[.int .i64 5, .string (txt tt), .int .i64 tn, .int .i64 tp] := Blk.new W1 _ _
        have lq := P1.out.lt
        generalize hwq : World.drew (World.alloc _ _) = W2
        rw [hwq] at bo bk
        clear hwq
        obtain ⟨bt, hbt⟩ : ∃ z, W1.heap.size = z := ⟨_, rfl⟩
        have M2 : Hid (Below q X W2) := zH (M1.out.trans (bo.mono (Nat.le_of_lt lq)))
        have P2 := zH (P1.out.keep bo)
        rw [hbt] at lq bk ⊢
        have v0 : W2.cell? ⟨bt, 0, none⟩ = some (.int .i64 5) := bk.cell rfl
        have v1 : W2.cell? ⟨bt, 1, none⟩ = some (.string (txt tt)) := bk.cell rfl
        have v2 : W2.cell? ⟨bt, 2, none⟩ = some (.int .i64 tn) := bk.cell rfl
        have lbt := bk.lt
        have hbq : ¬ bt = q := by omega
        have hbq2 : ¬ q = bt := by omega
        clear bo bk hbt n0 n1 n2 g0 g1 u0 u1 u2 u3
        obtain ⟨f0, f1, f2, f3, f4, f5, f6⟩ := P2.out.facts
        rw [Hn.out] at f0
        go_wp2_with (first
          | (go_at_call 97; refine (HW.out _ P2.out).mono ?_; rintro e w_5 ⟨g5, es5, rfl, h2⟩; have U5 := zH h2; clear h2))
        go_ret
        exact RReads.back M2.out zL (r := .ok tz j) ⟨g5, es5, rfl, U5.out⟩
    · have hk4 : kd = 4 ∧ tt ∈ wordsL := by
        have h0 : (kd = 1 ∧ 0 ≤ tn) ∨ kd = 2 ∨ kd = 3 ∨ (kd = 4 ∧ tt ∈ wordsL) ∨ (kd = 5 ∧ tt ∈ marksL) := HTG.out
        rcases h0 with h | h | h | h | h
        · exact absurd h.1 hk1
        · exact absurd h hk2
        · exact absurd h hk3
        · exact h
        · exact absurd h.1 hk5
      obtain ⟨hk4, htm⟩ := hk4
      subst hk4
      simp only [if_neg hk1, if_neg hk2, if_neg hk3, if_neg hk5] at hr
      clear hk1 hk2 hk3 hk5
      have n_minusT : tt ≠ minusT := fun e => (show minusT ∉ wordsL by decide) (e ▸ htm)
      have n_openT : tt ≠ openT := fun e => (show openT ∉ wordsL by decide) (e ▸ htm)
      by_cases n_trueT : tt = trueT
      · subst n_trueT
        have t1 : X.cell? ⟨b0, off + i * 4 + 1, none⟩ = some (.string ⟨#[116, 114, 117, 101]⟩) := t1
        rw [wordR_leaf (k := 3) (by decide) (by decide)] at hr
        have hres : PR.ok (.node 3 [] 0 []) (i + 1) = r := hr
        have HR := zH hres
        clear hr hres
        clear HO htm n_minusT n_openT
        go_enter Tryd.func85, Tryd.ntmps85
        go_wp2_with fail
        go_quiet (fail)
        go_wp2_with fail
        generalize hwq : World.drewN X _ = W1
        have g0 : W1.cell? ⟨q, 0, none⟩ = some (.slice (some ⟨b0, off, none⟩) n c) := by rw [← hwq]; exact f0
        have g1 : W1.cell? ⟨q, 1, none⟩ = some (.int .i64 (i : Int)) := by rw [← hwq]; exact f1
        have u0 : W1.cell? ⟨b0, off + i * 4, none⟩ = some (.int .i64 4) := by rw [← hwq]; exact t0
        have u1 : W1.cell? ⟨b0, off + i * 4 + 1, none⟩ = some (.string ⟨#[116, 114, 117, 101]⟩) := by rw [← hwq]; exact t1
        have u2 : W1.cell? ⟨b0, off + i * 4 + 2, none⟩ = some (.int .i64 tn) := by rw [← hwq]; exact t2
        have u3 : W1.cell? ⟨b0, off + i * 4 + 3, none⟩ = some (.int .i64 tp) := by rw [← hwq]; exact t3
        have P1 : Hid (RSt q (some ⟨b0, off, none⟩) c sz l i (-1) es W1) := zH (by rw [← hwq]; exact H.out.quiet ⟨_, rfl⟩)
        have M1 : Hid (Below q X W1) := zH (by rw [← hwq]; exact below_drewN (Below.refl q X) _)
        clear hwq f0 f1 f2 f3 f4 f5 f6 t0 t1 t2 t3
        have n0 := World.new_ne W1 _ g0
        have n1 := World.new_ne W1 _ g1
        have n2 := World.new_ne W1 _ u0
        go_region_held3 (fun w' => w'.cell? ⟨q, 0, none⟩ = some (.slice (some ⟨b0, off, none⟩) n c) ∧ w'.cell? ⟨q, 1, none⟩ = some (.int .i64 (i : Int)) ∧ w'.cell? ⟨b0, off + i * 4, none⟩ = some (.int .i64 4) ∧ w'.cell? ⟨b0, off + i * 4 + 1, none⟩ = some (.string ⟨#[116, 114, 117, 101]⟩) ∧ w'.cell? ⟨b0, off + i * 4 + 2, none⟩ = some (.int .i64 tn) ∧ w'.cell? ⟨b0, off + i * 4 + 3, none⟩ = some (.int .i64 tp))
          (first | go_keep | fail)
          (first | fail)
        have bo := ((Below.refl W1.heap.size W1).alloc zL (.cells #[.int .i64 4, .string ⟨#[116, 114, 117, 101]⟩, .int .i64 tn, .int .i64 tp] 110)).drew
        have bk : Blk (W1.alloc (.cells #[.int .i64 4, .string ⟨#[116, 114, 117, 101]⟩, .int .i64 tn, .int .i64 tp] 110)).drew W1.heap.size 110 #[.int .i64 4, .string ⟨#[116, 114, 117, 101]⟩, .int .i64 tn, .int .i64 tp] := Blk.new W1 _ _
        have lq := P1.out.lt
        generalize hwq : World.drew (World.alloc _ _) = W2
        rw [hwq] at bo bk
        clear hwq
        obtain ⟨bt, hbt⟩ : ∃ z, W1.heap.size = z := ⟨_, rfl⟩
        have M2 : Hid (Below q X W2) := zH (M1.out.trans (bo.mono (Nat.le_of_lt lq)))
        have P2 := zH (P1.out.keep bo)
        rw [hbt] at lq bk ⊢
        have v0 : W2.cell? ⟨bt, 0, none⟩ = some (.int .i64 4) := bk.cell rfl
        have v1 : W2.cell? ⟨bt, 1, none⟩ = some (.string ⟨#[116, 114, 117, 101]⟩) := bk.cell rfl
        have v2 : W2.cell? ⟨bt, 2, none⟩ = some (.int .i64 tn) := bk.cell rfl
        have lbt := bk.lt
        have hbq : ¬ bt = q := by omega
        have hbq2 : ¬ q = bt := by omega
        clear bo bk hbt n0 n1 n2 g0 g1 u0 u1 u2 u3
        obtain ⟨f0, f1, f2, f3, f4, f5, f6⟩ := P2.out.facts
        rw [Hn.out] at f0
        have hlt1 : i + 1 ≤ l.length := by rw [Hn.out]; omega
        have UST : Hid (UW q (some ⟨b0, off, none⟩) c sz l i es X r [] (kEnd 3 [] 0) (W2.setCell ⟨q, 1, none⟩ (.int .i64 ((i : Int) + 1)))) := zH (UW.start zL (M2.out.trans ((Below.refl q W2).setCell (p := ⟨q, 1, none⟩) (Nat.le_refl q) _)) (P2.out.at_ (by go_num) hlt1) HR.out)
        clear hlt1 P2 M2
        have AD : Hid (Calls Tryd.prog 64 #[.pointer (some ⟨q, 0, none⟩), .int .i64 3, .string ⟨#[]⟩, .int .i64 0, .slice none 0 0] (W2.setCell ⟨q, 1, none⟩ (.int .i64 ((i : Int) + 1))) fun e w' => ∃ g : Nat, e = .returned (.int .i64 (g : Int)) ∧ RReads q (some ⟨b0, off, none⟩) c sz l i es X r (.returned (.int .i64 (g : Int))) w') := zH (u_add 3 [] 0 none 0 0 zB (SlR.nil_ _ (by unfold maxLen; omega) _) (by simp) HES.out UST.out)
        go_wp2_with (first
          | (go_at_call 64; (with_reducible refine AD.out.mono ?_); rintro e w_5 ⟨g5, rfl, h2⟩; have U5 := zH h2; clear h2))
        go_ret
        exact U5.out
      by_cases n_falseT : tt = falseT
      · subst n_falseT
        have t1 : X.cell? ⟨b0, off + i * 4 + 1, none⟩ = some (.string ⟨#[102, 97, 108, 115, 101]⟩) := t1
        rw [wordR_leaf (k := 4) (by decide) (by decide)] at hr
        have hres : PR.ok (.node 4 [] 0 []) (i + 1) = r := hr
        have HR := zH hres
        clear hr hres
        clear HO htm n_minusT n_openT n_trueT
        go_enter Tryd.func85, Tryd.ntmps85
        go_wp2_with fail
        go_quiet (fail)
        go_wp2_with fail
        generalize hwq : World.drewN X _ = W1
        have g0 : W1.cell? ⟨q, 0, none⟩ = some (.slice (some ⟨b0, off, none⟩) n c) := by rw [← hwq]; exact f0
        have g1 : W1.cell? ⟨q, 1, none⟩ = some (.int .i64 (i : Int)) := by rw [← hwq]; exact f1
        have u0 : W1.cell? ⟨b0, off + i * 4, none⟩ = some (.int .i64 4) := by rw [← hwq]; exact t0
        have u1 : W1.cell? ⟨b0, off + i * 4 + 1, none⟩ = some (.string ⟨#[102, 97, 108, 115, 101]⟩) := by rw [← hwq]; exact t1
        have u2 : W1.cell? ⟨b0, off + i * 4 + 2, none⟩ = some (.int .i64 tn) := by rw [← hwq]; exact t2
        have u3 : W1.cell? ⟨b0, off + i * 4 + 3, none⟩ = some (.int .i64 tp) := by rw [← hwq]; exact t3
        have P1 : Hid (RSt q (some ⟨b0, off, none⟩) c sz l i (-1) es W1) := zH (by rw [← hwq]; exact H.out.quiet ⟨_, rfl⟩)
        have M1 : Hid (Below q X W1) := zH (by rw [← hwq]; exact below_drewN (Below.refl q X) _)
        clear hwq f0 f1 f2 f3 f4 f5 f6 t0 t1 t2 t3
        have n0 := World.new_ne W1 _ g0
        have n1 := World.new_ne W1 _ g1
        have n2 := World.new_ne W1 _ u0
        go_region_held3 (fun w' => w'.cell? ⟨q, 0, none⟩ = some (.slice (some ⟨b0, off, none⟩) n c) ∧ w'.cell? ⟨q, 1, none⟩ = some (.int .i64 (i : Int)) ∧ w'.cell? ⟨b0, off + i * 4, none⟩ = some (.int .i64 4) ∧ w'.cell? ⟨b0, off + i * 4 + 1, none⟩ = some (.string ⟨#[102, 97, 108, 115, 101]⟩) ∧ w'.cell? ⟨b0, off + i * 4 + 2, none⟩ = some (.int .i64 tn) ∧ w'.cell? ⟨b0, off + i * 4 + 3, none⟩ = some (.int .i64 tp))
          (first | go_keep | fail)
          (first | fail)
        have bo := ((Below.refl W1.heap.size W1).alloc zL (.cells #[.int .i64 4, .string ⟨#[102, 97, 108, 115, 101]⟩, .int .i64 tn, .int .i64 tp] 110)).drew
        have bk : Blk (W1.alloc (.cells #[.int .i64 4, .string ⟨#[102, 97, 108, 115, 101]⟩, .int .i64 tn, .int .i64 tp] 110)).drew W1.heap.size 110 #[.int .i64 4, .string ⟨#[102, 97, 108, 115, 101]⟩, .int .i64 tn, .int .i64 tp] := Blk.new W1 _ _
        have lq := P1.out.lt
        generalize hwq : World.drew (World.alloc _ _) = W2
        rw [hwq] at bo bk
        clear hwq
        obtain ⟨bt, hbt⟩ : ∃ z, W1.heap.size = z := ⟨_, rfl⟩
        have M2 : Hid (Below q X W2) := zH (M1.out.trans (bo.mono (Nat.le_of_lt lq)))
        have P2 := zH (P1.out.keep bo)
        rw [hbt] at lq bk ⊢
        have v0 : W2.cell? ⟨bt, 0, none⟩ = some (.int .i64 4) := bk.cell rfl
        have v1 : W2.cell? ⟨bt, 1, none⟩ = some (.string ⟨#[102, 97, 108, 115, 101]⟩) := bk.cell rfl
        have v2 : W2.cell? ⟨bt, 2, none⟩ = some (.int .i64 tn) := bk.cell rfl
        have lbt := bk.lt
        have hbq : ¬ bt = q := by omega
        have hbq2 : ¬ q = bt := by omega
        clear bo bk hbt n0 n1 n2 g0 g1 u0 u1 u2 u3
        obtain ⟨f0, f1, f2, f3, f4, f5, f6⟩ := P2.out.facts
        rw [Hn.out] at f0
        have hlt1 : i + 1 ≤ l.length := by rw [Hn.out]; omega
        have UST : Hid (UW q (some ⟨b0, off, none⟩) c sz l i es X r [] (kEnd 4 [] 0) (W2.setCell ⟨q, 1, none⟩ (.int .i64 ((i : Int) + 1)))) := zH (UW.start zL (M2.out.trans ((Below.refl q W2).setCell (p := ⟨q, 1, none⟩) (Nat.le_refl q) _)) (P2.out.at_ (by go_num) hlt1) HR.out)
        clear hlt1 P2 M2
        have AD : Hid (Calls Tryd.prog 64 #[.pointer (some ⟨q, 0, none⟩), .int .i64 4, .string ⟨#[]⟩, .int .i64 0, .slice none 0 0] (W2.setCell ⟨q, 1, none⟩ (.int .i64 ((i : Int) + 1))) fun e w' => ∃ g : Nat, e = .returned (.int .i64 (g : Int)) ∧ RReads q (some ⟨b0, off, none⟩) c sz l i es X r (.returned (.int .i64 (g : Int))) w') := zH (u_add 4 [] 0 none 0 0 zB (SlR.nil_ _ (by unfold maxLen; omega) _) (by simp) HES.out UST.out)
        go_wp2_with (first
          | (go_at_call 64; (with_reducible refine AD.out.mono ?_); rintro e w_5 ⟨g5, rfl, h2⟩; have U5 := zH h2; clear h2))
        go_ret
        exact U5.out
      by_cases n_selfT : tt = selfT
      · subst n_selfT
        have t1 : X.cell? ⟨b0, off + i * 4 + 1, none⟩ = some (.string ⟨#[115, 101, 108, 102]⟩) := t1
        rw [wordR_leaf (k := 5) (by decide) (by decide)] at hr
        have hres : PR.ok (.node 5 [] 0 []) (i + 1) = r := hr
        have HR := zH hres
        clear hr hres
        clear HO htm n_minusT n_openT n_trueT n_falseT
        go_enter Tryd.func85, Tryd.ntmps85
        go_wp2_with fail
        go_quiet (fail)
        go_wp2_with fail
        generalize hwq : World.drewN X _ = W1
        have g0 : W1.cell? ⟨q, 0, none⟩ = some (.slice (some ⟨b0, off, none⟩) n c) := by rw [← hwq]; exact f0
        have g1 : W1.cell? ⟨q, 1, none⟩ = some (.int .i64 (i : Int)) := by rw [← hwq]; exact f1
        have u0 : W1.cell? ⟨b0, off + i * 4, none⟩ = some (.int .i64 4) := by rw [← hwq]; exact t0
        have u1 : W1.cell? ⟨b0, off + i * 4 + 1, none⟩ = some (.string ⟨#[115, 101, 108, 102]⟩) := by rw [← hwq]; exact t1
        have u2 : W1.cell? ⟨b0, off + i * 4 + 2, none⟩ = some (.int .i64 tn) := by rw [← hwq]; exact t2
        have u3 : W1.cell? ⟨b0, off + i * 4 + 3, none⟩ = some (.int .i64 tp) := by rw [← hwq]; exact t3
        have P1 : Hid (RSt q (some ⟨b0, off, none⟩) c sz l i (-1) es W1) := zH (by rw [← hwq]; exact H.out.quiet ⟨_, rfl⟩)
        have M1 : Hid (Below q X W1) := zH (by rw [← hwq]; exact below_drewN (Below.refl q X) _)
        clear hwq f0 f1 f2 f3 f4 f5 f6 t0 t1 t2 t3
        have n0 := World.new_ne W1 _ g0
        have n1 := World.new_ne W1 _ g1
        have n2 := World.new_ne W1 _ u0
        go_region_held3 (fun w' => w'.cell? ⟨q, 0, none⟩ = some (.slice (some ⟨b0, off, none⟩) n c) ∧ w'.cell? ⟨q, 1, none⟩ = some (.int .i64 (i : Int)) ∧ w'.cell? ⟨b0, off + i * 4, none⟩ = some (.int .i64 4) ∧ w'.cell? ⟨b0, off + i * 4 + 1, none⟩ = some (.string ⟨#[115, 101, 108, 102]⟩) ∧ w'.cell? ⟨b0, off + i * 4 + 2, none⟩ = some (.int .i64 tn) ∧ w'.cell? ⟨b0, off + i * 4 + 3, none⟩ = some (.int .i64 tp))
          (first | go_keep | fail)
          (first | fail)
        have bo := ((Below.refl W1.heap.size W1).alloc zL (.cells #[.int .i64 4, .string ⟨#[115, 101, 108, 102]⟩, .int .i64 tn, .int .i64 tp] 110)).drew
        have bk : Blk (W1.alloc (.cells #[.int .i64 4, .string ⟨#[115, 101, 108, 102]⟩, .int .i64 tn, .int .i64 tp] 110)).drew W1.heap.size 110 #[.int .i64 4, .string ⟨#[115, 101, 108, 102]⟩, .int .i64 tn, .int .i64 tp] := Blk.new W1 _ _
        have lq := P1.out.lt
        generalize hwq : World.drew (World.alloc _ _) = W2
        rw [hwq] at bo bk
        clear hwq
        obtain ⟨bt, hbt⟩ : ∃ z, W1.heap.size = z := ⟨_, rfl⟩
        have M2 : Hid (Below q X W2) := zH (M1.out.trans (bo.mono (Nat.le_of_lt lq)))
        have P2 := zH (P1.out.keep bo)
        rw [hbt] at lq bk ⊢
        have v0 : W2.cell? ⟨bt, 0, none⟩ = some (.int .i64 4) := bk.cell rfl
        have v1 : W2.cell? ⟨bt, 1, none⟩ = some (.string ⟨#[115, 101, 108, 102]⟩) := bk.cell rfl
        have v2 : W2.cell? ⟨bt, 2, none⟩ = some (.int .i64 tn) := bk.cell rfl
        have lbt := bk.lt
        have hbq : ¬ bt = q := by omega
        have hbq2 : ¬ q = bt := by omega
        clear bo bk hbt n0 n1 n2 g0 g1 u0 u1 u2 u3
        obtain ⟨f0, f1, f2, f3, f4, f5, f6⟩ := P2.out.facts
        rw [Hn.out] at f0
        have hlt1 : i + 1 ≤ l.length := by rw [Hn.out]; omega
        have UST : Hid (UW q (some ⟨b0, off, none⟩) c sz l i es X r [] (kEnd 5 [] 0) (W2.setCell ⟨q, 1, none⟩ (.int .i64 ((i : Int) + 1)))) := zH (UW.start zL (M2.out.trans ((Below.refl q W2).setCell (p := ⟨q, 1, none⟩) (Nat.le_refl q) _)) (P2.out.at_ (by go_num) hlt1) HR.out)
        clear hlt1 P2 M2
        have AD : Hid (Calls Tryd.prog 64 #[.pointer (some ⟨q, 0, none⟩), .int .i64 5, .string ⟨#[]⟩, .int .i64 0, .slice none 0 0] (W2.setCell ⟨q, 1, none⟩ (.int .i64 ((i : Int) + 1))) fun e w' => ∃ g : Nat, e = .returned (.int .i64 (g : Int)) ∧ RReads q (some ⟨b0, off, none⟩) c sz l i es X r (.returned (.int .i64 (g : Int))) w') := zH (u_add 5 [] 0 none 0 0 zB (SlR.nil_ _ (by unfold maxLen; omega) _) (by simp) HES.out UST.out)
        go_wp2_with (first
          | (go_at_call 64; (with_reducible refine AD.out.mono ?_); rintro e w_5 ⟨g5, rfl, h2⟩; have U5 := zH h2; clear h2))
        go_ret
        exact U5.out
      by_cases n_noneT : tt = noneT
      · subst n_noneT
        have t1 : X.cell? ⟨b0, off + i * 4 + 1, none⟩ = some (.string ⟨#[110, 111, 110, 101]⟩) := t1
        rw [wordR_leaf (k := 6) (by decide) (by decide)] at hr
        have hres : PR.ok (.node 6 [] 0 []) (i + 1) = r := hr
        have HR := zH hres
        clear hr hres
        clear HO htm n_minusT n_openT n_trueT n_falseT n_selfT
        go_enter Tryd.func85, Tryd.ntmps85
        go_wp2_with fail
        go_quiet (fail)
        go_wp2_with fail
        generalize hwq : World.drewN X _ = W1
        have g0 : W1.cell? ⟨q, 0, none⟩ = some (.slice (some ⟨b0, off, none⟩) n c) := by rw [← hwq]; exact f0
        have g1 : W1.cell? ⟨q, 1, none⟩ = some (.int .i64 (i : Int)) := by rw [← hwq]; exact f1
        have u0 : W1.cell? ⟨b0, off + i * 4, none⟩ = some (.int .i64 4) := by rw [← hwq]; exact t0
        have u1 : W1.cell? ⟨b0, off + i * 4 + 1, none⟩ = some (.string ⟨#[110, 111, 110, 101]⟩) := by rw [← hwq]; exact t1
        have u2 : W1.cell? ⟨b0, off + i * 4 + 2, none⟩ = some (.int .i64 tn) := by rw [← hwq]; exact t2
        have u3 : W1.cell? ⟨b0, off + i * 4 + 3, none⟩ = some (.int .i64 tp) := by rw [← hwq]; exact t3
        have P1 : Hid (RSt q (some ⟨b0, off, none⟩) c sz l i (-1) es W1) := zH (by rw [← hwq]; exact H.out.quiet ⟨_, rfl⟩)
        have M1 : Hid (Below q X W1) := zH (by rw [← hwq]; exact below_drewN (Below.refl q X) _)
        clear hwq f0 f1 f2 f3 f4 f5 f6 t0 t1 t2 t3
        have n0 := World.new_ne W1 _ g0
        have n1 := World.new_ne W1 _ g1
        have n2 := World.new_ne W1 _ u0
        go_region_held3 (fun w' => w'.cell? ⟨q, 0, none⟩ = some (.slice (some ⟨b0, off, none⟩) n c) ∧ w'.cell? ⟨q, 1, none⟩ = some (.int .i64 (i : Int)) ∧ w'.cell? ⟨b0, off + i * 4, none⟩ = some (.int .i64 4) ∧ w'.cell? ⟨b0, off + i * 4 + 1, none⟩ = some (.string ⟨#[110, 111, 110, 101]⟩) ∧ w'.cell? ⟨b0, off + i * 4 + 2, none⟩ = some (.int .i64 tn) ∧ w'.cell? ⟨b0, off + i * 4 + 3, none⟩ = some (.int .i64 tp))
          (first | go_keep | fail)
          (first | fail)
        have bo := ((Below.refl W1.heap.size W1).alloc zL (.cells #[.int .i64 4, .string ⟨#[110, 111, 110, 101]⟩, .int .i64 tn, .int .i64 tp] 110)).drew
        have bk : Blk (W1.alloc (.cells #[.int .i64 4, .string ⟨#[110, 111, 110, 101]⟩, .int .i64 tn, .int .i64 tp] 110)).drew W1.heap.size 110 #[.int .i64 4, .string ⟨#[110, 111, 110, 101]⟩, .int .i64 tn, .int .i64 tp] := Blk.new W1 _ _
        have lq := P1.out.lt
        generalize hwq : World.drew (World.alloc _ _) = W2
        rw [hwq] at bo bk
        clear hwq
        obtain ⟨bt, hbt⟩ : ∃ z, W1.heap.size = z := ⟨_, rfl⟩
        have M2 : Hid (Below q X W2) := zH (M1.out.trans (bo.mono (Nat.le_of_lt lq)))
        have P2 := zH (P1.out.keep bo)
        rw [hbt] at lq bk ⊢
        have v0 : W2.cell? ⟨bt, 0, none⟩ = some (.int .i64 4) := bk.cell rfl
        have v1 : W2.cell? ⟨bt, 1, none⟩ = some (.string ⟨#[110, 111, 110, 101]⟩) := bk.cell rfl
        have v2 : W2.cell? ⟨bt, 2, none⟩ = some (.int .i64 tn) := bk.cell rfl
        have lbt := bk.lt
        have hbq : ¬ bt = q := by omega
        have hbq2 : ¬ q = bt := by omega
        clear bo bk hbt n0 n1 n2 g0 g1 u0 u1 u2 u3
        obtain ⟨f0, f1, f2, f3, f4, f5, f6⟩ := P2.out.facts
        rw [Hn.out] at f0
        have hlt1 : i + 1 ≤ l.length := by rw [Hn.out]; omega
        have UST : Hid (UW q (some ⟨b0, off, none⟩) c sz l i es X r [] (kEnd 6 [] 0) (W2.setCell ⟨q, 1, none⟩ (.int .i64 ((i : Int) + 1)))) := zH (UW.start zL (M2.out.trans ((Below.refl q W2).setCell (p := ⟨q, 1, none⟩) (Nat.le_refl q) _)) (P2.out.at_ (by go_num) hlt1) HR.out)
        clear hlt1 P2 M2
        have AD : Hid (Calls Tryd.prog 64 #[.pointer (some ⟨q, 0, none⟩), .int .i64 6, .string ⟨#[]⟩, .int .i64 0, .slice none 0 0] (W2.setCell ⟨q, 1, none⟩ (.int .i64 ((i : Int) + 1))) fun e w' => ∃ g : Nat, e = .returned (.int .i64 (g : Int)) ∧ RReads q (some ⟨b0, off, none⟩) c sz l i es X r (.returned (.int .i64 (g : Int))) w') := zH (u_add 6 [] 0 none 0 0 zB (SlR.nil_ _ (by unfold maxLen; omega) _) (by simp) HES.out UST.out)
        go_wp2_with (first
          | (go_at_call 64; (with_reducible refine AD.out.mono ?_); rintro e w_5 ⟨g5, rfl, h2⟩; have U5 := zH h2; clear h2))
        go_ret
        exact U5.out
      by_cases n_ifT : tt = ifT
      · subst n_ifT
        have t1 : X.cell? ⟨b0, off + i * 4 + 1, none⟩ = some (.string ⟨#[105, 102]⟩) := t1
        rw [wordR_if (k := 30) (by decide) (by decide)] at hr
        have HR := zH hr
        have MT := (show Hid (∀ gs K Y, UW q (some ⟨b0, off, none⟩) c sz l i es X r gs (kMust l thenT K) Y → Calls Tryd.prog 96 #[.pointer (some ⟨q, 0, none⟩), .string ⟨#[116, 104, 101, 110]⟩] Y fun e w' => e = .returned (.tuple #[]) ∧ UW q (some ⟨b0, off, none⟩) c sz l i es X r gs K w') from zH (fun gs K Y hY => by rw [← lit_thenT]; exact u_must thenT (show ∀ n ∈ thenT, n < 256 by decide) hY))
        have ME := (show Hid (∀ gs K Y, UW q (some ⟨b0, off, none⟩) c sz l i es X r gs (kMust l elseT K) Y → Calls Tryd.prog 96 #[.pointer (some ⟨q, 0, none⟩), .string ⟨#[101, 108, 115, 101]⟩] Y fun e w' => e = .returned (.tuple #[]) ∧ UW q (some ⟨b0, off, none⟩) c sz l i es X r gs K w') from zH (fun gs K Y hY => by rw [← lit_elseT]; exact u_must elseT (show ∀ n ∈ elseT, n < 256 by decide) hY))
        have MN := (show Hid (∀ gs K Y, UW q (some ⟨b0, off, none⟩) c sz l i es X r gs (kMust l endT K) Y → Calls Tryd.prog 96 #[.pointer (some ⟨q, 0, none⟩), .string ⟨#[101, 110, 100]⟩] Y fun e w' => e = .returned (.tuple #[]) ∧ UW q (some ⟨b0, off, none⟩) c sz l i es X r gs K w') from zH (fun gs K Y hY => by rw [← lit_endT]; exact u_must endT (show ∀ n ∈ endT, n < 256 by decide) hY))
        have LV := (show Hid (∀ gs K Y, UW q (some ⟨b0, off, none⟩) c sz l i es X r gs (kLev l f K) Y → Calls Tryd.prog 46 #[.pointer (some ⟨q, 0, none⟩), .int .i64 1] Y fun e w' => ∃ g : Nat, e = .returned (.int .i64 (g : Int)) ∧ UW q (some ⟨b0, off, none⟩) c sz l i es X r (gs ++ [g]) K w') from zH (fun gs K Y hY => u_level f HO HES.out hne hY))
        have AD : Hid (∀ g1 g2 g3 Y, UW q (some ⟨b0, off, none⟩) c sz l i es X r [g1, g2, g3] (kEnd 30 [] 0) Y → Calls Tryd.prog 64 #[.pointer (some ⟨q, 0, none⟩), .int .i64 30, .string ⟨#[]⟩, .int .i64 0, .slice (some ⟨Y.heap.size, 0, none⟩) 3 3] (Y.alloc (.cells #[.int .i64 (g1 : Int), .int .i64 (g2 : Int), .int .i64 (g3 : Int)] 3)) fun e w' => ∃ g : Nat, e = .returned (.int .i64 (g : Int)) ∧ RReads q (some ⟨b0, off, none⟩) c sz l i es X r (.returned (.int .i64 (g : Int))) w') := zH (fun g1 g2 g3 Y hY => u_add 30 [] 0 _ _ _ ((Below.refl _ Y).alloc zL _) (ints3 Y g1 g2 g3) (by simp) HES.out hY)
        clear hr HO htm n_minusT n_openT n_trueT n_falseT n_selfT n_noneT
        go_enter Tryd.func85, Tryd.ntmps85
        go_wp2_with fail
        go_quiet (fail)
        go_wp2_with fail
        generalize hwq : World.drewN X _ = W1
        have g0 : W1.cell? ⟨q, 0, none⟩ = some (.slice (some ⟨b0, off, none⟩) n c) := by rw [← hwq]; exact f0
        have g1 : W1.cell? ⟨q, 1, none⟩ = some (.int .i64 (i : Int)) := by rw [← hwq]; exact f1
        have u0 : W1.cell? ⟨b0, off + i * 4, none⟩ = some (.int .i64 4) := by rw [← hwq]; exact t0
        have u1 : W1.cell? ⟨b0, off + i * 4 + 1, none⟩ = some (.string ⟨#[105, 102]⟩) := by rw [← hwq]; exact t1
        have u2 : W1.cell? ⟨b0, off + i * 4 + 2, none⟩ = some (.int .i64 tn) := by rw [← hwq]; exact t2
        have u3 : W1.cell? ⟨b0, off + i * 4 + 3, none⟩ = some (.int .i64 tp) := by rw [← hwq]; exact t3
        have P1 : Hid (RSt q (some ⟨b0, off, none⟩) c sz l i (-1) es W1) := zH (by rw [← hwq]; exact H.out.quiet ⟨_, rfl⟩)
        have M1 : Hid (Below q X W1) := zH (by rw [← hwq]; exact below_drewN (Below.refl q X) _)
        clear hwq f0 f1 f2 f3 f4 f5 f6 t0 t1 t2 t3
        have n0 := World.new_ne W1 _ g0
        have n1 := World.new_ne W1 _ g1
        have n2 := World.new_ne W1 _ u0
        go_region_held3 (fun w' => w'.cell? ⟨q, 0, none⟩ = some (.slice (some ⟨b0, off, none⟩) n c) ∧ w'.cell? ⟨q, 1, none⟩ = some (.int .i64 (i : Int)) ∧ w'.cell? ⟨b0, off + i * 4, none⟩ = some (.int .i64 4) ∧ w'.cell? ⟨b0, off + i * 4 + 1, none⟩ = some (.string ⟨#[105, 102]⟩) ∧ w'.cell? ⟨b0, off + i * 4 + 2, none⟩ = some (.int .i64 tn) ∧ w'.cell? ⟨b0, off + i * 4 + 3, none⟩ = some (.int .i64 tp))
          (first | go_keep | fail)
          (first | fail)
        have bo := ((Below.refl W1.heap.size W1).alloc zL (.cells #[.int .i64 4, .string ⟨#[105, 102]⟩, .int .i64 tn, .int .i64 tp] 110)).drew
        have bk : Blk (W1.alloc (.cells #[.int .i64 4, .string ⟨#[105, 102]⟩, .int .i64 tn, .int .i64 tp] 110)).drew W1.heap.size 110 #[.int .i64 4, .string ⟨#[105, 102]⟩, .int .i64 tn, .int .i64 tp] := Blk.new W1 _ _
        have lq := P1.out.lt
        generalize hwq : World.drew (World.alloc _ _) = W2
        rw [hwq] at bo bk
        clear hwq
        obtain ⟨bt, hbt⟩ : ∃ z, W1.heap.size = z := ⟨_, rfl⟩
        have M2 : Hid (Below q X W2) := zH (M1.out.trans (bo.mono (Nat.le_of_lt lq)))
        have P2 := zH (P1.out.keep bo)
        rw [hbt] at lq bk ⊢
        have v0 : W2.cell? ⟨bt, 0, none⟩ = some (.int .i64 4) := bk.cell rfl
        have v1 : W2.cell? ⟨bt, 1, none⟩ = some (.string ⟨#[105, 102]⟩) := bk.cell rfl
        have v2 : W2.cell? ⟨bt, 2, none⟩ = some (.int .i64 tn) := bk.cell rfl
        have lbt := bk.lt
        have hbq : ¬ bt = q := by omega
        have hbq2 : ¬ q = bt := by omega
        clear bo bk hbt n0 n1 n2 g0 g1 u0 u1 u2 u3
        obtain ⟨f0, f1, f2, f3, f4, f5, f6⟩ := P2.out.facts
        rw [Hn.out] at f0
        have hlt1 : i + 1 ≤ l.length := by rw [Hn.out]; omega
        have UST : Hid (UW q (some ⟨b0, off, none⟩) c sz l i es X r [] (kLev l f (kMust l thenT (kLev l f (kMust l elseT (kLev l f (kMust l endT (kEnd 30 [] 0))))))) (W2.setCell ⟨q, 1, none⟩ (.int .i64 ((i : Int) + 1)))) := zH (UW.start zL (M2.out.trans ((Below.refl q W2).setCell (p := ⟨q, 1, none⟩) (Nat.le_refl q) _)) (P2.out.at_ (by go_num) hlt1) HR.out)
        clear hlt1 P2 M2
        go_wp2_with (first
          | (go_at_call 46; (with_reducible refine (LV.out _ _ _ UST.out).mono ?_); rintro e w_U2 ⟨g2, rfl, h2⟩; simp only [List.nil_append, List.cons_append] at h2; have U2 := zH h2; clear h2 UST)
          | (go_at_call 96; (with_reducible refine (MT.out _ _ _ U2.out).mono ?_); rintro e w_U3 ⟨rfl, h2⟩; have U3 := zH h2; clear h2 U2)
          | (go_at_call 46; (with_reducible refine (LV.out _ _ _ U3.out).mono ?_); rintro e w_U4 ⟨g4, rfl, h2⟩; simp only [List.nil_append, List.cons_append] at h2; have U4 := zH h2; clear h2 U3)
          | (go_at_call 96; (with_reducible refine (ME.out _ _ _ U4.out).mono ?_); rintro e w_U5 ⟨rfl, h2⟩; have U5 := zH h2; clear h2 U4)
          | (go_at_call 46; (with_reducible refine (LV.out _ _ _ U5.out).mono ?_); rintro e w_U6 ⟨g6, rfl, h2⟩; simp only [List.nil_append, List.cons_append] at h2; have U6 := zH h2; clear h2 U5)
          | (go_at_call 96; (with_reducible refine (MN.out _ _ _ U6.out).mono ?_); rintro e w_U7 ⟨rfl, h2⟩; have U7 := zH h2; clear h2 U6)
          | (go_at_call 64; (with_reducible refine (AD.out _ _ _ _ U7.out).mono ?_); rintro e w_8 ⟨g8, rfl, h2⟩; have U8 := zH h2; clear h2))
        go_ret
        exact U8.out
      have HW : Hid (∀ Y, RSt q (some ⟨b0, off, none⟩) c sz l i (-1) es Y → Calls Tryd.prog 97 #[.pointer (some ⟨q, 0, none⟩), .string (txt tt)] Y (RReads q (some ⟨b0, off, none⟩) c sz l i es Y r)) := zH (fun Y hY => by
        have hw : wordR l f i tt = r := hr
        rw [← hw] at hne ⊢
        exact r_word HTB.out (.inl htm) n_trueT n_falseT n_selfT n_noneT n_ifT f HO HES.out (by rw [Hn.out]; omega) hY hne)
      have e_minusT : ((txt tt).toList == [45]) = false := by rw [beq_eq_false_iff_ne]; exact fun e => n_minusT (txt_inj HTB.out (show ∀ n ∈ minusT, n < 256 by decide) (by rw [e, tl_minusT]))
      have e_openT : ((txt tt).toList == [40]) = false := by rw [beq_eq_false_iff_ne]; exact fun e => n_openT (txt_inj HTB.out (show ∀ n ∈ openT, n < 256 by decide) (by rw [e, tl_openT]))
      have e_trueT : ((txt tt).toList == [116, 114, 117, 101]) = false := by rw [beq_eq_false_iff_ne]; exact fun e => n_trueT (txt_inj HTB.out (show ∀ n ∈ trueT, n < 256 by decide) (by rw [e, tl_trueT]))
      have e_falseT : ((txt tt).toList == [102, 97, 108, 115, 101]) = false := by rw [beq_eq_false_iff_ne]; exact fun e => n_falseT (txt_inj HTB.out (show ∀ n ∈ falseT, n < 256 by decide) (by rw [e, tl_falseT]))
      have e_selfT : ((txt tt).toList == [115, 101, 108, 102]) = false := by rw [beq_eq_false_iff_ne]; exact fun e => n_selfT (txt_inj HTB.out (show ∀ n ∈ selfT, n < 256 by decide) (by rw [e, tl_selfT]))
      have e_noneT : ((txt tt).toList == [110, 111, 110, 101]) = false := by rw [beq_eq_false_iff_ne]; exact fun e => n_noneT (txt_inj HTB.out (show ∀ n ∈ noneT, n < 256 by decide) (by rw [e, tl_noneT]))
      have e_ifT : ((txt tt).toList == [105, 102]) = false := by rw [beq_eq_false_iff_ne]; exact fun e => n_ifT (txt_inj HTB.out (show ∀ n ∈ ifT, n < 256 by decide) (by rw [e, tl_ifT]))
      clear hr HO n_minusT n_openT n_trueT n_falseT n_selfT n_noneT n_ifT htm
      cases r with
      | out => exact absurd rfl hne
      | no j =>
        clear hne
        go_enter Tryd.func85, Tryd.ntmps85
        go_wp2_with fail
        go_quiet (fail)
        go_wp2_with fail
        generalize hwq : World.drewN X _ = W1
        have g0 : W1.cell? ⟨q, 0, none⟩ = some (.slice (some ⟨b0, off, none⟩) n c) := by rw [← hwq]; exact f0
        have g1 : W1.cell? ⟨q, 1, none⟩ = some (.int .i64 (i : Int)) := by rw [← hwq]; exact f1
        have u0 : W1.cell? ⟨b0, off + i * 4, none⟩ = some (.int .i64 4) := by rw [← hwq]; exact t0
        have u1 : W1.cell? ⟨b0, off + i * 4 + 1, none⟩ = some (.string (txt tt)) := by rw [← hwq]; exact t1
        have u2 : W1.cell? ⟨b0, off + i * 4 + 2, none⟩ = some (.int .i64 tn) := by rw [← hwq]; exact t2
        have u3 : W1.cell? ⟨b0, off + i * 4 + 3, none⟩ = some (.int .i64 tp) := by rw [← hwq]; exact t3
        have P1 : Hid (RSt q (some ⟨b0, off, none⟩) c sz l i (-1) es W1) := zH (by rw [← hwq]; exact H.out.quiet ⟨_, rfl⟩)
        have M1 : Hid (Below q X W1) := zH (by rw [← hwq]; exact below_drewN (Below.refl q X) _)
        clear hwq f0 f1 f2 f3 f4 f5 f6 t0 t1 t2 t3
        have n0 := World.new_ne W1 _ g0
        have n1 := World.new_ne W1 _ g1
        have n2 := World.new_ne W1 _ u0
        go_region_held3 (fun w' => w'.cell? ⟨q, 0, none⟩ = some (.slice (some ⟨b0, off, none⟩) n c) ∧ w'.cell? ⟨q, 1, none⟩ = some (.int .i64 (i : Int)) ∧ w'.cell? ⟨b0, off + i * 4, none⟩ = some (.int .i64 4) ∧ w'.cell? ⟨b0, off + i * 4 + 1, none⟩ = some (.string (txt tt)) ∧ w'.cell? ⟨b0, off + i * 4 + 2, none⟩ = some (.int .i64 tn) ∧ w'.cell? ⟨b0, off + i * 4 + 3, none⟩ = some (.int .i64 tp))
          (first | go_keep | fail)
          (first | fail)
        have bo := ((Below.refl W1.heap.size W1).alloc zL (.cells #[.int .i64 4, .string (txt tt), .int .i64 tn, .int .i64 tp] 110)).drew
        have bk : Blk (W1.alloc (.cells #[.int .i64 4, .string (txt tt), .int .i64 tn, .int .i64 tp] 110)).drew W1.heap.size 110 #[.int .i64 4, .string (txt tt), .int .i64 tn, .int .i64 tp] := Blk.new W1 _ _
        have lq := P1.out.lt
        generalize hwq : World.drew (World.alloc _ _) = W2
        rw [hwq] at bo bk
        clear hwq
        obtain ⟨bt, hbt⟩ : ∃ z, W1.heap.size = z := ⟨_, rfl⟩
        have M2 : Hid (Below q X W2) := zH (M1.out.trans (bo.mono (Nat.le_of_lt lq)))
        have P2 := zH (P1.out.keep bo)
        rw [hbt] at lq bk ⊢
        have v0 : W2.cell? ⟨bt, 0, none⟩ = some (.int .i64 4) := bk.cell rfl
        have v1 : W2.cell? ⟨bt, 1, none⟩ = some (.string (txt tt)) := bk.cell rfl
        have v2 : W2.cell? ⟨bt, 2, none⟩ = some (.int .i64 tn) := bk.cell rfl
        have lbt := bk.lt
        have hbq : ¬ bt = q := by omega
        have hbq2 : ¬ q = bt := by omega
        clear bo bk hbt n0 n1 n2 g0 g1 u0 u1 u2 u3
        obtain ⟨f0, f1, f2, f3, f4, f5, f6⟩ := P2.out.facts
        rw [Hn.out] at f0
        go_wp2_with (first
          | (go_at_call 97; refine (HW.out _ P2.out).mono ?_; rintro e w_5 ⟨g5, es5, i5, rfl, h2⟩; have U5 := zH h2; clear h2))
        go_ret
        exact RReads.back M2.out zL (r := .no j) ⟨g5, es5, i5, rfl, U5.out⟩
      | ok tz j =>
        clear hne
        go_enter Tryd.func85, Tryd.ntmps85
        go_wp2_with fail
        go_quiet (fail)
        go_wp2_with fail
        generalize hwq : World.drewN X _ = W1
        have g0 : W1.cell? ⟨q, 0, none⟩ = some (.slice (some ⟨b0, off, none⟩) n c) := by rw [← hwq]; exact f0
        have g1 : W1.cell? ⟨q, 1, none⟩ = some (.int .i64 (i : Int)) := by rw [← hwq]; exact f1
        have u0 : W1.cell? ⟨b0, off + i * 4, none⟩ = some (.int .i64 4) := by rw [← hwq]; exact t0
        have u1 : W1.cell? ⟨b0, off + i * 4 + 1, none⟩ = some (.string (txt tt)) := by rw [← hwq]; exact t1
        have u2 : W1.cell? ⟨b0, off + i * 4 + 2, none⟩ = some (.int .i64 tn) := by rw [← hwq]; exact t2
        have u3 : W1.cell? ⟨b0, off + i * 4 + 3, none⟩ = some (.int .i64 tp) := by rw [← hwq]; exact t3
        have P1 : Hid (RSt q (some ⟨b0, off, none⟩) c sz l i (-1) es W1) := zH (by rw [← hwq]; exact H.out.quiet ⟨_, rfl⟩)
        have M1 : Hid (Below q X W1) := zH (by rw [← hwq]; exact below_drewN (Below.refl q X) _)
        clear hwq f0 f1 f2 f3 f4 f5 f6 t0 t1 t2 t3
        have n0 := World.new_ne W1 _ g0
        have n1 := World.new_ne W1 _ g1
        have n2 := World.new_ne W1 _ u0
        go_region_held3 (fun w' => w'.cell? ⟨q, 0, none⟩ = some (.slice (some ⟨b0, off, none⟩) n c) ∧ w'.cell? ⟨q, 1, none⟩ = some (.int .i64 (i : Int)) ∧ w'.cell? ⟨b0, off + i * 4, none⟩ = some (.int .i64 4) ∧ w'.cell? ⟨b0, off + i * 4 + 1, none⟩ = some (.string (txt tt)) ∧ w'.cell? ⟨b0, off + i * 4 + 2, none⟩ = some (.int .i64 tn) ∧ w'.cell? ⟨b0, off + i * 4 + 3, none⟩ = some (.int .i64 tp))
          (first | go_keep | fail)
          (first | fail)
        have bo := ((Below.refl W1.heap.size W1).alloc zL (.cells #[.int .i64 4, .string (txt tt), .int .i64 tn, .int .i64 tp] 110)).drew
        have bk : Blk (W1.alloc (.cells #[.int .i64 4, .string (txt tt), .int .i64 tn, .int .i64 tp] 110)).drew W1.heap.size 110 #[.int .i64 4, .string (txt tt), .int .i64 tn, .int .i64 tp] := Blk.new W1 _ _
        have lq := P1.out.lt
        generalize hwq : World.drew (World.alloc _ _) = W2
        rw [hwq] at bo bk
        clear hwq
        obtain ⟨bt, hbt⟩ : ∃ z, W1.heap.size = z := ⟨_, rfl⟩
        have M2 : Hid (Below q X W2) := zH (M1.out.trans (bo.mono (Nat.le_of_lt lq)))
        have P2 := zH (P1.out.keep bo)
        rw [hbt] at lq bk ⊢
        have v0 : W2.cell? ⟨bt, 0, none⟩ = some (.int .i64 4) := bk.cell rfl
        have v1 : W2.cell? ⟨bt, 1, none⟩ = some (.string (txt tt)) := bk.cell rfl
        have v2 : W2.cell? ⟨bt, 2, none⟩ = some (.int .i64 tn) := bk.cell rfl
        have lbt := bk.lt
        have hbq : ¬ bt = q := by omega
        have hbq2 : ¬ q = bt := by omega
        clear bo bk hbt n0 n1 n2 g0 g1 u0 u1 u2 u3
        obtain ⟨f0, f1, f2, f3, f4, f5, f6⟩ := P2.out.facts
        rw [Hn.out] at f0
        go_wp2_with (first
          | (go_at_call 97; refine (HW.out _ P2.out).mono ?_; rintro e w_5 ⟨g5, es5, rfl, h2⟩; have U5 := zH h2; clear h2))
        go_ret
        exact RReads.back M2.out zL (r := .ok tz j) ⟨g5, es5, rfl, U5.out⟩
  · have hnone : l[i]? = none := List.getElem?_eq_none (by omega)
    rw [pP_none f hnone] at hr
    obtain rfl : i = n := by omega
    subst hr
    have dlt : decide ((i : Int) ≤ (i : Int)) = true := by simp
    have dlt2 : decide (i ≤ i) = true := by simp
    clear h hn hnone hlt HO hle hes hne
    go_enter Tryd.func85, Tryd.ntmps85
    go_wp2_with fail
    go_quiet (fail)
    rename_i nq
    have Q1 : Hid (Quiet X (X.drewN nq)) := zH ⟨nq, rfl⟩
    go_wp2_with (first
      | (go_at_call 47; (refine (r_stop (H.out.quiet Q1.out)).mono ?_); rintro e w2 ⟨rfl, h2, h3⟩; have S3 := zH (And.intro ((Q1.out.below q).trans h2) h3); clear h2 h3))
    go_ret
    exact u_stop ⟨0, rfl⟩ S3.out.1 zL S3.out.2
end
end Go.Proofs.YtpkggobhhieeoaaDoor
