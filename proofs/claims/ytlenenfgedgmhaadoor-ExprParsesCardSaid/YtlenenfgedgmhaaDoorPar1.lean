/- The parser's small steps: what is given up, a mark or word that must come, a name. -/
import Derived.Test.YtlenenfgedgmhaaDoorPTree
import Derived.WalkKit
import Derived.ProofKit
import Derived.WalkSmall
import Derived.StillTailTactics
import Derived.RegionTactic
import Derived.BigRegion
namespace Go.Proofs.YtlenenfgedgmhaaDoor
set_option linter.unusedSimpArgs false
set_option linter.unusedVariables false
open Go.RowKit

section
variable {q : Nat} {a : Option Addr} {c sz : Nat} {l : List Tok} {i : Nat} {W : World}
theorem PSt.quiet {W' : World} (h : PSt q a c sz l i W) (hq : Quiet W W') : PSt q a c sz l i W' := h.keep (hq.below _)
theorem Mv.quiet {W' : World} (hq : Quiet W W') : Mv q W W' := by
  obtain ⟨n, rfl⟩ := hq
  exact ⟨below_drewN (Below.refl _ _) n, fun k _ _ => rfl⟩
/-- a step on -/
theorem PSt.step (h : PSt q a c sz l i W) {j : Nat} {u : Value} (hu : u = .int .i64 (j : Int)) (hj : j ≤ l.length) (n : Nat) : Mv q W ((W.drewN n).setCell ⟨q, 1, none⟩ u) ∧ PSt q a c sz l j ((W.drewN n).setCell ⟨q, 1, none⟩ u) :=
  ⟨(Mv.quiet ⟨n, rfl⟩).trans (Mv.set _ _ _ _), (h.quiet ⟨n, rfl⟩).set hu hj⟩
set_option maxRecDepth 100000 in
set_option maxHeartbeats 4000000 in
theorem p_give (h : PSt q a c sz l i W) : Calls Tryd.prog 24 #[.pointer (some ⟨q, 0, none⟩)] W fun e w' => e = .panicked (thrownE (placeAt l sz i)) ∧ Quiet W w' := by
  obtain ⟨f0, f1, f2, f3, f4⟩ := h.facts
  obtain ⟨n, hn⟩ : ∃ n, l.length = n := ⟨_, rfl⟩
  have hle := h.le
  have hfew := h.few
  rw [hn] at f0 hle hfew
  have n63 : n ≤ 9223372036854775807 := by omega
  have i0 : (0 : Int) ≤ (i : Int) := Int.natCast_nonneg _
  by_cases hlt : i < n
  · obtain ⟨t, ht⟩ := get_some hn hlt
    obtain ⟨b0, off, rfl, t0, t1, t2, t3, hok⟩ := h.tok ht
    have hB : placeAt l sz i = t.place := by unfold placeAt; rw [ht]
    obtain ⟨pl, hpl⟩ : ∃ k, t.place = k := ⟨_, rfl⟩
    rw [hpl] at t3 hB
    have HB := Lib.hid hB
    have dlt : decide (i < n) = true := by simpa using hlt
    have dlt2 : (i : Int) < (n : Int) := by omega
    clear h hn ht hpl hok hB t0 t1 t2
    go_enter Tryd.func24, Tryd.ntmps24
    go_wp2_with fail
    go_quiet (fail)
    go_wp2_with fail
    generalize hwq : World.drewN W _ = W1
    have g0 : W1.cell? ⟨q, 0, none⟩ = some (.slice (some ⟨b0, off, none⟩) n c) := by rw [← hwq]; exact f0
    have g1 : W1.cell? ⟨q, 1, none⟩ = some (.int .i64 (i : Int)) := by rw [← hwq]; exact f1
    have g3 : W1.cell? ⟨b0, off + i * 4 + 3, none⟩ = some (.int .i64 pl) := by rw [← hwq]; exact t3
    have QW : Hid (Quiet W W1) := Lib.hid ⟨_, hwq.symm⟩
    clear hwq f0 f1 f2 f3 f4 t3
    go_still_tail 13, (by kernel_rfl)
    change wpList _ _ _ _ _ W1.drew
    go_wp2_with fail
    exact ⟨rfl, by rw [HB.out]; rfl, QW.out.drewN 1⟩
  · obtain rfl : i = n := by omega
    have hB : placeAt l sz i = (sz : Int) := by unfold placeAt; rw [List.getElem?_eq_none (by omega)]
    have HB := Lib.hid hB
    have dlt : decide (i < i) = false := by simp
    clear h hn hB hlt
    go_enter Tryd.func24, Tryd.ntmps24
    go_wp2_with fail
    go_quiet (fail)
    rename_i hK
    refine hK _ _ ?_
    go_wp2_with fail
    exact ⟨rfl, by rw [HB.out]; rfl, ⟨_, rfl⟩⟩
set_option maxRecDepth 100000 in
set_option maxHeartbeats 4000000 in
theorem p_want_yes (s : List Nat) (hs : Bytes s) (ht : isT l i s = true) (h : PSt q a c sz l i W) : Calls Tryd.prog 126 #[.pointer (some ⟨q, 0, none⟩), .string (txt s)] W fun e w' => e = .returned (.tuple #[]) ∧ Mv q W w' ∧ PSt q a c sz l (i + 1) w' := by
  obtain ⟨f0, f1, f2, f3, f4⟩ := h.facts
  have hlt : i + 1 ≤ l.length := isT_lt ht
  have hfew := h.few
  have i63 : (i : Int) ≤ 5000 := by omega
  have i0 : (0 : Int) ≤ (i : Int) := Int.natCast_nonneg _
  have H := Lib.hid h
  have HN := Lib.hid (p_next s hs true ht h)
  clear h ht hfew
  go_enter Tryd.func126, Tryd.ntmps126
  go_wp2_with (go_at_call 95; (with_reducible refine HN.out.mono ?_); rintro e w1 ⟨rfl, nq, rfl⟩)
  go_end0
  exact ⟨rfl, H.out.step (j := i + 1) (by go_num) hlt nq⟩
set_option maxRecDepth 100000 in
set_option maxHeartbeats 4000000 in
theorem p_want_no (s : List Nat) (hs : Bytes s) (ht : isT l i s = false) (h : PSt q a c sz l i W) : Calls Tryd.prog 126 #[.pointer (some ⟨q, 0, none⟩), .string (txt s)] W fun e w' => e = .panicked (thrownE (placeAt l sz i)) ∧ Quiet W w' := by
  have H := Lib.hid h
  have HN := Lib.hid (p_next s hs false ht h)
  clear h ht
  go_enter Tryd.func126, Tryd.ntmps126
  go_wp2_with (first
    | (go_at_call 95; (with_reducible refine HN.out.mono ?_); rintro e w1 ⟨rfl, nq, rfl⟩; have Q1 : Hid (Quiet W (W.drewN nq)) := Lib.hid ⟨nq, rfl⟩)
    | (go_at_call 24; (with_reducible refine (p_give (H.out.quiet Q1.out)).mono ?_); rintro e w2 ⟨rfl, q2⟩; have Q2 := Lib.hid (Q1.out.trans q2); clear q2))
  exact ⟨rfl, rfl, Q2.out⟩
set_option maxRecDepth 100000 in
set_option maxHeartbeats 4000000 in
theorem p_name_yes {t : Tok} (ht : l[i]? = some t) (hk : t.kind = 3) (h : PSt q a c sz l i W) : Calls Tryd.prog 123 #[.pointer (some ⟨q, 0, none⟩)] W fun e w' => e = .returned (.string (txt t.text)) ∧ Mv q W w' ∧ PSt q a c sz l (i + 1) w' := by
  obtain ⟨f0, f1, f2, f3, f4⟩ := h.facts
  have hfew := h.few
  have hlt := (List.getElem?_eq_some_iff.1 ht).1
  obtain ⟨b0, off, rfl, t0, t1, _, _, hok⟩ := h.tok ht
  rw [hk] at t0
  have H := Lib.hid h
  obtain ⟨n, hn⟩ : ∃ n, l.length = n := ⟨_, rfl⟩
  have Hn := Lib.hid hn
  rw [hn] at f0 hlt hfew
  have n63 : n ≤ 9223372036854775807 := by omega
  have i0 : (0 : Int) ≤ (i : Int) := Int.natCast_nonneg _
  have i5 : (i : Int) ≤ 5000 := by omega
  have dlt : ((i : Int) == (n : Int)) = false := by simp; omega
  have dlt2 : (i : Int) < (n : Int) := by omega
  obtain ⟨tt, htt⟩ : ∃ k, t.text = k := ⟨_, rfl⟩
  rw [htt] at t1 ⊢
  have HTT := Lib.hid htt
  have HT := Lib.hid ht
  clear h ht hk hn hok htt
  go_enter Tryd.func123, Tryd.ntmps123
  go_wp2_with fail
  go_quiet (fail)
  rename_i nq
  go_wp2_with fail
  have hS := H.out.step (j := i + 1) (u := .int .i64 ((i : Int) + 1)) (by go_num) (by rw [Hn.out]; omega)
  generalize hwq : World.setCell _ _ _ = W1
  have hS1 := hS nq
  rw [hwq] at hS1
  obtain ⟨g0, g1, g2, g3, g4⟩ := hS1.2.facts
  obtain ⟨b1, o1, e1, t0', t1', _, _, _⟩ := hS1.2.tok HT.out
  injection e1 with e1
  injection e1 with e1 e2
  subst e1 e2
  rw [HTT.out] at t1'
  rw [Hn.out] at g0
  have HS := Lib.hid hS1
  have ws : IntKind.i64.wrap ((i : Int) + 1 - 1) = (i : Int) := by rw [IntKind.wrap_i64]; omega
  clear hwq hS hS1 f0 f1 f2 f3 f4 t0 t1 t0' g2 g3 g4
  have g1' : W1.cell? ⟨q, 1, none⟩ = some (.int .i64 ((i : Int) + 1)) := g1
  clear g1
  go_quiet (fail)
  go_wp2_with fail
  go_ret
  exact ⟨rfl, HS.out.1.trans (Mv.quiet ⟨_, rfl⟩), HS.out.2.quiet ⟨_, rfl⟩⟩
set_option maxRecDepth 100000 in
set_option maxHeartbeats 4000000 in
theorem p_name_no (hk : ∀ t, l[i]? = some t → t.kind ≠ 3) (h : PSt q a c sz l i W) : Calls Tryd.prog 123 #[.pointer (some ⟨q, 0, none⟩)] W fun e w' => e = .panicked (thrownE (placeAt l sz i)) ∧ Quiet W w' := by
  obtain ⟨f0, f1, f2, f3, f4⟩ := h.facts
  have hfew := h.few
  have hle := h.le
  have H := Lib.hid h
  obtain ⟨n, hn⟩ : ∃ n, l.length = n := ⟨_, rfl⟩
  rw [hn] at f0 hle hfew
  have n63 : n ≤ 9223372036854775807 := by omega
  have i0 : (0 : Int) ≤ (i : Int) := Int.natCast_nonneg _
  by_cases hlt : i < n
  · obtain ⟨t, ht⟩ := get_some hn hlt
    obtain ⟨b0, off, rfl, t0, _, _, _, _⟩ := h.tok ht
    have hk3 := hk t ht
    obtain ⟨kd, hkd⟩ : ∃ k, t.kind = k := ⟨_, rfl⟩
    rw [hkd] at t0 hk3
    have dlt : ((i : Int) == (n : Int)) = false := by simp; omega
    have dlt2 : (i : Int) < (n : Int) := by omega
    have d3 : (kd != 3) = true := by simpa using hk3
    have d4 : (kd == 3) = false := by simpa using hk3
    clear h ht hk hn hkd hk3
    go_enter Tryd.func123, Tryd.ntmps123
    go_wp2_with fail
    go_quiet (fail)
    rename_i nq
    have Q1 : Hid (Quiet W (W.drewN nq)) := Lib.hid ⟨nq, rfl⟩
    go_wp2_with (first
      | (go_at_call 24; (with_reducible refine (p_give (H.out.quiet Q1.out)).mono ?_); rintro e w2 ⟨rfl, q2⟩; have Q2 := Lib.hid (Q1.out.trans q2); clear q2))
    exact ⟨rfl, rfl, Q2.out⟩
  · obtain rfl : i = n := by omega
    clear h hk hlt hn
    go_enter Tryd.func123, Tryd.ntmps123
    go_wp2_with fail
    go_quiet (fail)
    rename_i nq
    have Q1 : Hid (Quiet W (W.drewN nq)) := Lib.hid ⟨nq, rfl⟩
    go_wp2_with (first
      | (go_at_call 24; (with_reducible refine (p_give (H.out.quiet Q1.out)).mono ?_); rintro e w2 ⟨rfl, q2⟩; have Q2 := Lib.hid (Q1.out.trans q2); clear q2))
    exact ⟨rfl, rfl, Q2.out⟩
end
end Go.Proofs.YtlenenfgedgmhaaDoor
