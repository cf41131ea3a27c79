/- The reference's reader: what it stops at, a mark or word that must come, a name. -/
import Derived.Test.YtlenenfgedgmhaaDoorRd0
import Derived.RegionTactic
import Derived.BigRegion
namespace Go.Proofs.YtlenenfgedgmhaaDoor
set_option linter.unusedSimpArgs false
set_option linter.unusedVariables false
open Go.RowKit

section
variable {q : Nat} {a : Option Addr} {c sz : Nat} {l : List Tok} {i : Nat} {bad : Int} {es : List (EN × Value)} {X : World}
set_option maxRecDepth 100000 in
set_option maxHeartbeats 8000000 in
theorem r_stop_bad (hbad : 0 ≤ bad) (h : RSt q a c sz l i bad es X) : Calls Tryd.prog 28 #[.pointer (some ⟨q, 0, none⟩)] X fun e w' => e = .returned (.int .i64 0) ∧ w' = X := by
  obtain ⟨f0, f1, f2, f3, f4, f5, f6⟩ := h.facts
  have d0 : decide (bad < 0) = false := by simp; omega
  clear h f4 f5
  go_enter Tryd.func28, Tryd.ntmps28
  go_wp2_with fail
  go_ret
  exact ⟨rfl, rfl⟩
set_option maxRecDepth 100000 in
set_option maxHeartbeats 8000000 in
theorem r_stop (h : RSt q a c sz l i (-1) es X) : Calls Tryd.prog 28 #[.pointer (some ⟨q, 0, none⟩)] X fun e w' => e = .returned (.int .i64 0) ∧ Below q X w' ∧ RSt q a c sz l i (placeAt l sz i) es w' := by
  obtain ⟨f0, f1, f2, f3, f4, f5, f6⟩ := h.facts
  obtain ⟨n, hn⟩ : ∃ n, l.length = n := ⟨_, rfl⟩
  have Hn := Lib.hid hn
  have hle := h.le
  have hfew := h.few
  have hszf := h.szf
  have H := Lib.hid h
  rw [hn] at f0 hle hfew
  have n63 : n ≤ 9223372036854775807 := by omega
  have i0 : (0 : Int) ≤ (i : Int) := Int.natCast_nonneg _
  have s0 : (0 : Int) ≤ (sz : Int) := Int.natCast_nonneg _
  clear h hn
  have SB := Lib.hid (fun (m : Nat) => (show Below q X ((X.drewN m).setCell ⟨q, 3, none⟩ (.int .i64 (sz : Int))) ∧ RSt q a c sz l i (sz : Int) es ((X.drewN m).setCell ⟨q, 3, none⟩ (.int .i64 (sz : Int))) from ⟨(below_drewN (Below.refl q X) m).setCell (p := ⟨q, 3, none⟩) (Nat.le_refl q) _, (H.out.quiet ⟨m, rfl⟩).bad_ _⟩))
  by_cases hlt : i < n
  · obtain ⟨t, ht⟩ := get_some Hn.out hlt
    obtain ⟨b0, off, rfl, t0, t1, _, t3, hok⟩ := H.out.tok ht
    have hB : placeAt l sz i = t.place := by unfold placeAt; rw [ht]
    have HB := Lib.hid hB
    have HT := Lib.hid ht
    have dlt : decide (i < n) = true := by simpa using hlt
    have dlt2 : (i : Int) < (n : Int) := by omega
    clear ht hok t0 t1 t3 hB
    go_enter Tryd.func28, Tryd.ntmps28
    go_wp2_with fail
    generalize hwq : World.setCell _ _ _ = W1
    have hs1 : Below q X W1 ∧ RSt q (some ⟨b0, off, none⟩) c sz l i (sz : Int) es W1 := by rw [← hwq]; exact SB.out 0
    have S1 := Lib.hid hs1
    clear hwq f0 f1 f2 f3 f4 f5 f6
    obtain ⟨f0, f1, f2, f3, f4, f5, f6⟩ := hs1.2.facts
    obtain ⟨b1, o1, e1, _, _, _, t3, _⟩ := hs1.2.tok HT.out
    injection e1 with e1
    injection e1 with e1 e2
    subst e1 e2
    rw [Hn.out] at f0
    clear hs1 f2
    go_quiet (fail)
    go_wp2_with fail
    generalize hwq : World.drewN W1 _ = W2
    have g0 : W2.cell? ⟨q, 0, none⟩ = some (.slice (some ⟨b0, off, none⟩) n c) := by rw [← hwq]; exact f0
    have g1 : W2.cell? ⟨q, 1, none⟩ = some (.int .i64 (i : Int)) := by rw [← hwq]; exact f1
    have g3 : W2.cell? ⟨q, 3, none⟩ = some (.int .i64 (sz : Int)) := by rw [← hwq]; exact f3
    have g5 : W2.frozen? ⟨q, 3, none⟩ = false := by rw [← hwq]; exact f5
    have gt : W2.cell? ⟨b0, off + i * 4 + 3, none⟩ = some (.int .i64 t.place) := by rw [← hwq]; exact t3
    have S2 : Hid (Below q X W2 ∧ RSt q (some ⟨b0, off, none⟩) c sz l i (sz : Int) es W2) := Lib.hid (by rw [← hwq]; exact ⟨below_drewN S1.out.1 _, S1.out.2.quiet ⟨_, rfl⟩⟩)
    clear hwq f0 f1 f3 f4 f5 f6 t3 S1
    go_still_tail 12, (by kernel_rfl)
    change wpList _ _ _ _ _ W2.drew
    go_wp2_with fail
    go_ret
    refine ⟨rfl, ?_, ?_⟩
    · exact (S2.out.1.drew).setCell (p := ⟨q, 3, none⟩) (Nat.le_refl q) _
    · rw [HB.out]
      exact (S2.out.2.quiet ⟨1, rfl⟩).bad_ _
  · obtain rfl : i = n := by omega
    have hB : placeAt l sz i = (sz : Int) := by unfold placeAt; rw [List.getElem?_eq_none (by have := Hn.out; omega)]
    have HB := Lib.hid hB
    have dlt : decide (i < i) = false := by simp
    clear hlt hB
    go_enter Tryd.func28, Tryd.ntmps28
    go_wp2_with fail
    generalize hwq : World.setCell _ _ _ = W1
    have hs1 : Below q X W1 ∧ RSt q a c sz l i (sz : Int) es W1 := by rw [← hwq]; exact SB.out 0
    have S1 := Lib.hid hs1
    clear hwq f0 f1 f2 f3 f4 f5 f6
    obtain ⟨f0, f1, f2, f3, f4, f5, f6⟩ := hs1.2.facts
    rw [Hn.out] at f0
    clear hs1 f2
    go_quiet (fail)
    go_wp2_with fail
    go_ret
    exact ⟨rfl, below_drewN S1.out.1 _, by rw [HB.out]; exact S1.out.2.quiet ⟨_, rfl⟩⟩
set_option maxRecDepth 100000 in
set_option maxHeartbeats 8000000 in
theorem r_must_yes (s : List Nat) (hs : Bytes s) (ht : isT l i s = true) (h : RSt q a c sz l i (-1) es X) : Calls Tryd.prog 98 #[.pointer (some ⟨q, 0, none⟩), .string (txt s)] X fun e w' => e = .returned (.tuple #[]) ∧ Below q X w' ∧ RSt q a c sz l (i + 1) (-1) es w' := by
  obtain ⟨f0, f1, f2, f3, f4, f5, f6⟩ := h.facts
  have hlt : i + 1 ≤ l.length := isT_lt ht
  have hfew := h.few
  have i5 : (i : Int) ≤ 5000 := by omega
  have i0 : (0 : Int) ≤ (i : Int) := Int.natCast_nonneg _
  have H := Lib.hid h
  have HN := Lib.hid (r_is s hs true ht h)
  clear h ht hfew
  go_enter Tryd.func98, Tryd.ntmps98
  go_wp2_with (first
    | (go_at_call 51; (with_reducible refine HN.out.mono ?_); rintro e w1 ⟨rfl, nq, rfl⟩))
  refine bodyPost_ret (v := .tuple #[]) (by simp [results, Tryd.results98, go_sem]) rfl ?_
  exact ⟨rfl, (below_drewN (Below.refl q X) _).setCell (p := ⟨q, 1, none⟩) (Nat.le_refl q) _, (H.out.quiet ⟨_, rfl⟩).at_ (by go_num) hlt⟩
set_option maxRecDepth 100000 in
set_option maxHeartbeats 8000000 in
theorem r_must_no (s : List Nat) (hs : Bytes s) (ht : isT l i s = false) (h : RSt q a c sz l i (-1) es X) : Calls Tryd.prog 98 #[.pointer (some ⟨q, 0, none⟩), .string (txt s)] X fun e w' => e = .returned (.tuple #[]) ∧ Below q X w' ∧ RSt q a c sz l i (placeAt l sz i) es w' := by
  have H := Lib.hid h
  have HN := Lib.hid (r_is s hs false ht h)
  clear h ht
  go_enter Tryd.func98, Tryd.ntmps98
  go_wp2_with (first
    | (go_at_call 51; (with_reducible refine HN.out.mono ?_); rintro e w1 ⟨rfl, nq, rfl⟩; have Q1 : Hid (Quiet X (X.drewN nq)) := Lib.hid ⟨nq, rfl⟩)
    | (go_at_call 28; (refine (r_stop (H.out.quiet Q1.out)).mono ?_); rintro e w2 ⟨rfl, h2, h3⟩; have S2 := Lib.hid (And.intro ((Q1.out.below q).trans h2) h3); clear h2 h3))
  go_end0
  exact ⟨rfl, S2.out⟩
set_option maxRecDepth 100000 in
set_option maxHeartbeats 8000000 in
theorem r_must_bad (s : List Nat) (hbad : 0 ≤ bad) (h : RSt q a c sz l i bad es X) : Calls Tryd.prog 98 #[.pointer (some ⟨q, 0, none⟩), .string (txt s)] X fun e w' => e = .returned (.tuple #[]) ∧ Quiet X w' := by
  have H := Lib.hid h
  have HN := Lib.hid (r_is_bad s hbad h)
  have HST := Lib.hid (fun Y (hY : Quiet X Y) => r_stop_bad hbad (h.quiet hY))
  clear h hbad
  go_enter Tryd.func98, Tryd.ntmps98
  go_wp2_with (first
    | (go_at_call 51; (with_reducible refine HN.out.mono ?_); rintro e w1 ⟨rfl, nq, rfl⟩; have Q1 : Hid (Quiet X (X.drewN nq)) := Lib.hid ⟨nq, rfl⟩)
    | (go_at_call 28; (refine (HST.out _ Q1.out).mono ?_); rintro e w2 ⟨rfl, rfl⟩))
  go_end0
  exact ⟨rfl, Q1.out⟩
set_option maxRecDepth 100000 in
set_option maxHeartbeats 8000000 in
theorem r_name_yes {t : Tok} (ht : l[i]? = some t) (hk : t.kind = 3) (h : RSt q a c sz l i (-1) es X) : Calls Tryd.prog 82 #[.pointer (some ⟨q, 0, none⟩)] X fun e w' => e = .returned (.string (txt t.text)) ∧ Below q X w' ∧ RSt q a c sz l (i + 1) (-1) es w' := by
  obtain ⟨f0, f1, f2, f3, f4, f5, f6⟩ := h.facts
  have hfew := h.few
  have hlt := (List.getElem?_eq_some_iff.1 ht).1
  obtain ⟨b0, off, rfl, t0, t1, _, _, hok⟩ := h.tok ht
  rw [hk] at t0
  have H := Lib.hid h
  obtain ⟨n, hn⟩ : ∃ n, l.length = n := ⟨_, rfl⟩
  have Hn := Lib.hid hn
  rw [hn] at f0 hlt hfew
  have n63 : n ≤ 9223372036854775807 := by omega
  have i0 : (0 : Int) ≤ (i : Int) := Int.natCast_nonneg _
  have i5 : (i : Int) ≤ 5000 := by omega
  have dlt : decide (i < n) = true := by simpa using hlt
  have dlt2 : (i : Int) < (n : Int) := by omega
  obtain ⟨tt, htt⟩ : ∃ k, t.text = k := ⟨_, rfl⟩
  rw [htt] at t1 ⊢
  have HTT := Lib.hid htt
  have HT := Lib.hid ht
  clear h ht hk hn hok htt t1
  go_enter Tryd.func82, Tryd.ntmps82
  go_wp2_with fail
  go_quiet (fail)
  go_wp2_with fail
  generalize hwq : World.setCell _ _ _ = W1
  have hS1 : Below q X W1 ∧ RSt q (some ⟨b0, off, none⟩) c sz l (i + 1) (-1) es W1 := by
    rw [← hwq]
    exact ⟨(below_drewN (Below.refl q X) _).setCell (p := ⟨q, 1, none⟩) (Nat.le_refl q) _, (H.out.quiet ⟨_, rfl⟩).at_ (by go_num) (by rw [Hn.out]; omega)⟩
  have HS := Lib.hid hS1
  clear hwq f0 f1 f2 f3 f4 f5 f6 t0
  obtain ⟨f0, f1, f2, f3, f4, f5, f6⟩ := hS1.2.facts
  obtain ⟨b1, o1, e1, _, t1, _, _, _⟩ := hS1.2.tok HT.out
  injection e1 with e1
  injection e1 with e1 e2
  subst e1 e2
  rw [HTT.out] at t1
  rw [Hn.out] at f0
  have g1 : W1.cell? ⟨q, 1, none⟩ = some (.int .i64 ((i : Int) + 1)) := f1
  have ws : IntKind.i64.wrap ((i : Int) + 1 - 1) = (i : Int) := by rw [IntKind.wrap_i64]; omega
  clear hS1 f1 f2 f3 f4 f5 f6
  go_quiet (fail)
  go_wp2_with fail
  go_ret
  exact ⟨rfl, below_drewN HS.out.1 _, HS.out.2.quiet ⟨_, rfl⟩⟩
set_option maxRecDepth 100000 in
set_option maxHeartbeats 8000000 in
theorem r_name_no (hk : ∀ t, l[i]? = some t → t.kind ≠ 3) (h : RSt q a c sz l i (-1) es X) : Calls Tryd.prog 82 #[.pointer (some ⟨q, 0, none⟩)] X fun e w' => e = .returned (.string ⟨#[]⟩) ∧ Below q X w' ∧ RSt q a c sz l i (placeAt l sz i) es w' := by
  obtain ⟨f0, f1, f2, f3, f4, f5, f6⟩ := h.facts
  have hfew := h.few
  have hle := h.le
  have H := Lib.hid h
  obtain ⟨n, hn⟩ : ∃ n, l.length = n := ⟨_, rfl⟩
  rw [hn] at f0 hle hfew
  have n63 : n ≤ 9223372036854775807 := by omega
  have i0 : (0 : Int) ≤ (i : Int) := Int.natCast_nonneg _
  by_cases hlt : i < n
  · obtain ⟨t, ht⟩ := get_some hn hlt
    obtain ⟨b0, off, rfl, t0, _, _, _, _⟩ := h.tok ht
    have hk3 := hk t ht
    obtain ⟨kd, hkd⟩ : ∃ k, t.kind = k := ⟨_, rfl⟩
    rw [hkd] at t0 hk3
    have dlt : decide (i < n) = true := by simpa using hlt
    have dlt2 : (i : Int) < (n : Int) := by omega
    have d4 : (kd == 3) = false := by simpa using hk3
    clear h ht hk hn hkd hk3
    go_enter Tryd.func82, Tryd.ntmps82
    go_wp2_with fail
    go_quiet (fail)
    rename_i nq
    have Q1 : Hid (Quiet X (X.drewN nq)) := Lib.hid ⟨nq, rfl⟩
    go_wp2_with (first
      | (go_at_call 28; (refine (r_stop (H.out.quiet Q1.out)).mono ?_); rintro e w2 ⟨rfl, h2, h3⟩; have S2 := Lib.hid (And.intro ((Q1.out.below q).trans h2) h3); clear h2 h3))
    go_ret
    exact ⟨rfl, S2.out⟩
  · obtain rfl : i = n := by omega
    have dlt : decide (i < i) = false := by simp
    clear h hk hlt hn
    go_enter Tryd.func82, Tryd.ntmps82
    go_wp2_with fail
    go_quiet (fail)
    rename_i nq
    have Q1 : Hid (Quiet X (X.drewN nq)) := Lib.hid ⟨nq, rfl⟩
    go_wp2_with (first
      | (go_at_call 28; (refine (r_stop (H.out.quiet Q1.out)).mono ?_); rintro e w2 ⟨rfl, h2, h3⟩; have S2 := Lib.hid (And.intro ((Q1.out.below q).trans h2) h3); clear h2 h3))
    go_ret
    exact ⟨rfl, S2.out⟩
set_option maxRecDepth 100000 in
set_option maxHeartbeats 8000000 in
theorem r_name_bad (hbad : 0 ≤ bad) (h : RSt q a c sz l i bad es X) : Calls Tryd.prog 82 #[.pointer (some ⟨q, 0, none⟩)] X fun e w' => e = .returned (.string ⟨#[]⟩) ∧ Quiet X w' := by
  obtain ⟨f0, f1, f2, f3, f4, f5, f6⟩ := h.facts
  have d0 : decide (bad < 0) = false := by simp; omega
  have HST := Lib.hid (fun Y (hY : Quiet X Y) => r_stop_bad hbad (h.quiet hY))
  clear h hbad f4 f5
  go_enter Tryd.func82, Tryd.ntmps82
  go_wp2_with fail
  go_quiet (fail)
  rename_i nq
  have Q1 : Hid (Quiet X (X.drewN nq)) := Lib.hid ⟨nq, rfl⟩
  go_wp2_with (first
    | (go_at_call 28; (refine (HST.out _ Q1.out).mono ?_); rintro e w2 ⟨rfl, rfl⟩))
  go_ret
  exact ⟨rfl, Q1.out⟩
end
end Go.Proofs.YtlenenfgedgmhaaDoor
