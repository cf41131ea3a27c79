/- The reference's reader: its state, and what it asks of the next token. The reference's reader: what it stops at, a mark or word that must come, a name. The reference's reader: a node is made. The reference's reader: what its functions come to; the sign of a level. -/
import Derived.Test.YtlenenfgedgmhaaDoorMParse
import Derived.StillTailTactics
import Derived.RegionTactic
import Derived.BigRegion
import Derived.Deep.RegionLaw
namespace Go.Proofs.YtlenenfgedgmhaaDoor
set_option linter.unusedSimpArgs false
set_option linter.unusedVariables false
open Go.RowKit

/-- the reader's state: its tokens lie below its box; the place of the next one; what is wrong; the nodes made -/
structure RSt (q : Nat) (a : Option Addr) (c sz : Nat) (l : List Tok) (i : Nat) (bad : Int) (es : List (EN × Value)) (X : World) : Prop where
  toks : SlR X q 4 Tok.Is (.slice a l.length c) l
  box : ∃ mv, Blk X q 68 #[.slice a l.length c, .int .i64 (i : Int), .int .i64 (sz : Int), .int .i64 bad, mv] ∧ EL X (q + 1) mv es
  le : i ≤ l.length
  few : l.length ≤ 4097
  szf : sz ≤ 5000
  good : ∀ t ∈ l, TokG t
  place : ∀ t ∈ l, 0 ≤ t.place
section
variable {q : Nat} {a : Option Addr} {c sz : Nat} {l : List Tok} {i : Nat} {bad : Int} {es : List (EN × Value)} {X : World}
theorem EL.setFar {Y : World} {B : Nat} {v : Value} (h : EL Y B v es) {p : Addr} (hp : p.block < B) (u : Value) : EL (Y.setCell p u) B v es := ⟨h.main.setFar hp u, fun j x hx => (h.kids j x hx).setFar hp u, h.apart⟩
theorem EL.keep {Y Y' : World} {B C : Nat} {v : Value} (h : EL Y B v es) (hb : Below C Y Y') (hC : Y.heap.size ≤ C) : EL Y' B v es := ⟨h.main.below hb hC, fun j x hx => (h.kids j x hx).below hb hC, h.apart⟩
theorem RSt.lt (h : RSt q a c sz l i bad es X) : q < X.heap.size := by obtain ⟨mv, h1, _⟩ := h.box; exact h1.lt
theorem RSt.quiet {X' : World} (h : RSt q a c sz l i bad es X) (hq : Quiet X X') : RSt q a c sz l i bad es X' := by
  obtain ⟨n, rfl⟩ := hq
  obtain ⟨mv, h1, h2⟩ := h.box
  exact ⟨h.toks, ⟨mv, h1, h2.drewN n⟩, h.le, h.few, h.szf, h.good, h.place⟩
theorem RSt.keep {X' : World} (h : RSt q a c sz l i bad es X) (hb : Below X.heap.size X X') : RSt q a c sz l i bad es X' := by
  obtain ⟨mv, h1, h2⟩ := h.box
  exact ⟨h.toks.below (hb.mono (Nat.le_of_lt h1.lt)), ⟨mv, h1.below hb h1.lt, h2.keep hb (Nat.le_refl _)⟩, h.le, h.few, h.szf, h.good, h.place⟩
/-- the place moved -/
theorem RSt.at_ (h : RSt q a c sz l i bad es X) {j : Nat} {u : Value} (hu : u = .int .i64 (j : Int)) (hj : j ≤ l.length) : RSt q a c sz l j bad es (X.setCell ⟨q, 1, none⟩ u) := by
  subst hu
  obtain ⟨mv, h1, h2⟩ := h.box
  exact ⟨h.toks.below ((Below.refl q X).setCell (p := ⟨q, 1, none⟩) (Nat.le_refl q) _), ⟨mv, by have := h1.set_ 1 (.int .i64 (j : Int)); simpa using this, h2.setFar (Nat.lt_succ_self q) _⟩, hj, h.few, h.szf, h.good, h.place⟩
/-- what is wrong is set -/
theorem RSt.bad_ (h : RSt q a c sz l i bad es X) (b : Int) : RSt q a c sz l i b es (X.setCell ⟨q, 3, none⟩ (.int .i64 b)) := by
  obtain ⟨mv, h1, h2⟩ := h.box
  exact ⟨h.toks.below ((Below.refl q X).setCell (p := ⟨q, 3, none⟩) (Nat.le_refl q) _), ⟨mv, by have := h1.set_ 3 (.int .i64 b); simpa using this, h2.setFar (Nat.lt_succ_self q) _⟩, h.le, h.few, h.szf, h.good, h.place⟩
theorem RSt.facts (h : RSt q a c sz l i bad es X) : X.cell? ⟨q, 0, none⟩ = some (.slice a l.length c) ∧ X.cell? ⟨q, 1, none⟩ = some (.int .i64 (i : Int)) ∧ X.cell? ⟨q, 2, none⟩ = some (.int .i64 (sz : Int)) ∧ X.cell? ⟨q, 3, none⟩ = some (.int .i64 bad) ∧ X.frozen? ⟨q, 1, none⟩ = false ∧ X.frozen? ⟨q, 3, none⟩ = false ∧ q < X.heap.size := by
  obtain ⟨mv, h1, _⟩ := h.box
  exact ⟨h1.cell rfl, h1.cell rfl, h1.cell rfl, h1.cell rfl, h1.frozen 1, h1.frozen 3, h1.lt⟩
theorem RSt.tok (h : RSt q a c sz l i bad es X) {k : Nat} {t : Tok} (ht : l[k]? = some t) : ∃ b off, a = some ⟨b, off, none⟩ ∧ X.cell? ⟨b, off + k * 4, none⟩ = some (.int .i64 t.kind) ∧ X.cell? ⟨b, off + k * 4 + 1, none⟩ = some (.string (txt t.text)) ∧ X.cell? ⟨b, off + k * 4 + 2, none⟩ = some (.int .i64 t.num) ∧ X.cell? ⟨b, off + k * 4 + 3, none⟩ = some (.int .i64 t.place) ∧ t.ok := by
  obtain ⟨b, off, x, ha, _, hx, ⟨rfl, hok⟩, hc⟩ := h.toks.at_ ht
  refine ⟨b, off, ha, ?_, hc 1 _ rfl, hc 2 _ rfl, hc 3 _ rfl, hok⟩
  have := hc 0 _ rfl
  rwa [Nat.add_zero] at this
theorem RSt.placeAt_nn (h : RSt q a c sz l i bad es X) (k : Nat) : 0 ≤ placeAt l sz k := by
  unfold placeAt
  cases hx : l[k]? with
  | none => exact Int.natCast_nonneg _
  | some t => exact h.place t (List.mem_iff_getElem?.2 ⟨k, hx⟩)
set_option maxRecDepth 100000 in
set_option maxHeartbeats 8000000 in
theorem r_is_bad (s : List Nat) (hbad : 0 ≤ bad) (h : RSt q a c sz l i bad es X) : Calls Tryd.prog 51 #[.pointer (some ⟨q, 0, none⟩), .string (txt s)] X fun e w' => e = .returned (.bool false) ∧ Quiet X w' := by
  obtain ⟨f0, f1, f2, f3, f4, f5, f6⟩ := h.facts
  have d0 : decide (bad < 0) = false := by simp; omega
  clear h f4 f5
  go_enter Tryd.func51, Tryd.ntmps51
  go_wp2_with fail
  go_quiet (fail)
  go_wp2_with fail
  go_ret
  exact ⟨rfl, _, rfl⟩
set_option maxRecDepth 100000 in
set_option maxHeartbeats 8000000 in
theorem r_is (s : List Nat) (hs : Bytes s) (b : Bool) (hb : isT l i s = b) (h : RSt q a c sz l i (-1) es X) : Calls Tryd.prog 51 #[.pointer (some ⟨q, 0, none⟩), .string (txt s)] X fun e w' => e = .returned (.bool b) ∧ Quiet X w' := by
  obtain ⟨f0, f1, f2, f3, f4, f5, f6⟩ := h.facts
  obtain ⟨n, hn⟩ : ∃ n, l.length = n := ⟨_, rfl⟩
  have hle := h.le
  have hfew := h.few
  rw [hn] at f0 hle hfew
  have n63 : n ≤ 9223372036854775807 := by omega
  have i0 : (0 : Int) ≤ (i : Int) := Int.natCast_nonneg _
  by_cases hlt : i < n
  · obtain ⟨t, ht⟩ := get_some hn hlt
    obtain ⟨b0, off, rfl, t0, t1, _, _, hok⟩ := h.tok ht
    have hB : b = (decide (4 ≤ t.kind) && decide (t.text = s)) := by rw [← hb]; unfold isT; rw [ht]
    obtain ⟨kd, hkd⟩ : ∃ k, t.kind = k := ⟨_, rfl⟩
    obtain ⟨tt, htt⟩ : ∃ k, t.text = k := ⟨_, rfl⟩
    have htb := hok.1
    rw [hkd] at t0 hB
    rw [htt] at t1 hB htb
    have HB := Lib.hid hB
    have dlt : decide (i < n) = true := by simpa using hlt
    have dlt2 : (i : Int) < (n : Int) := by omega
    clear h hb hn ht hkd htt hok hB f4 f5
    by_cases h4 : 4 ≤ kd
    · have d4 : decide (4 ≤ kd) = true := by simpa using h4
      rw [d4, Bool.true_and] at HB
      by_cases hts : tt = s
      · subst hts
        rw [decide_eq_true rfl] at HB
        go_enter Tryd.func51, Tryd.ntmps51
        go_wp2_with fail
        go_quiet (fail)
        go_wp2_with fail
        go_ret
        exact ⟨by have hb := HB.out; subst hb; simp, _, rfl⟩
      · have hne : ¬ (txt tt).toList = (txt s).toList := fun e => hts (txt_inj htb hs e)
        rw [decide_eq_false hts] at HB
        clear hts
        go_enter Tryd.func51, Tryd.ntmps51
        go_wp2_with fail
        go_quiet (fail)
        go_wp2_with fail
        go_ret
        exact ⟨by have hb := HB.out; subst hb; first | rfl | simp [hne], _, rfl⟩
    · have d4 : decide (4 ≤ kd) = false := by simpa using h4
      rw [d4, Bool.false_and] at HB
      go_enter Tryd.func51, Tryd.ntmps51
      go_wp2_with fail
      go_quiet (fail)
      go_wp2_with fail
      go_ret
      exact ⟨by have hb := HB.out; subst hb; first | rfl | simp, _, rfl⟩
  · have hB : b = false := by rw [← hb]; unfold isT; rw [List.getElem?_eq_none (by omega)]
    obtain rfl : i = n := by omega
    have dlt : decide (i < i) = false := by simp
    have HB := Lib.hid hB
    clear h hb hn hB hlt f4 f5
    go_enter Tryd.func51, Tryd.ntmps51
    go_wp2_with fail
    go_quiet (fail)
    go_wp2_with fail
    go_ret
    exact ⟨by have hb := HB.out; subst hb; rfl, _, rfl⟩
end
end Go.Proofs.YtlenenfgedgmhaaDoor
namespace Go.Proofs.YtlenenfgedgmhaaDoor
set_option linter.unusedSimpArgs false
set_option linter.unusedVariables false
open Go.RowKit

section
variable {q : Nat} {a : Option Addr} {c sz : Nat} {l : List Tok} {i : Nat} {bad : Int} {es : List (EN × Value)} {X : World}
set_option maxRecDepth 100000 in
set_option maxHeartbeats 8000000 in
theorem r_stop_bad (hbad : 0 ≤ bad) (h : RSt q a c sz l i bad es X) : Calls Tryd.prog 28 #[.pointer (some ⟨q, 0, none⟩)] X fun e w' => e = .returned (.int .i64 0) ∧ w' = X := by
  obtain ⟨f0, f1, f2, f3, f4, f5, f6⟩ := h.facts
  have d0 : decide (bad < 0) = false := by simp; omega
  clear h f4 f5
  go_enter Tryd.func28, Tryd.ntmps28
  go_wp2_with fail
  go_ret
  exact ⟨rfl, rfl⟩
set_option maxRecDepth 100000 in
set_option maxHeartbeats 8000000 in
theorem r_stop (h : RSt q a c sz l i (-1) es X) : Calls Tryd.prog 28 #[.pointer (some ⟨q, 0, none⟩)] X fun e w' => e = .returned (.int .i64 0) ∧ Below q X w' ∧ RSt q a c sz l i (placeAt l sz i) es w' := by
  obtain ⟨f0, f1, f2, f3, f4, f5, f6⟩ := h.facts
  obtain ⟨n, hn⟩ : ∃ n, l.length = n := ⟨_, rfl⟩
  have Hn := Lib.hid hn
  have hle := h.le
  have hfew := h.few
  have hszf := h.szf
  have H := Lib.hid h
  rw [hn] at f0 hle hfew
  have n63 : n ≤ 9223372036854775807 := by omega
  have i0 : (0 : Int) ≤ (i : Int) := Int.natCast_nonneg _
  have s0 : (0 : Int) ≤ (sz : Int) := Int.natCast_nonneg _
  clear h hn
  have SB := Lib.hid (fun (m : Nat) => (show Below q X ((X.drewN m).setCell ⟨q, 3, none⟩ (.int .i64 (sz : Int))) ∧ RSt q a c sz l i (sz : Int) es ((X.drewN m).setCell ⟨q, 3, none⟩ (.int .i64 (sz : Int))) from ⟨(below_drewN (Below.refl q X) m).setCell (p := ⟨q, 3, none⟩) (Nat.le_refl q) _, (H.out.quiet ⟨m, rfl⟩).bad_ _⟩))
  by_cases hlt : i < n
  · obtain ⟨t, ht⟩ := get_some Hn.out hlt
    obtain ⟨b0, off, rfl, t0, t1, _, t3, hok⟩ := H.out.tok ht
    have hB : placeAt l sz i = t.place := by unfold placeAt; rw [ht]
    have HB := Lib.hid hB
    have HT := Lib.hid ht
    have dlt : decide (i < n) = true := by simpa using hlt
    have dlt2 : (i : Int) < (n : Int) := by omega
    clear ht hok t0 t1 t3 hB
    go_enter Tryd.func28, Tryd.ntmps28
    go_wp2_with fail
    generalize hwq : World.setCell _ _ _ = W1
    have hs1 : Below q X W1 ∧ RSt q (some ⟨b0, off, none⟩) c sz l i (sz : Int) es W1 := by rw [← hwq]; exact SB.out 0
    have S1 := Lib.hid hs1
    clear hwq f0 f1 f2 f3 f4 f5 f6
    obtain ⟨f0, f1, f2, f3, f4, f5, f6⟩ := hs1.2.facts
    obtain ⟨b1, o1, e1, _, _, _, t3, _⟩ := hs1.2.tok HT.out
    injection e1 with e1
    injection e1 with e1 e2
    subst e1 e2
    rw [Hn.out] at f0
    clear hs1 f2
    go_quiet (fail)
    go_wp2_with fail
    generalize hwq : World.drewN W1 _ = W2
    have g0 : W2.cell? ⟨q, 0, none⟩ = some (.slice (some ⟨b0, off, none⟩) n c) := by rw [← hwq]; exact f0
    have g1 : W2.cell? ⟨q, 1, none⟩ = some (.int .i64 (i : Int)) := by rw [← hwq]; exact f1
    have g3 : W2.cell? ⟨q, 3, none⟩ = some (.int .i64 (sz : Int)) := by rw [← hwq]; exact f3
    have g5 : W2.frozen? ⟨q, 3, none⟩ = false := by rw [← hwq]; exact f5
    have gt : W2.cell? ⟨b0, off + i * 4 + 3, none⟩ = some (.int .i64 t.place) := by rw [← hwq]; exact t3
    have S2 : Hid (Below q X W2 ∧ RSt q (some ⟨b0, off, none⟩) c sz l i (sz : Int) es W2) := Lib.hid (by rw [← hwq]; exact ⟨below_drewN S1.out.1 _, S1.out.2.quiet ⟨_, rfl⟩⟩)
    clear hwq f0 f1 f3 f4 f5 f6 t3 S1
    go_still_tail 12, (by kernel_rfl)
    change wpList _ _ _ _ _ W2.drew
    go_wp2_with fail
    go_ret
    refine ⟨rfl, ?_, ?_⟩
    · exact (S2.out.1.drew).setCell (p := ⟨q, 3, none⟩) (Nat.le_refl q) _
    · rw [HB.out]
      exact (S2.out.2.quiet ⟨1, rfl⟩).bad_ _
  · obtain rfl : i = n := by omega
    have hB : placeAt l sz i = (sz : Int) := by unfold placeAt; rw [List.getElem?_eq_none (by have := Hn.out; omega)]
    have HB := Lib.hid hB
    have dlt : decide (i < i) = false := by simp
    clear hlt hB
    go_enter Tryd.func28, Tryd.ntmps28
    go_wp2_with fail
    generalize hwq : World.setCell _ _ _ = W1
    have hs1 : Below q X W1 ∧ RSt q a c sz l i (sz : Int) es W1 := by rw [← hwq]; exact SB.out 0
    have S1 := Lib.hid hs1
    clear hwq f0 f1 f2 f3 f4 f5 f6
    obtain ⟨f0, f1, f2, f3, f4, f5, f6⟩ := hs1.2.facts
    rw [Hn.out] at f0
    clear hs1 f2
    go_quiet (fail)
    go_wp2_with fail
    go_ret
    exact ⟨rfl, below_drewN S1.out.1 _, by rw [HB.out]; exact S1.out.2.quiet ⟨_, rfl⟩⟩
set_option maxRecDepth 100000 in
set_option maxHeartbeats 8000000 in
theorem r_must_yes (s : List Nat) (hs : Bytes s) (ht : isT l i s = true) (h : RSt q a c sz l i (-1) es X) : Calls Tryd.prog 98 #[.pointer (some ⟨q, 0, none⟩), .string (txt s)] X fun e w' => e = .returned (.tuple #[]) ∧ Below q X w' ∧ RSt q a c sz l (i + 1) (-1) es w' := by
  obtain ⟨f0, f1, f2, f3, f4, f5, f6⟩ := h.facts
  have hlt : i + 1 ≤ l.length := isT_lt ht
  have hfew := h.few
  have i5 : (i : Int) ≤ 5000 := by omega
  have i0 : (0 : Int) ≤ (i : Int) := Int.natCast_nonneg _
  have H := Lib.hid h
  have HN := Lib.hid (r_is s hs true ht h)
  clear h ht hfew
  go_enter Tryd.func98, Tryd.ntmps98
  go_wp2_with (first
    | (go_at_call 51; (with_reducible refine HN.out.mono ?_); rintro e w1 ⟨rfl, nq, rfl⟩))
  refine bodyPost_ret (v := .tuple #[]) (by simp [results, Tryd.results98, go_sem]) rfl ?_
  exact ⟨rfl, (below_drewN (Below.refl q X) _).setCell (p := ⟨q, 1, none⟩) (Nat.le_refl q) _, (H.out.quiet ⟨_, rfl⟩).at_ (by go_num) hlt⟩
set_option maxRecDepth 100000 in
set_option maxHeartbeats 8000000 in
theorem r_must_no (s : List Nat) (hs : Bytes s) (ht : isT l i s = false) (h : RSt q a c sz l i (-1) es X) : Calls Tryd.prog 98 #[.pointer (some ⟨q, 0, none⟩), .string (txt s)] X fun e w' => e = .returned (.tuple #[]) ∧ Below q X w' ∧ RSt q a c sz l i (placeAt l sz i) es w' := by
  have H := Lib.hid h
  have HN := Lib.hid (r_is s hs false ht h)
  clear h ht
  go_enter Tryd.func98, Tryd.ntmps98
  go_wp2_with (first
    | (go_at_call 51; (with_reducible refine HN.out.mono ?_); rintro e w1 ⟨rfl, nq, rfl⟩; have Q1 : Hid (Quiet X (X.drewN nq)) := Lib.hid ⟨nq, rfl⟩)
    | (go_at_call 28; (refine (r_stop (H.out.quiet Q1.out)).mono ?_); rintro e w2 ⟨rfl, h2, h3⟩; have S2 := Lib.hid (And.intro ((Q1.out.below q).trans h2) h3); clear h2 h3))
  go_end0
  exact ⟨rfl, S2.out⟩
set_option maxRecDepth 100000 in
set_option maxHeartbeats 8000000 in
theorem r_must_bad (s : List Nat) (hbad : 0 ≤ bad) (h : RSt q a c sz l i bad es X) : Calls Tryd.prog 98 #[.pointer (some ⟨q, 0, none⟩), .string (txt s)] X fun e w' => e = .returned (.tuple #[]) ∧ Quiet X w' := by
  have H := Lib.hid h
  have HN := Lib.hid (r_is_bad s hbad h)
  have HST := Lib.hid (fun Y (hY : Quiet X Y) => r_stop_bad hbad (h.quiet hY))
  clear h hbad
  go_enter Tryd.func98, Tryd.ntmps98
  go_wp2_with (first
    | (go_at_call 51; (with_reducible refine HN.out.mono ?_); rintro e w1 ⟨rfl, nq, rfl⟩; have Q1 : Hid (Quiet X (X.drewN nq)) := Lib.hid ⟨nq, rfl⟩)
    | (go_at_call 28; (refine (HST.out _ Q1.out).mono ?_); rintro e w2 ⟨rfl, rfl⟩))
  go_end0
  exact ⟨rfl, Q1.out⟩
set_option maxRecDepth 100000 in
set_option maxHeartbeats 8000000 in
theorem r_name_yes {t : Tok} (ht : l[i]? = some t) (hk : t.kind = 3) (h : RSt q a c sz l i (-1) es X) : Calls Tryd.prog 82 #[.pointer (some ⟨q, 0, none⟩)] X fun e w' => e = .returned (.string (txt t.text)) ∧ Below q X w' ∧ RSt q a c sz l (i + 1) (-1) es w' := by
  obtain ⟨f0, f1, f2, f3, f4, f5, f6⟩ := h.facts
  have hfew := h.few
  have hlt := (List.getElem?_eq_some_iff.1 ht).1
  obtain ⟨b0, off, rfl, t0, t1, _, _, hok⟩ := h.tok ht
  rw [hk] at t0
  have H := Lib.hid h
  obtain ⟨n, hn⟩ : ∃ n, l.length = n := ⟨_, rfl⟩
  have Hn := Lib.hid hn
  rw [hn] at f0 hlt hfew
  have n63 : n ≤ 9223372036854775807 := by omega
  have i0 : (0 : Int) ≤ (i : Int) := Int.natCast_nonneg _
  have i5 : (i : Int) ≤ 5000 := by omega
  have dlt : decide (i < n) = true := by simpa using hlt
  have dlt2 : (i : Int) < (n : Int) := by omega
  obtain ⟨tt, htt⟩ : ∃ k, t.text = k := ⟨_, rfl⟩
  rw [htt] at t1 ⊢
  have HTT := Lib.hid htt
  have HT := Lib.hid ht
  clear h ht hk hn hok htt t1
  go_enter Tryd.func82, Tryd.ntmps82
  go_wp2_with fail
  go_quiet (fail)
  go_wp2_with fail
  generalize hwq : World.setCell _ _ _ = W1
  have hS1 : Below q X W1 ∧ RSt q (some ⟨b0, off, none⟩) c sz l (i + 1) (-1) es W1 := by
    rw [← hwq]
    exact ⟨(below_drewN (Below.refl q X) _).setCell (p := ⟨q, 1, none⟩) (Nat.le_refl q) _, (H.out.quiet ⟨_, rfl⟩).at_ (by go_num) (by rw [Hn.out]; omega)⟩
  have HS := Lib.hid hS1
  clear hwq f0 f1 f2 f3 f4 f5 f6 t0
  obtain ⟨f0, f1, f2, f3, f4, f5, f6⟩ := hS1.2.facts
  obtain ⟨b1, o1, e1, _, t1, _, _, _⟩ := hS1.2.tok HT.out
  injection e1 with e1
  injection e1 with e1 e2
  subst e1 e2
  rw [HTT.out] at t1
  rw [Hn.out] at f0
  have g1 : W1.cell? ⟨q, 1, none⟩ = some (.int .i64 ((i : Int) + 1)) := f1
  have ws : IntKind.i64.wrap ((i : Int) + 1 - 1) = (i : Int) := by rw [IntKind.wrap_i64]; omega
  clear hS1 f1 f2 f3 f4 f5 f6
  go_quiet (fail)
  go_wp2_with fail
  go_ret
  exact ⟨rfl, below_drewN HS.out.1 _, HS.out.2.quiet ⟨_, rfl⟩⟩
set_option maxRecDepth 100000 in
set_option maxHeartbeats 8000000 in
theorem r_name_no (hk : ∀ t, l[i]? = some t → t.kind ≠ 3) (h : RSt q a c sz l i (-1) es X) : Calls Tryd.prog 82 #[.pointer (some ⟨q, 0, none⟩)] X fun e w' => e = .returned (.string ⟨#[]⟩) ∧ Below q X w' ∧ RSt q a c sz l i (placeAt l sz i) es w' := by
  obtain ⟨f0, f1, f2, f3, f4, f5, f6⟩ := h.facts
  have hfew := h.few
  have hle := h.le
  have H := Lib.hid h
  obtain ⟨n, hn⟩ : ∃ n, l.length = n := ⟨_, rfl⟩
  rw [hn] at f0 hle hfew
  have n63 : n ≤ 9223372036854775807 := by omega
  have i0 : (0 : Int) ≤ (i : Int) := Int.natCast_nonneg _
  by_cases hlt : i < n
  · obtain ⟨t, ht⟩ := get_some hn hlt
    obtain ⟨b0, off, rfl, t0, _, _, _, _⟩ := h.tok ht
    have hk3 := hk t ht
    obtain ⟨kd, hkd⟩ : ∃ k, t.kind = k := ⟨_, rfl⟩
    rw [hkd] at t0 hk3
    have dlt : decide (i < n) = true := by simpa using hlt
    have dlt2 : (i : Int) < (n : Int) := by omega
    have d4 : (kd == 3) = false := by simpa using hk3
    clear h ht hk hn hkd hk3
    go_enter Tryd.func82, Tryd.ntmps82
    go_wp2_with fail
    go_quiet (fail)
    rename_i nq
    have Q1 : Hid (Quiet X (X.drewN nq)) := Lib.hid ⟨nq, rfl⟩
    go_wp2_with (first
      | (go_at_call 28; (refine (r_stop (H.out.quiet Q1.out)).mono ?_); rintro e w2 ⟨rfl, h2, h3⟩; have S2 := Lib.hid (And.intro ((Q1.out.below q).trans h2) h3); clear h2 h3))
    go_ret
    exact ⟨rfl, S2.out⟩
  · obtain rfl : i = n := by omega
    have dlt : decide (i < i) = false := by simp
    clear h hk hlt hn
    go_enter Tryd.func82, Tryd.ntmps82
    go_wp2_with fail
    go_quiet (fail)
    rename_i nq
    have Q1 : Hid (Quiet X (X.drewN nq)) := Lib.hid ⟨nq, rfl⟩
    go_wp2_with (first
      | (go_at_call 28; (refine (r_stop (H.out.quiet Q1.out)).mono ?_); rintro e w2 ⟨rfl, h2, h3⟩; have S2 := Lib.hid (And.intro ((Q1.out.below q).trans h2) h3); clear h2 h3))
    go_ret
    exact ⟨rfl, S2.out⟩
set_option maxRecDepth 100000 in
set_option maxHeartbeats 8000000 in
theorem r_name_bad (hbad : 0 ≤ bad) (h : RSt q a c sz l i bad es X) : Calls Tryd.prog 82 #[.pointer (some ⟨q, 0, none⟩)] X fun e w' => e = .returned (.string ⟨#[]⟩) ∧ Quiet X w' := by
  obtain ⟨f0, f1, f2, f3, f4, f5, f6⟩ := h.facts
  have d0 : decide (bad < 0) = false := by simp; omega
  have HST := Lib.hid (fun Y (hY : Quiet X Y) => r_stop_bad hbad (h.quiet hY))
  clear h hbad f4 f5
  go_enter Tryd.func82, Tryd.ntmps82
  go_wp2_with fail
  go_quiet (fail)
  rename_i nq
  have Q1 : Hid (Quiet X (X.drewN nq)) := Lib.hid ⟨nq, rfl⟩
  go_wp2_with (first
    | (go_at_call 28; (refine (HST.out _ Q1.out).mono ?_); rintro e w2 ⟨rfl, rfl⟩))
  go_ret
  exact ⟨rfl, Q1.out⟩
end
end Go.Proofs.YtlenenfgedgmhaaDoor
namespace Go.Proofs.YtlenenfgedgmhaaDoor
set_option linter.unusedSimpArgs false
set_option linter.unusedVariables false
open Go.RowKit

/-- the main row behind the making of a row of numbers -/
theorem EL.main2 {X w2 : World} {B : Nat} {mv : Value} {es : List (EN × Value)} (h : EL X B mv es) (o o' : Obj) (hg : (X.alloc o).grownBy w2 (some X.heap.size)) : Own1 (w2.alloc o') B 46 4 IsEN mv es := by
  have hs : X.heap.size < (X.alloc o).heap.size := by rw [World.size_alloc]; omega
  refine h.main.stay (fun b _ hb => ?_)
  have h2 : b < w2.heap.size := Nat.lt_of_lt_of_le (Nat.lt_trans hb hs) hg.size
  rw [Below.heap_alloc w2 o' b h2, hg.block b (Nat.lt_trans hb hs) (fun e => by injection e with e; omega), Below.heap_alloc X o b hb]
/-- a node more, its parts' row made just ahead -/
theorem EL.add {X w2 w4 : World} {B : Nat} {mv mv' kv : Value} {es : List (EN × Value)} {e : EN} (h : EL X B mv es) (hB : B ≤ X.heap.size) (o o' : Obj) (hk : Own1 w2 X.heap.size 3 1 IsNat kv e.kids)
    (hg : (X.alloc o).grownBy w2 (some X.heap.size)) (hm : Own1 w4 B 46 4 IsEN mv' (es ++ [(e, kv)])) (hg' : (w2.alloc o').grownBy w4 mv.ownBlock) : EL w4 B mv' (es ++ [(e, kv)]) := by
  have hs : X.heap.size < (X.alloc o).heap.size := by rw [World.size_alloc]; omega
  have st : ∀ b, b < X.heap.size → (w2.alloc o').heap[b]? = X.heap[b]? := fun b hb => by
    have h2 : b < w2.heap.size := Nat.lt_of_lt_of_le (Nat.lt_trans hb hs) hg.size
    rw [Below.heap_alloc w2 o' b h2, hg.block b (Nat.lt_trans hb hs) (fun e => by injection e with e; omega), Below.heap_alloc X o b hb]
  have m2 : Own1 (w2.alloc o') B 46 4 IsEN mv es := h.main.stay (fun b hb hl => st b hl)
  have k2 : ∀ (i : Nat) (p : EN × Value), es[i]? = some p → Own1 (w2.alloc o') B 3 1 IsNat p.2 p.1.kids := fun i p hp => (h.kids i p hp).stay (fun b hb hl => st b hl)
  have key : ∀ (i : Nat) (p : EN × Value), (es ++ [(e, kv)])[i]? = some p → es[i]? = some p ∨ (i = es.length ∧ p = (e, kv)) := by
    intro i p hp
    rcases Nat.lt_or_ge i es.length with hl | hl
    · rw [List.getElem?_append_left hl] at hp; exact .inl hp
    · rw [List.getElem?_append_right hl] at hp
      have h0 := (List.getElem?_eq_some_iff.1 hp).1
      simp at h0
      have : i = es.length := by omega
      subst this
      simp at hp
      exact .inr ⟨rfl, hp.symm⟩
  refine ⟨hm, fun i p hp => ?_, fun i j p p' b hij hi hj hb => ?_⟩
  · rcases key i p hp with h1 | ⟨_, rfl⟩
    · exact (k2 i p h1).kept1 m2 (by decide) hg'
    · exact ((hk.mono hB).alloc o').kept1 m2 (by decide) hg'
  · rcases key i p hi with h1 | ⟨e1, rfl⟩
    · rcases key j p' hj with h2 | ⟨e2, rfl⟩
      · exact h.apart i j p p' b hij h1 h2 hb
      · intro e
        have := (h.kids i p h1).block b hb
        have := hk.block b e
        omega
    · rcases key j p' hj with h2 | ⟨e2, rfl⟩
      · intro e
        have := (h.kids j p' h2).block b e
        have := hk.block b hb
        omega
      · omega
section
variable {q : Nat} {a : Option Addr} {c sz : Nat} {l : List Tok} {i : Nat} {bad : Int} {es : List (EN × Value)} {X : World}
theorem RSt.made (h : RSt q a c sz l i bad es X) {w4 : World} {es' : List (EN × Value)} {v' : Value} (hb : Below (q + 1) X w4) (hE : EL w4 (q + 1) v' es') : Below q X (w4.setCell ⟨q, 4, none⟩ v') ∧ RSt q a c sz l i bad es' (w4.setCell ⟨q, 4, none⟩ v') := by
  obtain ⟨mv, h1, _⟩ := h.box
  have hb2 : Below q X (w4.setCell ⟨q, 4, none⟩ v') := (hb.mono (Nat.le_succ q)).setCell (p := ⟨q, 4, none⟩) (Nat.le_refl q) _
  exact ⟨hb2, h.toks.below hb2, ⟨v', by have := (h1.below hb (Nat.lt_succ_self q)).set_ 4 v'; simpa using this, hE.setFar (Nat.lt_succ_self q) _⟩, h.le, h.few, h.szf, h.good, h.place⟩
set_option maxRecDepth 100000 in
set_option maxHeartbeats 8000000 in
theorem r_add (k : Nat) (s : List Nat) (v : Int) (ks : List Nat) (ka : Option Addr) (kn kc : Nat) (hks : SlR X X.heap.size 1 IsNat (.slice ka kn kc) ks) (hk3 : ks.length ≤ 3) (hes : es.length ≤ 5000) (h : RSt q a c sz l i bad es X) :
    Calls Tryd.prog 52 #[.pointer (some ⟨q, 0, none⟩), .int .i64 (k : Int), .string (txt s), .int .i64 v, .slice ka kn kc] X fun e w' => e = .returned (.int .i64 (es.length : Int)) ∧ Below q X w' ∧ ∃ kv, RSt q a c sz l i bad (es ++ [(⟨k, s, v, ks⟩, kv)]) w' := by
  obtain ⟨mv, hbox, hel⟩ := h.box
  obtain ⟨ma, mc, rfl⟩ := hel.main.form
  obtain ⟨m, hm⟩ : ∃ m, es.length = m := ⟨_, rfl⟩
  have hkn := hks.len
  rw [hm] at hbox hel hes
  have c4 : X.cell? ⟨q, 4, none⟩ = some (.slice ma m mc) := hbox.cell rfl
  have z4 := hbox.frozen 4
  have lq := hbox.lt
  have H := Lib.hid h
  have HB := Lib.hid hbox
  have HE := Lib.hid hel
  have HK := Lib.hid hks
  have HKN := Lib.hid hkn
  have HM := Lib.hid hm
  have HK3 := Lib.hid hk3
  obtain ⟨jE, hi, hz, hs2, hby⟩ := info_parts info_enode
  have IE := Lib.hid (And.intro hi (And.intro hz (And.intro hs2 hby)))
  clear hi hz hs2 hby
  obtain ⟨jI, hi, hz, hs2, hby⟩ := info_parts info_int
  have II := Lib.hid (And.intro hi (And.intro hz (And.intro hs2 hby)))
  have kn3 : kn ≤ 3 := by omega
  rw [hm]
  clear hi hz hs2 hby h hbox hel hks hkn hm hk3
  go_enter Tryd.func52, Tryd.ntmps52
  go_wp2_with fail
  have tokA : True := trivial
  go_region_law (first
    | (have _t := tokA; refine step_append_list rfl (.tmp 19) (.tmp 20) _ (by rfl) X.heap.size X.heap.size 3 jI _ 1 8 Tryd.underlying44 II.out.1 II.out.2.1 II.out.2.2.1 II.out.2.2.2 rfl (by omega) (R := IsNat) (l := []) (m := ks) (.slice (some ⟨X.heap.size, 0, none⟩) 0 0) (by rfl) (by exact (Own1.empty (w := X) rfl (Nat.le_refl _))) ka kn kc (by rfl) (by exact HK.out.below ((Below.refl X.heap.size X).alloc (Nat.le_refl _) _).drew) kn (by simp) IsNat.one (by simp; unfold maxLen; omega) (by simp; omega) (by show X.heap.size ≤ (X.alloc (.cells #[] 3)).heap.size; rw [World.size_alloc]; omega) ?_; intro a2 c2 w2 hown hgr0; have hgr : (X.alloc (.cells #[] 3)).grownBy w2 (some X.heap.size) := ⟨hgr0.os, hgr0.tape, hgr0.output, hgr0.size, hgr0.block⟩; have B2 : Below (q + 1) X w2 := ((Below.refl (q + 1) X).alloc lq (.cells #[] 3)).grown hgr (by rw [World.size_alloc]; omega) (fun b hb => by injection hb with hb; omega); have c42 : w2.cell? ⟨q, 4, none⟩ = some (.slice ma m mc) := (HB.out.below B2 (Nat.lt_succ_self q)).cell rfl; have lq2 := cell_lt c42; have HB2 := Lib.hid B2; have O2 := Lib.hid (And.intro hown hgr); clear hown hgr hgr0 B2 tokA _t)
    | (refine step_append_list rfl (.tmp 15) (.tmp 23) _ (by rfl) (q + 1) (w2.heap.size + 1) 46 jE _ 4 56 Tryd.underlying22 IE.out.1 IE.out.2.1 IE.out.2.2.1 IE.out.2.2.2 rfl (by omega) (R := IsEN) (l := es) (m := [(⟨k, s, v, ks⟩, .slice a2 kn c2)]) (.slice ma m mc) (by rfl) (HE.out.main2 (.cells #[] 3) (.cells #[.int .i64 (k : Int), .string (txt s), .int .i64 v, .slice a2 kn c2] 46) O2.out.2) (some ⟨w2.heap.size, 0, none⟩) 1 1 (by rfl) (by exact SlR.new1 (x := [.int .i64 (k : Int), .string (txt s), .int .i64 v, .slice a2 kn c2]) rfl rfl ⟨rfl, _, _, _, rfl⟩) (m + 1) (by rw [HM.out]) IsEN.one (by rw [HM.out]; unfold maxLen; omega) (by rw [HM.out]; omega) (by have : q < w2.heap.size := lq2; rw [World.size_alloc]; omega) ?_; intro a4 c44 w4 hown4 hgr4; have E4 := HE.out.add lq (.cells #[] 3) (.cells #[.int .i64 (k : Int), .string (txt s), .int .i64 v, .slice a2 kn c2] 46) (e := ⟨k, s, v, ks⟩) O2.out.1 O2.out.2 hown4 hgr4; have B4 : Below (q + 1) X w4 := (HB2.out.alloc (by have : q < w2.heap.size := lq2; omega) (.cells #[.int .i64 (k : Int), .string (txt s), .int .i64 v, .slice a2 kn c2] 46)).grown hgr4 (by have : q < w2.heap.size := lq2; rw [World.size_alloc]; omega) (fun b hb => (HE.out.main.block b hb).1); have bx := HB.out.below B4 (Nat.lt_succ_self q); have d4 : w4.cell? ⟨q, 4, none⟩ = some (.slice ma m mc) := bx.cell rfl; have d5 : w4.frozen? ⟨q, 4, none⟩ = false := bx.frozen 4; have S4 := Lib.hid (H.out.made B4 E4); clear hown4 hgr4 E4 B4 bx))
  all_goals
    go_wp2_with fail
    go_ret
    exact ⟨rfl, S4.out.1, _, S4.out.2⟩
end
end Go.Proofs.YtlenenfgedgmhaaDoor
namespace Go.Proofs.YtlenenfgedgmhaaDoor
set_option linter.unusedSimpArgs false
set_option linter.unusedVariables false
open Go.RowKit

mutual
/-- a tree among the nodes made, by its number -/
def Rep (es : List EN) : Tr → Nat → Prop
  | .node k s n ks, g => ∃ is, es[g]? = some ⟨k, s, n, is⟩ ∧ Reps es ks is
def Reps (es : List EN) : List Tr → List Nat → Prop
  | [], is => is = []
  | t :: ts, is => ∃ g is', is = g :: is' ∧ Rep es t g ∧ Reps es ts is'
end
mutual
theorem Rep.app {es : List EN} (es' : List EN) : ∀ {t : Tr} {g : Nat}, Rep es t g → Rep (es ++ es') t g
  | .node k s n ks, g, h => by
    simp only [Rep] at h ⊢
    obtain ⟨is, h1, h2⟩ := h
    exact ⟨is, by rw [List.getElem?_append_left (List.getElem?_eq_some_iff.1 h1).1]; exact h1, Reps.app es' h2⟩
theorem Reps.app {es : List EN} (es' : List EN) : ∀ {ts : List Tr} {is : List Nat}, Reps es ts is → Reps (es ++ es') ts is
  | [], is, h => by simp only [Reps] at h ⊢; exact h
  | t :: ts, is, h => by
    simp only [Reps] at h ⊢
    obtain ⟨g, is', h1, h2, h3⟩ := h
    exact ⟨g, is', h1, h2.app es', Reps.app es' h3⟩
end
section
variable {q : Nat} {a : Option Addr} {c sz : Nat} {l : List Tok} {i : Nat} {bad : Int} {es : List (EN × Value)} {X : World}
/-- what a function of the reader comes to, as the grammar says -/
def RReads (q : Nat) (a : Option Addr) (c sz : Nat) (l : List Tok) (i : Nat) (es : List (EN × Value)) (X : World) : PR → Ending → World → Prop
  | .ok t j, e, w' => ∃ (g : Nat) (es' : List (EN × Value)), e = .returned (.int .i64 (g : Int)) ∧ Rep ((es ++ es').map (·.1)) t g ∧ Below q X w' ∧ RSt q a c sz l j (-1) (es ++ es') w' ∧ es'.length + i ≤ j
  | .no j, e, w' => ∃ (g : Nat) (es' : List (EN × Value)) (i' : Nat), e = .returned (.int .i64 (g : Int)) ∧ Below q X w' ∧ RSt q a c sz l i' (placeAt l sz j) (es ++ es') w' ∧ es'.length + i ≤ i'
  | .out, _, _ => False

theorem signK_1 (l : List Tok) (i : Nat) : signK l 1 i = if isT l i [111, 114] = true then 28 else 0 := by
  unfold signK signsL orT andT
  simp only [List.find?]
  cases h0 : isT l i [111, 114] with
  | true => simp [h0]
  | false =>
  simp [h0]
set_option maxRecDepth 100000 in
set_option maxHeartbeats 8000000 in
theorem r_between_1 (h : RSt q a c sz l i (-1) es X) : Calls Tryd.prog 54 #[.pointer (some ⟨q, 0, none⟩), .int .i64 1] X fun e w' => e = .returned (.int .i64 (signK l 1 i : Int)) ∧ Below q X w' ∧ RSt q a c sz l (if signK l 1 i = 0 then i else i + 1) (-1) es w' := by
  obtain ⟨f0, f1, f2, f3, f4, f5, f6⟩ := h.facts
  have hfew := h.few
  have hle := h.le
  have i5 : (i : Int) ≤ 5000 := by omega
  have i0 : (0 : Int) ≤ (i : Int) := Int.natCast_nonneg _
  have H := Lib.hid h
  rw [signK_1]
  have QQ : Hid (Quiet X X) := Lib.hid (Quiet.refl X)
  cases h0 : isT l i [111, 114] with
  | true =>
    have hlt : i + 1 ≤ l.length := isT_lt h0
    have HI0 : Hid (∀ Y, Quiet X Y → Calls Tryd.prog 51 #[.pointer (some ⟨q, 0, none⟩), .string ⟨#[111, 114]⟩] Y fun e w' => e = .returned (.bool true) ∧ Quiet Y w') := Lib.hid (fun Y hY => r_is [111, 114] (show ∀ n ∈ ([111, 114] : List Nat), n < 256 by decide) true h0 (h.quiet hY))
    simp only [if_true, show ((28 : Nat) = 0) = False by simp]
    clear h0
    clear h hfew hle
    go_enter Tryd.func54, Tryd.ntmps54
    go_wp2_with (first
      | (go_at_call 51; (with_reducible refine (HI0.out _ QQ.out).mono ?_); rintro e w0 ⟨rfl, h1⟩; obtain ⟨nq0, rfl⟩ := h1; clear QQ; have QQ : Hid (Quiet X (X.drewN (nq0))) := Lib.hid ⟨_, rfl⟩))
    go_ret
    exact ⟨rfl, (below_drewN (Below.refl q X) _).setCell (p := ⟨q, 1, none⟩) (Nat.le_refl q) _, (H.out.quiet ⟨_, rfl⟩).at_ (by go_num) hlt⟩
  | false =>
  have HI0 : Hid (∀ Y, Quiet X Y → Calls Tryd.prog 51 #[.pointer (some ⟨q, 0, none⟩), .string ⟨#[111, 114]⟩] Y fun e w' => e = .returned (.bool false) ∧ Quiet Y w') := Lib.hid (fun Y hY => r_is [111, 114] (show ∀ n ∈ ([111, 114] : List Nat), n < 256 by decide) false h0 (h.quiet hY))
  clear h0
  simp only [Bool.false_eq_true, if_false, if_true]
  clear h hfew hle
  go_enter Tryd.func54, Tryd.ntmps54
  go_wp2_with (first
    | (go_at_call 51; (with_reducible refine (HI0.out _ QQ.out).mono ?_); rintro e w0 ⟨rfl, h1⟩; obtain ⟨nq0, rfl⟩ := h1; clear QQ; have QQ : Hid (Quiet X (X.drewN (nq0))) := Lib.hid ⟨_, rfl⟩))
  go_ret
  exact ⟨rfl, QQ.out.below q, H.out.quiet QQ.out⟩
theorem signK_2 (l : List Tok) (i : Nat) : signK l 2 i = if isT l i [97, 110, 100] = true then 27 else 0 := by
  unfold signK signsL orT andT
  simp only [List.find?]
  cases h0 : isT l i [97, 110, 100] with
  | true => simp [h0]
  | false =>
  simp [h0]
set_option maxRecDepth 100000 in
set_option maxHeartbeats 8000000 in
theorem r_between_2 (h : RSt q a c sz l i (-1) es X) : Calls Tryd.prog 54 #[.pointer (some ⟨q, 0, none⟩), .int .i64 2] X fun e w' => e = .returned (.int .i64 (signK l 2 i : Int)) ∧ Below q X w' ∧ RSt q a c sz l (if signK l 2 i = 0 then i else i + 1) (-1) es w' := by
  obtain ⟨f0, f1, f2, f3, f4, f5, f6⟩ := h.facts
  have hfew := h.few
  have hle := h.le
  have i5 : (i : Int) ≤ 5000 := by omega
  have i0 : (0 : Int) ≤ (i : Int) := Int.natCast_nonneg _
  have H := Lib.hid h
  rw [signK_2]
  have QQ : Hid (Quiet X X) := Lib.hid (Quiet.refl X)
  cases h0 : isT l i [97, 110, 100] with
  | true =>
    have hlt : i + 1 ≤ l.length := isT_lt h0
    have HI0 : Hid (∀ Y, Quiet X Y → Calls Tryd.prog 51 #[.pointer (some ⟨q, 0, none⟩), .string ⟨#[97, 110, 100]⟩] Y fun e w' => e = .returned (.bool true) ∧ Quiet Y w') := Lib.hid (fun Y hY => r_is [97, 110, 100] (show ∀ n ∈ ([97, 110, 100] : List Nat), n < 256 by decide) true h0 (h.quiet hY))
    simp only [if_true, show ((27 : Nat) = 0) = False by simp]
    clear h0
    clear h hfew hle
    go_enter Tryd.func54, Tryd.ntmps54
    go_wp2_with (first
      | (go_at_call 51; (with_reducible refine (HI0.out _ QQ.out).mono ?_); rintro e w0 ⟨rfl, h1⟩; obtain ⟨nq0, rfl⟩ := h1; clear QQ; have QQ : Hid (Quiet X (X.drewN (nq0))) := Lib.hid ⟨_, rfl⟩))
    go_ret
    exact ⟨rfl, (below_drewN (Below.refl q X) _).setCell (p := ⟨q, 1, none⟩) (Nat.le_refl q) _, (H.out.quiet ⟨_, rfl⟩).at_ (by go_num) hlt⟩
  | false =>
  have HI0 : Hid (∀ Y, Quiet X Y → Calls Tryd.prog 51 #[.pointer (some ⟨q, 0, none⟩), .string ⟨#[97, 110, 100]⟩] Y fun e w' => e = .returned (.bool false) ∧ Quiet Y w') := Lib.hid (fun Y hY => r_is [97, 110, 100] (show ∀ n ∈ ([97, 110, 100] : List Nat), n < 256 by decide) false h0 (h.quiet hY))
  clear h0
  simp only [Bool.false_eq_true, if_false, if_true]
  clear h hfew hle
  go_enter Tryd.func54, Tryd.ntmps54
  go_wp2_with (first
    | (go_at_call 51; (with_reducible refine (HI0.out _ QQ.out).mono ?_); rintro e w0 ⟨rfl, h1⟩; obtain ⟨nq0, rfl⟩ := h1; clear QQ; have QQ : Hid (Quiet X (X.drewN (nq0))) := Lib.hid ⟨_, rfl⟩))
  go_ret
  exact ⟨rfl, QQ.out.below q, H.out.quiet QQ.out⟩
theorem signK_4 (l : List Tok) (i : Nat) : signK l 4 i = if isT l i [61, 61] = true then 23 else if isT l i [33, 61] = true then 24 else if isT l i [60] = true then 25 else if isT l i [60, 61] = true then 26 else 0 := by
  unfold signK signsL orT andT
  simp only [List.find?]
  cases h0 : isT l i [61, 61] with
  | true => simp [h0]
  | false =>
  cases h1 : isT l i [33, 61] with
  | true => simp [h0, h1]
  | false =>
  cases h2 : isT l i [60] with
  | true => simp [h0, h1, h2]
  | false =>
  cases h3 : isT l i [60, 61] with
  | true => simp [h0, h1, h2, h3]
  | false =>
  simp [h0, h1, h2, h3]
set_option maxRecDepth 100000 in
set_option maxHeartbeats 8000000 in
theorem r_between_4 (h : RSt q a c sz l i (-1) es X) : Calls Tryd.prog 54 #[.pointer (some ⟨q, 0, none⟩), .int .i64 4] X fun e w' => e = .returned (.int .i64 (signK l 4 i : Int)) ∧ Below q X w' ∧ RSt q a c sz l (if signK l 4 i = 0 then i else i + 1) (-1) es w' := by
  obtain ⟨f0, f1, f2, f3, f4, f5, f6⟩ := h.facts
  have hfew := h.few
  have hle := h.le
  have i5 : (i : Int) ≤ 5000 := by omega
  have i0 : (0 : Int) ≤ (i : Int) := Int.natCast_nonneg _
  have H := Lib.hid h
  rw [signK_4]
  have QQ : Hid (Quiet X X) := Lib.hid (Quiet.refl X)
  cases h0 : isT l i [61, 61] with
  | true =>
    have hlt : i + 1 ≤ l.length := isT_lt h0
    have HI0 : Hid (∀ Y, Quiet X Y → Calls Tryd.prog 51 #[.pointer (some ⟨q, 0, none⟩), .string ⟨#[61, 61]⟩] Y fun e w' => e = .returned (.bool true) ∧ Quiet Y w') := Lib.hid (fun Y hY => r_is [61, 61] (show ∀ n ∈ ([61, 61] : List Nat), n < 256 by decide) true h0 (h.quiet hY))
    simp only [if_true, show ((23 : Nat) = 0) = False by simp]
    clear h0
    clear h hfew hle
    go_enter Tryd.func54, Tryd.ntmps54
    go_wp2_with (first
      | (go_at_call 51; (with_reducible refine (HI0.out _ QQ.out).mono ?_); rintro e w0 ⟨rfl, h1⟩; obtain ⟨nq0, rfl⟩ := h1; clear QQ; have QQ : Hid (Quiet X (X.drewN (nq0))) := Lib.hid ⟨_, rfl⟩))
    go_ret
    exact ⟨rfl, (below_drewN (Below.refl q X) _).setCell (p := ⟨q, 1, none⟩) (Nat.le_refl q) _, (H.out.quiet ⟨_, rfl⟩).at_ (by go_num) hlt⟩
  | false =>
  have HI0 : Hid (∀ Y, Quiet X Y → Calls Tryd.prog 51 #[.pointer (some ⟨q, 0, none⟩), .string ⟨#[61, 61]⟩] Y fun e w' => e = .returned (.bool false) ∧ Quiet Y w') := Lib.hid (fun Y hY => r_is [61, 61] (show ∀ n ∈ ([61, 61] : List Nat), n < 256 by decide) false h0 (h.quiet hY))
  clear h0
  cases h1 : isT l i [33, 61] with
  | true =>
    have hlt : i + 1 ≤ l.length := isT_lt h1
    have HI1 : Hid (∀ Y, Quiet X Y → Calls Tryd.prog 51 #[.pointer (some ⟨q, 0, none⟩), .string ⟨#[33, 61]⟩] Y fun e w' => e = .returned (.bool true) ∧ Quiet Y w') := Lib.hid (fun Y hY => r_is [33, 61] (show ∀ n ∈ ([33, 61] : List Nat), n < 256 by decide) true h1 (h.quiet hY))
    simp only [Bool.false_eq_true, if_true, if_false, show ((24 : Nat) = 0) = False by simp]
    clear h1
    clear h hfew hle
    go_enter Tryd.func54, Tryd.ntmps54
    go_wp2_with (first
      | (go_at_call 51; (with_reducible refine (HI0.out _ QQ.out).mono ?_); rintro e w0 ⟨rfl, h1⟩; obtain ⟨nq0, rfl⟩ := h1; clear QQ; have QQ : Hid (Quiet X (X.drewN (nq0))) := Lib.hid ⟨_, rfl⟩)
      | (go_at_call 51; (with_reducible refine (HI1.out _ QQ.out).mono ?_); rintro e w1 ⟨rfl, h1⟩; obtain ⟨nq1, rfl⟩ := h1; clear QQ; have QQ : Hid (Quiet X (X.drewN (nq0 + nq1))) := Lib.hid ⟨_, rfl⟩))
    go_ret
    exact ⟨rfl, (below_drewN (Below.refl q X) _).setCell (p := ⟨q, 1, none⟩) (Nat.le_refl q) _, (H.out.quiet ⟨_, rfl⟩).at_ (by go_num) hlt⟩
  | false =>
  have HI1 : Hid (∀ Y, Quiet X Y → Calls Tryd.prog 51 #[.pointer (some ⟨q, 0, none⟩), .string ⟨#[33, 61]⟩] Y fun e w' => e = .returned (.bool false) ∧ Quiet Y w') := Lib.hid (fun Y hY => r_is [33, 61] (show ∀ n ∈ ([33, 61] : List Nat), n < 256 by decide) false h1 (h.quiet hY))
  clear h1
  cases h2 : isT l i [60] with
  | true =>
    have hlt : i + 1 ≤ l.length := isT_lt h2
    have HI2 : Hid (∀ Y, Quiet X Y → Calls Tryd.prog 51 #[.pointer (some ⟨q, 0, none⟩), .string ⟨#[60]⟩] Y fun e w' => e = .returned (.bool true) ∧ Quiet Y w') := Lib.hid (fun Y hY => r_is [60] (show ∀ n ∈ ([60] : List Nat), n < 256 by decide) true h2 (h.quiet hY))
    simp only [Bool.false_eq_true, if_true, if_false, show ((25 : Nat) = 0) = False by simp]
    clear h2
    clear h hfew hle
    go_enter Tryd.func54, Tryd.ntmps54
    go_wp2_with (first
      | (go_at_call 51; (with_reducible refine (HI0.out _ QQ.out).mono ?_); rintro e w0 ⟨rfl, h1⟩; obtain ⟨nq0, rfl⟩ := h1; clear QQ; have QQ : Hid (Quiet X (X.drewN (nq0))) := Lib.hid ⟨_, rfl⟩)
      | (go_at_call 51; (with_reducible refine (HI1.out _ QQ.out).mono ?_); rintro e w1 ⟨rfl, h1⟩; obtain ⟨nq1, rfl⟩ := h1; clear QQ; have QQ : Hid (Quiet X (X.drewN (nq0 + nq1))) := Lib.hid ⟨_, rfl⟩)
      | (go_at_call 51; (with_reducible refine (HI2.out _ QQ.out).mono ?_); rintro e w2 ⟨rfl, h1⟩; obtain ⟨nq2, rfl⟩ := h1; clear QQ; have QQ : Hid (Quiet X (X.drewN (nq0 + nq1 + nq2))) := Lib.hid ⟨_, rfl⟩))
    go_ret
    exact ⟨rfl, (below_drewN (Below.refl q X) _).setCell (p := ⟨q, 1, none⟩) (Nat.le_refl q) _, (H.out.quiet ⟨_, rfl⟩).at_ (by go_num) hlt⟩
  | false =>
  have HI2 : Hid (∀ Y, Quiet X Y → Calls Tryd.prog 51 #[.pointer (some ⟨q, 0, none⟩), .string ⟨#[60]⟩] Y fun e w' => e = .returned (.bool false) ∧ Quiet Y w') := Lib.hid (fun Y hY => r_is [60] (show ∀ n ∈ ([60] : List Nat), n < 256 by decide) false h2 (h.quiet hY))
  clear h2
  cases h3 : isT l i [60, 61] with
  | true =>
    have hlt : i + 1 ≤ l.length := isT_lt h3
    have HI3 : Hid (∀ Y, Quiet X Y → Calls Tryd.prog 51 #[.pointer (some ⟨q, 0, none⟩), .string ⟨#[60, 61]⟩] Y fun e w' => e = .returned (.bool true) ∧ Quiet Y w') := Lib.hid (fun Y hY => r_is [60, 61] (show ∀ n ∈ ([60, 61] : List Nat), n < 256 by decide) true h3 (h.quiet hY))
    simp only [Bool.false_eq_true, if_true, if_false, show ((26 : Nat) = 0) = False by simp]
    clear h3
    clear h hfew hle
    go_enter Tryd.func54, Tryd.ntmps54
    go_wp2_with (first
      | (go_at_call 51; (with_reducible refine (HI0.out _ QQ.out).mono ?_); rintro e w0 ⟨rfl, h1⟩; obtain ⟨nq0, rfl⟩ := h1; clear QQ; have QQ : Hid (Quiet X (X.drewN (nq0))) := Lib.hid ⟨_, rfl⟩)
      | (go_at_call 51; (with_reducible refine (HI1.out _ QQ.out).mono ?_); rintro e w1 ⟨rfl, h1⟩; obtain ⟨nq1, rfl⟩ := h1; clear QQ; have QQ : Hid (Quiet X (X.drewN (nq0 + nq1))) := Lib.hid ⟨_, rfl⟩)
      | (go_at_call 51; (with_reducible refine (HI2.out _ QQ.out).mono ?_); rintro e w2 ⟨rfl, h1⟩; obtain ⟨nq2, rfl⟩ := h1; clear QQ; have QQ : Hid (Quiet X (X.drewN (nq0 + nq1 + nq2))) := Lib.hid ⟨_, rfl⟩)
      | (go_at_call 51; (with_reducible refine (HI3.out _ QQ.out).mono ?_); rintro e w3 ⟨rfl, h1⟩; obtain ⟨nq3, rfl⟩ := h1; clear QQ; have QQ : Hid (Quiet X (X.drewN (nq0 + nq1 + nq2 + nq3))) := Lib.hid ⟨_, rfl⟩))
    go_ret
    exact ⟨rfl, (below_drewN (Below.refl q X) _).setCell (p := ⟨q, 1, none⟩) (Nat.le_refl q) _, (H.out.quiet ⟨_, rfl⟩).at_ (by go_num) hlt⟩
  | false =>
  have HI3 : Hid (∀ Y, Quiet X Y → Calls Tryd.prog 51 #[.pointer (some ⟨q, 0, none⟩), .string ⟨#[60, 61]⟩] Y fun e w' => e = .returned (.bool false) ∧ Quiet Y w') := Lib.hid (fun Y hY => r_is [60, 61] (show ∀ n ∈ ([60, 61] : List Nat), n < 256 by decide) false h3 (h.quiet hY))
  clear h3
  simp only [Bool.false_eq_true, if_false, if_true]
  clear h hfew hle
  go_enter Tryd.func54, Tryd.ntmps54
  go_wp2_with (first
    | (go_at_call 51; (with_reducible refine (HI0.out _ QQ.out).mono ?_); rintro e w0 ⟨rfl, h1⟩; obtain ⟨nq0, rfl⟩ := h1; clear QQ; have QQ : Hid (Quiet X (X.drewN (nq0))) := Lib.hid ⟨_, rfl⟩)
    | (go_at_call 51; (with_reducible refine (HI1.out _ QQ.out).mono ?_); rintro e w1 ⟨rfl, h1⟩; obtain ⟨nq1, rfl⟩ := h1; clear QQ; have QQ : Hid (Quiet X (X.drewN (nq0 + nq1))) := Lib.hid ⟨_, rfl⟩)
    | (go_at_call 51; (with_reducible refine (HI2.out _ QQ.out).mono ?_); rintro e w2 ⟨rfl, h1⟩; obtain ⟨nq2, rfl⟩ := h1; clear QQ; have QQ : Hid (Quiet X (X.drewN (nq0 + nq1 + nq2))) := Lib.hid ⟨_, rfl⟩)
    | (go_at_call 51; (with_reducible refine (HI3.out _ QQ.out).mono ?_); rintro e w3 ⟨rfl, h1⟩; obtain ⟨nq3, rfl⟩ := h1; clear QQ; have QQ : Hid (Quiet X (X.drewN (nq0 + nq1 + nq2 + nq3))) := Lib.hid ⟨_, rfl⟩))
  go_ret
  exact ⟨rfl, QQ.out.below q, H.out.quiet QQ.out⟩
theorem signK_5 (l : List Tok) (i : Nat) : signK l 5 i = if isT l i [43] = true then 20 else if isT l i [45] = true then 21 else 0 := by
  unfold signK signsL orT andT
  simp only [List.find?]
  cases h0 : isT l i [43] with
  | true => simp [h0]
  | false =>
  cases h1 : isT l i [45] with
  | true => simp [h0, h1]
  | false =>
  simp [h0, h1]
set_option maxRecDepth 100000 in
set_option maxHeartbeats 8000000 in
theorem r_between_5 (h : RSt q a c sz l i (-1) es X) : Calls Tryd.prog 54 #[.pointer (some ⟨q, 0, none⟩), .int .i64 5] X fun e w' => e = .returned (.int .i64 (signK l 5 i : Int)) ∧ Below q X w' ∧ RSt q a c sz l (if signK l 5 i = 0 then i else i + 1) (-1) es w' := by
  obtain ⟨f0, f1, f2, f3, f4, f5, f6⟩ := h.facts
  have hfew := h.few
  have hle := h.le
  have i5 : (i : Int) ≤ 5000 := by omega
  have i0 : (0 : Int) ≤ (i : Int) := Int.natCast_nonneg _
  have H := Lib.hid h
  rw [signK_5]
  have QQ : Hid (Quiet X X) := Lib.hid (Quiet.refl X)
  cases h0 : isT l i [43] with
  | true =>
    have hlt : i + 1 ≤ l.length := isT_lt h0
    have HI0 : Hid (∀ Y, Quiet X Y → Calls Tryd.prog 51 #[.pointer (some ⟨q, 0, none⟩), .string ⟨#[43]⟩] Y fun e w' => e = .returned (.bool true) ∧ Quiet Y w') := Lib.hid (fun Y hY => r_is [43] (show ∀ n ∈ ([43] : List Nat), n < 256 by decide) true h0 (h.quiet hY))
    simp only [if_true, show ((20 : Nat) = 0) = False by simp]
    clear h0
    clear h hfew hle
    go_enter Tryd.func54, Tryd.ntmps54
    go_wp2_with (first
      | (go_at_call 51; (with_reducible refine (HI0.out _ QQ.out).mono ?_); rintro e w0 ⟨rfl, h1⟩; obtain ⟨nq0, rfl⟩ := h1; clear QQ; have QQ : Hid (Quiet X (X.drewN (nq0))) := Lib.hid ⟨_, rfl⟩))
    go_ret
    exact ⟨rfl, (below_drewN (Below.refl q X) _).setCell (p := ⟨q, 1, none⟩) (Nat.le_refl q) _, (H.out.quiet ⟨_, rfl⟩).at_ (by go_num) hlt⟩
  | false =>
  have HI0 : Hid (∀ Y, Quiet X Y → Calls Tryd.prog 51 #[.pointer (some ⟨q, 0, none⟩), .string ⟨#[43]⟩] Y fun e w' => e = .returned (.bool false) ∧ Quiet Y w') := Lib.hid (fun Y hY => r_is [43] (show ∀ n ∈ ([43] : List Nat), n < 256 by decide) false h0 (h.quiet hY))
  clear h0
  cases h1 : isT l i [45] with
  | true =>
    have hlt : i + 1 ≤ l.length := isT_lt h1
    have HI1 : Hid (∀ Y, Quiet X Y → Calls Tryd.prog 51 #[.pointer (some ⟨q, 0, none⟩), .string ⟨#[45]⟩] Y fun e w' => e = .returned (.bool true) ∧ Quiet Y w') := Lib.hid (fun Y hY => r_is [45] (show ∀ n ∈ ([45] : List Nat), n < 256 by decide) true h1 (h.quiet hY))
    simp only [Bool.false_eq_true, if_true, if_false, show ((21 : Nat) = 0) = False by simp]
    clear h1
    clear h hfew hle
    go_enter Tryd.func54, Tryd.ntmps54
    go_wp2_with (first
      | (go_at_call 51; (with_reducible refine (HI0.out _ QQ.out).mono ?_); rintro e w0 ⟨rfl, h1⟩; obtain ⟨nq0, rfl⟩ := h1; clear QQ; have QQ : Hid (Quiet X (X.drewN (nq0))) := Lib.hid ⟨_, rfl⟩)
      | (go_at_call 51; (with_reducible refine (HI1.out _ QQ.out).mono ?_); rintro e w1 ⟨rfl, h1⟩; obtain ⟨nq1, rfl⟩ := h1; clear QQ; have QQ : Hid (Quiet X (X.drewN (nq0 + nq1))) := Lib.hid ⟨_, rfl⟩))
    go_ret
    exact ⟨rfl, (below_drewN (Below.refl q X) _).setCell (p := ⟨q, 1, none⟩) (Nat.le_refl q) _, (H.out.quiet ⟨_, rfl⟩).at_ (by go_num) hlt⟩
  | false =>
  have HI1 : Hid (∀ Y, Quiet X Y → Calls Tryd.prog 51 #[.pointer (some ⟨q, 0, none⟩), .string ⟨#[45]⟩] Y fun e w' => e = .returned (.bool false) ∧ Quiet Y w') := Lib.hid (fun Y hY => r_is [45] (show ∀ n ∈ ([45] : List Nat), n < 256 by decide) false h1 (h.quiet hY))
  clear h1
  simp only [Bool.false_eq_true, if_false, if_true]
  clear h hfew hle
  go_enter Tryd.func54, Tryd.ntmps54
  go_wp2_with (first
    | (go_at_call 51; (with_reducible refine (HI0.out _ QQ.out).mono ?_); rintro e w0 ⟨rfl, h1⟩; obtain ⟨nq0, rfl⟩ := h1; clear QQ; have QQ : Hid (Quiet X (X.drewN (nq0))) := Lib.hid ⟨_, rfl⟩)
    | (go_at_call 51; (with_reducible refine (HI1.out _ QQ.out).mono ?_); rintro e w1 ⟨rfl, h1⟩; obtain ⟨nq1, rfl⟩ := h1; clear QQ; have QQ : Hid (Quiet X (X.drewN (nq0 + nq1))) := Lib.hid ⟨_, rfl⟩))
  go_ret
  exact ⟨rfl, QQ.out.below q, H.out.quiet QQ.out⟩
theorem signK_6 (l : List Tok) (i : Nat) : signK l 6 i = if isT l i [42] = true then 22 else 0 := by
  unfold signK signsL orT andT
  simp only [List.find?]
  cases h0 : isT l i [42] with
  | true => simp [h0]
  | false =>
  simp [h0]
set_option maxRecDepth 100000 in
set_option maxHeartbeats 8000000 in
theorem r_between_6 (h : RSt q a c sz l i (-1) es X) : Calls Tryd.prog 54 #[.pointer (some ⟨q, 0, none⟩), .int .i64 6] X fun e w' => e = .returned (.int .i64 (signK l 6 i : Int)) ∧ Below q X w' ∧ RSt q a c sz l (if signK l 6 i = 0 then i else i + 1) (-1) es w' := by
  obtain ⟨f0, f1, f2, f3, f4, f5, f6⟩ := h.facts
  have hfew := h.few
  have hle := h.le
  have i5 : (i : Int) ≤ 5000 := by omega
  have i0 : (0 : Int) ≤ (i : Int) := Int.natCast_nonneg _
  have H := Lib.hid h
  rw [signK_6]
  have QQ : Hid (Quiet X X) := Lib.hid (Quiet.refl X)
  cases h0 : isT l i [42] with
  | true =>
    have hlt : i + 1 ≤ l.length := isT_lt h0
    have HI0 : Hid (∀ Y, Quiet X Y → Calls Tryd.prog 51 #[.pointer (some ⟨q, 0, none⟩), .string ⟨#[42]⟩] Y fun e w' => e = .returned (.bool true) ∧ Quiet Y w') := Lib.hid (fun Y hY => r_is [42] (show ∀ n ∈ ([42] : List Nat), n < 256 by decide) true h0 (h.quiet hY))
    simp only [if_true, show ((22 : Nat) = 0) = False by simp]
    clear h0
    clear h hfew hle
    go_enter Tryd.func54, Tryd.ntmps54
    go_wp2_with (first
      | (go_at_call 51; (with_reducible refine (HI0.out _ QQ.out).mono ?_); rintro e w0 ⟨rfl, h1⟩; obtain ⟨nq0, rfl⟩ := h1; clear QQ; have QQ : Hid (Quiet X (X.drewN (nq0))) := Lib.hid ⟨_, rfl⟩))
    go_ret
    exact ⟨rfl, (below_drewN (Below.refl q X) _).setCell (p := ⟨q, 1, none⟩) (Nat.le_refl q) _, (H.out.quiet ⟨_, rfl⟩).at_ (by go_num) hlt⟩
  | false =>
  have HI0 : Hid (∀ Y, Quiet X Y → Calls Tryd.prog 51 #[.pointer (some ⟨q, 0, none⟩), .string ⟨#[42]⟩] Y fun e w' => e = .returned (.bool false) ∧ Quiet Y w') := Lib.hid (fun Y hY => r_is [42] (show ∀ n ∈ ([42] : List Nat), n < 256 by decide) false h0 (h.quiet hY))
  clear h0
  simp only [Bool.false_eq_true, if_false, if_true]
  clear h hfew hle
  go_enter Tryd.func54, Tryd.ntmps54
  go_wp2_with (first
    | (go_at_call 51; (with_reducible refine (HI0.out _ QQ.out).mono ?_); rintro e w0 ⟨rfl, h1⟩; obtain ⟨nq0, rfl⟩ := h1; clear QQ; have QQ : Hid (Quiet X (X.drewN (nq0))) := Lib.hid ⟨_, rfl⟩))
  go_ret
  exact ⟨rfl, QQ.out.below q, H.out.quiet QQ.out⟩
end
end Go.Proofs.YtlenenfgedgmhaaDoor
