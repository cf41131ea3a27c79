/- The reference's reader: its state, and what it asks of the next token. -/
import Derived.Test.YtlenenfgedgmhaaDoorParse
import Derived.StillTailTactics
namespace Go.Proofs.YtlenenfgedgmhaaDoor
set_option linter.unusedSimpArgs false
set_option linter.unusedVariables false
open Go.RowKit

/-- the reader's state: its tokens lie below its box; the place of the next one; what is wrong; the nodes made -/
structure RSt (q : Nat) (a : Option Addr) (c sz : Nat) (l : List Tok) (i : Nat) (bad : Int) (es : List (EN × Value)) (X : World) : Prop where
  toks : SlR X q 4 Tok.Is (.slice a l.length c) l
  box : ∃ mv, Blk X q 68 #[.slice a l.length c, .int .i64 (i : Int), .int .i64 (sz : Int), .int .i64 bad, mv] ∧ EL X (q + 1) mv es
  le : i ≤ l.length
  few : l.length ≤ 4097
  szf : sz ≤ 5000
  good : ∀ t ∈ l, TokG t
  place : ∀ t ∈ l, 0 ≤ t.place
section
variable {q : Nat} {a : Option Addr} {c sz : Nat} {l : List Tok} {i : Nat} {bad : Int} {es : List (EN × Value)} {X : World}
theorem EL.setFar {Y : World} {B : Nat} {v : Value} (h : EL Y B v es) {p : Addr} (hp : p.block < B) (u : Value) : EL (Y.setCell p u) B v es := ⟨h.main.setFar hp u, fun j x hx => (h.kids j x hx).setFar hp u, h.apart⟩
theorem EL.keep {Y Y' : World} {B C : Nat} {v : Value} (h : EL Y B v es) (hb : Below C Y Y') (hC : Y.heap.size ≤ C) : EL Y' B v es := ⟨h.main.below hb hC, fun j x hx => (h.kids j x hx).below hb hC, h.apart⟩
theorem RSt.lt (h : RSt q a c sz l i bad es X) : q < X.heap.size := by obtain ⟨mv, h1, _⟩ := h.box; exact h1.lt
theorem RSt.quiet {X' : World} (h : RSt q a c sz l i bad es X) (hq : Quiet X X') : RSt q a c sz l i bad es X' := by
  obtain ⟨n, rfl⟩ := hq
  obtain ⟨mv, h1, h2⟩ := h.box
  exact ⟨h.toks, ⟨mv, h1, h2.drewN n⟩, h.le, h.few, h.szf, h.good, h.place⟩
theorem RSt.keep {X' : World} (h : RSt q a c sz l i bad es X) (hb : Below X.heap.size X X') : RSt q a c sz l i bad es X' := by
  obtain ⟨mv, h1, h2⟩ := h.box
  exact ⟨h.toks.below (hb.mono (Nat.le_of_lt h1.lt)), ⟨mv, h1.below hb h1.lt, h2.keep hb (Nat.le_refl _)⟩, h.le, h.few, h.szf, h.good, h.place⟩
/-- the place moved -/
theorem RSt.at_ (h : RSt q a c sz l i bad es X) {j : Nat} {u : Value} (hu : u = .int .i64 (j : Int)) (hj : j ≤ l.length) : RSt q a c sz l j bad es (X.setCell ⟨q, 1, none⟩ u) := by
  subst hu
  obtain ⟨mv, h1, h2⟩ := h.box
  exact ⟨h.toks.below ((Below.refl q X).setCell (p := ⟨q, 1, none⟩) (Nat.le_refl q) _), ⟨mv, by have := h1.set_ 1 (.int .i64 (j : Int)); simpa using this, h2.setFar (Nat.lt_succ_self q) _⟩, hj, h.few, h.szf, h.good, h.place⟩
/-- what is wrong is set -/
theorem RSt.bad_ (h : RSt q a c sz l i bad es X) (b : Int) : RSt q a c sz l i b es (X.setCell ⟨q, 3, none⟩ (.int .i64 b)) := by
  obtain ⟨mv, h1, h2⟩ := h.box
  exact ⟨h.toks.below ((Below.refl q X).setCell (p := ⟨q, 3, none⟩) (Nat.le_refl q) _), ⟨mv, by have := h1.set_ 3 (.int .i64 b); simpa using this, h2.setFar (Nat.lt_succ_self q) _⟩, h.le, h.few, h.szf, h.good, h.place⟩
theorem RSt.facts (h : RSt q a c sz l i bad es X) : X.cell? ⟨q, 0, none⟩ = some (.slice a l.length c) ∧ X.cell? ⟨q, 1, none⟩ = some (.int .i64 (i : Int)) ∧ X.cell? ⟨q, 2, none⟩ = some (.int .i64 (sz : Int)) ∧ X.cell? ⟨q, 3, none⟩ = some (.int .i64 bad) ∧ X.frozen? ⟨q, 1, none⟩ = false ∧ X.frozen? ⟨q, 3, none⟩ = false ∧ q < X.heap.size := by
  obtain ⟨mv, h1, _⟩ := h.box
  exact ⟨h1.cell rfl, h1.cell rfl, h1.cell rfl, h1.cell rfl, h1.frozen 1, h1.frozen 3, h1.lt⟩
theorem RSt.tok (h : RSt q a c sz l i bad es X) {k : Nat} {t : Tok} (ht : l[k]? = some t) : ∃ b off, a = some ⟨b, off, none⟩ ∧ X.cell? ⟨b, off + k * 4, none⟩ = some (.int .i64 t.kind) ∧ X.cell? ⟨b, off + k * 4 + 1, none⟩ = some (.string (txt t.text)) ∧ X.cell? ⟨b, off + k * 4 + 2, none⟩ = some (.int .i64 t.num) ∧ X.cell? ⟨b, off + k * 4 + 3, none⟩ = some (.int .i64 t.place) ∧ t.ok := by
  obtain ⟨b, off, x, ha, _, hx, ⟨rfl, hok⟩, hc⟩ := h.toks.at_ ht
  refine ⟨b, off, ha, ?_, hc 1 _ rfl, hc 2 _ rfl, hc 3 _ rfl, hok⟩
  have := hc 0 _ rfl
  rwa [Nat.add_zero] at this
theorem RSt.placeAt_nn (h : RSt q a c sz l i bad es X) (k : Nat) : 0 ≤ placeAt l sz k := by
  unfold placeAt
  cases hx : l[k]? with
  | none => exact Int.natCast_nonneg _
  | some t => exact h.place t (List.mem_iff_getElem?.2 ⟨k, hx⟩)
set_option maxRecDepth 100000 in
set_option maxHeartbeats 8000000 in
theorem r_is_bad (s : List Nat) (hbad : 0 ≤ bad) (h : RSt q a c sz l i bad es X) : Calls Tryd.prog 51 #[.pointer (some ⟨q, 0, none⟩), .string (txt s)] X fun e w' => e = .returned (.bool false) ∧ Quiet X w' := by
  obtain ⟨f0, f1, f2, f3, f4, f5, f6⟩ := h.facts
  have d0 : decide (bad < 0) = false := by simp; omega
  clear h f4 f5
  go_enter Tryd.func51, Tryd.ntmps51
  go_wp2_with fail
  go_quiet (fail)
  go_wp2_with fail
  go_ret
  exact ⟨rfl, _, rfl⟩
set_option maxRecDepth 100000 in
set_option maxHeartbeats 8000000 in
theorem r_is (s : List Nat) (hs : Bytes s) (b : Bool) (hb : isT l i s = b) (h : RSt q a c sz l i (-1) es X) : Calls Tryd.prog 51 #[.pointer (some ⟨q, 0, none⟩), .string (txt s)] X fun e w' => e = .returned (.bool b) ∧ Quiet X w' := by
  obtain ⟨f0, f1, f2, f3, f4, f5, f6⟩ := h.facts
  obtain ⟨n, hn⟩ : ∃ n, l.length = n := ⟨_, rfl⟩
  have hle := h.le
  have hfew := h.few
  rw [hn] at f0 hle hfew
  have n63 : n ≤ 9223372036854775807 := by omega
  have i0 : (0 : Int) ≤ (i : Int) := Int.natCast_nonneg _
  by_cases hlt : i < n
  · obtain ⟨t, ht⟩ := get_some hn hlt
    obtain ⟨b0, off, rfl, t0, t1, _, _, hok⟩ := h.tok ht
    have hB : b = (decide (4 ≤ t.kind) && decide (t.text = s)) := by rw [← hb]; unfold isT; rw [ht]
    obtain ⟨kd, hkd⟩ : ∃ k, t.kind = k := ⟨_, rfl⟩
    obtain ⟨tt, htt⟩ : ∃ k, t.text = k := ⟨_, rfl⟩
    have htb := hok.1
    rw [hkd] at t0 hB
    rw [htt] at t1 hB htb
    have HB := Lib.hid hB
    have dlt : decide (i < n) = true := by simpa using hlt
    have dlt2 : (i : Int) < (n : Int) := by omega
    clear h hb hn ht hkd htt hok hB f4 f5
    by_cases h4 : 4 ≤ kd
    · have d4 : decide (4 ≤ kd) = true := by simpa using h4
      rw [d4, Bool.true_and] at HB
      by_cases hts : tt = s
      · subst hts
        rw [decide_eq_true rfl] at HB
        go_enter Tryd.func51, Tryd.ntmps51
        go_wp2_with fail
        go_quiet (fail)
        go_wp2_with fail
        go_ret
        exact ⟨by have hb := HB.out; subst hb; simp, _, rfl⟩
      · have hne : ¬ (txt tt).toList = (txt s).toList := fun e => hts (txt_inj htb hs e)
        rw [decide_eq_false hts] at HB
        clear hts
        go_enter Tryd.func51, Tryd.ntmps51
        go_wp2_with fail
        go_quiet (fail)
        go_wp2_with fail
        go_ret
        exact ⟨by have hb := HB.out; subst hb; first | rfl | simp [hne], _, rfl⟩
    · have d4 : decide (4 ≤ kd) = false := by simpa using h4
      rw [d4, Bool.false_and] at HB
      go_enter Tryd.func51, Tryd.ntmps51
      go_wp2_with fail
      go_quiet (fail)
      go_wp2_with fail
      go_ret
      exact ⟨by have hb := HB.out; subst hb; first | rfl | simp, _, rfl⟩
  · have hB : b = false := by rw [← hb]; unfold isT; rw [List.getElem?_eq_none (by omega)]
    obtain rfl : i = n := by omega
    have dlt : decide (i < i) = false := by simp
    have HB := Lib.hid hB
    clear h hb hn hB hlt f4 f5
    go_enter Tryd.func51, Tryd.ntmps51
    go_wp2_with fail
    go_quiet (fail)
    go_wp2_with fail
    go_ret
    exact ⟨by have hb := HB.out; subst hb; rfl, _, rfl⟩
end
end Go.Proofs.YtlenenfgedgmhaaDoor
