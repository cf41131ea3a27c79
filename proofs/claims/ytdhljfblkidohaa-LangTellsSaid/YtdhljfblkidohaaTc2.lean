/- The reference's Concept: the first one of a name. -/
import Derived.Test.YtdhljfblkidohaaTc1
import Derived.Test.YtdhljfblkidohaaTn
namespace Go.Proofs.Ytdhljfblkidohaa
set_option linter.unusedSimpArgs false
set_option linter.unusedVariables false
open Go.RowKit

theorem set6_below {w W : World} {g B : Nat} {u0 u1 u2 u3 u4 u5 : Value} (h : Below B w W) (hg : B ≤ g) : Below B w ((((((W.setCell ⟨g, 0, none⟩ (u0)).setCell ⟨g, 1, none⟩ (u1)).setCell ⟨g, 2, none⟩ (u2)).setCell ⟨g, 3, none⟩ (u3)).setCell ⟨g, 4, none⟩ (u4)).setCell ⟨g, 5, none⟩ (u5)) :=
  (((((h.setCell (p := ⟨g, 0, none⟩) hg u0).setCell (p := ⟨g, 1, none⟩) hg u1).setCell (p := ⟨g, 2, none⟩) hg u2).setCell (p := ⟨g, 3, none⟩) hg u3).setCell (p := ⟨g, 4, none⟩) hg u4).setCell (p := ⟨g, 5, none⟩) hg u5
theorem noC_is (W : World) (B : Nat) : Concept.Is W B [.string ⟨#[]⟩, .string ⟨#[]⟩, .bool false, .slice none 0 0, .slice none 0 0, .slice none 0 0] noC := by
  have nil : ∀ {α : Type} (size : Nat) (R : List Value → α → Prop), SlR W B size R (.slice none 0 0) [] := fun _ _ => SlR.nil_ _ (by unfold maxLen; omega) _
  exact ⟨_, _, _, rfl, nil _ _, nil _ _, nil _ _, by simp [noC, Fit], by simp [noC, Fit], by simp [noC, Fit], by show (0 : Nat) ≤ maxLen; unfold maxLen; omega, by show (0 : Nat) ≤ maxLen; unfold maxLen; omega⟩
theorem find_at {α : Type} {p : α → Bool} {l : List α} {k : Nat} {y : α} (hy : l[k]? = some y) (hp : p y = true) (hf : ∀ i d, i < k → l[i]? = some d → p d = false) : l.find? p = some y := by
  have hk : k < l.length := (List.getElem?_eq_some_iff.1 hy).1
  rw [List.find?_eq_some_iff_getElem]
  exact ⟨hp, k, hk, (List.getElem?_eq_some_iff.1 hy).2, fun j hj => by
    have := hf j l[j] hj (List.getElem?_eq_getElem (by omega))
    simp [this]⟩
theorem find_no {α : Type} {p : α → Bool} {l : List α} (hf : ∀ i d, i < l.length → l[i]? = some d → p d = false) : l.find? p = none := by
  rw [List.find?_eq_none]
  intro x hx
  obtain ⟨i, hi⟩ := List.mem_iff_getElem?.1 hx
  rw [hf i x (List.getElem?_eq_some_iff.1 hi).1 hi]
  simp
set_option maxRecDepth 100000 in
set_option maxHeartbeats 4000000 in
theorem rconcept_any {x : List Value} {d : Language} (s : ByteArray) (w w0 : World) (h : Language.Is w0 w0.heap.size x d) (hw : Below w0.heap.size w0 w) :
    Calls Try.prog 10 #[.agg x.toArray, .string s] w fun e w' => ∃ x' : List Value, e = .returned (.tuple #[.agg x'.toArray, .bool (conceptN d.concepts s).isSome]) ∧ Concept.Is w0 w0.heap.size x' ((conceptN d.concepts s).getD noC) ∧ Below w.heap.size w w' := by
  obtain ⟨v2, v3, v4, v5, v6, v7, rfl, s2, s3, s4, s5, s6, s7, hfit, _⟩ := h
  obtain ⟨a2, n2, c2, rfl⟩ := s2.form'
  obtain ⟨a3, n3, c3, rfl⟩ := s3.form'
  obtain ⟨a4, n4, c4, rfl⟩ := s4.form'
  obtain ⟨a5, n5, c5, rfl⟩ := s5.form'
  obtain ⟨a6, n6, c6, rfl⟩ := s6.form'
  obtain ⟨a7, n7, c7, rfl⟩ := s7.form'
  have G3 : n3 * 112 ≤ 140737488355328 := by have := hfit.2.1; rw [← s3.len] at this; exact this
  have S3 := Lib.hid s3
  have Hw := Lib.hid hw
  have hlen : d.concepts.length = n3 := s3.len.symm
  have Hlen := Lib.hid hlen
  have hbz := hw.size
  clear s2 s3 s4 s5 s6 s7 hfit hw
  go_enter Try.func10, Try.ntmps10
  try dsimp only [List.append]
  go_wp2_with fail
  go_loopw [6] (fun j wr => ∃ k : Nat, k ≤ n3 ∧ j = .int .i64 k ∧ Hid (Blk wr w.heap.size 29 #[.string d.name, .int .i64 d.version, .slice a2 n2 c2, .slice a3 n3 c3, .slice a4 n4 c4, .slice a5 n5 c5, .slice a6 n6 c6, .slice a7 n7 c7] ∧ Blk wr (w.heap.size + 1) 38 #[.string ⟨#[]⟩, .string ⟨#[]⟩, .bool false, .slice none 0 0, .slice none 0 0, .slice none 0 0] ∧ Below w.heap.size w wr ∧ ∀ i c, i < k → d.concepts[i]? = some c → decide (c.name = s) = false)) (fun j _ => n3 - (intOf j).toNat)
  case atStart => exact ⟨0, Nat.zero_le _, rfl, (Blk.new w _ _).alloc _, Blk.new_ (by simp) _ _, ((Below.refl _ _).alloc (Nat.le_refl _) _).alloc (below2 (Nat.le_refl _)) _, fun i c hi => by omega⟩
  case round =>
    obtain ⟨k, hk, rfl, hinv⟩ := hrel
    obtain ⟨hB1, hB2, hbl, hf⟩ := hinv.out
    have c3' := hB1.cell (i := 3) rfl
    have z0 := hB2.cell (i := 0) rfl
    have y0 := hB2.frozen 0
    have z1 := hB2.cell (i := 1) rfl
    have y1 := hB2.frozen 1
    have z2 := hB2.cell (i := 2) rfl
    have y2 := hB2.frozen 2
    have z3 := hB2.cell (i := 3) rfl
    have y3 := hB2.frozen 3
    have z4 := hB2.cell (i := 4) rfl
    have y4 := hB2.frozen 4
    have z5 := hB2.cell (i := 5) rfl
    have y5 := hB2.frozen 5
    have lr := hB2.lt
    have HF := Lib.hid hf
    have HBw : Below w0.heap.size w0 wr := Hw.out.trans (hbl.mono Hw.out.size)
    by_cases hlt : k < n3
    · obtain ⟨y, hd⟩ := get_some hlen hlt
      obtain ⟨b, off, x, rfl, hbB, hxl, hR, hx⟩ := (S3.out.below HBw).at_ hd
      have HR := Lib.hid hR
      obtain ⟨q1, q2, q3, rfl, r1, r2, r3, _⟩ := hR
      obtain ⟨p1, m1, r1', rfl⟩ := r1.form'
      obtain ⟨p2, m2, r2', rfl⟩ := r2.form'
      obtain ⟨p3, m3, r3', rfl⟩ := r3.form'
      have h0 := hx 0 _ rfl
      have h1 := hx 1 _ rfl
      have h2 := hx 2 _ rfl
      have h3 := hx 3 _ rfl
      have h4 := hx 4 _ rfl
      have h5 := hx 5 _ rfl
      simp only [Nat.add_zero] at h0
      have hi0 : (0 : Int) ≤ (k : Int) := Int.natCast_nonneg _
      have hi1 : (k : Int) < (n3 : Int) := by omega
      have hbw : b < wr.heap.size := by have := HBw.size; omega
      have Hd := Lib.hid hd
      clear hd hx hxl r1 r2 r3 hB1 hB2 hbl hf HBw
      obtain ⟨nm, hnm⟩ : ∃ nm, y.name = nm := ⟨_, rfl⟩
      rw [hnm] at h0 HR
      have Hnm := Lib.hid hnm
      clear hnm
      by_cases e : nm = s
      · subst e
        go_wp2_with fail
        refine bodyPost_ret (v := .tuple #[.agg #[.string nm, .string y.super, .bool y.abs, .slice p1 m1 r1', .slice p2 m2 r2', .slice p3 m3 r3'], .bool true]) (by simp [results, Try.results10, go_sem, z0, z1, z2, z3, z4, z5]) rfl ?_
        have hfd : conceptN d.concepts nm = some y := find_at Hd.out (by rw [Hnm.out]; simp) HF.out
        rw [hfd]
        refine ⟨[.string nm, .string y.super, .bool y.abs, .slice p1 m1 r1', .slice p2 m2 r2', .slice p3 m3 r3'], rfl, ?_, set6_below hinv.out.2.2.1 (by omega)⟩
        exact HR.out
      · have hne : (nm.toList == s.toList) = false := by simpa [toList_inj] using e
        have E := Lib.hid e
        clear e
        go_wp2_with fail
        go_roundw
        case rel =>
          refine ⟨k + 1, by omega, by go_num, hinv.out.1, hinv.out.2.1, hinv.out.2.2.1, fun i c hi hc => ?_⟩
          rcases Nat.lt_or_ge i k with h' | h'
          · exact HF.out i c h' hc
          · obtain rfl : i = k := by omega
            rw [Hd.out] at hc
            injection hc with hc
            subst hc
            rw [Hnm.out]
            simpa using E.out
        case measure => simp [intOf]; omega
    · have hge : n3 ≤ k := by omega
      clear hlt hB1 hB2 hbl hf HBw
      go_wp2_with fail
      refine bodyPost_ret (v := .tuple #[.agg #[.string ⟨#[]⟩, .string ⟨#[]⟩, .bool false, .slice none 0 0, .slice none 0 0, .slice none 0 0], .bool false]) (by simp [results, Try.results10, go_sem, z0, z1, z2, z3, z4, z5]) rfl ?_
      have hfd : conceptN d.concepts s = none := find_no (fun i c hi hc => HF.out i c (by have := Hlen.out; omega) hc)
      rw [hfd]
      exact ⟨[.string ⟨#[]⟩, .string ⟨#[]⟩, .bool false, .slice none 0 0, .slice none 0 0, .slice none 0 0], rfl, noC_is _ _, set6_below hinv.out.2.2.1 (by omega)⟩
end Go.Proofs.Ytdhljfblkidohaa
