/- Copies of a concept's rows (slices.Clone), and the closure of lang.Concept. -/
import Derived.Test.YtdhljfblkidohaaTwC
import Derived.Test.YtdhljfblkidohaaIdx
import Derived.Outline
import Derived.Lib.SliceRun
import Derived.Laws.Cover1
namespace Go.Proofs.Ytdhljfblkidohaa
set_option linter.unusedSimpArgs false
set_option linter.unusedVariables false
open Go.RowKit

set_option maxRecDepth 100000 in
set_option maxHeartbeats 1000000 in
theorem clone_PropDef {l : List PropDef} {v : Value} (w w0 : World) (hs : SlR w0 w0.heap.size 2 PropDef.Is v l) (hfit : Fit l.length 24) (hw : Below w0.heap.size w0 w) :
    Calls Try.prog 38 #[v] w fun e w' => ∃ a c, e = .returned (.slice a l.length c) ∧ Own1 w' w.heap.size 45 2 PropDef.Is (.slice a l.length c) l ∧ Below w.heap.size w w' := by
  obtain ⟨a, n, c, rfl⟩ := hs.form'
  have hn := hs.len
  have hcap := hs.caps
  have hby : n * 24 ≤ 140737488355328 := by unfold Fit at hfit; rw [hn]; exact hfit
  have Hs := Lib.hid hs
  have Hw := Lib.hid hw
  have Hcap := Lib.hid hcap
  have Hn := Lib.hid hn
  obtain ⟨j, hi, hz, hsz, hb⟩ := info_parts info_PropDef
  have I := Lib.hid (And.intro hi (And.intro hz (And.intro hsz hb)))
  clear hi hz hsz hb hfit hw hcap
  have hq := fun W => Lib.run_eql_slice_nil (P := Try.prog) W 34 45 a n c 0 0 Try.underlying34
  rcases a with _ | ad
  · have h0 : l.length = 0 := by
      obtain ⟨a', c', he, _, _, h3⟩ := hs
      rcases Nat.eq_zero_or_pos l.length with h | h
      · exact h
      · obtain ⟨b, off, ha, _⟩ := h3 h
        injection he with e1 _ _
        rw [← e1] at ha
        cases ha
    have hl : l = [] := List.eq_nil_of_length_eq_zero h0
    have HL := Lib.hid hl
    clear hs hn h0 hl
    go_enter Try.func38, Try.ntmps38
    go_wp2_with fail
    go_ret
    refine ⟨none, 0, ?_, ?_, Below.refl _ _⟩
    · rw [HL.out]; rfl
    · rw [HL.out]; exact ⟨[], World.ownsRow_nil _ _ _ _, FlatR.nil_⟩
  · clear hs hn
    go_enter Try.func38, Try.ntmps38
    go_wp2_with (at_builtin
                 go_must (refine wpList_append_list rfl (.tmp 5) (.tmp 6) _ rfl w.heap.size w0.heap.size 45 j _ 2 24 Try.underlying34 I.out.1 I.out.2.1 I.out.2.2.1 I.out.2.2.2 rfl (by omega) (R := PropDef.Is) (l := []) (m := l) (.slice (some ⟨w.heap.size, 0, none⟩) 0 0) rfl (by exact Own1.empty rfl (Nat.le_refl _)) (some ad) n c rfl (by exact Hs.out.below (Hw.out.alloc Hw.out.size _)) n (by simp) PropDef.Is.one (by have := Hcap.out; simp; omega) (by simpa using hby) (by rw [World.size_alloc]; omega) ?_)
                 intro xa xc w4 hown hgrow
                 have H4 := Lib.hid (And.intro hown hgrow)
                 clear hown hgrow)
    go_ret
    obtain ⟨hown, hgrow⟩ := H4.out
    refine ⟨xa, xc, by rw [← Hn.out]; rfl, ?_, ((Below.refl _ _).alloc (Nat.le_refl _) _).grown hgrow (by rw [World.size_alloc]; omega) (fun g hg => Nat.le_of_eq (Option.some.inj hg))⟩
    rw [← Hn.out]
    simpa using hown

set_option maxRecDepth 100000 in
set_option maxHeartbeats 1000000 in
theorem clone_KidDef {l : List KidDef} {v : Value} (w w0 : World) (hs : SlR w0 w0.heap.size 4 KidDef.Is v l) (hfit : Fit l.length 48) (hw : Below w0.heap.size w0 w) :
    Calls Try.prog 39 #[v] w fun e w' => ∃ a c, e = .returned (.slice a l.length c) ∧ Own1 w' w.heap.size 47 4 KidDef.Is (.slice a l.length c) l ∧ Below w.heap.size w w' := by
  obtain ⟨a, n, c, rfl⟩ := hs.form'
  have hn := hs.len
  have hcap := hs.caps
  have hby : n * 48 ≤ 140737488355328 := by unfold Fit at hfit; rw [hn]; exact hfit
  have Hs := Lib.hid hs
  have Hw := Lib.hid hw
  have Hcap := Lib.hid hcap
  have Hn := Lib.hid hn
  obtain ⟨j, hi, hz, hsz, hb⟩ := info_parts info_KidDef
  have I := Lib.hid (And.intro hi (And.intro hz (And.intro hsz hb)))
  clear hi hz hsz hb hfit hw hcap
  have hq := fun W => Lib.run_eql_slice_nil (P := Try.prog) W 35 47 a n c 0 0 Try.underlying35
  rcases a with _ | ad
  · have h0 : l.length = 0 := by
      obtain ⟨a', c', he, _, _, h3⟩ := hs
      rcases Nat.eq_zero_or_pos l.length with h | h
      · exact h
      · obtain ⟨b, off, ha, _⟩ := h3 h
        injection he with e1 _ _
        rw [← e1] at ha
        cases ha
    have hl : l = [] := List.eq_nil_of_length_eq_zero h0
    have HL := Lib.hid hl
    clear hs hn h0 hl
    go_enter Try.func39, Try.ntmps39
    go_wp2_with fail
    go_ret
    refine ⟨none, 0, ?_, ?_, Below.refl _ _⟩
    · rw [HL.out]; rfl
    · rw [HL.out]; exact ⟨[], World.ownsRow_nil _ _ _ _, FlatR.nil_⟩
  · clear hs hn
    go_enter Try.func39, Try.ntmps39
    go_wp2_with (at_builtin
                 go_must (refine wpList_append_list rfl (.tmp 5) (.tmp 6) _ rfl w.heap.size w0.heap.size 47 j _ 4 48 Try.underlying35 I.out.1 I.out.2.1 I.out.2.2.1 I.out.2.2.2 rfl (by omega) (R := KidDef.Is) (l := []) (m := l) (.slice (some ⟨w.heap.size, 0, none⟩) 0 0) rfl (by exact Own1.empty rfl (Nat.le_refl _)) (some ad) n c rfl (by exact Hs.out.below (Hw.out.alloc Hw.out.size _)) n (by simp) KidDef.Is.one (by have := Hcap.out; simp; omega) (by simpa using hby) (by rw [World.size_alloc]; omega) ?_)
                 intro xa xc w4 hown hgrow
                 have H4 := Lib.hid (And.intro hown hgrow)
                 clear hown hgrow)
    go_ret
    obtain ⟨hown, hgrow⟩ := H4.out
    refine ⟨xa, xc, by rw [← Hn.out]; rfl, ?_, ((Below.refl _ _).alloc (Nat.le_refl _) _).grown hgrow (by rw [World.size_alloc]; omega) (fun g hg => Nat.le_of_eq (Option.some.inj hg))⟩
    rw [← Hn.out]
    simpa using hown

set_option maxRecDepth 100000 in
set_option maxHeartbeats 1000000 in
theorem clone_RefDef {l : List RefDef} {v : Value} (w w0 : World) (hs : SlR w0 w0.heap.size 3 RefDef.Is v l) (hfit : Fit l.length 40) (hw : Below w0.heap.size w0 w) :
    Calls Try.prog 40 #[v] w fun e w' => ∃ a c, e = .returned (.slice a l.length c) ∧ Own1 w' w.heap.size 49 3 RefDef.Is (.slice a l.length c) l ∧ Below w.heap.size w w' := by
  obtain ⟨a, n, c, rfl⟩ := hs.form'
  have hn := hs.len
  have hcap := hs.caps
  have hby : n * 40 ≤ 140737488355328 := by unfold Fit at hfit; rw [hn]; exact hfit
  have Hs := Lib.hid hs
  have Hw := Lib.hid hw
  have Hcap := Lib.hid hcap
  have Hn := Lib.hid hn
  obtain ⟨j, hi, hz, hsz, hb⟩ := info_parts info_RefDef
  have I := Lib.hid (And.intro hi (And.intro hz (And.intro hsz hb)))
  clear hi hz hsz hb hfit hw hcap
  have hq := fun W => Lib.run_eql_slice_nil (P := Try.prog) W 36 49 a n c 0 0 Try.underlying36
  rcases a with _ | ad
  · have h0 : l.length = 0 := by
      obtain ⟨a', c', he, _, _, h3⟩ := hs
      rcases Nat.eq_zero_or_pos l.length with h | h
      · exact h
      · obtain ⟨b, off, ha, _⟩ := h3 h
        injection he with e1 _ _
        rw [← e1] at ha
        cases ha
    have hl : l = [] := List.eq_nil_of_length_eq_zero h0
    have HL := Lib.hid hl
    clear hs hn h0 hl
    go_enter Try.func40, Try.ntmps40
    go_wp2_with fail
    go_ret
    refine ⟨none, 0, ?_, ?_, Below.refl _ _⟩
    · rw [HL.out]; rfl
    · rw [HL.out]; exact ⟨[], World.ownsRow_nil _ _ _ _, FlatR.nil_⟩
  · clear hs hn
    go_enter Try.func40, Try.ntmps40
    go_wp2_with (at_builtin
                 go_must (refine wpList_append_list rfl (.tmp 5) (.tmp 6) _ rfl w.heap.size w0.heap.size 49 j _ 3 40 Try.underlying36 I.out.1 I.out.2.1 I.out.2.2.1 I.out.2.2.2 rfl (by omega) (R := RefDef.Is) (l := []) (m := l) (.slice (some ⟨w.heap.size, 0, none⟩) 0 0) rfl (by exact Own1.empty rfl (Nat.le_refl _)) (some ad) n c rfl (by exact Hs.out.below (Hw.out.alloc Hw.out.size _)) n (by simp) RefDef.Is.one (by have := Hcap.out; simp; omega) (by simpa using hby) (by rw [World.size_alloc]; omega) ?_)
                 intro xa xc w4 hown hgrow
                 have H4 := Lib.hid (And.intro hown hgrow)
                 clear hown hgrow)
    go_ret
    obtain ⟨hown, hgrow⟩ := H4.out
    refine ⟨xa, xc, by rw [← Hn.out]; rfl, ?_, ((Below.refl _ _).alloc (Nat.le_refl _) _).grown hgrow (by rw [World.size_alloc]; omega) (fun g hg => Nat.le_of_eq (Option.some.inj hg))⟩
    rw [← Hn.out]
    simpa using hown

theorem clos_name {w0 : World} {B : Nat} (x : List Value) (d : Concept) (w : World) (hx : Concept.Is w0 B x d) (q : Nat) (s : ByteArray) (hq : w.cell? ⟨q, 0, none⟩ = some (.string s)) :
    Calls Try.prog 37 #[.agg x.toArray, .pointer (some ⟨q, 0, none⟩)] w fun e w' => e = .returned (.bool (decide (d.name = s))) ∧ Below w.heap.size w w' := by
  have hql : q < w.heap.size := cell_lt hq
  obtain ⟨v0, v1, v2, rfl, s0, s1, s2, _⟩ := hx
  obtain ⟨qa0, qn0, qc0, rfl⟩ := s0.form'
  clear s0
  obtain ⟨qa1, qn1, qc1, rfl⟩ := s1.form'
  clear s1
  obtain ⟨qa2, qn2, qc2, rfl⟩ := s2.form'
  clear s2
  obtain ⟨z, hz⟩ : ∃ z, d.name = z := ⟨_, rfl⟩
  simp only [hz]
  by_cases e : z = s
  · subst e
    go_enter Try.func37, Try.ntmps37
    go_wp2_with fail
    go_ret
    exact ⟨by simp, (Below.refl _ _).alloc (Nat.le_refl _) _⟩
  · have hne : (z.toList == s.toList) = false := by simpa [toList_inj] using e
    have E := Lib.hid e
    clear e
    go_enter Try.func37, Try.ntmps37
    go_wp2_with fail
    go_ret
    exact ⟨by simp [E.out], (Below.refl _ _).alloc (Nat.le_refl _) _⟩
/-- the concept of a name -/
def conceptN (l : List Concept) (s : ByteArray) : Option Concept := l.find? fun c => decide (c.name = s)
def noC : Concept := ⟨⟨#[]⟩, ⟨#[]⟩, false, [], [], []⟩
end Go.Proofs.Ytdhljfblkidohaa
