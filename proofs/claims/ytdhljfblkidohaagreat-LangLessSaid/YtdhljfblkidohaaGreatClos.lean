/- The closures of lang.Check and its parts that compare two elements. -/
import Derived.Test.YtdhljfblkidohaaGreatApi
import Derived.Test.YtdhljfblkidohaaGreatProg
import Derived.Test.YtdhljfblkidohaaGreatChecked
import Derived.WalkSmall
import Derived.Deep.QuietTactic
import Derived.BigQuiet
namespace Go.Proofs.YtdhljfblkidohaaGreat
set_option linter.unusedSimpArgs false
set_option linter.unusedVariables false
open Go.RowKit

theorem clos_Concept {w0 : World} {B : Nat} (x : List Value) (d : Concept) (w : World) (hx : Concept.Is w0 B x d) (q : Nat) (s : ByteArray) (hq : w.cell? ⟨q, 0, none⟩ = some (.string s)) :
    Calls Tryz.prog 66 #[.agg x.toArray, .pointer (some ⟨q, 0, none⟩)] w fun e w' => e = .returned (.bool (decide (d.name = s))) ∧ Below w.heap.size w w' := by
  have hql : q < w.heap.size := cell_lt hq
  obtain ⟨v0, v1, v2, rfl, s0, s1, s2, _⟩ := hx
  obtain ⟨qa0, qn0, qc0, rfl⟩ := s0.form'
  clear s0
  obtain ⟨qa1, qn1, qc1, rfl⟩ := s1.form'
  clear s1
  obtain ⟨qa2, qn2, qc2, rfl⟩ := s2.form'
  clear s2
  obtain ⟨z, hz⟩ : ∃ z, d.name = z := ⟨_, rfl⟩
  simp only [hz]
  by_cases e : z = s
  · subst e
    go_enter Tryz.func66, Tryz.ntmps66
    go_wp2_with fail
    go_ret
    exact ⟨by simp, (Below.refl _ _).alloc (Nat.le_refl _) _⟩
  · have hne : (z.toList == s.toList) = false := by simpa [toList_inj] using e
    have E := Lib.hid e
    clear e
    go_enter Tryz.func66, Tryz.ntmps66
    go_wp2_with fail
    go_ret
    exact ⟨by simp [E.out], (Below.refl _ _).alloc (Nat.le_refl _) _⟩

theorem clos_PropDef (x : List Value) (d : PropDef) (w : World) (hx : PropDef.Is x d) (q : Nat) (s : ByteArray) (hq : w.cell? ⟨q, 0, none⟩ = some (.string s)) :
    Calls Tryz.prog 68 #[.agg x.toArray, .pointer (some ⟨q, 0, none⟩)] w fun e w' => e = .returned (.bool (decide (d.name = s))) ∧ Below w.heap.size w w' := by
  have hql : q < w.heap.size := cell_lt hq
  obtain ⟨rfl, _⟩ := hx
  simp only [PropDef.cells]
  obtain ⟨z, hz⟩ : ∃ z, d.name = z := ⟨_, rfl⟩
  simp only [hz]
  by_cases e : z = s
  · subst e
    go_enter Tryz.func68, Tryz.ntmps68
    go_wp2_with fail
    go_ret
    exact ⟨by simp, (Below.refl _ _).alloc (Nat.le_refl _) _⟩
  · have hne : (z.toList == s.toList) = false := by simpa [toList_inj] using e
    have E := Lib.hid e
    clear e
    go_enter Tryz.func68, Tryz.ntmps68
    go_wp2_with fail
    go_ret
    exact ⟨by simp [E.out], (Below.refl _ _).alloc (Nat.le_refl _) _⟩

theorem clos_KidDef (x : List Value) (d : KidDef) (w : World) (hx : KidDef.Is x d) (q : Nat) (s : ByteArray) (hq : w.cell? ⟨q, 0, none⟩ = some (.string s)) :
    Calls Tryz.prog 70 #[.agg x.toArray, .pointer (some ⟨q, 0, none⟩)] w fun e w' => e = .returned (.bool (decide (d.role = s))) ∧ Below w.heap.size w w' := by
  have hql : q < w.heap.size := cell_lt hq
  obtain ⟨rfl, _⟩ := hx
  simp only [KidDef.cells]
  obtain ⟨z, hz⟩ : ∃ z, d.role = z := ⟨_, rfl⟩
  simp only [hz]
  by_cases e : z = s
  · subst e
    go_enter Tryz.func70, Tryz.ntmps70
    go_wp2_with fail
    go_ret
    exact ⟨by simp, (Below.refl _ _).alloc (Nat.le_refl _) _⟩
  · have hne : (z.toList == s.toList) = false := by simpa [toList_inj] using e
    have E := Lib.hid e
    clear e
    go_enter Tryz.func70, Tryz.ntmps70
    go_wp2_with fail
    go_ret
    exact ⟨by simp [E.out], (Below.refl _ _).alloc (Nat.le_refl _) _⟩

theorem clos_RefDef (x : List Value) (d : RefDef) (w : World) (hx : RefDef.Is x d) (q : Nat) (s : ByteArray) (hq : w.cell? ⟨q, 0, none⟩ = some (.string s)) :
    Calls Tryz.prog 72 #[.agg x.toArray, .pointer (some ⟨q, 0, none⟩)] w fun e w' => e = .returned (.bool (decide (d.role = s))) ∧ Below w.heap.size w w' := by
  have hql : q < w.heap.size := cell_lt hq
  obtain ⟨rfl, _⟩ := hx
  simp only [RefDef.cells]
  obtain ⟨z, hz⟩ : ∃ z, d.role = z := ⟨_, rfl⟩
  simp only [hz]
  by_cases e : z = s
  · subst e
    go_enter Tryz.func72, Tryz.ntmps72
    go_wp2_with fail
    go_ret
    exact ⟨by simp, (Below.refl _ _).alloc (Nat.le_refl _) _⟩
  · have hne : (z.toList == s.toList) = false := by simpa [toList_inj] using e
    have E := Lib.hid e
    clear e
    go_enter Tryz.func72, Tryz.ntmps72
    go_wp2_with fail
    go_ret
    exact ⟨by simp [E.out], (Below.refl _ _).alloc (Nat.le_refl _) _⟩

theorem clos_Editor {w0 : World} {B : Nat} (x : List Value) (d : Editor) (w : World) (hx : Editor.Is w0 B x d) (q : Nat) (s : ByteArray) (hq : w.cell? ⟨q, 0, none⟩ = some (.string s)) :
    Calls Tryz.prog 36 #[.agg x.toArray, .pointer (some ⟨q, 0, none⟩)] w fun e w' => e = .returned (.bool (decide (d.concept = s))) ∧ Below w.heap.size w w' := by
  have hql : q < w.heap.size := cell_lt hq
  obtain ⟨v0, rfl, s0, _⟩ := hx
  obtain ⟨qa0, qn0, qc0, rfl⟩ := s0.form'
  clear s0
  obtain ⟨z, hz⟩ : ∃ z, d.concept = z := ⟨_, rfl⟩
  simp only [hz]
  by_cases e : z = s
  · subst e
    go_enter Tryz.func36, Tryz.ntmps36
    go_wp2_with fail
    go_ret
    exact ⟨by simp, (Below.refl _ _).alloc (Nat.le_refl _) _⟩
  · have hne : (z.toList == s.toList) = false := by simpa [toList_inj] using e
    have E := Lib.hid e
    clear e
    go_enter Tryz.func36, Tryz.ntmps36
    go_wp2_with fail
    go_ret
    exact ⟨by simp [E.out], (Below.refl _ _).alloc (Nat.le_refl _) _⟩

theorem clos_Template {w0 : World} {B : Nat} (x : List Value) (d : Template) (w : World) (hx : Template.Is w0 B x d) (q : Nat) (s : ByteArray) (hq : w.cell? ⟨q, 0, none⟩ = some (.string s)) :
    Calls Tryz.prog 42 #[.agg x.toArray, .pointer (some ⟨q, 0, none⟩)] w fun e w' => e = .returned (.bool (decide (d.concept = s))) ∧ Below w.heap.size w w' := by
  have hql : q < w.heap.size := cell_lt hq
  obtain ⟨v0, rfl, s0, _⟩ := hx
  obtain ⟨qa0, qn0, qc0, rfl⟩ := s0.form'
  clear s0
  obtain ⟨z, hz⟩ : ∃ z, d.concept = z := ⟨_, rfl⟩
  simp only [hz]
  by_cases e : z = s
  · subst e
    go_enter Tryz.func42, Tryz.ntmps42
    go_wp2_with fail
    go_ret
    exact ⟨by simp, (Below.refl _ _).alloc (Nat.le_refl _) _⟩
  · have hne : (z.toList == s.toList) = false := by simpa [toList_inj] using e
    have E := Lib.hid e
    clear e
    go_enter Tryz.func42, Tryz.ntmps42
    go_wp2_with fail
    go_ret
    exact ⟨by simp [E.out], (Below.refl _ _).alloc (Nat.le_refl _) _⟩

theorem clos_Rule (x : List Value) (d r : Rule) (w : World) (hx : Rule.Is x d) (q : Nat) (hq0 : w.cell? ⟨q, 0, none⟩ = some (.string r.concept)) (hq1 : w.cell? ⟨q, 1, none⟩ = some (.string r.name)) (hq2 : w.cell? ⟨q, 2, none⟩ = some (.bool r.scope)) :
    Calls Tryz.prog 29 #[.agg x.toArray, .pointer (some ⟨q, 0, none⟩)] w fun e w' => e = .returned (.bool (decide (d.concept = r.concept) && decide (d.name = r.name) && decide (d.scope = r.scope))) ∧ Below w.heap.size w w' := by
  have hql : q < w.heap.size := cell_lt hq0
  obtain ⟨rfl, _⟩ := hx
  simp only [Rule.cells]
  obtain ⟨z0, z1, z2, z3⟩ := d
  obtain ⟨r0, r1, r2, r3⟩ := r
  simp only at hq0 hq1 hq2 ⊢
  by_cases e0 : z0 = r0
  · subst e0
    by_cases e1 : z1 = r1
    · subst e1
      by_cases e2 : z2 = r2
      · subst e2
        go_enter Tryz.func29, Tryz.ntmps29
        go_wp2_with fail
        go_ret
        exact ⟨by simp, (Below.refl _ _).alloc (Nat.le_refl _) _⟩
      · have hne : (z2 == r2) = false := by simpa using e2
        have E := Lib.hid e2
        clear e2
        go_enter Tryz.func29, Tryz.ntmps29
        go_wp2_with fail
        go_ret
        exact ⟨by simp [E.out], (Below.refl _ _).alloc (Nat.le_refl _) _⟩
    · have hne : (z1.toList == r1.toList) = false := by simpa [toList_inj] using e1
      have E := Lib.hid e1
      clear e1
      go_enter Tryz.func29, Tryz.ntmps29
      go_wp2_with fail
      go_ret
      exact ⟨by simp [E.out], (Below.refl _ _).alloc (Nat.le_refl _) _⟩
  · have hne : (z0.toList == r0.toList) = false := by simpa [toList_inj] using e0
    have E := Lib.hid e0
    clear e0
    go_enter Tryz.func29, Tryz.ntmps29
    go_wp2_with fail
    go_ret
    exact ⟨by simp [E.out], (Below.refl _ _).alloc (Nat.le_refl _) _⟩

set_option maxHeartbeats 400000 in
theorem rowat_Editor {l : List Cell} {v : Value} (w : World) (q k : Nat) (c : Cell) (hq : w.cell? ⟨q, 1, none⟩ = some v) (hs : SlR w w.heap.size 3 Cell.Is v l) (hd : l[k]? = some c) :
    Calls Tryz.prog 38 #[.int .i64 (k : Int), .pointer (some ⟨q, 0, none⟩)] w fun e w' => e = .returned (.tuple #[.int .i64 c.kind, .int .i64 (wrap64 ((c.text.size : Int) + (c.mark.size : Int)))]) ∧ Quiet w w' := by
  have hql : q < w.heap.size := cell_lt hq
  obtain ⟨a, cp, rfl⟩ : ∃ a c, v = .slice a l.length c := by obtain ⟨a, c, h, _⟩ := hs.form; exact ⟨a, c, h⟩
  have hn : l.length ≤ 9223372036854775807 := by have := hs.caps; unfold maxLen at this; omega
  have hlt : k < l.length := (List.getElem?_eq_some_iff.1 hd).1
  obtain ⟨n, hlen⟩ : ∃ n, l.length = n := ⟨_, rfl⟩
  rw [hlen] at hs hn hlt hq
  obtain ⟨b, off, x, rfl, hbB, hxl, ⟨rfl, o1, o2, o3⟩, hx⟩ := hs.at_ hd
  have h0 := hx 0 _ rfl
  have h1 := hx 1 _ rfl
  have h2 := hx 2 _ rfl
  simp only [Nat.add_zero] at h0
  clear hs hd hlen hx hxl
  go_enter Tryz.func38, Tryz.ntmps38
  go_wp2_with fail
  go_quiet (fail)
  go_wp2_with fail
  go_ret2
  exact ⟨rfl, (Quiet.refl _).drewN _⟩

set_option maxHeartbeats 400000 in
theorem rowat_Template {l : List Cell} {v : Value} (w : World) (q k : Nat) (c : Cell) (hq : w.cell? ⟨q, 1, none⟩ = some v) (hs : SlR w w.heap.size 3 Cell.Is v l) (hd : l[k]? = some c) :
    Calls Tryz.prog 43 #[.int .i64 (k : Int), .pointer (some ⟨q, 0, none⟩)] w fun e w' => e = .returned (.tuple #[.int .i64 c.kind, .int .i64 (wrap64 ((c.text.size : Int) + (c.mark.size : Int)))]) ∧ Quiet w w' := by
  have hql : q < w.heap.size := cell_lt hq
  obtain ⟨a, cp, rfl⟩ : ∃ a c, v = .slice a l.length c := by obtain ⟨a, c, h, _⟩ := hs.form; exact ⟨a, c, h⟩
  have hn : l.length ≤ 9223372036854775807 := by have := hs.caps; unfold maxLen at this; omega
  have hlt : k < l.length := (List.getElem?_eq_some_iff.1 hd).1
  obtain ⟨n, hlen⟩ : ∃ n, l.length = n := ⟨_, rfl⟩
  rw [hlen] at hs hn hlt hq
  obtain ⟨b, off, x, rfl, hbB, hxl, ⟨rfl, o1, o2, o3⟩, hx⟩ := hs.at_ hd
  have h0 := hx 0 _ rfl
  have h1 := hx 1 _ rfl
  have h2 := hx 2 _ rfl
  simp only [Nat.add_zero] at h0
  clear hs hd hlen hx hxl
  go_enter Tryz.func43, Tryz.ntmps43
  go_wp2_with fail
  go_quiet (fail)
  go_wp2_with fail
  go_ret2
  exact ⟨rfl, (Quiet.refl _).drewN _⟩

end Go.Proofs.YtdhljfblkidohaaGreat
