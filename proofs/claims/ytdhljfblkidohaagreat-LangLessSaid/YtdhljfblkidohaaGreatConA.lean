/- lang.concept: what is wrong with a concept, and at which part. -/
import Derived.Test.YtdhljfblkidohaaGreatDup
import Derived.Laws.EntriesVeiled
namespace Go.Proofs.YtdhljfblkidohaaGreat
set_option linter.unusedSimpArgs false
set_option linter.unusedVariables false
open Go.RowKit

theorem partsE_p {c : Concept} {k e : Nat} (h : firstE (propE c.props) 0 c.props = some (k, e)) : partsE c = (1 + k, e) := by unfold partsE; rw [h]
theorem partsE_k {c : Concept} {k e : Nat} (h0 : firstE (propE c.props) 0 c.props = none) (h : firstE (kidE c.kids) 0 c.kids = some (k, e)) : partsE c = (1 + c.props.length + k, e) := by unfold partsE; rw [h0]; simp only; rw [h]
theorem partsE_r {c : Concept} {k e : Nat} (h0 : firstE (propE c.props) 0 c.props = none) (h1 : firstE (kidE c.kids) 0 c.kids = none) (h : firstE (refE c.refs) 0 c.refs = some (k, e)) : partsE c = (1 + c.props.length + c.kids.length + k, e) := by unfold partsE; rw [h0]; simp only; rw [h1]; simp only; rw [h]
theorem partsE_0 {c : Concept} (h0 : firstE (propE c.props) 0 c.props = none) (h1 : firstE (kidE c.kids) 0 c.kids = none) (h : firstE (refE c.refs) 0 c.refs = none) : partsE c = (0, 0) := by unfold partsE; rw [h0]; simp only; rw [h1]; simp only; rw [h]
theorem empty_txt {s : ByteArray} (h : s.size = 0) : s = ⟨#[]⟩ := by
  obtain ⟨l⟩ := s
  have : l.size = 0 := h
  rw [Array.size_eq_zero_iff] at this
  rw [this]
theorem ne_empty {s : ByteArray} (h : s.size ≠ 0) : ¬ s.toList = [] := by
  intro e
  apply h
  have : s = ⟨#[]⟩ := (toList_inj _ _).1 (by rw [e, ByteArray.toList_eq])
  rw [this]
  rfl
/-- how lang.concept answers -/
def ConPost (q : Nat × Nat) (w : World) (e : Ending) (w' : World) : Prop :=
  (∃ p : Int, e = .returned (.tuple #[.int .i64 p, .int .i64 (q.2 : Int)]) ∧ (q.2 ≠ 0 → p = (q.1 : Int))) ∧ Below w.heap.size w w'

set_option maxRecDepth 100000 in
set_option maxHeartbeats 2000000 in
theorem concept_bad {ahead : List Concept} {c : Concept} {v : Value} {x : List Value} (w w0 : World) (hs : SlR w0 w0.heap.size 6 (Concept.Is w0 w0.heap.size) v ahead) (hx : Concept.Is w0 w0.heap.size x c) (hw : Below w0.heap.size w0 w)
    (hbad : okName c.name = false ∨ (okName c.name = true ∧ (ahead.any (fun x => decide (x.name = c.name)) = true ∨ (ahead.any (fun x => decide (x.name = c.name)) = false ∧ ((c.super.size ≠ 0 ∧ okName c.super = false) ∨ (¬ (c.super.size ≠ 0 ∧ okName c.super = false) ∧ c.super = c.name)))))) :
    Calls Tryz.prog 25 #[v, .agg x.toArray] w (ConPost (conceptA ahead c) w) := by
  have hmf : ∀ (fn : Fn) (first cap : Array Value) (w : World), (Instr.makeFunc fn first cap).run Tryz.prog w = .ok (.func fn first cap) w := fun _ _ _ _ => rfl
  obtain ⟨va, vc, rfl⟩ : ∃ a c, v = .slice a ahead.length c := by obtain ⟨a, c, h, _⟩ := hs.form; exact ⟨a, c, h⟩
  obtain ⟨nv, hnv⟩ : ∃ n, ahead.length = n := ⟨_, rfl⟩
  rw [hnv] at hs ⊢
  obtain ⟨cn, cs, cab, cp, ck, cr⟩ := c
  obtain ⟨v1, v2, v3, rfl, s1, s2, s3, f1, f2, f3, o1, o2⟩ := hx
  simp only at s1 s2 s3 f1 f2 f3 o1 o2 ⊢
  obtain ⟨n1, hl1⟩ : ∃ n, cp.length = n := ⟨_, rfl⟩
  obtain ⟨n2, hl2⟩ : ∃ n, ck.length = n := ⟨_, rfl⟩
  obtain ⟨n3, hl3⟩ : ∃ n, cr.length = n := ⟨_, rfl⟩
  obtain ⟨a1, c1, rfl⟩ : ∃ a c, v1 = .slice a n1 c := by obtain ⟨a, c, h, _⟩ := s1.form; exact ⟨a, c, by rw [h, hl1]⟩
  obtain ⟨a2, c2, rfl⟩ : ∃ a c, v2 = .slice a n2 c := by obtain ⟨a, c, h, _⟩ := s2.form; exact ⟨a, c, by rw [h, hl2]⟩
  obtain ⟨a3, c3, rfl⟩ : ∃ a c, v3 = .slice a n3 c := by obtain ⟨a, c, h, _⟩ := s3.form; exact ⟨a, c, by rw [h, hl3]⟩
  have Hnv := Lib.hid hnv
  have HW := Lib.hid hw
  have HS := Lib.hid hs
  have S1 := Lib.hid s1
  have S2 := Lib.hid s2
  have S3 := Lib.hid s3
  have L1 := Lib.hid hl1
  have L2 := Lib.hid hl2
  have L3 := Lib.hid hl3
  clear hnv hw hs s1 s2 s3 hl1 hl2 hl3 f1 f2 f3
  simp only at hbad
  rcases hbad with hA | ⟨hA, hB | ⟨hB, ⟨hC0, hC⟩ | ⟨hC, hD⟩⟩⟩
  · have hv : conceptA ahead ⟨cn, cs, cab, cp, ck, cr⟩ = (0, 2) := by simp [conceptA, hA]
    rw [hv]
    have RA := Lib.hid (fun W => right_of cn o1 false hA W)
    clear hv hA
    go_enter Tryz.func25, Tryz.ntmps25
    go_wp2_with (first
    | (go_at_call 18
       with_reducible refine (RA.out _).mono ?_
       rintro e w1 ⟨rfl, q1⟩
       have K1 : Hid (Kept w w.heap.size 47 #[.string cn, .string cs, .bool cab, .slice a1 n1 c1, .slice a2 n2 c2, .slice a3 n3 c3] w1) := Lib.hid ((Kept.new w _ _).step (q1.below _))
       obtain ⟨g1, _⟩ := bcell (q1.below (w.heap.size + 1))
       have B1 : Hid (Below w.heap.size w w1) := Lib.hid K1.out.low))
    go_ret2
    exact ⟨⟨_, rfl, fun _ => rfl⟩, B1.out⟩
  · have hv : conceptA ahead ⟨cn, cs, cab, cp, ck, cr⟩ = (0, 40) := by simp only [conceptA, hA, hB]; simp
    rw [hv]
    have RA := Lib.hid (fun W => right_of cn o1 true hA W)
    have HB := Lib.hid (show (ahead.take nv).any (fun x => decide (x.name = cn)) = true by rw [← Hnv.out, List.take_length]; exact hB)
    clear hv hA hB
    go_enter Tryz.func25, Tryz.ntmps25
    go_wp2_with (first
    | (go_at_call 18
       with_reducible refine (RA.out _).mono ?_
       rintro e w1 ⟨rfl, q1⟩
       have K1 : Hid (Kept w w.heap.size 47 #[.string cn, .string cs, .bool cab, .slice a1 n1 c1, .slice a2 n2 c2, .slice a3 n3 c3] w1) := Lib.hid ((Kept.new w _ _).step (q1.below _))
       obtain ⟨g1, _⟩ := bcell (q1.below (w.heap.size + 1))
       have B1 : Hid (Below w.heap.size w w1) := Lib.hid K1.out.low)
    | (go_at_call 65
       refine (dup_Concept w0 _ w.heap.size cn nv HS.out (HW.out.trans (K1.out.low.mono HW.out.size)) (K1.out.blk.cell (i := 0) rfl) (by rw [Hnv.out]; exact Nat.le_refl _) _ HB.out).mono ?_
       rintro e w2 ⟨rfl, b2⟩
       have K2 : Hid (Kept w w.heap.size 47 #[.string cn, .string cs, .bool cab, .slice a1 n1 c1, .slice a2 n2 c2, .slice a3 n3 c3] w2) := Lib.hid (K1.out.step b2)
       obtain ⟨g2, _⟩ := bcell (b2.mono K1.out.blk.lt)
       have B2 : Hid (Below w.heap.size w w2) := Lib.hid K2.out.low))
    go_ret2
    exact ⟨⟨_, rfl, fun _ => rfl⟩, B2.out⟩
  · have hv : conceptA ahead ⟨cn, cs, cab, cp, ck, cr⟩ = (0, 2) := by simp only [conceptA, hA, hB, hC]; simp [hC0]
    rw [hv]
    have RA := Lib.hid (fun W => right_of cn o1 true hA W)
    have RS := Lib.hid (fun W => right_of cs o2 false hC W)
    have HB := Lib.hid (show (ahead.take nv).any (fun x => decide (x.name = cn)) = false by rw [← Hnv.out, List.take_length]; exact hB)
    have ne1 : ¬ cs.toList = [] := ne_empty hC0
    have ne2 : (cs.toList == []) = false := by simpa using ne1
    clear hv hA hB hC hC0
    go_enter Tryz.func25, Tryz.ntmps25
    go_wp2_with (first
    | (go_at_call 18
       with_reducible refine (RA.out _).mono ?_
       rintro e w1 ⟨rfl, q1⟩
       have K1 : Hid (Kept w w.heap.size 47 #[.string cn, .string cs, .bool cab, .slice a1 n1 c1, .slice a2 n2 c2, .slice a3 n3 c3] w1) := Lib.hid ((Kept.new w _ _).step (q1.below _))
       obtain ⟨g1, _⟩ := bcell (q1.below (w.heap.size + 1))
       have B1 : Hid (Below w.heap.size w w1) := Lib.hid K1.out.low)
    | (go_at_call 65
       refine (dup_Concept w0 _ w.heap.size cn nv HS.out (HW.out.trans (K1.out.low.mono HW.out.size)) (K1.out.blk.cell (i := 0) rfl) (by rw [Hnv.out]; exact Nat.le_refl _) _ HB.out).mono ?_
       rintro e w2 ⟨rfl, b2⟩
       have K2 : Hid (Kept w w.heap.size 47 #[.string cn, .string cs, .bool cab, .slice a1 n1 c1, .slice a2 n2 c2, .slice a3 n3 c3] w2) := Lib.hid (K1.out.step b2)
       obtain ⟨g2, _⟩ := bcell (b2.mono K1.out.blk.lt)
       have B2 : Hid (Below w.heap.size w w2) := Lib.hid K2.out.low)
    | (go_at_call 18
       with_reducible refine (RS.out _).mono ?_
       rintro e w3 ⟨rfl, q3⟩
       have K3 : Hid (Kept w w.heap.size 47 #[.string cn, .string cs, .bool cab, .slice a1 n1 c1, .slice a2 n2 c2, .slice a3 n3 c3] w3) := Lib.hid (K2.out.step (q3.below _))
       obtain ⟨g3, _⟩ := bcell (b2.mono K1.out.blk.lt |>.trans (q3.below _))
       have B3 : Hid (Below w.heap.size w w3) := Lib.hid K3.out.low))
    go_ret2
    exact ⟨⟨_, rfl, fun _ => rfl⟩, B3.out⟩
  · have hv : conceptA ahead ⟨cn, cs, cab, cp, ck, cr⟩ = (0, 43) := by simp only [conceptA, hA, hB]; rw [if_neg (by simp), if_neg (by simp), if_neg hC, if_pos hD]
    rw [hv]
    subst hD
    have RA := Lib.hid (fun W => right_of cs o1 true hA W)
    have RS := RA
    have HB := Lib.hid (show (ahead.take nv).any (fun x => decide (x.name = cs)) = false by rw [← Hnv.out, List.take_length]; exact hB)
    have hne : cs.size ≠ 0 := by intro e; rw [empty_txt e] at hA; exact absurd hA (by decide)
    have ne1 : ¬ cs.toList = [] := ne_empty hne
    have ne2 : (cs.toList == []) = false := by simpa using ne1
    clear hv hA hB hC hne
    go_enter Tryz.func25, Tryz.ntmps25
    go_wp2_with (first
    | (go_at_call 18
       with_reducible refine (RA.out _).mono ?_
       rintro e w1 ⟨rfl, q1⟩
       have K1 : Hid (Kept w w.heap.size 47 #[.string cs, .string cs, .bool cab, .slice a1 n1 c1, .slice a2 n2 c2, .slice a3 n3 c3] w1) := Lib.hid ((Kept.new w _ _).step (q1.below _))
       obtain ⟨g1, _⟩ := bcell (q1.below (w.heap.size + 1))
       have B1 : Hid (Below w.heap.size w w1) := Lib.hid K1.out.low)
    | (go_at_call 65
       refine (dup_Concept w0 _ w.heap.size cs nv HS.out (HW.out.trans (K1.out.low.mono HW.out.size)) (K1.out.blk.cell (i := 0) rfl) (by rw [Hnv.out]; exact Nat.le_refl _) _ HB.out).mono ?_
       rintro e w2 ⟨rfl, b2⟩
       have K2 : Hid (Kept w w.heap.size 47 #[.string cs, .string cs, .bool cab, .slice a1 n1 c1, .slice a2 n2 c2, .slice a3 n3 c3] w2) := Lib.hid (K1.out.step b2)
       obtain ⟨g2, _⟩ := bcell (b2.mono K1.out.blk.lt)
       have B2 : Hid (Below w.heap.size w w2) := Lib.hid K2.out.low)
    | (go_at_call 18
       with_reducible refine (RS.out _).mono ?_
       rintro e w3 ⟨rfl, q3⟩
       have K3 : Hid (Kept w w.heap.size 47 #[.string cs, .string cs, .bool cab, .slice a1 n1 c1, .slice a2 n2 c2, .slice a3 n3 c3] w3) := Lib.hid (K2.out.step (q3.below _))
       obtain ⟨g3, _⟩ := bcell (b2.mono K1.out.blk.lt |>.trans (q3.below _))
       have B3 : Hid (Below w.heap.size w w3) := Lib.hid K3.out.low))
    go_ret2
    exact ⟨⟨_, rfl, fun _ => rfl⟩, B3.out⟩

end Go.Proofs.YtdhljfblkidohaaGreat
