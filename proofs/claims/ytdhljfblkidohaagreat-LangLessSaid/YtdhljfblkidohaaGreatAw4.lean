/- Chapter 04's rows are as the chapter says. -/
import Derived.Test.YtdhljfblkidohaaGreatSmall
import Derived.Test.YtdhljfblkidohaaGreatLittle
import Derived.Test.YtdhljfblkidohaaGreatNamesW
import Derived.Test.YtdhljfblkidohaaGreatCheck
import Derived.Test.YtdhljfblkidohaaGreatEqC
namespace Go.Proofs.YtdhljfblkidohaaGreat
set_option linter.unusedSimpArgs false
set_option linter.unusedVariables false
open Go.RowKit

theorem small_names : namesN (smallD 0) = [⟨#[78, 117, 109]⟩, ⟨#[83, 117, 109]⟩] := by
  have h1 : ((smallD 0).concepts.map fun c => c.name).map bsL = [[78, 117, 109], [83, 117, 109]] := by kernel_rfl
  have h2 : ([[78, 117, 109], [83, 117, 109]] : List (List UInt8)).mergeSort (fun x y => decide (x ≤ y)) = [[78, 117, 109], [83, 117, 109]] := by
    refine List.mergeSort_of_pairwise ?_
    simp only [List.pairwise_cons, List.mem_singleton, forall_eq, List.not_mem_nil, false_imp_iff, implies_true, List.Pairwise.nil, and_true]
    decide +kernel
  have h3 : (Go.Lib.compact ([[78, 117, 109], [83, 117, 109]] : List (List UInt8))).map ofL = [⟨#[78, 117, 109]⟩, ⟨#[83, 117, 109]⟩] := by kernel_rfl
  unfold namesN sortedN
  rw [h1, h2]
  exact h3
theorem SmallS.alloc {w : World} {g : Nat} {m : Int} (h : SmallS w g m) (o : Obj) : SmallS (w.alloc o) g m := ⟨h.props.alloc o, h.kids.alloc o, h.refs.alloc o, h.concepts.alloc o⟩
theorem SmallS.set_far {w : World} {g k i : Nat} {m : Int} (h : SmallS w g m) (hk : g + 3 < k) (u : Value) : SmallS (w.setCell ⟨k, i, none⟩ u) g m := ⟨h.props.far (by show g ≠ k; omega) u, h.kids.far (by show g + 1 ≠ k; omega) u, h.refs.far (by show g + 1 + 1 ≠ k; omega) u, h.concepts.far (by show g + 1 + 1 + 1 ≠ k; omega) u⟩
theorem SmallS.set_max {w : World} {g : Nat} (h : SmallS w g 0) : SmallS (w.setCell ⟨g + 1, 3, none⟩ (.int .i64 2)) g 2 := ⟨h.props.far (by show g ≠ g + 1; omega) _, h.kids.set_ 3 (.int .i64 2), h.refs.far (by show g + 1 + 1 ≠ g + 1; omega) _, h.concepts.far (by show g + 1 + 1 + 1 ≠ g + 1; omega) _⟩
/-- the two examples and their boxes -/
structure Two (w W : World) (g1 g2 b1 b2 : Nat) : Prop where
  low : Below w.heap.size w W
  d : SmallS W g1 0
  e : SmallS W g2 2
  bd : Blk W b1 29 (smallX g1).toArray
  be : Blk W b2 29 (smallX g2).toArray
theorem Two.below {w W W' : World} {g1 g2 b1 b2 : Nat} (h : Two w W g1 g2 b1 b2) (b : Below W.heap.size W W') : Two w W' g1 g2 b1 b2 := ⟨h.low.trans (b.mono h.low.size), h.d.below b, h.e.below b, h.bd.below b h.bd.lt, h.be.below b h.be.lt⟩
theorem Two.isd {w W : World} {g1 g2 b1 b2 : Nat} (h : Two w W g1 g2 b1 b2) : Language.Is W W.heap.size (smallX g1) (smallD 0) := h.d.is (by decide)
theorem Two.ise {w W : World} {g1 g2 b1 b2 : Nat} (h : Two w W g1 g2 b1 b2) : Language.Is W W.heap.size (smallX g2) (smallD 2) := h.e.is (by decide)
theorem Two.cells {w W : World} {g1 g2 b1 b2 : Nat} (h : Two w W g1 g2 b1 b2) : W.cell? ⟨b1, 0, none⟩ = some (.string ⟨#[97]⟩) ∧ W.cell? ⟨b1, 1, none⟩ = some (.int .i64 1) ∧ W.cell? ⟨b1, 2, none⟩ = some (.slice none 0 0) ∧ W.cell? ⟨b1, 3, none⟩ = some (.slice (some ⟨g1 + 1 + 1 + 1, 0, none⟩) 2 2) ∧ W.cell? ⟨b1, 4, none⟩ = some (.slice none 0 0) ∧ W.cell? ⟨b1, 5, none⟩ = some (.slice none 0 0) ∧ W.cell? ⟨b1, 6, none⟩ = some (.slice none 0 0) ∧ W.cell? ⟨b1, 7, none⟩ = some (.slice none 0 0) ∧ W.cell? ⟨b2, 0, none⟩ = some (.string ⟨#[97]⟩) ∧ W.cell? ⟨b2, 1, none⟩ = some (.int .i64 1) ∧ W.cell? ⟨b2, 2, none⟩ = some (.slice none 0 0) ∧ W.cell? ⟨b2, 3, none⟩ = some (.slice (some ⟨g2 + 1 + 1 + 1, 0, none⟩) 2 2) ∧ W.cell? ⟨b2, 4, none⟩ = some (.slice none 0 0) ∧ W.cell? ⟨b2, 5, none⟩ = some (.slice none 0 0) ∧ W.cell? ⟨b2, 6, none⟩ = some (.slice none 0 0) ∧ W.cell? ⟨b2, 7, none⟩ = some (.slice none 0 0) :=
  ⟨h.bd.cell (i := 0) rfl, h.bd.cell (i := 1) rfl, h.bd.cell (i := 2) rfl, h.bd.cell (i := 3) rfl, h.bd.cell (i := 4) rfl, h.bd.cell (i := 5) rfl, h.bd.cell (i := 6) rfl, h.bd.cell (i := 7) rfl, h.be.cell (i := 0) rfl, h.be.cell (i := 1) rfl, h.be.cell (i := 2) rfl, h.be.cell (i := 3) rfl, h.be.cell (i := 4) rfl, h.be.cell (i := 5) rfl, h.be.cell (i := 6) rfl, h.be.cell (i := 7) rfl⟩
section
variable {w W : World} {g1 g2 b1 b2 : Nat}
theorem a_right (h : Two w W g1 g2 b1 b2) : Calls Tryz.prog 7 #[.agg (smallX g1).toArray] W fun e w' => e = .returned (fltV 0 0 0 0) ∧ Two w w' g1 g2 b1 b2 := (check_any W W h.isd (Below.refl _ _)).mono fun e w' k => ⟨by rw [k.1, small_right]; rfl, h.below k.2⟩
theorem a_wrong (h : Two w W g1 g2 b1 b2) : Calls Tryz.prog 7 #[.agg (smallX g2).toArray] W fun e w' => e = .returned (fltV 2 1 1 44) ∧ Two w w' g1 g2 b1 b2 := (check_any W W h.ise (Below.refl _ _)).mono fun e w' k => ⟨by rw [k.1, small_wrong]; rfl, h.below k.2⟩
theorem a_bare (h : Two w W g1 g2 b1 b2) : Calls Tryz.prog 7 #[.agg #[.string ⟨#[97]⟩, .int .i64 0, .slice none 0 0, .slice none 0 0, .slice none 0 0, .slice none 0 0, .slice none 0 0, .slice none 0 0]] W fun e w' => e = .returned (fltV 0 1 0 2) ∧ Two w w' g1 g2 b1 b2 := (check_any W W (bareD_is W) (Below.refl _ _)).mono fun e w' k => ⟨by rw [k.1, bare_wrong]; rfl, h.below k.2⟩
theorem a_same (h : Two w W g1 g2 b1 b2) : Calls Tryz.prog 13 #[.agg (smallX g1).toArray, .agg (smallX g1).toArray] W fun e w' => e = .returned (.bool true) ∧ Two w w' g1 g2 b1 b2 := (same_Language W W h.isd h.isd (Below.refl _ _)).mono fun e w' k => ⟨by rw [k.1]; simp, h.below k.2⟩
theorem a_other (h : Two w W g1 g2 b1 b2) : Calls Tryz.prog 13 #[.agg (smallX g1).toArray, .agg (smallX g2).toArray] W fun e w' => e = .returned (.bool false) ∧ Two w w' g1 g2 b1 b2 := (same_Language W W h.isd h.ise (Below.refl _ _)).mono fun e w' k => ⟨by rw [k.1, decide_eq_false (by decide +kernel)], h.below k.2⟩
theorem a_names (h : Two w W g1 g2 b1 b2) : Calls Tryz.prog 15 #[.agg (smallX g1).toArray] W fun e w' => (∃ a c, e = .returned (.slice a 2 c) ∧ SlR w' w'.heap.size 1 IsText (.slice a 2 c) [⟨#[78, 117, 109]⟩, ⟨#[83, 117, 109]⟩]) ∧ Two w w' g1 g2 b1 b2 := (names_any W W h.isd (Below.refl _ _)).mono fun e w' k => by
  obtain ⟨⟨a, c, k1, k2⟩, k3⟩ := k
  rw [small_names] at k1 k2
  exact ⟨⟨a, c, k1, k2.read (by omega)⟩, h.below k3⟩
theorem a_texts {v : Value} (hs : SlR W W.heap.size 1 IsText v [⟨#[78, 117, 109]⟩, ⟨#[83, 117, 109]⟩]) {g : Nat} (hg : g = W.heap.size) : Calls Tryz.prog 14 #[v, .slice (some ⟨g, 0, none⟩) 2 2] (W.alloc (.cells #[.string ⟨#[78, 117, 109]⟩, .string ⟨#[83, 117, 109]⟩] 9)) fun e w' => e = .returned (.bool true) ∧ Below W.heap.size W w' := by
  have hb : Below W.heap.size W (W.alloc (.cells #[.string ⟨#[78, 117, 109]⟩, .string ⟨#[83, 117, 109]⟩] 9)) := (Below.refl _ _).alloc (Nat.le_refl _) _
  have h2 : SlR (W.alloc (.cells #[.string ⟨#[78, 117, 109]⟩, .string ⟨#[83, 117, 109]⟩] 9)) (W.alloc (.cells #[.string ⟨#[78, 117, 109]⟩, .string ⟨#[83, 117, 109]⟩] 9)).heap.size 1 IsText (.slice (some ⟨g, 0, none⟩) 2 2) [⟨#[78, 117, 109]⟩, ⟨#[83, 117, 109]⟩] :=
    (Blk.own (n := 2) (size := 1) (l := [⟨#[78, 117, 109]⟩, ⟨#[83, 117, 109]⟩]) (xs := [.string ⟨#[78, 117, 109]⟩] ++ [.string ⟨#[83, 117, 109]⟩]) (R := IsText) (Blk.new_ hg 9 #[.string ⟨#[78, 117, 109]⟩, .string ⟨#[83, 117, 109]⟩]) rfl (by unfold maxLen; omega) ((FlatR.one rfl ⟨rfl, by show (3 : Nat) ≤ maxLen; unfold maxLen; omega⟩).app (FlatR.one rfl ⟨rfl, by show (3 : Nat) ≤ maxLen; unfold maxLen; omega⟩))).read (by omega)
  exact (ref_texts _ _ ((hs.below hb).more hb.size) h2 (Below.refl _ _)).mono fun e w' k => ⟨by rw [k.1]; simp, hb.trans ((k.2.below _).mono hb.size)⟩
end

set_option maxRecDepth 100000 in
set_option maxHeartbeats 8000000 in
theorem awake_any (w : World) : Calls Tryz.prog 5 #[] w fun e w' => e = .returned (.bool true) ∧ Below w.heap.size w w' := by
  go_enter Tryz.func5, Tryz.ntmps5
  try dsimp only [List.append]
  have tok0 : True := trivial
  have tok1 : True := trivial
  have tokA : True := trivial
  go_wp2_with (first
    | (go_at_call 12; have _t := tok0; refine (small_any w).mono ?_; rintro e w1 ⟨rfl, hS, hb⟩; have S1 := Lib.hid hS; have B1 := Lib.hid hb; clear hS hb tok0 _t)
    | (go_at_call 12; have _t := tok1; refine (small_any _).mono ?_; rintro e w2 ⟨rfl, hS, hb⟩; have B2 := Lib.hid hb; simp only [World.size_alloc] at hS; have S2 := Lib.hid hS; have q1 : w2.cell? ⟨w1.heap.size + 1 + 1 + 1 + 1 + 1, 10, none⟩ = some (.slice (some ⟨w1.heap.size + 1 + 1 + 1, 0, none⟩) 1 1) := hS.concepts.cell (i := 10) rfl; have q2 : w2.cell? ⟨w1.heap.size + 1 + 1 + 1, 3, none⟩ = some (.int .i64 0) := hS.kids.cell (i := 3) rfl; have q3 : w2.frozen? ⟨w1.heap.size + 1 + 1 + 1, 3, none⟩ = false := hS.kids.frozen 3; have lt1 := hS.kids.lt; have lt2 := hS.concepts.lt; have z1 := hb.size; simp only [World.size_alloc] at z1; have BD : Hid (Blk w2 w1.heap.size 29 #[.string ⟨#[97]⟩, .int .i64 1, .slice none 0 0, .slice (some ⟨w.heap.size + 1 + 1 + 1 + 1, 0, none⟩) 2 2, .slice none 0 0, .slice none 0 0, .slice none 0 0, .slice none 0 0]) := Lib.hid (Blk.below (Blk.new w1 29 #[.string ⟨#[97]⟩, .int .i64 1, .slice none 0 0, .slice (some ⟨w.heap.size + 1 + 1 + 1 + 1, 0, none⟩) 2 2, .slice none 0 0, .slice none 0 0, .slice none 0 0, .slice none 0 0]) hb (by simp)); have bd0 : w2.cell? ⟨w1.heap.size, 0, none⟩ = some (.string ⟨#[97]⟩) := BD.out.cell (i := 0) rfl; have bd1 : w2.cell? ⟨w1.heap.size, 1, none⟩ = some (.int .i64 1) := BD.out.cell (i := 1) rfl; have bd2 : w2.cell? ⟨w1.heap.size, 2, none⟩ = some (.slice none 0 0) := BD.out.cell (i := 2) rfl; have bd3 : w2.cell? ⟨w1.heap.size, 3, none⟩ = some (.slice (some ⟨w.heap.size + 1 + 1 + 1 + 1, 0, none⟩) 2 2) := BD.out.cell (i := 3) rfl; have bd4 : w2.cell? ⟨w1.heap.size, 4, none⟩ = some (.slice none 0 0) := BD.out.cell (i := 4) rfl; have bd5 : w2.cell? ⟨w1.heap.size, 5, none⟩ = some (.slice none 0 0) := BD.out.cell (i := 5) rfl; have bd6 : w2.cell? ⟨w1.heap.size, 6, none⟩ = some (.slice none 0 0) := BD.out.cell (i := 6) rfl; have bd7 : w2.cell? ⟨w1.heap.size, 7, none⟩ = some (.slice none 0 0) := BD.out.cell (i := 7) rfl; have ltd : w1.heap.size < w2.heap.size := BD.out.lt; clear hS hb tok1 _t)
    | fail)
  generalize hW3 : World.alloc (World.setCell w2 _ _) _ = W3
  have K1 : Hid (Two w W3 (w.heap.size + 1) (w1.heap.size + 1 + 1) w1.heap.size w2.heap.size) := Lib.hid (by
    have lt0 := S1.out.concepts.lt
    have l1 : Below w.heap.size w w2 := (B1.out.alloc B1.out.size (.cells #[.string ⟨#[97]⟩, .int .i64 1, .slice none 0 0, .slice (some ⟨w.heap.size + 1 + 1 + 1 + 1, 0, none⟩) 2 2, .slice none 0 0, .slice none 0 0, .slice none 0 0, .slice none 0 0] 29)).trans (B2.out.mono (by simp; exact Nat.le_succ_of_le B1.out.size))
    have l2 : Below w.heap.size w (w2.setCell ⟨w1.heap.size + 1 + 1 + 1, 3, none⟩ (.int .i64 2)) := l1.setCell (p := ⟨w1.heap.size + 1 + 1 + 1, 3, none⟩) (by show w.heap.size ≤ w1.heap.size + 1 + 1 + 1; have := B1.out.size; omega) _
    rw [← hW3]
    exact ⟨l2.alloc l2.size _, (((S1.out.alloc (.cells #[.string ⟨#[97]⟩, .int .i64 1, .slice none 0 0, .slice (some ⟨w.heap.size + 1 + 1 + 1 + 1, 0, none⟩) 2 2, .slice none 0 0, .slice none 0 0, .slice none 0 0, .slice none 0 0] 29)).below B2.out).set_far (by omega) _).alloc _, (S2.out.set_max).alloc _, (Blk.far (p := ⟨w1.heap.size + 1 + 1 + 1, 3, none⟩) BD.out (by show w1.heap.size ≠ w1.heap.size + 1 + 1 + 1; omega) _).alloc _, Blk.new_ (by simp [World.setCell]) _ _⟩)
  clear hW3 BD bd0 bd1 bd2 bd3 bd4 bd5 bd6 bd7 q1 q2 q3 lt1 lt2 ltd z1 S1 S2 B1 B2
  have tok2 : True := trivial
  have tok3 : True := trivial
  have tok4 : True := trivial
  have tok5 : True := trivial
  have tok6 : True := trivial
  have tok7 : True := trivial
  refine (a_right K1.out).mono ?_
  rintro e v1 ⟨rfl, hk⟩
  obtain ⟨d0, d1, d2, d3, d4, d5, d6, d7, e0, e1, e2, e3, e4, e5, e6, e7⟩ := hk.cells
  have K1' := Lib.hid hk
  clear hk K1
  have K1 := K1'
  clear K1'
  go_wp2_with (first
    | (go_at_call 7; have _t := tok2; refine (a_wrong K1.out).mono ?_; rintro e v2 ⟨rfl, hk⟩; clear d0 d1 d2 d3 d4 d5 d6 d7 e0 e1 e2 e3 e4 e5 e6 e7; obtain ⟨d0, d1, d2, d3, d4, d5, d6, d7, e0, e1, e2, e3, e4, e5, e6, e7⟩ := hk.cells; have K2 := Lib.hid hk; clear hk tok2 _t)
    | (go_at_call 7; have _t := tok3; refine (a_bare K2.out).mono ?_; rintro e v3 ⟨rfl, hk⟩; clear d0 d1 d2 d3 d4 d5 d6 d7 e0 e1 e2 e3 e4 e5 e6 e7; obtain ⟨d0, d1, d2, d3, d4, d5, d6, d7, e0, e1, e2, e3, e4, e5, e6, e7⟩ := hk.cells; have K3 := Lib.hid hk; clear hk tok3 _t)
    | (go_at_call 13; have _t := tok4; refine (a_same K3.out).mono ?_; rintro e v4 ⟨rfl, hk⟩; clear d0 d1 d2 d3 d4 d5 d6 d7 e0 e1 e2 e3 e4 e5 e6 e7; obtain ⟨d0, d1, d2, d3, d4, d5, d6, d7, e0, e1, e2, e3, e4, e5, e6, e7⟩ := hk.cells; have K4 := Lib.hid hk; clear hk tok4 _t)
    | (go_at_call 13; have _t := tok5; refine (a_other K4.out).mono ?_; rintro e v5 ⟨rfl, hk⟩; clear d0 d1 d2 d3 d4 d5 d6 d7 e0 e1 e2 e3 e4 e5 e6 e7; obtain ⟨d0, d1, d2, d3, d4, d5, d6, d7, e0, e1, e2, e3, e4, e5, e6, e7⟩ := hk.cells; have K5 := Lib.hid hk; clear hk tok5 _t)
    | (go_at_call 15; have _t := tok6; refine (a_names K5.out).mono ?_; rintro e v6 ⟨⟨na, nc, rfl, hS⟩, hk⟩; clear d0 d1 d2 d3 d4 d5 d6 d7 e0 e1 e2 e3 e4 e5 e6 e7; obtain ⟨d0, d1, d2, d3, d4, d5, d6, d7, e0, e1, e2, e3, e4, e5, e6, e7⟩ := hk.cells; have K6 := Lib.hid hk; have HS := Lib.hid hS; clear hS; clear hk tok6 _t)
    | (go_at_call 14; have _t := tok7; refine (a_texts HS.out rfl).mono ?_; rintro e v7 ⟨rfl, hb⟩; have L7 : Hid (Below w.heap.size w v7) := Lib.hid (K6.out.low.trans (hb.mono K6.out.low.size)); clear hb tok7 _t)
    | fail)
  go_ret
  exact ⟨rfl, L7.out⟩
end Go.Proofs.YtdhljfblkidohaaGreat
