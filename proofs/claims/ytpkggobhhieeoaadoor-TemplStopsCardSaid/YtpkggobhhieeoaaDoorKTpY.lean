/- - -/
import Derived.Test.YtpkggobhhieeoaaDoorKMBuild
set_option maxRecDepth 100000
set_option maxHeartbeats 32000000
set_option linter.unusedSimpArgs false
set_option linter.unusedVariables false
namespace Go.Proofs.YtpkggobhhieeoaaDoor
open Go.RowKit
structure BxT (w : World) (B : Nat) (v : Value) (at_ err : Int) : Prop where
  e : Blk w B 22 #[v]
  at_ : Blk w (B + 1) 3 #[.int .i64 at_]
  err : Blk w (B + 2) 23 #[.int .i64 err]
theorem BxT.below {w w' : World} {B : Nat} {v : Value} {a e : Int} (h : BxT w B v a e) {C : Nat} (hb : Below C w w') (hC : B + 2 < C) : BxT w' B v a e :=
  ⟨h.e.below hb (by omega), h.at_.below hb (by omega), h.err.below hb hC⟩
theorem BxT.new (w : World) : BxT (((w.alloc (.cells #[.slice none 0 0] 22)).alloc (.cells #[.int .i64 0] 3)).alloc (.cells #[.int .i64 0] 23)) w.heap.size (.slice none 0 0) 0 0 :=
  ⟨((Blk.new _ _ _).alloc _).alloc _, (Blk.new_ (by simp) _ _).alloc _, Blk.new_ (by simp) _ _⟩
theorem BxT.cells {w : World} {B : Nat} {v : Value} {a e : Int} (h : BxT w B v a e) : w.cell? ⟨B, 0, none⟩ = some v ∧ w.cell? ⟨B + 1, 0, none⟩ = some (.int .i64 a) ∧ w.cell? ⟨B + 2, 0, none⟩ = some (.int .i64 e) ∧ w.frozen? ⟨B, 0, none⟩ = false ∧ w.frozen? ⟨B + 1, 0, none⟩ = false ∧ w.frozen? ⟨B + 2, 0, none⟩ = false ∧ B + 2 < w.heap.size :=
  ⟨h.e.cell rfl, h.at_.cell rfl, h.err.cell rfl, h.e.frozen 0, h.at_.frozen 0, h.err.frozen 0, h.err.lt⟩
theorem BxT.set {w : World} {B : Nat} {v : Value} {a e : Int} (h : BxT w B v a e) (v' : Value) (a' e' : Int) : BxT (((w.setCell ⟨B, 0, none⟩ v').setCell ⟨B + 1, 0, none⟩ (.int .i64 a')).setCell ⟨B + 2, 0, none⟩ (.int .i64 e')) B v' a' e' ∧ Below B w (((w.setCell ⟨B, 0, none⟩ v').setCell ⟨B + 1, 0, none⟩ (.int .i64 a')).setCell ⟨B + 2, 0, none⟩ (.int .i64 e')) :=
  ⟨⟨by have := ((h.e.set_ 0 v').far (p := ⟨B + 1, 0, none⟩) (by show B ≠ B + 1; omega) (.int .i64 a')).far (p := ⟨B + 2, 0, none⟩) (by show B ≠ B + 2; omega) (.int .i64 e'); simpa using this,
    by have := ((h.at_.far (p := ⟨B, 0, none⟩) (by show B + 1 ≠ B; omega) v').set_ 0 (.int .i64 a')).far (p := ⟨B + 2, 0, none⟩) (by show B + 1 ≠ B + 2; omega) (.int .i64 e'); simpa using this,
    by have := ((h.err.far (p := ⟨B, 0, none⟩) (by show B + 2 ≠ B; omega) v').far (p := ⟨B + 1, 0, none⟩) (by show B + 2 ≠ B + 1; omega) (.int .i64 a')).set_ 0 (.int .i64 e'); simpa using this⟩,
   (((Below.refl B w).setCell (p := ⟨B, 0, none⟩) (Nat.le_refl B) _).setCell (p := ⟨B + 1, 0, none⟩) (Nat.le_succ B) _).setCell (p := ⟨B + 2, 0, none⟩) (by show B ≤ B + 2; omega) _⟩
theorem BxT.set2 {w : World} {B : Nat} {v : Value} {a e : Int} (h : BxT w B v a e) (a' e' : Int) : BxT ((w.setCell ⟨B + 1, 0, none⟩ (.int .i64 a')).setCell ⟨B + 2, 0, none⟩ (.int .i64 e')) B v a' e' ∧ Below B w ((w.setCell ⟨B + 1, 0, none⟩ (.int .i64 a')).setCell ⟨B + 2, 0, none⟩ (.int .i64 e')) :=
  ⟨⟨by have := (h.e.far (p := ⟨B + 1, 0, none⟩) (by show B ≠ B + 1; omega) (.int .i64 a')).far (p := ⟨B + 2, 0, none⟩) (by show B ≠ B + 2; omega) (.int .i64 e'); simpa using this,
    by have := (h.at_.set_ 0 (.int .i64 a')).far (p := ⟨B + 2, 0, none⟩) (by show B + 1 ≠ B + 2; omega) (.int .i64 e'); simpa using this,
    by have := (h.err.far (p := ⟨B + 1, 0, none⟩) (by show B + 2 ≠ B + 1; omega) (.int .i64 a')).set_ 0 (.int .i64 e'); simpa using this⟩,
   ((Below.refl B w).setCell (p := ⟨B + 1, 0, none⟩) (Nat.le_succ B) _).setCell (p := ⟨B + 2, 0, none⟩) (by show B ≤ B + 2; omega) _⟩
theorem catch_wrongT (B : Nat) (k er a0 e0 : Int) (older : List PanicEntry) (w : World) (v : Value) (hv : ∃ a n c, v = .slice a n c) (hb : BxT w B v a0 e0) :
    CallsD Tryd.prog 14 #[.pointer (some ⟨B, 0, none⟩), .pointer (some ⟨B + 1, 0, none⟩), .pointer (some ⟨B + 2, 0, none⟩)] (.panicking ({ v := .iface 39 (.agg #[.int .i64 k, .int .i64 er]), recovered := false } :: older)) w fun e u' w' =>
      e = .returned (.tuple #[]) ∧ u' = .panicking ({ v := .iface 39 (.agg #[.int .i64 k, .int .i64 er]), recovered := true } :: older) ∧ Below B w w' ∧ BxT w' B (.slice none 0 0) k er := by
  obtain ⟨q0, q1, q2, f0, f1, f2, lg⟩ := hb.cells
  have l0 : B < w.heap.size := by omega
  have l1 : B + 1 < w.heap.size := by omega
  have Hb := zH hb
  clear hb
  have has : ∀ (v : Value) (W : World), (Instr.typeAssert (.iface 39 v) 20 39 true).run Tryd.prog W = .ok (.tuple #[v, .bool true]) W := by intros; kernel_rfl
  refine callsD_of_wpS Tryd.func14 rfl fun c₀ cs hu => ?_
  simp only [Tryd.ntmps14, List.size_toArray, List.length_cons, List.length_nil, Nat.reduceAdd, Nat.reduceSub, Array.replicate_succ, Array.replicate_zero, List.push_toArray, List.append_toArray, List.nil_append, List.cons_append]
  apply wpS_seq
  apply wpS_region
  simp [wpOpsS, go_sem, recoverD, hu, Exit.thenS]
  refine wpS_of_wp ?_
  obtain ⟨va, vn, vc, rfl⟩ := hv
  go_wp2_with fail
  go_region
  all_goals
    have HK := Hb.out.set (.slice none 0 0) k er
    have h1 : Below B w ((((w.setCell ⟨B, 0, none⟩ (.slice none 0 0)).setCell ⟨B + 1, 0, none⟩ (.int .i64 k)).setCell ⟨B + 2, 0, none⟩ (.int .i64 er)).alloc (.cells #[.int .i64 k, .int .i64 er] 39)).drew := (HK.2.alloc (Nat.le_of_lt (Nat.lt_of_lt_of_le l0 HK.2.size)) _).drew
    have h2 : BxT ((((w.setCell ⟨B, 0, none⟩ (.slice none 0 0)).setCell ⟨B + 1, 0, none⟩ (.int .i64 k)).setCell ⟨B + 2, 0, none⟩ (.int .i64 er)).alloc (.cells #[.int .i64 k, .int .i64 er] 39)).drew B (.slice none 0 0) k er := HK.1.below (zB.alloc zL _).drew HK.1.err.lt
    have h3 := And.intro h1 h2
    clear h1 h2 HK
    generalize World.drew _ = wz at h3 ⊢
    clear q0 q1 q2 f0 f1 f2 lg l0 l1 Hb has
    obtain ⟨k1, k2, k3, k4, k5, k6, k7⟩ := c₀
    simp (config := { zetaDelta := true }) [bodyPostS, results, Tryd.results14]
    exact h3
theorem catch_idleT (a b c : Value) (w : World) :
    CallsD Tryd.prog 14 #[a, b, c] .returning w fun e u' w' => e = .returned (.tuple #[]) ∧ u' = .returning ∧ w' = w := by
  refine callsD_of_wpS Tryd.func14 rfl fun c₀ cs hu => ?_
  simp only [Tryd.ntmps14, List.size_toArray, List.length_cons, List.length_nil, Nat.reduceAdd, Nat.reduceSub, Array.replicate_succ, Array.replicate_zero, List.push_toArray, List.append_toArray, List.nil_append, List.cons_append]
  apply wpS_seq
  apply wpS_region
  simp [wpOpsS, go_sem, recoverD, hu, Exit.thenS]
  refine wpS_of_wp ?_
  go_wp2_with fail
  cases c₀
  simp_all [bodyPostS, results, Tryd.results14]
end Go.Proofs.YtpkggobhhieeoaaDoor
