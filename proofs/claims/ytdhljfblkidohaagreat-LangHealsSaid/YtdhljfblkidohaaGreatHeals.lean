/- A definition that may be, into which one element of another one is put behind a list, has a fault at that element, or none: 'topiarylaw04.LangHeals' returns true whatever the definitions and the numbers; no condition but the reach. -/
import Derived.Test.YtdhljfblkidohaaGreatAw4
import Derived.Test.YtdhljfblkidohaaGreatHl1
import Derived.Test.YtdhljfblkidohaaGreatHl2
import Derived.Test.YtdhljfblkidohaaGreatHl3
import Derived.Test.YtdhljfblkidohaaGreatHl4
import Derived.Test.YtdhljfblkidohaaGreatHl5
import Derived.Test.YtdhljfblkidohaaGreatHl6
import Derived.Test.YtdhljfblkidohaaGreatOpen
import Derived.Test.YtdhljfblkidohaaGreatRows
import Derived.ProofKit
import Derived.OpenShut
import Derived.ShutString
import Derived.ChangeOld
namespace Go.Proofs.YtdhljfblkidohaaGreat
set_option linter.unusedSimpArgs false
set_option linter.unusedVariables false
open Go.RowKit

theorem lawH_walk {x y : List Value} {a b : Language} (which at_ : Int) (w : World) (hx : Language.Is w w.heap.size x a) (hy : Language.Is w w.heap.size y b) :
    Calls Tryz.prog 4 #[.agg x.toArray, .agg y.toArray, .int .i64 which, .int .i64 at_] w fun e w' => e = .returned (.bool true) ∧ Below w.heap.size w w' := by
  have h := restN_lt which (n := 6) (by omega)
  have HA := fun W => awake_any W
  rcases (by omega : restN which 6 = 0 ∨ restN which 6 = 1 ∨ restN which 6 = 2 ∨ restN which 6 = 3 ∨ restN which 6 = 4 ∨ restN which 6 = 5) with h | h | h | h | h | h
  · exact heals_1 which at_ w hx hy h HA
  · exact heals_2 which at_ w hx hy h HA
  · exact heals_3 which at_ w hx hy h HA
  · exact heals_4 which at_ w hx hy h HA
  · exact heals_5 which at_ w hx hy h HA
  · exact heals_6 which at_ w hx hy h HA

open Go.ChangeShapes Go.WideShapes Go.ChangeAt

theorem own : ownKnob Tryz.prog.godebug = none := by kernel_rfl
theorem laidOut : laidOutB Tryz.prog = true := by kernel_rfl

set_option maxRecDepth 100000 in
theorem lifted (os : Os) (started : os.Started) (H : Type) (enc : TypeId × Value → H) :
    ReturnsInHanded {} Tryz.checked os 4 .any (Rows.langHealsSpec.pre6 enc Tryz.prog Tryz.f4 Rows.langHealsRow.domain false) (Rows.langHealsSpec.post enc Tryz.prog Tryz.f4 false true false false) := by
  refine returnsInHanded_of_change_sized (C := Tryz.checked) own started (by kernel_rfl) Tryz.func4
    (ChangeSpec.witness6 (enc := enc) (C := Tryz.checked) false ⟨#[], #[.agg #[.string ⟨#[]⟩, .int .i64 0, .slice none 0 0, .slice none 0 0, .slice none 0 0, .slice none 0 0, .slice none 0 0, .slice none 0 0], .agg #[.string ⟨#[]⟩, .int .i64 0, .slice none 0 0, .slice none 0 0, .slice none 0 0, .slice none 0 0, .slice none 0 0, .slice none 0 0], .int .i64 0, .int .i64 0], []⟩ 8 (by kernel_rfl) (by kernel_rfl) (by kernel_rfl) (by kernel_rfl)) ?_
  intro W base args ds gs before hval0 hW hcnd hwt _
  have hval : ∀ (j : Nat) t v, Tryz.f4.params[j]? = some t → args[j]? = some v → Value.okWide Tryz.prog W .any base t v := hval0
  have hW' := hW
  obtain ⟨p, q, hA0, hV, rfl, hfz, hnd⟩ := hW
  have hA : DataW.TrodAll enc Tryz.prog W 0 (fun _ => true) true Tryz.f4.params.toList args.toList ds p := hA0
  rw [Tryz.params4] at hA hval hwt
  obtain ⟨v0, vs0, d0, ds0, p0, q0, hargs, rfl, rfl, h0, r0⟩ := trodAll_cons hA
  obtain ⟨v1, vs1, d1, ds1, p1, q1, rfl, rfl, rfl, h1, r1⟩ := trodAll_cons r0
  obtain ⟨v2, vs2, d2, ds2, p2, q2, rfl, rfl, rfl, h2, r2⟩ := trodAll_cons r1
  obtain ⟨v3, vs3, d3, ds3, p3, q3, rfl, rfl, rfl, h3, r3⟩ := trodAll_cons r2
  obtain ⟨rfl, rfl, rfl⟩ := trodAll_nil r3
  obtain rfl : args = #[v0, v1, v2, v3] := by cases args; simp_all
  obtain ⟨rfl, rfl⟩ := trodVars_none hV
  obtain ⟨x0, rfl, _⟩ := okWide_struct Tryz.underlying29 (hval 0 29 v0 rfl rfl)
  obtain ⟨x1, rfl, _⟩ := okWide_struct Tryz.underlying29 (hval 1 29 v1 rfl rfl)
  obtain ⟨s2, rfl⟩ := okWide_int Tryz.underlying3 (hval 2 3 v2 rfl rfl)
  obtain ⟨s3, rfl⟩ := okWide_int Tryz.underlying3 (hval 3 3 v3 rfl rfl)
  have k0 := h0
  have lt0 : ∀ x ∈ p0, x.block < W.heap.size := by obtain ⟨m, hm⟩ := k0; exact DataW.trod_lt m _ _ _ hm
  have k1 := h1
  have lt1 : ∀ x ∈ p1, x.block < W.heap.size := by obtain ⟨m, hm⟩ := k1; exact DataW.trod_lt m _ _ _ hm
  have k2 := h2
  have lt2 : ∀ x ∈ p2, x.block < W.heap.size := by obtain ⟨m, hm⟩ := k2; exact DataW.trod_lt m _ _ _ hm
  have k3 := h3
  have lt3 : ∀ x ∈ p3, x.block < W.heap.size := by obtain ⟨m, hm⟩ := k3; exact DataW.trod_lt m _ _ _ hm
  have L0 : Light Tryz.prog 29 d0 := fun n hn => by simpa using List.all_eq_true.1 hwt n (DataW.weights_mem_each (j := 0) rfl rfl n hn)
  obtain ⟨l0, X0⟩ : ∃ l, Language.Is W W.heap.size x0.toList l := by
    obtain ⟨fuel, hf⟩ := h0
    exact open_Language hf L0
  have L1 : Light Tryz.prog 29 d1 := fun n hn => by simpa using List.all_eq_true.1 hwt n (DataW.weights_mem_each (j := 1) rfl rfl n hn)
  obtain ⟨l1, X1⟩ : ∃ l, Language.Is W W.heap.size x1.toList l := by
    obtain ⟨fuel, hf⟩ := h1
    exact open_Language hf L1
  have B2 : (Lit.int .i64 s2).wf = true := by
    obtain ⟨fuel, hf⟩ := h2
    obtain ⟨s, e, _, b⟩ := DataW.trod_int Tryz.underlying3 hf
    simp [Value.cells] at e
    subst e
    exact b
  have B3 : (Lit.int .i64 s3).wf = true := by
    obtain ⟨fuel, hf⟩ := h3
    obtain ⟨s, e, _, b⟩ := DataW.trod_int Tryz.underlying3 hf
    simp [Value.cells] at e
    subst e
    exact b
  clear hA0 hval0
  have hwalk := lawH_walk s2 s3 W X0 X1
  rw [Array.toArray_toList, Array.toArray_toList] at hwalk
  refine hwalk.mono fun e W' ⟨he, bel⟩ => ?_
  subst he
  exact ⟨_, rfl, _, _, _, [], _, [], hW', trodAll_mk1 (shut_bool Tryz.underlying4 _), (trodAll_cons_mk (Below.trod laidOut (by kernel_rfl) (of_decide_eq_true (by kernel_rfl)) k0 bel lt0) (trodAll_cons_mk (Below.trod laidOut (by kernel_rfl) (of_decide_eq_true (by kernel_rfl)) k1 bel lt1) (trodAll_cons_mk (Below.trod laidOut (by kernel_rfl) (of_decide_eq_true (by kernel_rfl)) k2 bel lt2) (trodAll_cons_mk (Below.trod laidOut (by kernel_rfl) (of_decide_eq_true (by kernel_rfl)) k3 bel lt3) trodAll_mk0)))), rfl, bel.frame _, fun h => by cases h⟩

theorem over : Rows.langHealsRow.holds Tryz.pinned (OpenSpec.ofChange Rows.langHealsSpec) :=
  OpenClaim.holds_of_wide 4 Tryz.f4 rfl rfl rfl rfl rfl rfl rfl ⟨rfl, rfl, rfl, rfl, rfl⟩ rfl rfl rfl rfl rfl (by kernel_rfl) Tryz.func4 (by kernel_rfl)
    (of_decide_eq_true (by kernel_rfl)) (by unfold Func.isWrapper; first | (rw [if_pos (by decide +kernel)]; kernel_rfl) | (rw [if_neg (by decide +kernel)]; exact ⟨rfl, rfl⟩))
    (fun os started H enc _ => lifted os started H enc)

theorem langHeals_holds : Rows.LangHealsSaid := over
#print axioms langHeals_holds
end Go.Proofs.YtdhljfblkidohaaGreat
