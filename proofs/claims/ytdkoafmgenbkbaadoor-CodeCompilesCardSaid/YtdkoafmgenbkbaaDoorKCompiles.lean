/- Taken over out of another chapter (its text Compiles): what is needed here. -/
import Derived.Test.YtdkoafmgenbkbaaDoorProg
import Derived.Test.YtdkoafmgenbkbaaDoorShelf
import Derived.Test.YtdkoafmgenbkbaaDoorCards
import Derived.Test.YtdkoafmgenbkbaaDoorTie
import Derived.Test.YtdkoafmgenbkbaaDoorKM1
import Derived.Test.YtdkoafmgenbkbaaDoorKM2
import Derived.Test.YtdkoafmgenbkbaaDoorKM3
import Derived.Test.YtdkoafmgenbkbaaDoorKM4
import Derived.Test.YtdkoafmgenbkbaaDoorKCrI
import Derived.Test.YtdkoafmgenbkbaaDoorKEOpenE
import Derived.Below
import Derived.BigQuiet
import Derived.BigRegion
import Derived.ChangeOld
import Derived.Deep.AppendLies
import Derived.Deep.CutBlock
import Derived.Deep.CutRange
import Derived.Deep.DeepHandedRow
import Derived.Deep.Draws
import Derived.Deep.Fields
import Derived.Deep.LoopGhost
import Derived.Deep.QuietTactic
import Derived.Deep.RegionHeld2
import Derived.Deep.RegionHeld3
import Derived.Deep.RegionLaw
import Derived.Deep.Slices
import Derived.Deep.Strs
import Derived.Defers
import Derived.IntWalk
import Derived.JoinedCond
import Derived.Laws.BytesString
import Derived.Laws.Cover1
import Derived.Laws.EntriesVeiled
import Derived.Laws.IdiomStrings
import Derived.Laws.MakeOwn
import Derived.Laws.OwnMore
import Derived.Laws.Pointers
import Derived.Laws.Rows
import Derived.Lib.AppendStr
import Derived.Lib.Builder
import Derived.Lib.CutLaws
import Derived.Lib.FrozenHead
import Derived.Lib.Hide
import Derived.Lib.ItoaNum
import Derived.Lib.LaidTab
import Derived.Lib.ParseIntB
import Derived.Lib.SliceRun
import Derived.Lib.SlicesS
import Derived.Maps.AppendAt
import Derived.OpenShut
import Derived.Orders
import Derived.Outline
import Derived.OwnWalk
import Derived.ProofKit
import Derived.Recover
import Derived.RegionTactic
import Derived.ShutString
import Derived.SizedLaws
import Derived.StillTailTactics
import Derived.Stop.LaidErr
import Derived.Tactics
import Derived.Tactics2
import Derived.WalkKit
import Derived.WalkMore
import Derived.WalkSmall
import Derived.WalkSpells
namespace Go.Proofs.YtdkoafmgenbkbaaDoor
set_option linter.unusedSimpArgs false
set_option linter.unusedVariables false
open Go.RowKit Go.ChangeShapes Go.WideShapes Go.ChangeAt
theorem codeCompiles_reads (os : Os) {H : Type} (enc : TypeId × Value → H) : ∃ places, DataW.whole enc Tryd.prog ((laidWorldM os).forCall (fun _ _ => 0) ⟨#[], #[.agg #[.slice none 0 0]], []⟩).memory Tryd.f4.params.toList Rows.codeCompilesSpec.vars false #[Value.agg #[.slice none 0 0]].toList 8 = some ([.agg [.nil]], [], places) :=
  ⟨[], by kernel_rfl⟩
set_option maxRecDepth 100000 in
theorem codeCompiles_lifted (os : Os) (started : os.Started) (H : Type) (enc : TypeId × Value → H) (F : Stop.Interp) :
    ReturnsInHanded {} Tryd.checked os 4 .any ((OpenSpec.ofChange Rows.codeCompilesSpec).preRow enc Tryd.prog Tryd.f4 Rows.codeCompilesRow.domain false Rows.codeCompilesRow.laid) (((OpenSpec.ofChange Rows.codeCompilesSpec).at F).post enc Tryd.prog Tryd.f4 false true false false) := by
  obtain ⟨places, hx⟩ := codeCompiles_reads os enc
  refine returnsInHanded_of_row (C := Tryd.checked) (s := (OpenSpec.ofChange Rows.codeCompilesSpec)) own started (by kernel_rfl) Tryd.func4
    (witness_row_at (enc := enc) (C := Tryd.checked) false (laidWorldM os) #[.agg #[.slice none 0 0]] rfl (by kernel_rfl) (by kernel_rfl) (by kernel_rfl)
      (OpenSpec.preRow_of_cond 8 hx (by kernel_rfl) (fun k hk => by cases hk) (by kernel_rfl) (laid_metM os _))) ?_
  intro W base args ds gs before hval0 hW _ hcond hsz0 hL _ _
  have hvars := varsM hL
  have hval : ∀ (j : Nat) t v, Tryd.f4.params[j]? = some t → args[j]? = some v → Value.okWide Tryd.prog W .any base t v := hval0
  have hW' := hW
  obtain ⟨p, q, hA0, hV, rfl, hfz, hnd⟩ := hW
  have hA : DataW.TrodAll enc Tryd.prog W 0 (fun _ => true) true Tryd.f4.params.toList args.toList ds p := hA0
  have hsz : (DataW.weightsEach Tryd.prog (Tryd.f4.params.toList ++ (OpenSpec.ofChange Rows.codeCompilesSpec).bare.plain.varTypes Tryd.prog) (ds ++ gs)).all (· ≤ reachBytes) = true := hsz0
  rw [Tryd.params4] at hA hval hsz
  obtain ⟨v0, vs0, d0, ds0, p0, q0, hargs, rfl, rfl, h0, r0⟩ := trodAll_cons hA
  obtain ⟨rfl, rfl, rfl⟩ := trodAll_nil r0
  obtain rfl : args = #[v0] := by cases args; simp_all
  obtain ⟨rfl, rfl⟩ := trodVars_none hV
  obtain ⟨x0, rfl, _⟩ := okWide_struct Tryd.underlying38 (hval 0 38 v0 rfl rfl)
  have k0 := h0
  have lt0 : ∀ x ∈ p0, x.block < W.heap.size := by obtain ⟨m, hm⟩ := k0; exact DataW.trod_lt m _ _ _ hm
  obtain ⟨f0, h0⟩ := h0
  have L0 : Light Tryd.prog 38 d0 := fun n hn => by simpa using List.all_eq_true.1 hsz n (DataW.weights_mem_each (j := 0) rfl rfl n hn)
  obtain ⟨u0, l0, e0, w0, ok0, fit0, kid0⟩ := open_Expr h0 L0
  obtain rfl : x0 = #[u0] := by
    apply Array.toList_inj.1
    exact e0
  clear hA0 hval0
  refine (lawCp W w0 ok0 fit0 kid0 hvars.1 hvars.2).mono fun e W' ⟨he, bel⟩ => ?_
  subst he
  exact ⟨_, rfl, _, _, _, [], _, [], hW', trodAll_mk1 (shut_bool Tryd.underlying4 _), (trodAll_cons_mk (Below.trod laidOut (by kernel_rfl) (of_decide_eq_true (by kernel_rfl)) k0 bel lt0) trodAll_mk0), rfl, bel.frame _, fun h => by cases h⟩
theorem codeCompiles_said : Rows.CodeCompilesSaid :=
  OpenClaim.holds_of_cond 4 Tryd.f4 rfl rfl rfl rfl rfl rfl rfl ⟨rfl, rfl, rfl, rfl, rfl⟩ rfl rfl rfl rfl rfl (by kernel_rfl) Tryd.func4 (by kernel_rfl)
    (of_decide_eq_true (by kernel_rfl)) (by unfold Func.isWrapper; first | (rw [if_pos (by decide +kernel)]; kernel_rfl) | (rw [if_neg (by decide +kernel)]; exact ⟨rfl, rfl⟩))
    (fun os started H enc _ F => by rw [OpenClaim.pre_eq_preRow]; exact codeCompiles_lifted os started H enc F)
theorem codeCompiles_plain (f : FuncId) (fn : Func) (hf : Tryd.pinned.checked.prog.funcNamed "topiary/topiarylaw11.CodeCompiles" = some f) (hfn : Tryd.pinned.checked.prog.funcs[f]? = some fn) :
    true = Tryd.pinned.checked.prog.looks [] ∧ ∀ (j : Nat) t, fn.params[j]? = some t → Tryd.pinned.checked.prog.wantsStandIn t = false := by
  obtain rfl : f = 4 := Option.some.inj ((show Tryd.prog.funcNamed "topiary/topiarylaw11.CodeCompiles" = some 4 by kernel_rfl).symm.trans hf) |>.symm
  obtain rfl : fn = Tryd.f4 := (Option.some.inj (Tryd.func4.symm.trans hfn)).symm
  refine ⟨by kernel_rfl, fun j t ht => ?_⟩
  rw [Tryd.params4] at ht
  have hm := Array.mem_of_getElem? ht
  have hall : (#[38] : Array TypeId).all (fun t => !Tryd.prog.wantsStandIn t) = true := by kernel_rfl
  have := Array.all_eq_true'.1 hall t hm
  have h2 : Tryd.prog.wantsStandIn t = false := by simpa using this
  exact h2
theorem codeCompiles_card : Rows.CodeCompilesCardSaid :=
  Claim7.holds_tied_plain_at .later [] _ _ _ _ codeCompiles_said (fun _ h => by cases h) (by kernel_rfl) (fun _ h => by cases h) codeCompiles_row_tie rfl ⟨rfl, rfl⟩ (by kernel_rfl) rfl codeCompiles_plain (by kernel_rfl)
#print axioms codeCompiles_card
end Go.Proofs.YtdkoafmgenbkbaaDoor
