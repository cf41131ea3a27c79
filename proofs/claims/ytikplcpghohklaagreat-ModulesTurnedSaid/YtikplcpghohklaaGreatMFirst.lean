/- modules: the first step's fault, whatever the steps are. -/
import Derived.Test.YtikplcpghohklaaGreatMUsed
namespace Go.Proofs.YtikplcpghohklaaGreat
set_option linter.unusedSimpArgs false
set_option linter.unusedVariables false
open Go.RowKit

theorem blk_set_same {w : World} {g : Nat} {t : TypeId} {cs : Array Value} (h : Blk w g t cs) {W' : World} (e : W'.heap[g]? = w.heap[g]?) : Blk W' g t cs := e.trans h
set_option maxRecDepth 100000 in
set_option maxHeartbeats 8000000 in
theorem m_first {fs : List FuncId} {rs : List (Option Flt)} (vp : Value) (sb : Nat) (w : World) (I : Nat → World → Prop) (J : World → Prop) (hl : fs.length = 4) (hrl : rs.length = 4)
    (hcells : ∀ (k : Nat) (g : FuncId) (W : World), fs[k]? = some g → I k W → W.cell? ⟨sb, k, none⟩ = some (.func (.func g) #[vp] #[]))
    (hcall : ∀ g ∈ fs, ∀ args W, (callFunc g args).run Tryz.prog W = .ok (.enter g args) W)
    (hne : ∀ f, some f ∈ rs → f.err ≠ 0)
    (hstep : ∀ (k : Nat) (g : FuncId) (r : Option Flt) (W : World), fs[k]? = some g → rs[k]? = some r → I k W → w.heap.size < W.heap.size →
      Calls Tryz.prog g #[vp] W fun e W' => e = .returned (fltO r) ∧ (r = none → I (k + 1) W') ∧ (r ≠ none → J W') ∧ W'.heap[w.heap.size]? = W.heap[w.heap.size]?)
    (hIa : ∀ (k : Nat) (W : World) (o : Obj), I k W → I k (W.alloc o)) (hIs : ∀ (k j : Nat) (W : World) (u : Value), I k W → I k (W.setCell ⟨w.heap.size, j, none⟩ u))
    (hJa : ∀ (W : World) (o : Obj), J W → J (W.alloc o)) (hJs : ∀ (j : Nat) (W : World) (u : Value), J W → J (W.setCell ⟨w.heap.size, j, none⟩ u))
    (h0 : I 0 w) :
    Calls Tryz.prog 57 #[.slice (some ⟨sb, 0, none⟩) 4 4] w fun e w' => e = .returned (fltO (firstF (fun _ r => r) 0 rs)) ∧ (firstF (fun _ r => r) 0 rs = none → I 4 w') ∧ (firstF (fun _ r => r) 0 rs ≠ none → J w') := by
  have Hl := Lib.hid hl
  have Hrl := Lib.hid hrl
  have Hcells := Lib.hid hcells
  have Hcall := Lib.hid hcall
  have Hne := Lib.hid hne
  have Hstep := Lib.hid hstep
  have HIa := Lib.hid hIa
  have HIs := Lib.hid hIs
  have HJa := Lib.hid hJa
  have HJs := Lib.hid hJs
  have HI0 := Lib.hid (hIa 0 w (.cells #[.int .i64 0, .int .i64 0, .int .i64 0, .int .i64 0] 28) h0)
  have HB0 : Hid (Blk (w.alloc (.cells #[.int .i64 0, .int .i64 0, .int .i64 0, .int .i64 0] 28)) w.heap.size 28 #[.int .i64 0, .int .i64 0, .int .i64 0, .int .i64 0]) := Lib.hid (Blk.new w _ _)
  clear hl hrl hcells hcall hne hstep hIa hIs hJa hJs h0
  go_enter Tryz.func57, Tryz.ntmps57
  go_wp2_with fail
  go_loopw [4, 5, 8] (fun _ _ j wr => ∃ k : Nat, k ≤ 4 ∧ j = .int .i64 (k : Int) ∧ Hid (I k wr) ∧ Hid (Blk wr w.heap.size 28 #[.int .i64 0, .int .i64 0, .int .i64 0, .int .i64 0]) ∧ Hid (firstF (fun _ r => r) 0 rs = firstF (fun _ r => r) k (rs.drop k))) (fun _ _ j _ => 4 - (intOf j).toNat)
  case atStart => exact ⟨0, Nat.zero_le _, rfl, HI0, HB0, Lib.hid (by rw [List.drop_zero])⟩
  case round =>
    obtain ⟨k, hk, rfl, hI, hB, hf⟩ := hrel
    have lw : w.heap.size < wr.heap.size := hB.out.lt
    by_cases hlt : k < 4
    · obtain ⟨g, hg⟩ := get_some Hl.out hlt
      obtain ⟨r, hr⟩ := get_some Hrl.out hlt
      have hc0 := Hcells.out k g wr hg hI.out
      have hcl := Hcall.out g (List.mem_iff_getElem?.2 ⟨k, hg⟩)
      have HC := Lib.hid (Hstep.out k g r wr hg hr hI.out lw)
      have hst := firstF_step (f := fun _ (r : Option Flt) => r) hr
      rw [← hf.out] at hst
      have Hst := Lib.hid hst
      have Hr := Lib.hid (show r ∈ rs from List.mem_iff_getElem?.2 ⟨k, hr⟩)
      have HB := hB
      clear hg hr hI hst hf hB
      rcases r with _ | ⟨fl, fa, fp, fe⟩
      · have HG : Hid (firstF (fun _ (r : Option Flt) => r) 0 rs = firstF (fun _ r => r) (k + 1) (rs.drop (k + 1))) := Lib.hid Hst.out
        go_wp2_with (refine HC.out.mono ?_; rintro e w1 ⟨rfl, h1, _, h2⟩; have I1 : Hid (I (k + 1) w1) := Lib.hid (h1 rfl); have B1 := Lib.hid (HB.out.keep h2); clear h1 h2; simp only [fltO, fltV])
        go_roundw
        case rel => exact ⟨k + 1, by omega, by go_num, Lib.hid (HIa.out _ _ _ I1.out), Lib.hid (B1.out.alloc _), HG⟩
        case measure => simp [intOf]; omega
      · have HF9 : Hid (firstF (fun _ (r : Option Flt) => r) 0 rs = some ⟨fl, fa, fp, fe⟩) := Lib.hid Hst.out
        have hne := Hne.out _ Hr.out
        have ne1 : ¬ (fe : Int) = 0 := by simpa using hne
        have ne2 : ((fe : Int) != 0) = true := by simpa using ne1
        clear hne
        go_wp2_with (refine HC.out.mono ?_; rintro e w1 ⟨rfl, _, h1, h2⟩; have J1 : Hid (J w1) := Lib.hid (h1 (by simp)); have B1 := Lib.hid (HB.out.keep h2); clear h1 h2; simp only [fltO, fltR, fltV]; have z0 : w1.cell? ⟨w.heap.size, 0, none⟩ = some (.int .i64 0) := B1.out.cell rfl; have z1 : w1.cell? ⟨w.heap.size, 1, none⟩ = some (.int .i64 0) := B1.out.cell rfl; have z2 : w1.cell? ⟨w.heap.size, 2, none⟩ = some (.int .i64 0) := B1.out.cell rfl; have z3 : w1.cell? ⟨w.heap.size, 3, none⟩ = some (.int .i64 0) := B1.out.cell rfl; have f0 := B1.out.frozen 0; have f1 := B1.out.frozen 1; have f2 := B1.out.frozen 2; have f3 := B1.out.frozen 3; have lw1 := B1.out.lt)
        refine bodyPost_ret (v := .agg #[.int .i64 (fl), .int .i64 (fa), .int .i64 (fp), .int .i64 (fe)]) (by simp [results, Tryz.results57, go_sem, z0, z1, z2, z3, lw1]) rfl ?_
        rw [HF9.out]
        exact ⟨rfl, fun h => (by cases h), fun _ => HJa.out _ _ (HJs.out _ _ _ (HJs.out _ _ _ (HJs.out _ _ _ (HJs.out _ _ _ J1.out))))⟩
    · obtain rfl : k = 4 := by omega
      have HF9 : Hid (firstF (fun _ (r : Option Flt) => r) 0 rs = none) := by
        show _ = _
        rw [hf.out]
        exact firstF_end (by rw [Hrl.out]; exact Nat.le_refl _)
      have HI := hI
      have HB := hB
      clear hI hB hf hlt
      have z0 : wr.cell? ⟨w.heap.size, 0, none⟩ = some (.int .i64 0) := HB.out.cell rfl; have z1 : wr.cell? ⟨w.heap.size, 1, none⟩ = some (.int .i64 0) := HB.out.cell rfl; have z2 : wr.cell? ⟨w.heap.size, 2, none⟩ = some (.int .i64 0) := HB.out.cell rfl; have z3 : wr.cell? ⟨w.heap.size, 3, none⟩ = some (.int .i64 0) := HB.out.cell rfl; have f0 := HB.out.frozen 0; have f1 := HB.out.frozen 1; have f2 := HB.out.frozen 2; have f3 := HB.out.frozen 3
      go_wp2_with fail
      refine bodyPost_ret (v := .agg #[.int .i64 (0), .int .i64 (0), .int .i64 (0), .int .i64 (0)]) (by simp [results, Tryz.results57, go_sem, z0, z1, z2, z3]) rfl ?_
      rw [HF9.out]
      exact ⟨rfl, fun _ => HIs.out _ _ _ _ (HIs.out _ _ _ _ (HIs.out _ _ _ _ (HIs.out _ _ _ _ HI.out))), fun h => absurd rfl h⟩
end Go.Proofs.YtikplcpghohklaaGreat
