/- modules: the four steps of 'order', one behind the other: what holds between them. -/
import Derived.Test.YtikplcpghohklaaGreatMFirst
namespace Go.Proofs.YtikplcpghohklaaGreat
set_option linter.unusedSimpArgs false
set_option linter.unusedVariables false
open Go.RowKit

abbrev Z4 : Array Value := #[.int .i64 0, .int .i64 0, .int .i64 0, .int .i64 0]
abbrev stepV (g : FuncId) (p : Nat) : Value := .func (.func g) #[.pointer (some ⟨p, 0, none⟩)] #[]
/-- the four steps -/
def stepFs : List FuncId := [58, 59, 60, 61]
noncomputable def stepRs (ls : List Language) : List (Option Flt) := [aloneN ls, firstF (namedF ls) 0 ls, firstF (usedF ls) 0 ls, firstF (ringF ls) 0 ls]
theorem stepRs_fault (ls : List Language) : firstF (fun _ (r : Option Flt) => r) 0 (stepRs ls) = faultN ls := by
  unfold stepRs faultN aloneN
  simp only [firstF]
  by_cases h : 128 < ls.length
  · rw [if_pos h, if_pos h]
  · rw [if_neg h, if_neg h]
    cases firstF aloneF 0 ls with
    | some f => rfl
    | none =>
      simp only
      cases firstF (namedF ls) 0 ls with
      | some f => rfl
      | none =>
        simp only
        cases firstF (usedF ls) 0 ls with
        | some f => rfl
        | none =>
          simp only
          cases firstF (ringF ls) 0 ls <;> rfl
theorem firstF_err {α : Type} {g : Nat → α → Option Flt} (hg : ∀ k x f, g k x = some f → f.err ≠ 0) : ∀ (l : List α) (k : Nat) (f : Flt), firstF g k l = some f → f.err ≠ 0 := by
  intro l
  induction l with
  | nil => intro k f h; cases h
  | cons x t ih =>
    intro k f h
    simp only [firstF] at h
    split at h
    · rename_i r hr
      injection h with h
      subst h
      exact hg _ _ _ hr
    · exact ih _ _ h
theorem stepRs_err (ls : List Language) (f : Flt) (h : some f ∈ stepRs ls) : f.err ≠ 0 := by
  unfold stepRs at h
  simp only [List.mem_cons, List.not_mem_nil, or_false] at h
  rcases h with h | h | h | h
  · unfold aloneN at h
    split at h
    · injection h with h; subst h; simp
    · exact firstF_err (fun k x f hf => by unfold aloneF at hf; split at hf; cases hf; rename_i he; injection hf with hf; subst hf; exact he) _ _ _ h.symm
  · exact firstF_err (fun k x f hf => by unfold namedF at hf; split at hf; (injection hf with hf; subst hf; simp); cases hf) _ _ _ h.symm
  · exact firstF_err (fun k x f hf => firstF_err (g := usedG ls k) (fun i s f hf => by unfold usedG at hf; split at hf; (injection hf with hf; subst hf; simp); cases hf) _ _ _ hf) _ _ _ h.symm
  · exact firstF_err (fun k x f hf => firstF_err (g := ringG ls k) (fun i s f hf => by unfold ringG at hf; split at hf; (injection hf with hf; subst hf; simp); cases hf) _ _ _ hf) _ _ _ h.symm

/-- what is there behind k of the steps: N: the first block of 'order''s own -/
structure StepI (wo : World) (v : Value) (ls : List Language) (k : Nat) (W : World) : Prop where
  low : Below wo.heap.size wo W
  zb : Blk W wo.heap.size 28 Z4
  wb : Blk W (wo.heap.size + 3) 79 #[v, .map (some (wo.heap.size + 1)), .map (some (wo.heap.size + 2))]
  sb : Blk W (wo.heap.size + 4) 139 (stepFs.map fun g => stepV g (wo.heap.size + 3)).toArray
  m0 : k < 2 → W.ownsMap Tryz.prog 9 (plainElem (H := Unit) Tryz.prog 3) (wo.heap.size + 1) 0 (.map [])
  m1 : 2 ≤ k → AtM W (wo.heap.size + 1) ls.length ls
  u0 : k < 3 → ∃ B0, W.ownsGroups Tryz.prog 3 B0 3 .i64 (wo.heap.size + 2) 0 (.map [] : DataW Unit)
  u1 : 3 ≤ k → ∃ B un, wo.heap.size + 5 < B ∧ un ≤ 1024 ∧ UseM W B (wo.heap.size + 2) un (fun j => ((webN ls)[j]?).getD [])
  d0 : 1 ≤ k → aloneN ls = none
  d2 : 3 ≤ k → firstF (usedF ls) 0 ls = none
theorem StepI.kept {wo W W' : World} {v : Value} {ls : List Language} {k : Nat} {row : Option Nat} (h : StepI wo v ls k W) (hg : W.grownBy W' row) (hr : ∀ j, row = some j → j = wo.heap.size + 5) : StepI wo v ls k W' := by
  have hne : ∀ q, q < wo.heap.size + 5 → some q ≠ row := fun q hq e => by have := hr q e.symm; omega
  have hlw := h.low.size
  refine ⟨h.low.grown hg h.low.size (fun j hj => by have := hr j hj; omega), h.zb.grown hg (hne _ (by omega)), h.wb.grown hg (hne _ (by omega)), h.sb.grown hg (hne _ (by omega)),
    fun hk => (h.m0 hk).kept hg (hne _ (by omega)), fun hk => (h.m1 hk).kept hg (hne _ (by omega)), fun hk => ?_, fun hk => ?_, h.d0, h.d2⟩
  · obtain ⟨B0, h1⟩ := h.u0 hk
    have h2 := groups_rebase h1 (base' := wo.heap.size + 6) (by omega)
    exact ⟨_, h2.kept hg (hne _ (by omega)) (h2.rowsAbove (fun j hj => by have := hr j hj; omega))⟩
  · obtain ⟨B, un, h1, h2, h3⟩ := h.u1 hk
    exact ⟨B, un, h1, h2, h3.kept hg (hne _ (by omega)) (fun j hj => by have := hr j hj; omega)⟩
/-- what there is behind a step that has found a fault -/
def StepJ (wo : World) (W : World) : Prop := Below wo.heap.size wo W ∧ Blk W wo.heap.size 28 Z4 ∧ wo.heap.size + 5 ≤ W.heap.size
theorem StepJ.kept {wo W W' : World} {row : Option Nat} (h : StepJ wo W) (hg : W.grownBy W' row) (hr : ∀ j, row = some j → wo.heap.size < j) : StepJ wo W' :=
  ⟨h.1.grown hg h.1.size (fun j hj => by have := hr j hj; omega), h.2.1.grown hg (fun e => by have := hr _ e.symm; omega), Nat.le_trans h.2.2 hg.size⟩
theorem StepI.j {wo W : World} {v : Value} {ls : List Language} {k : Nat} (h : StepI wo v ls k W) : StepJ wo W := ⟨h.low, h.zb, h.sb.lt⟩

set_option maxRecDepth 100000 in
theorem step_any {ls : List Language} {v : Value} (wo w0 : World) (hs : LsR w0 w0.heap.size v ls) (hw : Below w0.heap.size w0 wo) (k : Nat) (g : FuncId) (r : Option Flt) (W : World) (hg : stepFs[k]? = some g) (hr : (stepRs ls)[k]? = some r) (hI : StepI wo v ls k W) (hsz : wo.heap.size + 5 < W.heap.size) :
    Calls Tryz.prog g #[.pointer (some ⟨wo.heap.size + 3, 0, none⟩)] W fun e W' => e = .returned (fltO r) ∧ (r = none → StepI wo v ls (k + 1) W') ∧ (r ≠ none → StepJ wo W') ∧ W'.heap[wo.heap.size + 5]? = W.heap[wo.heap.size + 5]? := by
  have hwW : Below w0.heap.size w0 W := hw.trans (hI.low.mono hw.size)
  have c0 : W.cell? ⟨wo.heap.size + 3, 0, none⟩ = some v := hI.wb.cell rfl
  have c1 : W.cell? ⟨wo.heap.size + 3, 1, none⟩ = some (.map (some (wo.heap.size + 1))) := hI.wb.cell rfl
  have c2 : W.cell? ⟨wo.heap.size + 3, 2, none⟩ = some (.map (some (wo.heap.size + 2))) := hI.wb.cell rfl
  have hsw := hw.size
  rcases k with _ | _ | _ | _ | k
  · simp [stepFs] at hg
    simp [stepRs] at hr
    subst hg hr
    refine (m_alone (wo.heap.size + 3) W w0 hs hwW c0).mono ?_
    rintro e W' ⟨rfl, b⟩
    have hk := hI.kept (grown_of_below none b) (fun j hj => by cases hj)
    exact ⟨rfl, fun h => ⟨hk.low, hk.zb, hk.wb, hk.sb, fun _ => hk.m0 (by omega), fun h => by omega, fun _ => hk.u0 (by omega), fun h => by omega, fun _ => h, fun h => by omega⟩, fun _ => hk.j, b.block _ hsz⟩
  · simp [stepFs] at hg
    simp [stepRs] at hr
    subst hg hr
    have hal := hI.d0 (by omega)
    have hle : ls.length ≤ 128 := by unfold aloneN at hal; split at hal; cases hal; omega
    refine (m_named (wo.heap.size + 3) (wo.heap.size + 1) W w0 hs hwW hle c0 c1 (by omega) (by omega) (hI.m0 (by omega))).mono ?_
    rintro e W' ⟨rfl, hgr, hA⟩
    have hne : ∀ q, q ≠ wo.heap.size + 1 → some q ≠ some (wo.heap.size + 1) := fun q hq e => by injection e with e; exact hq e
    have hrow : ∀ j, some (wo.heap.size + 1) = some j → j < wo.heap.size + 6 := fun j hj => by injection hj with hj; omega
    refine ⟨rfl, fun h => ⟨hI.low.grown hgr hI.low.size (fun j hj => by injection hj with hj; omega), hI.zb.grown hgr (hne _ (by omega)), hI.wb.grown hgr (hne _ (by omega)), hI.sb.grown hgr (hne _ (by omega)),
      fun h => by omega, fun _ => hA h, fun _ => ?_, fun h => by omega, fun _ => hal, fun h => by omega⟩, fun _ => hI.j.kept hgr (fun j hj => by injection hj with hj; omega), hgr.block _ hsz (hne _ (by omega))⟩
    obtain ⟨B0, h1⟩ := hI.u0 (by omega)
    have h2 := groups_rebase h1 (base' := wo.heap.size + 6) (by omega)
    exact ⟨_, h2.kept hgr (hne _ (by omega)) (h2.rowsAbove hrow)⟩
  · simp [stepFs] at hg
    simp [stepRs] at hr
    subst hg hr
    have hal := hI.d0 (by omega)
    have hle : ls.length ≤ 128 := by unfold aloneN at hal; split at hal; cases hal; omega
    have hsh : ∀ l ∈ ls, l.uses.length ≤ 8 := by
      intro l hl
      obtain ⟨i, hi⟩ := List.mem_iff_getElem?.1 hl
      unfold aloneN at hal
      rw [if_neg (by omega)] at hal
      have := firstF_none hal i l hi
      unfold aloneF at this
      split at this
      · rename_i he; exact uses_short he
      · cases this
    obtain ⟨B0, h1⟩ := hI.u0 (by omega)
    refine (m_used (wo.heap.size + 3) (wo.heap.size + 1) (wo.heap.size + 2) B0 W w0 hs hwW hle hsh c0 c1 c2 (by omega) (by omega) (by omega) (hI.m1 (by omega)) h1).mono ?_
    rintro e W' ⟨rfl, hgr, hU⟩
    have hne : ∀ q, q ≠ wo.heap.size + 2 → some q ≠ some (wo.heap.size + 2) := fun q hq e => by injection e with e; exact hq e
    refine ⟨rfl, fun h => ⟨hI.low.grown hgr hI.low.size (fun j hj => by injection hj with hj; omega), hI.zb.grown hgr (hne _ (by omega)), hI.wb.grown hgr (hne _ (by omega)), hI.sb.grown hgr (hne _ (by omega)),
      fun h => by omega, fun _ => (hI.m1 (by omega)).kept hgr (hne _ (by omega)), fun h => by omega, fun _ => ?_, fun _ => hal, fun _ => h⟩, fun _ => hI.j.kept hgr (fun j hj => by injection hj with hj; omega), hgr.block _ hsz (hne _ (by omega))⟩
    obtain ⟨un, h2, h3⟩ := hU h
    exact ⟨_, un, by omega, h2, h3⟩
  · simp [stepFs] at hg
    simp [stepRs] at hr
    subst hg hr
    have hal := hI.d0 (by omega)
    have hle : ls.length ≤ 128 := by unfold aloneN at hal; split at hal; cases hal; omega
    obtain ⟨B, un, h1, h2, h3⟩ := hI.u1 (by omega)
    have hlt := h3.lt
    refine (m_ringed (wo.heap.size + 3) (wo.heap.size + 2) W W (hs.at_world hwW hwW.size) (h3.usesAt (by unfold maxLen; omega) (by rw [webN_len]; exact hle)) (Below.refl _ _) c0 c2 hle (found_of (hI.d2 (by omega)))).mono ?_
    rintro e W' ⟨rfl, b⟩
    have hk := hI.kept (grown_of_below none b) (fun j hj => by cases hj)
    exact ⟨rfl, fun _ => ⟨hk.low, hk.zb, hk.wb, hk.sb, fun h => by omega, fun _ => hk.m1 (by omega), fun h => by omega, fun _ => hk.u1 (by omega), fun _ => hal, fun _ => hk.d2 (by omega)⟩, fun _ => hk.j, b.block _ hsz⟩
  · simp [stepFs] at hg
/-- the four steps of 'order' -/
theorem first_steps {ls : List Language} {v : Value} (wo w0 w : World) (hs : LsR w0 w0.heap.size v ls) (hw : Below w0.heap.size w0 wo) (h5 : w.heap.size = wo.heap.size + 5) (hI : StepI wo v ls 0 w) :
    Calls Tryz.prog 57 #[.slice (some ⟨wo.heap.size + 4, 0, none⟩) 4 4] w fun e w' => e = .returned (fltO (faultN ls)) ∧ (faultN ls = none → StepI wo v ls 4 w') ∧ (faultN ls ≠ none → StepJ wo w') := by
  have h := m_first (fs := stepFs) (rs := stepRs ls) (.pointer (some ⟨wo.heap.size + 3, 0, none⟩)) (wo.heap.size + 4) w (StepI wo v ls) (StepJ wo) rfl rfl
    (fun k g W hg hI => hI.sb.cell (by rw [List.getElem?_toArray, List.getElem?_map, hg]; rfl))
    (by
      intro g hg args W
      simp only [stepFs, List.mem_cons, List.not_mem_nil, or_false] at hg
      rcases hg with rfl | rfl | rfl | rfl <;> go_simp)
    (stepRs_err ls) (fun k g r W hg hr hI hsz => by rw [h5] at hsz ⊢; exact step_any wo w0 hs hw k g r W hg hr hI hsz)
    (fun k W o h => h.kept (World.grownBy_alloc W o none) (fun j hj => by cases hj)) (fun k j W u h => h.kept (set_grown W _ u) (fun q hq => by injection hq with hq; rw [← hq, ← h5]))
    (fun W o h => h.kept (World.grownBy_alloc W o none) (fun j hj => by cases hj)) (fun j W u h => h.kept (set_grown W _ u) (fun q hq => by injection hq with hq; rw [← hq]; show _ < w.heap.size; omega)) hI
  rw [stepRs_fault] at h
  exact h
end Go.Proofs.YtikplcpghohklaaGreat
