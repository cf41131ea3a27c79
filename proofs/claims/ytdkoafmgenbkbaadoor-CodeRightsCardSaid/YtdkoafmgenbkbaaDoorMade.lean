/- Rows of places that are made; the walk through code, step by step. -/
import Derived.Test.YtdkoafmgenbkbaaDoorPlaces
import Derived.Laws.MakeOwn
namespace Go.Proofs.YtdkoafmgenbkbaaDoor
set_option linter.unusedSimpArgs false
set_option linter.unusedVariables false
open Go.RowKit

theorem made_at {z : Array Value} {n i : Nat} (r : Nat) (h : i < n) (hr : i % z.size = r) : (madeCells z n)[i]? = some (z[r]!) := by subst hr; simp [madeCells, h]
theorem PlR.made {tp tl : TypeId} {W : World} {g n : Nat} (hd : tp ≠ tl) (h : Blk W g tp (madeCells #[.bool false, .int .i64 0, .slice none 0 0] (n * 3))) : PlR tp tl W g (List.replicate n Pl.none) := by
  refine ⟨hd, _, h, by simp [size_madeCells], fun i p hp => ?_⟩
  have hi : i < n := by have := (List.getElem?_eq_some_iff.1 hp).1; simpa using this
  have hp' := List.mem_of_getElem? hp
  rw [List.mem_replicate] at hp'
  obtain ⟨_, rfl⟩ := hp'
  refine ⟨.slice none 0 0, ?_, ?_, ?_, RowR.nil_⟩
  · exact made_at 0 (by omega) (by simp; try omega)
  · exact made_at 1 (by omega) (by simp; try omega)
  · exact made_at 2 (by omega) (by simp; try omega)
theorem KnR.made {tp tl : TypeId} {W : World} {g n : Nat} (hd : tp ≠ tl) (h : Blk W g tp (madeCells #[.bool false, .int .i64 0, .slice none 0 0, .slice none 0 0] (n * 4))) : KnR tp tl W g (List.replicate n Pl.none) := by
  refine ⟨hd, _, h, by simp [size_madeCells], fun i p hp => ?_⟩
  have hi : i < n := by have := (List.getElem?_eq_some_iff.1 hp).1; simpa using this
  have hp' := List.mem_of_getElem? hp
  rw [List.mem_replicate] at hp'
  obtain ⟨_, rfl⟩ := hp'
  refine ⟨.slice none 0 0, .slice none 0 0, ?_, ?_, ?_, ?_, RowR.nil_, RowR.nil_⟩
  · exact made_at 0 (by omega) (by simp; try omega)
  · exact made_at 1 (by omega) (by simp; try omega)
  · exact made_at 2 (by omega) (by simp; try omega)
  · exact made_at 3 (by omega) (by simp; try omega)
theorem lead_start (n : Nat) : leadN (List.replicate (n + 1) Pl.none) 0 0 [] = some (startN n) := by
  unfold leadN startN
  rw [List.replicate_succ]
  rfl
theorem go_step {c : List Ins} {k n : Nat} {l : List Pl} (h : k < n) : goN c (n - k) k l = match stepN c l k with | some l' => goN c (n - (k + 1)) (k + 1) l' | .none => (k, 110) := by
  obtain ⟨m, hm⟩ : ∃ m, n - k = m + 1 := ⟨n - k - 1, by omega⟩
  rw [hm, show n - (k + 1) = m by omega]
  rfl
theorem step_of {c : List Ins} {l : List Pl} {k : Nat} {p : Pl} {x : Ins} (hp : l[k]? = some p) (hx : c[k]? = some x) : stepN c l k = if p.known = true ∧ plainN x = true then insN c l k p x else .none := by
  unfold stepN
  rw [hp, hx]
theorem plain_ops {x : Ins} (h : plainN x = true) : 1 ≤ x.op ∧ x.op ≤ 40 ∧ 0 ≤ x.arg := by
  unfold plainN at h
  simp only [Bool.and_eq_true, decide_eq_true_eq] at h
  exact ⟨h.1.1.1, h.1.1.2, h.1.2.2.2.2⟩
end Go.Proofs.YtdkoafmgenbkbaaDoor
