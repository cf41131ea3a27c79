/- - -/
import Derived.Test.YtdkoafmgenbkbaaGreatDoorKLESameN
import Derived.Test.YtdkoafmgenbkbaaGreatDoorKM9
set_option maxRecDepth 100000
set_option maxHeartbeats 32000000
set_option linter.unusedSimpArgs false
set_option linter.unusedVariables false
namespace Go.Proofs.YtdkoafmgenbkbaaGreatDoor
open Go.RowKit
theorem ndK_inj : ∀ {l m : List ND}, (∀ d ∈ l, NdOk d) → (∀ d ∈ m, NdOk d) → l.map ndK = m.map ndK → l = m
  | [], [], _, _, _ => rfl
  | [], y :: m, _, _, h => by simp at h
  | x :: l, [], _, _, h => by simp at h
  | x :: l, y :: m, hl, hm, h => by
    rw [List.map_cons, List.map_cons] at h
    injection h with h1 h2
    have h3 := ndK_inj (fun d hd => hl d (by simp [hd])) (fun d hd => hm d (by simp [hd])) h2
    have e : x = y := by
      obtain ⟨k, s, n, ks⟩ := x
      obtain ⟨k', s', n', ks'⟩ := y
      unfold ndK at h1
      injection h1 with h4 h1
      injection h1 with h5 h1
      injection h1 with h6 h7
      simp only at h4 h5 h6 h7
      have h8 : s = s' := txt_inj8 (hl ⟨k, s, n, ks⟩ (by simp)).1 (hm ⟨k', s', n', ks'⟩ (by simp)).1 h5
      rw [h4, h8, h6, h7]
    rw [e, h3]
theorem unlike_law {l1 l2 : List ND} {c1 c2 : List Ins} (ok1 : ∀ d ∈ l1, NdOk d) (ok2 : ∀ d ∈ l2, NdOk d) (r1 : rightE l1 = 0) (r2 : rightE l2 = 0) (h1 : CodeIs l1 c1) (h2 : CodeIs l2 c2)
    (n1 : ∀ d ∈ l1, ¬ (d.kind = 7 ∨ (31 ≤ d.kind ∧ d.kind ≤ 34))) (n2 : ∀ d ∈ l2, ¬ (d.kind = 7 ∨ (31 ≤ d.kind ∧ d.kind ≤ 34))) : decide (c1 = c2) = decide (l1.map ndK = l2.map ndK) := by
  have e : decide (l1.map ndK = l2.map ndK) = decide (l1 = l2) := by
    rw [decide_eq_decide]
    exact ⟨fun h => ndK_inj ok1 ok2 h, fun h => by rw [h]⟩
  obtain ⟨t, tg, td, ts, hl, _⟩ := right_tree ok1 r1
  obtain ⟨u, ug, ud, us, hm, _⟩ := right_tree ok2 r2
  rw [e, h1.2 t tg td ts hl, h2.2 u ug ud us hm]
  subst hl hm
  exact unlike_nds tg ug td ud (bare_of t 0 n1) (bare_of u 0 n2)
end Go.Proofs.YtdkoafmgenbkbaaGreatDoor
