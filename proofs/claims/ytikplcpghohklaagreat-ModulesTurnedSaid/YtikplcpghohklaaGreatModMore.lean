/- A language more, at the end, in plain words: where its fault is; that it stands last. -/
import Derived.Test.YtikplcpghohklaaGreatModRow
namespace Go.Proofs.YtikplcpghohklaaGreat
set_option linter.unusedSimpArgs false
set_option linter.unusedVariables false
open Go.RowKit

theorem firstF_app {α β : Type} {g : Nat → α → Option β} {x : α} : ∀ (l : List α) (k : Nat), firstF g k (l ++ [x]) = match firstF g k l with | some r => some r | none => g (k + l.length) x
  | [], k => by
    show firstF g k [x] = g k x
    simp only [firstF]
    cases g k x <;> rfl
  | y :: t, k => by
    simp only [List.cons_append, firstF]
    cases g k y with
    | some r => rfl
    | none =>
      simp only
      rw [firstF_app t (k + 1), List.length_cons, Nat.add_assoc, Nat.add_comm 1]
theorem firstF_congr {α β : Type} {g g' : Nat → α → Option β} : ∀ (l : List α) (k : Nat), (∀ i x, l[i]? = some x → g (k + i) x = g' (k + i) x) → firstF g k l = firstF g' k l
  | [], k, _ => rfl
  | y :: t, k, h => by
    simp only [firstF]
    have h0 := h 0 y rfl
    rw [Nat.add_zero] at h0
    have h1 := firstF_congr (g := g) (g' := g') t (k + 1) (fun i x hx => by have := h (i + 1) x (by simpa using hx); rwa [← Nat.add_assoc, Nat.add_right_comm] at this)
    rw [h0, h1]
theorem firstF_all {α β : Type} {g : Nat → α → Option β} : ∀ (l : List α) (k : Nat), (∀ i x, l[i]? = some x → g (k + i) x = none) → firstF g k l = none
  | [], _, _ => rfl
  | y :: t, k, h => by
    have h0 := h 0 y rfl
    rw [Nat.add_zero] at h0
    simp only [firstF, h0]
    exact firstF_all t (k + 1) (fun i x hx => by have := h (i + 1) x (by simpa using hx); rwa [← Nat.add_assoc, Nat.add_right_comm] at this)
/-- the parts of 'no fault' -/
theorem fault_none {ls : List Language} (h : faultN ls = none) : ls.length ≤ 128 ∧ firstF aloneF 0 ls = none ∧ firstF (namedF ls) 0 ls = none ∧ firstF (usedF ls) 0 ls = none ∧ firstF (ringF ls) 0 ls = none := by
  unfold faultN at h
  split at h
  · cases h
  · rename_i h0
    split at h
    · cases h
    · rename_i h1
      split at h
      · cases h
      · rename_i h2
        split at h
        · cases h
        · rename_i h3
          exact ⟨by omega, h1, h2, h3, h⟩
theorem fault_of {ls : List Language} (h0 : ls.length ≤ 128) (h1 : firstF aloneF 0 ls = none) (h2 : firstF (namedF ls) 0 ls = none) (h3 : firstF (usedF ls) 0 ls = none) (h4 : firstF (ringF ls) 0 ls = none) : faultN ls = none := by
  unfold faultN
  rw [if_neg (by omega), h1, h2, h3]
  exact h4
section
variable {ls : List Language} {m : Language}
theorem findN_nonneg {s : ByteArray} : 0 ≤ findN ls s ↔ ∃ l ∈ ls, l.name = s := by
  have h := firstAt_any (fun x : Language => decide (x.name = s)) ls
  have h2 : (0 ≤ findN ls s) ↔ (ls.any fun x : Language => decide (x.name = s)) = true := by
    rw [← h, decide_eq_true_iff]
    exact Iff.rfl
  rw [h2, List.any_eq_true]
  constructor
  · rintro ⟨l, hl, h⟩; exact ⟨l, hl, by simpa using h⟩
  · rintro ⟨l, hl, h⟩; exact ⟨l, hl, by simpa using h⟩
theorem findN_app {s : ByteArray} (h : 0 ≤ findN ls s) : findN (ls ++ [m]) s = findN ls s := by
  unfold findN firstAt at h ⊢
  rw [List.findIdx?_append]
  cases hf : ls.findIdx? (fun x : Language => decide (x.name = s)) with
  | none => rw [hf] at h; simp only at h; omega
  | some i => rfl
theorem webN_app (hf : AllFound ls) {a : Nat} (ha : a < ls.length) : (webN (ls ++ [m]))[a]? = (webN ls)[a]? := by
  have h1 : (ls ++ [m])[a]? = some ls[a] := by rw [List.getElem?_append_left ha]; exact List.getElem?_eq_getElem ha
  rw [webN_at h1, webN_at (List.getElem?_eq_getElem ha)]
  congr 1
  refine List.map_congr_left fun s hs => ?_
  rw [findN_app (hf _ (List.getElem_mem ha) s hs)]
theorem edge_app (hf : AllFound ls) {a b : Nat} (ha : a < ls.length) : Edge (webN (ls ++ [m])) a b ↔ Edge (webN ls) a b := by
  unfold Edge
  rw [webN_app hf ha]
theorem reach_app (hf : AllFound ls) {a b : Nat} (ha : a < ls.length) : Reach (webN (ls ++ [m])) a b ↔ Reach (webN ls) a b := by
  constructor
  · intro h
    have key : ∀ c, Reach (webN (ls ++ [m])) a c → c < ls.length ∧ Reach (webN ls) a c := by
      intro c hc
      induction hc with
      | one e => have e' := (edge_app hf ha).1 e; exact ⟨webN_in ls hf _ _ e', .one e'⟩
      | more _ e ih => have e' := (edge_app hf ih.1).1 e; exact ⟨webN_in ls hf _ _ e', .more ih.2 e'⟩
    exact (key b h).2
  · intro h
    have key : ∀ c, Reach (webN ls) a c → c < ls.length ∧ Reach (webN (ls ++ [m])) a c := by
      intro c hc
      induction hc with
      | one e => exact ⟨webN_in ls hf _ _ e, .one ((edge_app hf ha).2 e)⟩
      | more _ e ih => exact ⟨webN_in ls hf _ _ e, .more ih.2 ((edge_app hf ih.1).2 e)⟩
    exact (key b h).2
/-- a fault of the longer list, where the shorter one has none, is at the end -/
theorem more_fault (h : faultN ls = none) {f : Flt} (hf : faultN (ls ++ [m]) = some f) : ls.length = 128 ∨ f.list / 10 = ls.length := by
  obtain ⟨h0, h1, h2, h3, h4⟩ := fault_none h
  have hfo := found_of h3
  unfold faultN at hf
  split at hf
  · rename_i hl
    rw [List.length_append] at hl
    simp at hl
    left; omega
  · right
    rw [firstF_app, h1] at hf
    simp only [Nat.zero_add] at hf
    split at hf
    · rename_i r hr
      injection hf with hf
      subst hf
      unfold aloneF at hr
      split at hr
      · cases hr
      · injection hr with hr
        subst hr
        have := checkE_list m
        show (10 * ls.length + (checkE m).list) / 10 = ls.length
        omega
    · have e2 : firstF (namedF (ls ++ [m])) 0 ls = none := by
        rw [firstF_congr (g' := namedF ls) ls 0 (fun i x hx => by
          unfold namedF
          rw [findN_app (findN_nonneg.2 ⟨x, List.mem_iff_getElem?.2 ⟨i, hx⟩, rfl⟩)])]
        exact h2
      rw [firstF_app, e2] at hf
      simp only [Nat.zero_add] at hf
      split at hf
      · rename_i r hr
        injection hf with hf
        subst hf
        unfold namedF at hr
        split at hr
        · injection hr with hr
          subst hr
          show 10 * ls.length / 10 = ls.length
          omega
        · cases hr
      · have e3 : firstF (usedF (ls ++ [m])) 0 ls = none := by
          refine firstF_all ls 0 (fun i x hx => ?_)
          unfold usedF
          refine firstF_all _ 0 (fun k s hs => ?_)
          have hs0 := hfo x (List.mem_iff_getElem?.2 ⟨i, hx⟩) s (List.mem_iff_getElem?.2 ⟨k, hs⟩)
          unfold usedG
          rw [if_neg (by rw [findN_app hs0]; omega)]
        rw [firstF_app, e3] at hf
        simp only [Nat.zero_add] at hf
        split at hf
        · rename_i r hr
          injection hf with hf
          subst hf
          obtain ⟨k, hk⟩ : ∃ k, r = ⟨10 * ls.length + 1, k, 0, 240⟩ := by
            unfold usedF at hr
            have key : ∀ (l : List ByteArray) (k : Nat), firstF (usedG (ls ++ [m]) ls.length) k l = some r → ∃ k, r = ⟨10 * ls.length + 1, k, 0, 240⟩ := by
              intro l
              induction l with
              | nil => intro k h; cases h
              | cons s t ih =>
                intro k h
                simp only [firstF] at h
                split at h
                · rename_i q hq
                  injection h with h
                  subst h
                  unfold usedG at hq
                  split at hq
                  · injection hq with hq; exact ⟨k, hq.symm⟩
                  · cases hq
                · exact ih _ h
            exact key _ _ hr
          subst hk
          show (10 * ls.length + 1) / 10 = ls.length
          omega
        · have e4 : firstF (ringF (ls ++ [m])) 0 ls = none := by
            have := firstF_congr (g := ringF (ls ++ [m])) (g' := ringF ls) ls 0 (fun i x hx => by
              unfold ringF
              refine firstF_congr _ 0 (fun k s hs => ?_)
              have hs0 := hfo x (List.mem_iff_getElem?.2 ⟨i, hx⟩) s (List.mem_iff_getElem?.2 ⟨k, hs⟩)
              have hlt := findN_lt ls s
              unfold ringG
              rw [findN_app hs0]
              by_cases hr : Reach (webN ls) (findN ls s).toNat (0 + i)
              · rw [if_pos hr, if_pos ((reach_app hfo (by omega)).2 hr)]
              · rw [if_neg hr, if_neg (fun hc => hr ((reach_app hfo (by omega)).1 hc))])
            rw [this]
            exact h4
          rw [firstF_app, e4] at hf
          simp only [Nat.zero_add] at hf
          obtain ⟨k, hk⟩ : ∃ k, f = ⟨10 * ls.length + 1, k, 0, 43⟩ := by
            unfold ringF at hf
            have key : ∀ (l : List ByteArray) (k : Nat), firstF (ringG (ls ++ [m]) ls.length) k l = some f → ∃ k, f = ⟨10 * ls.length + 1, k, 0, 43⟩ := by
              intro l
              induction l with
              | nil => intro k h; cases h
              | cons s t ih =>
                intro k h
                simp only [firstF] at h
                split at h
                · rename_i q hq
                  injection h with h
                  subst h
                  unfold ringG at hq
                  split at hq
                  · injection hq with hq; exact ⟨k, hq.symm⟩
                  · cases hq
                · exact ih _ h
            exact key _ _ hf
          subst hk
          show (10 * ls.length + 1) / 10 = ls.length
          omega
/-- it stands last, and all others as they stood -/
theorem more_row (h : faultN ls = none) (h' : faultN (ls ++ [m]) = none) : rowN (webN (ls ++ [m])) = rowN (webN ls) ++ [ls.length] := by
  have hfo := (found_ok h).1
  have hfo' := (found_ok h').1
  have hac := acyc_of (ring_ok h)
  have hac' := acyc_of (ring_ok h')
  have hl := webN_len ls
  have hl' : (webN (ls ++ [m])).length = ls.length + 1 := by rw [webN_len]; simp
  have hin : ∀ a b, Edge (webN ls) a b → b < (webN ls).length := by rw [hl]; exact webN_in ls hfo
  have hin' : ∀ a b, Edge (webN (ls ++ [m])) a b → b < (webN (ls ++ [m])).length := by rw [webN_len]; exact webN_in (ls ++ [m]) hfo'
  have hrd : ∀ (row : List Nat) k, k < ls.length → readyN (webN (ls ++ [m])) row k = readyN (webN ls) row k := by
    intro row k hk
    unfold readyN
    rw [webN_app hfo hk]
  have key : ∀ (f : Nat) (row : List Nat), row.length + f = ls.length → RowG (webN ls) row → rowR (webN (ls ++ [m])) (f + 1) row = rowR (webN ls) f row ++ [ls.length] := by
    intro f
    induction f with
    | zero =>
      intro row hr hg
      obtain ⟨k, hk⟩ := nextN_some hac' hin' (row := row) (by omega)
      obtain ⟨k1, k2, _⟩ := nextN_out hk
      have hkn : k = ls.length := by
        refine Classical.byContradiction fun hne => ?_
        have hlt : k < ls.length := by omega
        have := nodup_le ls.length (k :: row) (List.nodup_cons.2 ⟨k2, hg.nodup⟩) (fun x hx => by
          rcases List.mem_cons.1 hx with rfl | hx
          · exact hlt
          · have := hg.lt x hx; omega)
        simp at this
        omega
      rw [rowR_step hk, hkn]
      rfl
    | succ f ih =>
      intro row hr hg
      obtain ⟨k, hk⟩ := nextN_some hac hin (row := row) (by omega)
      obtain ⟨k1, k2, k3, k4⟩ := nextN_out hk
      have hkl : k < ls.length := by omega
      have hk' : nextN (webN (ls ++ [m])) row = some k := nextN_is (by rw [hrd row k hkl]; exact k3) k2 (fun j hj => by rw [hrd row j (by omega)]; exact k4 j hj)
      rw [rowR_step hk', rowR_step hk]
      exact ih (row ++ [k]) (by simp; omega) (hg.more hk)
  unfold rowN
  rw [hl', hl]
  exact key ls.length [] (by simp) (RowG.nil _)
end
end Go.Proofs.YtikplcpghohklaaGreat
