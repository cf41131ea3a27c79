/- A region that draws its order, gone through by an invariant: one step for each operation, whatever came up ahead of it. -/
import Derived.Orders
namespace Go.Proofs.YtdkoafmgenbkbaaDoor
set_option linter.unusedSimpArgs false
set_option linter.unusedVariables false
open Go

theorem countP_lt {l : List Nat} {p q : Nat → Bool} (h : ∀ x ∈ l, q x = true → p x = true) {i : Nat} (hi : i ∈ l) (hp : p i = true) (hq : q i = false) : l.countP q < l.countP p := by
  induction l with
  | nil => cases hi
  | cons y t ih =>
    rw [List.countP_cons, List.countP_cons]
    rcases List.mem_cons.1 hi with rfl | hi
    · have := List.countP_mono_left (fun x hx => h x (List.mem_cons_of_mem _ hx))
      simp [hp, hq]
      omega
    · have h1 := ih (fun x hx => h x (List.mem_cons_of_mem _ hx)) hi
      by_cases hy : q y = true
      · have h2 := h y (by simp) hy
        simp [hy, h2]
        exact h1
      · simp only [hy]
        by_cases h3 : p y = true
        · simp [h3]; omega
        · simp [h3]; exact h1
/-- how many operations have not come up yet -/
def unlisted (n : Nat) (listed : Array Bool) : Nat := (List.range n).countP (fun j => !listed.getD j true)
theorem unlisted_set {n i : Nat} {listed : Array Bool} (hi : i < n) (h : listed.getD i true = false) : unlisted n (listed.setIfInBounds i true) < unlisted n listed := by
  have hlt : i < listed.size := by
    rcases Nat.lt_or_ge i listed.size with h1 | h1
    · exact h1
    · simp [Array.getD, Nat.not_lt.2 h1] at h
  refine countP_lt (i := i) (fun x _ hx => ?_) (List.mem_range.2 hi) (by simp [h]) ?_
  · by_cases e : x = i
    · subst e; simp [h]
    · simp only [Array.getD_eq_getD_getElem?] at hx ⊢
      rwa [Array.getElem?_setIfInBounds_ne (fun e' => e e'.symm)] at hx
  · simp [Array.getD, hlt]
section
variable {P : Program} {ops : Array Oper} {Q : Exit → Act → World → Prop} {md : Region.Mode}
theorem wpAny_inv (Inv : Array Bool → Act → World → Prop)
    (hstep : ∀ listed a w i, Inv listed a w → i ∈ Region.ready md ops listed → wpOp P ops Q i (Inv (listed.setIfInBounds i true)) a w)
    (hdone : ∀ listed a w, Inv listed a w → Region.ready md ops listed = [] → Q .normal a w) :
    ∀ fuel listed a w, Inv listed a w → unlisted ops.size listed ≤ fuel → wpAny P md ops Q fuel listed a w := by
  intro fuel
  induction fuel with
  | zero =>
    intro listed a w hI hf
    have hr : Region.ready md ops listed = [] := by
      rw [List.eq_nil_iff_forall_not_mem]
      intro i hi
      obtain ⟨hu, o, ho, _⟩ := mem_ready.1 hi
      have hlt : i < ops.size := (Array.getElem?_eq_some_iff.1 ho).1
      have := unlisted_set hlt hu
      omega
    exact ⟨hr, hdone _ _ _ hI hr⟩
  | succ fuel ih =>
    intro listed a w hI hf
    refine ⟨hdone _ _ _ hI, fun i hi => ?_⟩
    obtain ⟨hu, o, ho, _⟩ := mem_ready.1 hi
    have hlt : i < ops.size := (Array.getElem?_eq_some_iff.1 ho).1
    have := unlisted_set hlt hu
    exact wpOp_mono (fun a' w' h' => ih _ _ _ h' (by omega)) (hstep _ _ _ _ hI hi)
/-- the region by an invariant -/
theorem wp_region_inv {id : Nat} {a : Act} {w : World} (hm : P.follows .mixedOrders = true) (Inv : Array Bool → Act → World → Prop)
    (h0 : Inv (Array.replicate ops.size false) a { w with drawn := w.drawn + 1 })
    (hstep : ∀ listed a w i, Inv listed a w → i ∈ Region.ready .any ops listed → wpOp P ops Q i (Inv (listed.setIfInBounds i true)) a w)
    (hdone : ∀ listed a w, Inv listed a w → Region.ready .any ops listed = [] → Q .normal a w) : (Code.region id ops true).wp P Q a w := by
  refine wp_region_any hm (wpAny_inv Inv hstep hdone _ _ _ _ h0 ?_)
  unfold unlisted
  exact Nat.le_trans List.countP_le_length (by simp)
end
end Go.Proofs.YtdkoafmgenbkbaaDoor
