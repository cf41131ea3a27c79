/- LangLess: rows in which one element's own row got less, behind the last stores. -/
import Derived.Test.YtdhljfblkidohaaGreatLessRow
namespace Go.Proofs.YtdhljfblkidohaaGreat
set_option linter.unusedSimpArgs false
set_option linter.unusedVariables false
open Go.RowKit

theorem cell8 {W : World} {g eg : Nat} (hg : eg ≠ g) {u0 u1 u2 u3 u4 u5 u6 u7 : Value} (j : Nat) : ((((((((W.setCell ⟨g, 0, none⟩ u0).setCell ⟨g, 1, none⟩ u1).setCell ⟨g, 2, none⟩ u2).setCell ⟨g, 3, none⟩ u3).setCell ⟨g, 4, none⟩ u4).setCell ⟨g, 5, none⟩ u5).setCell ⟨g, 6, none⟩ u6).setCell ⟨g, 7, none⟩ u7).cell? ⟨eg, j, none⟩ = W.cell? ⟨eg, j, none⟩ := by
  rw [World.cell?_setCell_other _ _ _ _ (by simp [hg]), World.cell?_setCell_other _ _ _ _ (by simp [hg]), World.cell?_setCell_other _ _ _ _ (by simp [hg]), World.cell?_setCell_other _ _ _ _ (by simp [hg]), World.cell?_setCell_other _ _ _ _ (by simp [hg]), World.cell?_setCell_other _ _ _ _ (by simp [hg]), World.cell?_setCell_other _ _ _ _ (by simp [hg]), World.cell?_setCell_other _ _ _ _ (by simp [hg])]
theorem size8 {W : World} {g : Nat} {u0 u1 u2 u3 u4 u5 u6 u7 : Value} : ((((((((W.setCell ⟨g, 0, none⟩ u0).setCell ⟨g, 1, none⟩ u1).setCell ⟨g, 2, none⟩ u2).setCell ⟨g, 3, none⟩ u3).setCell ⟨g, 4, none⟩ u4).setCell ⟨g, 5, none⟩ u5).setCell ⟨g, 6, none⟩ u6).setCell ⟨g, 7, none⟩ u7).heap.size = W.heap.size := by simp [World.setCell]
theorem low8 {w W : World} {g : Nat} {u0 u1 u2 u3 u4 u5 u6 u7 : Value} (h : Below w.heap.size w W) (hg : w.heap.size ≤ g) : Below w.heap.size w ((((((((W.setCell ⟨g, 0, none⟩ u0).setCell ⟨g, 1, none⟩ u1).setCell ⟨g, 2, none⟩ u2).setCell ⟨g, 3, none⟩ u3).setCell ⟨g, 4, none⟩ u4).setCell ⟨g, 5, none⟩ u5).setCell ⟨g, 6, none⟩ u6).setCell ⟨g, 7, none⟩ u7) := low_set (low_set (low_set (low_set (low_set (low_set (low_set (low_set h hg _) hg _) hg _) hg _) hg _) hg _) hg _) hg _

theorem editor_end {W w9 : World} {base g eg cg n ec k m cn cc : Nat} {ls : List (Editor × List Nat)} {p : Editor × List Nat} {v old u0 u1 u2 u3 u4 u5 u6 u7 : Value}
    (hrow : Own1 W base 55 2 (TagR (Editor.Own W base)) (.slice (some ⟨eg, 0, none⟩) n ec) ls) (hts : Tagged ls) (hp : ls[k]? = some p)
    (htg : [.string p.1.concept, .slice (some ⟨cg, 0, none⟩) cn cc].filterMap Value.ownBlock = p.2) (hgr : W.grownBy w9 (some cg)) (hcg : cg ≠ eg) (hg : eg ≠ g) (hgb : g < base)
    (hbe : ∃ cs, Blk w9 eg 55 cs) (e90 : w9.cell? ⟨eg, k * 2, none⟩ = some (.string p.1.concept)) (e91 : w9.cell? ⟨eg, k * 2 + 1, none⟩ = some old)
    (hown : Own1 w9 base 91 3 Cell.Is v (lessN m p.1.cells)) (hfit : Fit p.1.cells.length 40) (hsz : p.1.concept.size ≤ maxLen) :
    SlR (((((((((w9.setCell ⟨eg, k * 2 + 1, none⟩ v).setCell ⟨g, 0, none⟩ u0).setCell ⟨g, 1, none⟩ u1).setCell ⟨g, 2, none⟩ u2).setCell ⟨g, 3, none⟩ u3).setCell ⟨g, 4, none⟩ u4).setCell ⟨g, 5, none⟩ u5).setCell ⟨g, 6, none⟩ u6).setCell ⟨g, 7, none⟩ u7) (((((((((w9.setCell ⟨eg, k * 2 + 1, none⟩ v).setCell ⟨g, 0, none⟩ u0).setCell ⟨g, 1, none⟩ u1).setCell ⟨g, 2, none⟩ u2).setCell ⟨g, 3, none⟩ u3).setCell ⟨g, 4, none⟩ u4).setCell ⟨g, 5, none⟩ u5).setCell ⟨g, 6, none⟩ u6).setCell ⟨g, 7, none⟩ u7).heap.size 2 (Editor.Is (((((((((w9.setCell ⟨eg, k * 2 + 1, none⟩ v).setCell ⟨g, 0, none⟩ u0).setCell ⟨g, 1, none⟩ u1).setCell ⟨g, 2, none⟩ u2).setCell ⟨g, 3, none⟩ u3).setCell ⟨g, 4, none⟩ u4).setCell ⟨g, 5, none⟩ u5).setCell ⟨g, 6, none⟩ u6).setCell ⟨g, 7, none⟩ u7) (((((((((w9.setCell ⟨eg, k * 2 + 1, none⟩ v).setCell ⟨g, 0, none⟩ u0).setCell ⟨g, 1, none⟩ u1).setCell ⟨g, 2, none⟩ u2).setCell ⟨g, 3, none⟩ u3).setCell ⟨g, 4, none⟩ u4).setCell ⟨g, 5, none⟩ u5).setCell ⟨g, 6, none⟩ u6).setCell ⟨g, 7, none⟩ u7).heap.size) (.slice (some ⟨eg, 0, none⟩) n ec) ((ls.map fun q => q.1).set k { p.1 with cells := lessN m p.1.cells }) := by
  obtain ⟨cs, hb⟩ := hbe
  obtain ⟨W9, hW9⟩ : ∃ W9, W9 = w9.setCell ⟨eg, k * 2 + 1, none⟩ v := ⟨_, rfl⟩
  obtain ⟨WF, hWF⟩ : ∃ WF, WF = (((((((((w9.setCell ⟨eg, k * 2 + 1, none⟩ v).setCell ⟨g, 0, none⟩ u0).setCell ⟨g, 1, none⟩ u1).setCell ⟨g, 2, none⟩ u2).setCell ⟨g, 3, none⟩ u3).setCell ⟨g, 4, none⟩ u4).setCell ⟨g, 5, none⟩ u5).setCell ⟨g, 6, none⟩ u6).setCell ⟨g, 7, none⟩ u7) := ⟨_, rfl⟩
  have st9 : Stays w9 W9 base (fun e => e == 55) := by rw [hW9]; exact Stays.of_set_typed hb v
  have st8 : Stays W9 WF base (fun _ => false) := by rw [hWF, hW9]; exact stays8 hgb
  have c8 : ∀ j, WF.cell? ⟨eg, j, none⟩ = W9.cell? ⟨eg, j, none⟩ := fun j => by rw [hWF, hW9]; exact cell8 hg j
  have hs8 : WF.heap.size = w9.heap.size := by rw [hWF, size8]; simp [World.setCell]
  have egl : eg < W.heap.size := (hrow.block eg rfl).2
  have k9 : ∀ j, w9.cell? ⟨eg, j, none⟩ = W.cell? ⟨eg, j, none⟩ := fun j => World.cell?_of_block (hgr.block eg egl (fun e => by injection e with e; exact hcg e.symm))
  rw [← hWF]
  refine row_set (O := Editor.Own W base) (I := Editor.Is WF WF.heap.size) (W := W) (W9 := WF) (by omega) hrow hts hp (fun i j hi hj => ?_) (x2 := [.string p.1.concept, v]) (fun j u hu => ?_) rfl (by rw [hs8]; exact hgr.size) (fun q x hd hO hq => ?_)
    ⟨v, rfl, (st8 _ _ _ _ _ _ rfl (st9 _ _ _ _ _ _ rfl hown)).read (by omega), fit_less hfit, hsz⟩
  · rw [c8, hW9, World.cell?_setCell_other _ _ _ _ (by first | (simp; done) | (simp; omega))]
    exact k9 _
  · rcases j with _ | _ | j
    · injection hu with hu
      subst hu
      rw [c8, hW9, World.cell?_setCell_other _ _ _ _ (by simp)]
      exact e90
    · injection hu with hu
      subst hu
      rw [c8, hW9]
      exact World.cell?_setCell_same _ _ _ e91
    · simp at hu
  · obtain ⟨v', rfl, r1, r2, r3⟩ := hO
    have hne : ∀ b, v'.ownBlock = some b → some cg ≠ some b := fun b hb' he => by
      injection he with he
      subst he
      refine hd cg ?_ ?_
      · rw [← hq]
        simp [Value.ownBlock] at hb' ⊢
        exact hb'
      · rw [← htg]
        simp [Value.ownBlock]
    exact ⟨v', rfl, (st8 _ _ _ _ _ _ rfl (st9 _ _ _ _ _ _ rfl (r1.grown_block hgr hne))).read (by omega), r2, r3⟩

theorem template_end {W w9 : World} {base g eg cg n ec k m cn cc : Nat} {ls : List (Template × List Nat)} {p : Template × List Nat} {v old u0 u1 u2 u3 u4 u5 u6 u7 : Value}
    (hrow : Own1 W base 58 2 (TagR (Template.Own W base)) (.slice (some ⟨eg, 0, none⟩) n ec) ls) (hts : Tagged ls) (hp : ls[k]? = some p)
    (htg : [.string p.1.concept, .slice (some ⟨cg, 0, none⟩) cn cc].filterMap Value.ownBlock = p.2) (hgr : W.grownBy w9 (some cg)) (hcg : cg ≠ eg) (hg : eg ≠ g) (hgb : g < base)
    (hbe : ∃ cs, Blk w9 eg 58 cs) (e90 : w9.cell? ⟨eg, k * 2, none⟩ = some (.string p.1.concept)) (e91 : w9.cell? ⟨eg, k * 2 + 1, none⟩ = some old)
    (hown : Own1 w9 base 97 3 Cell.Is v (lessN m p.1.pieces)) (hfit : Fit p.1.pieces.length 40) (hsz : p.1.concept.size ≤ maxLen) :
    SlR (((((((((w9.setCell ⟨eg, k * 2 + 1, none⟩ v).setCell ⟨g, 0, none⟩ u0).setCell ⟨g, 1, none⟩ u1).setCell ⟨g, 2, none⟩ u2).setCell ⟨g, 3, none⟩ u3).setCell ⟨g, 4, none⟩ u4).setCell ⟨g, 5, none⟩ u5).setCell ⟨g, 6, none⟩ u6).setCell ⟨g, 7, none⟩ u7) (((((((((w9.setCell ⟨eg, k * 2 + 1, none⟩ v).setCell ⟨g, 0, none⟩ u0).setCell ⟨g, 1, none⟩ u1).setCell ⟨g, 2, none⟩ u2).setCell ⟨g, 3, none⟩ u3).setCell ⟨g, 4, none⟩ u4).setCell ⟨g, 5, none⟩ u5).setCell ⟨g, 6, none⟩ u6).setCell ⟨g, 7, none⟩ u7).heap.size 2 (Template.Is (((((((((w9.setCell ⟨eg, k * 2 + 1, none⟩ v).setCell ⟨g, 0, none⟩ u0).setCell ⟨g, 1, none⟩ u1).setCell ⟨g, 2, none⟩ u2).setCell ⟨g, 3, none⟩ u3).setCell ⟨g, 4, none⟩ u4).setCell ⟨g, 5, none⟩ u5).setCell ⟨g, 6, none⟩ u6).setCell ⟨g, 7, none⟩ u7) (((((((((w9.setCell ⟨eg, k * 2 + 1, none⟩ v).setCell ⟨g, 0, none⟩ u0).setCell ⟨g, 1, none⟩ u1).setCell ⟨g, 2, none⟩ u2).setCell ⟨g, 3, none⟩ u3).setCell ⟨g, 4, none⟩ u4).setCell ⟨g, 5, none⟩ u5).setCell ⟨g, 6, none⟩ u6).setCell ⟨g, 7, none⟩ u7).heap.size) (.slice (some ⟨eg, 0, none⟩) n ec) ((ls.map fun q => q.1).set k { p.1 with pieces := lessN m p.1.pieces }) := by
  obtain ⟨cs, hb⟩ := hbe
  obtain ⟨W9, hW9⟩ : ∃ W9, W9 = w9.setCell ⟨eg, k * 2 + 1, none⟩ v := ⟨_, rfl⟩
  obtain ⟨WF, hWF⟩ : ∃ WF, WF = (((((((((w9.setCell ⟨eg, k * 2 + 1, none⟩ v).setCell ⟨g, 0, none⟩ u0).setCell ⟨g, 1, none⟩ u1).setCell ⟨g, 2, none⟩ u2).setCell ⟨g, 3, none⟩ u3).setCell ⟨g, 4, none⟩ u4).setCell ⟨g, 5, none⟩ u5).setCell ⟨g, 6, none⟩ u6).setCell ⟨g, 7, none⟩ u7) := ⟨_, rfl⟩
  have st9 : Stays w9 W9 base (fun e => e == 58) := by rw [hW9]; exact Stays.of_set_typed hb v
  have st8 : Stays W9 WF base (fun _ => false) := by rw [hWF, hW9]; exact stays8 hgb
  have c8 : ∀ j, WF.cell? ⟨eg, j, none⟩ = W9.cell? ⟨eg, j, none⟩ := fun j => by rw [hWF, hW9]; exact cell8 hg j
  have hs8 : WF.heap.size = w9.heap.size := by rw [hWF, size8]; simp [World.setCell]
  have egl : eg < W.heap.size := (hrow.block eg rfl).2
  have k9 : ∀ j, w9.cell? ⟨eg, j, none⟩ = W.cell? ⟨eg, j, none⟩ := fun j => World.cell?_of_block (hgr.block eg egl (fun e => by injection e with e; exact hcg e.symm))
  rw [← hWF]
  refine row_set (O := Template.Own W base) (I := Template.Is WF WF.heap.size) (W := W) (W9 := WF) (by omega) hrow hts hp (fun i j hi hj => ?_) (x2 := [.string p.1.concept, v]) (fun j u hu => ?_) rfl (by rw [hs8]; exact hgr.size) (fun q x hd hO hq => ?_)
    ⟨v, rfl, (st8 _ _ _ _ _ _ rfl (st9 _ _ _ _ _ _ rfl hown)).read (by omega), fit_less hfit, hsz⟩
  · rw [c8, hW9, World.cell?_setCell_other _ _ _ _ (by first | (simp; done) | (simp; omega))]
    exact k9 _
  · rcases j with _ | _ | j
    · injection hu with hu
      subst hu
      rw [c8, hW9, World.cell?_setCell_other _ _ _ _ (by simp)]
      exact e90
    · injection hu with hu
      subst hu
      rw [c8, hW9]
      exact World.cell?_setCell_same _ _ _ e91
    · simp at hu
  · obtain ⟨v', rfl, r1, r2, r3⟩ := hO
    have hne : ∀ b, v'.ownBlock = some b → some cg ≠ some b := fun b hb' he => by
      injection he with he
      subst he
      refine hd cg ?_ ?_
      · rw [← hq]
        simp [Value.ownBlock] at hb' ⊢
        exact hb'
      · rw [← htg]
        simp [Value.ownBlock]
    exact ⟨v', rfl, (st8 _ _ _ _ _ _ rfl (st9 _ _ _ _ _ _ rfl (r1.grown_block hgr hne))).read (by omega), r2, r3⟩

theorem Stays.of_grown_typed {w w' : World} {b : Option Nat} {base : Nat} {bad : TypeId → Bool} (hg : w.grownBy w' b) (hb : ∀ g, b = some g → ∃ e cs, Blk w g e cs ∧ bad e = true) : Stays w w' base bad := by
  intro α size e R v l hbe ho
  refine ho.grown_block hg (fun g hv he => ?_)
  obtain ⟨e', cs, h1, h2⟩ := hb g he
  obtain ⟨_, ⟨_, h3⟩, _⟩ := ho
  rcases h3 with ⟨rfl, _⟩ | ⟨k, cap, cur, rfl, _, r3, _⟩
  · cases hv
  · injection hv with hv
    subst hv
    unfold Blk at h1
    rw [r3] at h1
    injection h1 with h1
    injection h1 with _ e2 _
    subst e2
    rw [hbe] at h2
    cases h2
theorem Own1.blk_of {α : Type} {w : World} {base size : Nat} {e : TypeId} {R : List Value → α → Prop} {v : Value} {l : List α} (h : Own1 w base e size R v l) : ∀ g, v.ownBlock = some g → ∃ cs, Blk w g e cs := by
  obtain ⟨_, ⟨_, h1⟩, _⟩ := h
  intro g hg
  rcases h1 with ⟨rfl, _⟩ | ⟨k, cap, cur, rfl, _, r3, _⟩
  · cases hg
  · injection hg with hg
    subst hg
    exact ⟨cur, r3⟩
def partT (e : TypeId) : Bool := e == 105 || e == 62 || e == 107
theorem Concept.Own.tag_types {w : World} {base : Nat} {x : List Value} {d : Concept} (h : Concept.Own w base x d) : ∀ g ∈ x.filterMap Value.ownBlock, ∃ e cs, Blk w g e cs ∧ partT e = true := by
  obtain ⟨v1, v2, v3, rfl, r1, r2, r3, _⟩ := h
  intro g hg
  rw [List.mem_filterMap] at hg
  obtain ⟨u, hu, hg⟩ := hg
  simp at hu
  rcases hu with rfl | rfl | rfl | rfl | rfl | rfl
  · cases hg
  · cases hg
  · cases hg
  · obtain ⟨cs, h⟩ := r1.blk_of g hg
    exact ⟨_, cs, h, rfl⟩
  · obtain ⟨cs, h⟩ := r2.blk_of g hg
    exact ⟨_, cs, h, rfl⟩
  · obtain ⟨cs, h⟩ := r3.blk_of g hg
    exact ⟨_, cs, h, rfl⟩
theorem blk_ne {w : World} {g g' : Nat} {e e' : TypeId} {cs cs' : Array Value} (h : Blk w g e cs) (h' : Blk w g' e' cs') (hne : e ≠ e') : g ≠ g' := by
  intro he
  subst he
  unfold Blk at h h'
  rw [h] at h'
  injection h' with h'
  injection h' with _ e2 _
  exact hne e2
theorem stays6k {W : World} {g o base : Nat} {t : TypeId} {cs : Array Value} (hb : Blk W g t cs) {v0 v1 v2 v3 v4 v5 : Value} : Stays W ((((((W.setCell ⟨g, o, none⟩ v0).setCell ⟨g, o + 1, none⟩ v1).setCell ⟨g, o + 2, none⟩ v2).setCell ⟨g, o + 3, none⟩ v3).setCell ⟨g, o + 4, none⟩ v4).setCell ⟨g, o + 5, none⟩ v5) base (fun e => e == t) := by
  have b1 := hb.set_ o v0
  have b2 := b1.set_ (o + 1) v1
  have b3 := b2.set_ (o + 2) v2
  have b4 := b3.set_ (o + 3) v3
  have b5 := b4.set_ (o + 4) v4
  exact (((((Stays.of_set_typed hb v0).trans (Stays.of_set_typed b1 v1)).trans (Stays.of_set_typed b2 v2)).trans (Stays.of_set_typed b3 v3)).trans (Stays.of_set_typed b4 v4)).trans (Stays.of_set_typed b5 v5)
theorem low6k {w W : World} {g o : Nat} {v0 v1 v2 v3 v4 v5 : Value} (h : Below w.heap.size w W) (hg : w.heap.size ≤ g) : Below w.heap.size w ((((((W.setCell ⟨g, o, none⟩ v0).setCell ⟨g, o + 1, none⟩ v1).setCell ⟨g, o + 2, none⟩ v2).setCell ⟨g, o + 3, none⟩ v3).setCell ⟨g, o + 4, none⟩ v4).setCell ⟨g, o + 5, none⟩ v5) := low_set (low_set (low_set (low_set (low_set (low_set h hg _) hg _) hg _) hg _) hg _) hg _
theorem size6k {W : World} {g o : Nat} {v0 v1 v2 v3 v4 v5 : Value} : ((((((W.setCell ⟨g, o, none⟩ v0).setCell ⟨g, o + 1, none⟩ v1).setCell ⟨g, o + 2, none⟩ v2).setCell ⟨g, o + 3, none⟩ v3).setCell ⟨g, o + 4, none⟩ v4).setCell ⟨g, o + 5, none⟩ v5).heap.size = W.heap.size := by simp [World.setCell]
theorem cell6_far {W : World} {g o i : Nat} {v0 v1 v2 v3 v4 v5 : Value} (h : ∀ j, j < 6 → i ≠ o + j) : ((((((W.setCell ⟨g, o, none⟩ v0).setCell ⟨g, o + 1, none⟩ v1).setCell ⟨g, o + 2, none⟩ v2).setCell ⟨g, o + 3, none⟩ v3).setCell ⟨g, o + 4, none⟩ v4).setCell ⟨g, o + 5, none⟩ v5).cell? ⟨g, i, none⟩ = W.cell? ⟨g, i, none⟩ := by
  have h0 := h 0 (by omega); have h1 := h 1 (by omega); have h2 := h 2 (by omega); have h3 := h 3 (by omega); have h4 := h 4 (by omega); have h5 := h 5 (by omega)
  rw [World.cell?_setCell_other _ _ _ _ (by first | (simp; done) | (simp; omega)), World.cell?_setCell_other _ _ _ _ (by first | (simp; done) | (simp; omega)), World.cell?_setCell_other _ _ _ _ (by first | (simp; done) | (simp; omega)), World.cell?_setCell_other _ _ _ _ (by first | (simp; done) | (simp; omega)), World.cell?_setCell_other _ _ _ _ (by first | (simp; done) | (simp; omega)), World.cell?_setCell_other _ _ _ _ (by first | (simp; done) | (simp; omega))]
theorem cell_set {W : World} {g o i : Nat} {u old : Value} (h : W.cell? ⟨g, i, none⟩ = some old) : (W.setCell ⟨g, o, none⟩ u).cell? ⟨g, i, none⟩ = some (if i = o then u else old) := by
  split
  · rename_i e
    subst e
    exact World.cell?_setCell_same _ _ _ h
  · rename_i e
    rw [World.cell?_setCell_other _ _ _ _ (by first | (simp; done) | (simp; omega))]
    exact h
theorem cell6_at {W : World} {g o : Nat} {v0 v1 v2 v3 v4 v5 : Value} (h : ∀ j, j < 6 → ∃ old, W.cell? ⟨g, o + j, none⟩ = some old) (j : Nat) (u : Value) (hu : [v0, v1, v2, v3, v4, v5][j]? = some u) : ((((((W.setCell ⟨g, o, none⟩ v0).setCell ⟨g, o + 1, none⟩ v1).setCell ⟨g, o + 2, none⟩ v2).setCell ⟨g, o + 3, none⟩ v3).setCell ⟨g, o + 4, none⟩ v4).setCell ⟨g, o + 5, none⟩ v5).cell? ⟨g, o + j, none⟩ = some u := by
  have hj : j < 6 := by have := (List.getElem?_eq_some_iff.1 hu).1; simpa using this
  obtain ⟨old, ho⟩ := h j hj
  have key := cell_set (o := o + 5) (u := v5) (cell_set (o := o + 4) (u := v4) (cell_set (o := o + 3) (u := v3) (cell_set (o := o + 2) (u := v2) (cell_set (o := o + 1) (u := v1) (cell_set (o := o) (u := v0) ho)))))
  rw [key]
  rcases j with _ | _ | _ | _ | _ | _ | j
  · simp at hu; subst hu; simp
  · simp at hu; subst hu; simp
  · simp at hu; subst hu; simp
  · simp at hu; subst hu; simp
  · simp at hu; subst hu; simp
  · simp at hu; subst hu; simp
  · omega
theorem concept_end {W w9 : World} {base g eg n ec k : Nat} {b : Option Nat} {ls : List (Concept × List Nat)} {p : Concept × List Nat} {c' : Concept} {x : List Value} {v0 v1 v2 v3 v4 v5 u0 u1 u2 u3 u4 u5 u6 u7 : Value}
    (hrow : Own1 W base 47 6 (TagR (Concept.Own W base)) (.slice (some ⟨eg, 0, none⟩) n ec) ls) (hts : Tagged ls) (hp : ls[k]? = some p)
    (htg : x.filterMap Value.ownBlock = p.2) (hgr : W.grownBy w9 b) (hb : ∀ q, b = some q → q ∈ x.filterMap Value.ownBlock) (hne : b ≠ some eg) (hg : eg ≠ g) (hgb : g < base)
    (hbe : ∃ cs, Blk w9 eg 47 cs) (e9 : ∀ j, j < 6 → ∃ old, w9.cell? ⟨eg, k * 6 + j, none⟩ = some old) (hown : Concept.Own w9 base [v0, v1, v2, v3, v4, v5] c') :
    SlR ((((((((((((((w9.setCell ⟨eg, k * 6, none⟩ v0).setCell ⟨eg, k * 6 + 1, none⟩ v1).setCell ⟨eg, k * 6 + 2, none⟩ v2).setCell ⟨eg, k * 6 + 3, none⟩ v3).setCell ⟨eg, k * 6 + 4, none⟩ v4).setCell ⟨eg, k * 6 + 5, none⟩ v5).setCell ⟨g, 0, none⟩ u0).setCell ⟨g, 1, none⟩ u1).setCell ⟨g, 2, none⟩ u2).setCell ⟨g, 3, none⟩ u3).setCell ⟨g, 4, none⟩ u4).setCell ⟨g, 5, none⟩ u5).setCell ⟨g, 6, none⟩ u6).setCell ⟨g, 7, none⟩ u7) ((((((((((((((w9.setCell ⟨eg, k * 6, none⟩ v0).setCell ⟨eg, k * 6 + 1, none⟩ v1).setCell ⟨eg, k * 6 + 2, none⟩ v2).setCell ⟨eg, k * 6 + 3, none⟩ v3).setCell ⟨eg, k * 6 + 4, none⟩ v4).setCell ⟨eg, k * 6 + 5, none⟩ v5).setCell ⟨g, 0, none⟩ u0).setCell ⟨g, 1, none⟩ u1).setCell ⟨g, 2, none⟩ u2).setCell ⟨g, 3, none⟩ u3).setCell ⟨g, 4, none⟩ u4).setCell ⟨g, 5, none⟩ u5).setCell ⟨g, 6, none⟩ u6).setCell ⟨g, 7, none⟩ u7).heap.size 6 (Concept.Is ((((((((((((((w9.setCell ⟨eg, k * 6, none⟩ v0).setCell ⟨eg, k * 6 + 1, none⟩ v1).setCell ⟨eg, k * 6 + 2, none⟩ v2).setCell ⟨eg, k * 6 + 3, none⟩ v3).setCell ⟨eg, k * 6 + 4, none⟩ v4).setCell ⟨eg, k * 6 + 5, none⟩ v5).setCell ⟨g, 0, none⟩ u0).setCell ⟨g, 1, none⟩ u1).setCell ⟨g, 2, none⟩ u2).setCell ⟨g, 3, none⟩ u3).setCell ⟨g, 4, none⟩ u4).setCell ⟨g, 5, none⟩ u5).setCell ⟨g, 6, none⟩ u6).setCell ⟨g, 7, none⟩ u7) ((((((((((((((w9.setCell ⟨eg, k * 6, none⟩ v0).setCell ⟨eg, k * 6 + 1, none⟩ v1).setCell ⟨eg, k * 6 + 2, none⟩ v2).setCell ⟨eg, k * 6 + 3, none⟩ v3).setCell ⟨eg, k * 6 + 4, none⟩ v4).setCell ⟨eg, k * 6 + 5, none⟩ v5).setCell ⟨g, 0, none⟩ u0).setCell ⟨g, 1, none⟩ u1).setCell ⟨g, 2, none⟩ u2).setCell ⟨g, 3, none⟩ u3).setCell ⟨g, 4, none⟩ u4).setCell ⟨g, 5, none⟩ u5).setCell ⟨g, 6, none⟩ u6).setCell ⟨g, 7, none⟩ u7).heap.size) (.slice (some ⟨eg, 0, none⟩) n ec) ((ls.map fun q => q.1).set k c') := by
  obtain ⟨cs, hb2⟩ := hbe
  obtain ⟨W9, hW9⟩ : ∃ W9, W9 = ((((((w9.setCell ⟨eg, k * 6, none⟩ v0).setCell ⟨eg, k * 6 + 1, none⟩ v1).setCell ⟨eg, k * 6 + 2, none⟩ v2).setCell ⟨eg, k * 6 + 3, none⟩ v3).setCell ⟨eg, k * 6 + 4, none⟩ v4).setCell ⟨eg, k * 6 + 5, none⟩ v5) := ⟨_, rfl⟩
  obtain ⟨WF, hWF⟩ : ∃ WF, WF = ((((((((((((((w9.setCell ⟨eg, k * 6, none⟩ v0).setCell ⟨eg, k * 6 + 1, none⟩ v1).setCell ⟨eg, k * 6 + 2, none⟩ v2).setCell ⟨eg, k * 6 + 3, none⟩ v3).setCell ⟨eg, k * 6 + 4, none⟩ v4).setCell ⟨eg, k * 6 + 5, none⟩ v5).setCell ⟨g, 0, none⟩ u0).setCell ⟨g, 1, none⟩ u1).setCell ⟨g, 2, none⟩ u2).setCell ⟨g, 3, none⟩ u3).setCell ⟨g, 4, none⟩ u4).setCell ⟨g, 5, none⟩ u5).setCell ⟨g, 6, none⟩ u6).setCell ⟨g, 7, none⟩ u7) := ⟨_, rfl⟩
  have st9 : Stays w9 W9 base (fun e => e == 47) := by rw [hW9]; exact stays6k hb2
  have st8 : Stays W9 WF base (fun _ => false) := by rw [hWF, hW9]; exact stays8 hgb
  have c8 : ∀ j, WF.cell? ⟨eg, j, none⟩ = W9.cell? ⟨eg, j, none⟩ := fun j => by rw [hWF, hW9]; exact cell8 hg j
  have hs8 : WF.heap.size = w9.heap.size := by rw [hWF, size8, size6k]
  have egl : eg < W.heap.size := (hrow.block eg rfl).2
  have k9 : ∀ j, w9.cell? ⟨eg, j, none⟩ = W.cell? ⟨eg, j, none⟩ := fun j => World.cell?_of_block (hgr.block eg egl (fun e => hne e.symm))
  rw [← hWF]
  refine row_set (O := Concept.Own W base) (I := Concept.Is WF WF.heap.size) (W := W) (W9 := WF) (by omega) hrow hts hp (fun i j hi hj => ?_) (x2 := [v0, v1, v2, v3, v4, v5]) (fun j u hu => ?_) rfl (by rw [hs8]; exact hgr.size) (fun q x' hd hO hq => ?_)
    (((hown.stays st9 rfl rfl rfl).stays st8 rfl rfl rfl).is)
  · rw [c8, hW9, cell6_far (fun j' hj' => by omega)]
    exact k9 _
  · rw [c8, hW9]
    exact cell6_at e9 j u hu
  · obtain ⟨v1', v2', v3', rfl, r1, r2, r3, r4⟩ := hO
    have hx : ∀ v, (v = v1' ∨ v = v2' ∨ v = v3') → ∀ q', v.ownBlock = some q' → b ≠ some q' := fun v hv q' hb' he => by
      refine hd q' ?_ (by rw [← htg]; exact hb q' he)
      rw [← hq]
      rcases hv with rfl | rfl | rfl <;> simp [Value.ownBlock] at hb' ⊢ <;> simp [hb']
    have o1 := st8 _ _ _ _ _ _ rfl (st9 _ _ _ _ _ _ rfl (r1.grown_block hgr (hx v1' (.inl rfl))))
    have o2 := st8 _ _ _ _ _ _ rfl (st9 _ _ _ _ _ _ rfl (r2.grown_block hgr (hx v2' (.inr (.inl rfl)))))
    have o3 := st8 _ _ _ _ _ _ rfl (st9 _ _ _ _ _ _ rfl (r3.grown_block hgr (hx v3' (.inr (.inr rfl)))))
    exact ⟨v1', v2', v3', rfl, o1.read (by omega), o2.read (by omega), o3.read (by omega), r4⟩

end Go.Proofs.YtdhljfblkidohaaGreat
