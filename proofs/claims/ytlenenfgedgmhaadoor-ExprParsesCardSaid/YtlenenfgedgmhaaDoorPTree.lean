/- The parser's trees in memory, and how they are made. -/
import Derived.Test.YtlenenfgedgmhaaDoorPar0
namespace Go.Proofs.YtlenenfgedgmhaaDoor
set_option linter.unusedSimpArgs false
set_option linter.unusedVariables false
open Go.RowKit

/-- all blocks from one on stay -/
structure High (lo : Nat) (w w' : World) : Prop where
  size : w.heap.size ≤ w'.heap.size
  same : ∀ k, lo ≤ k → k < w.heap.size → w'.heap[k]? = w.heap[k]?
theorem High.refl (lo : Nat) (w : World) : High lo w w := ⟨Nat.le_refl _, fun _ _ _ => rfl⟩
theorem High.trans {lo : Nat} {a b c : World} (h : High lo a b) (k : High lo b c) : High lo a c :=
  ⟨Nat.le_trans h.size k.size, fun j h1 h2 => (k.same j h1 (Nat.lt_of_lt_of_le h2 h.size)).trans (h.same j h1 h2)⟩
theorem High.mono {lo lo' : Nat} {a b : World} (h : High lo a b) (hl : lo ≤ lo') : High lo' a b := ⟨h.size, fun k h1 h2 => h.same k (Nat.le_trans hl h1) h2⟩
theorem High.of_mv {q : Nat} {W W' : World} (h : Mv q W W') {lo : Nat} (hl : q < lo) : High lo W W' := ⟨h.low.size, fun k h1 h2 => h.high k (Nat.lt_of_lt_of_le hl h1) h2⟩
theorem High.of_below {W W' : World} {B : Nat} (h : Below B W W') (hB : W.heap.size ≤ B) (lo : Nat) : High lo W W' := ⟨h.size, fun k _ h2 => h.block k (Nat.lt_of_lt_of_le h2 hB)⟩
theorem High.of_set (W : World) {p : Addr} (u : Value) {lo : Nat} (hp : p.block < lo) : High lo W (W.setCell p u) :=
  ⟨by simp, fun k h1 _ => Below.heap_setCell W p u k (by omega)⟩
theorem Own1.stay {α : Type} {w w' : World} {lo size : Nat} {e : TypeId} {R : List Value → α → Prop} {v : Value} {l : List α} (h : Own1 w lo e size R v l) (hk : ∀ b, v.ownBlock = some b → b < w.heap.size → w'.heap[b]? = w.heap[b]?) : Own1 w' lo e size R v l := by
  obtain ⟨xs, h1, h2⟩ := h
  refine ⟨xs, ⟨h1.1, ?_⟩, h2⟩
  rcases h1.2 with r | ⟨g, cap, cur, r1, r2, r3, r4⟩
  · exact .inl r
  · have hg : g < w.heap.size := by
      rcases Nat.lt_or_ge g w.heap.size with hlt | hge
      · exact hlt
      · rw [Array.getElem?_eq_none hge] at r3; cases r3
    exact .inr ⟨g, cap, cur, r1, r2, (hk g (by rw [r1]; rfl) hg).trans r3, r4⟩
/-- a pointer to a block -/
def IsPtr : List Value → Nat → Prop := fun x g => x = [.pointer (some ⟨g, 0, none⟩)]
mutual
/-- a tree that lies in memory, in blocks that S allows -/
def TreeIn (w : World) (S : Nat → Prop) : Tr → Nat → Prop
  | .node k s n ks, g => S g ∧ ∃ (v : Value) (gs : List Nat), Blk w g 91 #[.int .i64 (k : Int), .string (txt s), .int .i64 n, .slice none 0 0, v] ∧ Own1 w 0 60 1 IsPtr v gs ∧ (∀ b, v.ownBlock = some b → S b) ∧ TreesIn w S ks gs
def TreesIn (w : World) (S : Nat → Prop) : List Tr → List Nat → Prop
  | [], gs => gs = []
  | t :: ts, gs => ∃ g gs', gs = g :: gs' ∧ TreeIn w S t g ∧ TreesIn w S ts gs'
end
/-- .. from block lo on -/
def TreeAt (w : World) (lo : Nat) (t : Tr) (g : Nat) : Prop := TreeIn w (fun k => lo ≤ k) t g
mutual
theorem TreeIn.stay {w w' : World} {S : Nat → Prop} (hk : ∀ k, S k → k < w.heap.size → w'.heap[k]? = w.heap[k]?) : ∀ {t : Tr} {g : Nat}, TreeIn w S t g → TreeIn w' S t g
  | .node k s n ks, g, h => by
    simp only [TreeIn] at h ⊢
    obtain ⟨h1, v, gs, h2, h3, h5, h4⟩ := h
    exact ⟨h1, v, gs, h2.keep (hk g h1 h2.lt), h3.stay (fun b hb hl => hk b (h5 b hb) hl), h5, TreesIn.stay hk h4⟩
theorem TreesIn.stay {w w' : World} {S : Nat → Prop} (hk : ∀ k, S k → k < w.heap.size → w'.heap[k]? = w.heap[k]?) : ∀ {ts : List Tr} {gs : List Nat}, TreesIn w S ts gs → TreesIn w' S ts gs
  | [], gs, h => by simp only [TreesIn] at h ⊢; exact h
  | t :: ts, gs, h => by
    simp only [TreesIn] at h ⊢
    obtain ⟨g, gs', h1, h2, h3⟩ := h
    exact ⟨g, gs', h1, h2.stay hk, TreesIn.stay hk h3⟩
end
mutual
theorem TreeIn.imp {w : World} {S S' : Nat → Prop} (hl : ∀ k, S k → k < w.heap.size → S' k) : ∀ {t : Tr} {g : Nat}, TreeIn w S t g → TreeIn w S' t g
  | .node k s n ks, g, h => by
    simp only [TreeIn] at h ⊢
    obtain ⟨h1, v, gs, h2, h3, h5, h4⟩ := h
    exact ⟨hl _ h1 h2.lt, v, gs, h2, h3, fun b hb => hl _ (h5 b hb) (h3.block b hb).2, TreesIn.imp hl h4⟩
theorem TreesIn.imp {w : World} {S S' : Nat → Prop} (hl : ∀ k, S k → k < w.heap.size → S' k) : ∀ {ts : List Tr} {gs : List Nat}, TreesIn w S ts gs → TreesIn w S' ts gs
  | [], gs, h => by simp only [TreesIn] at h ⊢; exact h
  | t :: ts, gs, h => by
    simp only [TreesIn] at h ⊢
    obtain ⟨g, gs', h1, h2, h3⟩ := h
    exact ⟨g, gs', h1, h2.imp hl, TreesIn.imp hl h3⟩
end
theorem TreesIn.app {w : World} {S : Nat → Prop} : ∀ {ts : List Tr} {gs : List Nat} {t : Tr} {g : Nat}, TreesIn w S ts gs → TreeIn w S t g → TreesIn w S (ts ++ [t]) (gs ++ [g])
  | [], gs, t, g, h, ht => by
    simp only [TreesIn] at h
    subst h
    simp only [List.nil_append, TreesIn]
    exact ⟨g, [], rfl, ht, rfl⟩
  | u :: ts, gs, t, g, h, ht => by
    simp only [TreesIn] at h
    obtain ⟨g', gs', rfl, h2, h3⟩ := h
    simp only [List.cons_append, TreesIn]
    exact ⟨g', gs' ++ [g], rfl, h2, TreesIn.app h3 ht⟩
theorem TreeAt.high {w w' : World} {lo : Nat} (hk : High lo w w') {t : Tr} {g : Nat} (h : TreeAt w lo t g) : TreeAt w' lo t g := TreeIn.stay (fun k h1 h2 => hk.same k h1 h2) h
theorem TreeAt.mono {w : World} {lo lo' : Nat} (hl : lo' ≤ lo) {t : Tr} {g : Nat} (h : TreeAt w lo t g) : TreeAt w lo' t g := TreeIn.imp (fun _ h1 _ => Nat.le_trans hl h1) h
theorem TreeIn.lo {w : World} {S : Nat → Prop} {t : Tr} {g : Nat} (h : TreeIn w S t g) : S g ∧ g < w.heap.size := by
  cases t with
  | node k s n ks =>
    simp only [TreeIn] at h
    obtain ⟨h1, v, gs, h2, _⟩ := h
    exact ⟨h1, h2.lt⟩
theorem p_of (k : Nat) (s : List Nat) (a : Option Addr) (n c : Nat) (W : World) : Calls Tryd.prog 73 #[.int .i64 (k : Int), .string (txt s), .slice a n c] W fun e w' =>
    e = .returned (.pointer (some ⟨W.heap.size, 0, none⟩)) ∧ w' = W.alloc (.cells #[.int .i64 (k : Int), .string (txt s), .int .i64 0, .slice none 0 0, .slice a n c] 91) := by
  go_enter Tryd.func73, Tryd.ntmps73
  go_wp2_with fail
  go_ret
  exact ⟨rfl, rfl⟩
end Go.Proofs.YtlenenfgedgmhaaDoor
