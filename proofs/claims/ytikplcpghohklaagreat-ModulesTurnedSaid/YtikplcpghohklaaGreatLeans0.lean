/- A square of Bools in memory of the call's own; a round over it, in plain words. -/
import Derived.Test.YtikplcpghohklaaGreatMod0
import Derived.Deep.OwnRows
namespace Go.Proofs.YtikplcpghohklaaGreat
set_option linter.unusedSimpArgs false
set_option linter.unusedVariables false
open Go.RowKit

theorem rowIs_below {w w' : World} {g n : Nat} {t : TypeId} {f : Nat → Value} (h : w.rowIs g t n f) (b : Below w.heap.size w w') : w'.rowIs g t n f := h.of_block (b.block g h.lt)
/-- so many rows are made -/
def topN (N n r : Nat) : Nat → Value := fun j => if j < r then .slice (some ⟨N + 1 + j, 0, none⟩) n n else .slice none 0 0
/-- the square: r rows of it are made; the others hold nothing -/
structure MatS (w wr : World) (n r : Nat) (Z : Nat → Nat → Bool) : Prop where
  low : Below w.heap.size w wr
  size : wr.heap.size = w.heap.size + 1 + r
  top : wr.rowIs w.heap.size 148 n (topN w.heap.size n r)
  done : ∀ j, j < r → wr.rowIs (w.heap.size + 1 + j) 4 n (fun c => .bool (Z j c))
  dom : ∀ a b, Z a b = true → a < r ∧ b < n
theorem MatS.start (w : World) (n : Nat) : MatS w (w.alloc (.cells (madeCells #[.slice none 0 0] n) 148)) n 0 (fun _ _ => false) :=
  ⟨(Below.refl _ _).alloc (Nat.le_refl _) _, by simp, (World.rowIs_made w _ n _).congr (fun j _ => by simp [topN]), fun j hj => absurd hj (Nat.not_lt_zero _), fun a b h => by cases h⟩
section
variable {w wr : World} {n r : Nat} {Z : Nat → Nat → Bool}
theorem MatS.push (h : MatS w wr n r Z) : MatS w ((wr.alloc (.cells (madeCells #[.bool false] n) 4)).setCell ⟨w.heap.size, r, none⟩ (.slice (some ⟨wr.heap.size, 0, none⟩) n n)) n (r + 1) Z := by
  have hnew := World.rowIs_made wr (.bool false) n 4
  have hz := h.size
  refine ⟨(h.low.alloc h.low.size _).setCell (Nat.le_refl _) _, by simp [h.size]; omega, ((h.top.alloc _).set r _).congr (fun j _ => ?_), fun j hj => ?_, fun a b hab => ⟨by have := (h.dom a b hab).1; omega, (h.dom a b hab).2⟩⟩
  · simp only [topN]
    by_cases e : j = r
    · subst e; rw [if_pos rfl, if_pos (by omega), hz]
    · rw [if_neg e]
      by_cases hlt : j < r
      · rw [if_pos hlt, if_pos (by omega)]
      · rw [if_neg hlt, if_neg (by omega)]
  · by_cases e : j = r
    · subst e
      rw [hz] at hnew
      refine (hnew.setOther (by show w.heap.size + 1 + j ≠ w.heap.size; omega) _).congr (fun i _ => ?_)
      rcases hzz : Z j i with _ | _
      · rfl
      · have := (h.dom j i hzz).1; omega
    · exact ((h.done j (by omega)).alloc _).setOther (by show w.heap.size + 1 + j ≠ w.heap.size; omega) _
/-- one of them is set -/
def updZ (Z : Nat → Nat → Bool) (a b : Nat) (v : Bool) : Nat → Nat → Bool := fun x y => if x = a ∧ y = b then v else Z x y
theorem MatS.set (h : MatS w wr n r Z) {a b : Nat} (ha : a < r) (hb : b < n) (v : Bool) : MatS w (wr.setCell ⟨w.heap.size + 1 + a, b, none⟩ (.bool v)) n r (updZ Z a b v) := by
  refine ⟨h.low.setCell (by show w.heap.size ≤ w.heap.size + 1 + a; omega) _, by simp [h.size], h.top.setOther (by show w.heap.size ≠ w.heap.size + 1 + a; omega) _, fun j hj => ?_, fun x y hxy => ?_⟩
  · by_cases e : j = a
    · subst e
      refine ((h.done j hj).set b _).congr (fun i _ => ?_)
      simp only [updZ]
      by_cases hi : i = b
      · simp [hi]
      · simp [hi]
    · refine ((h.done j hj).setOther (by show w.heap.size + 1 + j ≠ w.heap.size + 1 + a; omega) _).congr (fun i _ => ?_)
      simp [updZ, e]
  · unfold updZ at hxy
    split at hxy
    · rename_i e; rw [e.1, e.2]; exact ⟨ha, hb⟩
    · exact h.dom x y hxy
theorem MatS.drewN (h : MatS w wr n r Z) (k : Nat) : MatS w (wr.drewN k) n r Z := ⟨below_drewN h.low k, h.size, h.top, h.done, h.dom⟩
theorem MatS.drew (h : MatS w wr n r Z) : MatS w wr.drew n r Z := ⟨h.low.drew, h.size, h.top, h.done, h.dom⟩
theorem MatS.quiet (h : MatS w wr n r Z) {w' : World} (q : Quiet wr w') : MatS w w' n r Z := by obtain ⟨k, rfl⟩ := q; exact h.drewN k
theorem MatS.below (h : MatS w wr n r Z) {w' : World} (b : Below wr.heap.size wr w') (hz : w'.heap.size = wr.heap.size) : MatS w w' n r Z :=
  ⟨h.low.trans (b.mono h.low.size), by rw [hz, h.size], rowIs_below h.top b, fun j hj => rowIs_below (h.done j hj) b, h.dom⟩
theorem MatS.topc (h : MatS w wr n r Z) {a : Nat} (ha : a < r) (hn : r ≤ n) : wr.cell? ⟨w.heap.size, a, none⟩ = some (.slice (some ⟨w.heap.size + 1 + a, 0, none⟩) n n) := by
  have := h.top.cell (i := a) (by omega)
  rw [this, topN, if_pos ha]
theorem MatS.cell (h : MatS w wr n r Z) {a b : Nat} (ha : a < r) (hb : b < n) : wr.cell? ⟨w.heap.size + 1 + a, b, none⟩ = some (.bool (Z a b)) := (h.done a ha).cell hb
end

/-- the web of numbers of languages of which each uses ones that are there -/
def webN (ls : List Language) : Web := ls.map fun l => l.uses.map fun s => (findN ls s).toNat
/-- each that is used is there -/
def AllFound (ls : List Language) : Prop := ∀ l ∈ ls, ∀ s ∈ l.uses, 0 ≤ findN ls s
theorem findN_lt (ls : List Language) (s : ByteArray) : findN ls s < ls.length := by
  unfold findN firstAt
  cases h : ls.findIdx? (fun x : Language => decide (x.name = s)) with
  | none => have : (0 : Int) ≤ (ls.length : Int) := Int.natCast_nonneg _; simp only; omega
  | some i =>
    have := (List.findIdx?_eq_some_iff_getElem.1 h).1
    simp only; omega
theorem webN_len (ls : List Language) : (webN ls).length = ls.length := by simp [webN]
theorem webN_at {ls : List Language} {i : Nat} {l : Language} (h : ls[i]? = some l) : (webN ls)[i]? = some (l.uses.map fun s => (findN ls s).toNat) := by
  unfold webN
  rw [List.getElem?_map, h]
  rfl
theorem webN_in (ls : List Language) (hf : AllFound ls) (a b : Nat) (h : Edge (webN ls) a b) : b < ls.length := by
  obtain ⟨l, h1, h2⟩ := h
  unfold webN at h1
  rw [List.getElem?_map] at h1
  cases hl : ls[a]? with
  | none => rw [hl] at h1; cases h1
  | some x =>
    rw [hl] at h1
    injection h1 with h1
    subst h1
    obtain ⟨s, hs, rfl⟩ := List.mem_map.1 h2
    have h0 := hf x (List.mem_iff_getElem?.2 ⟨a, hl⟩) s hs
    have := findN_lt ls s
    omega
theorem edge_at {us : Web} {i : Nat} {u : List Nat} (h : us[i]? = some u) (b : Nat) : Edge us i b ↔ b ∈ u := by
  constructor
  · rintro ⟨l, h1, h2⟩
    rw [h] at h1
    injection h1 with h1
    rw [h1]; exact h2
  · intro hb
    exact ⟨u, h, hb⟩

/-! a round: how far it has come -/
structure Rd (us : Web) (Z0 Z : Nat → Nat → Bool) (i k m : Nat) : Prop where
  sound : ∀ a b, Z a b = true → Reach us a b
  up : ∀ a b, Z0 a b = true → Z a b = true
  dn : ∀ a b c, (a < i ∨ (a = i ∧ b < k)) → Z0 a b = true → Z0 b c = true → Z a c = true
  cur : ∀ c, c < m → Z0 i k = true → Z0 k c = true → Z i c = true
theorem Rd.start {us : Web} {Z : Nat → Nat → Bool} (h : ∀ a b, Z a b = true → Reach us a b) : Rd us Z Z 0 0 0 := ⟨h, fun _ _ h => h, fun a b c h => by rcases h with h | ⟨_, h⟩ <;> omega, fun c h => by omega⟩
theorem Rd.stepM {us : Web} {Z0 Z : Nat → Nat → Bool} {i k m : Nat} (h : Rd us Z0 Z i k m) (hik : Z i k = true) : Rd us Z0 (updZ Z i m (Z i m || Z k m)) i k (m + 1) := by
  have mono : ∀ a b, Z a b = true → updZ Z i m (Z i m || Z k m) a b = true := by
    intro a b hab
    unfold updZ
    split
    · rename_i e; rw [← e.1, ← e.2, hab]; rfl
    · exact hab
  refine ⟨fun a b hab => ?_, fun a b h0 => mono a b (h.up a b h0), fun a b c hab h1 h2 => mono a c (h.dn a b c hab h1 h2), fun c hc h1 h2 => ?_⟩
  · unfold updZ at hab
    split at hab
    · rename_i e
      obtain ⟨rfl, rfl⟩ := e
      rcases Bool.or_eq_true_iff.1 hab with h1 | h1
      · exact h.sound _ _ h1
      · exact (h.sound _ _ hik).trans (h.sound _ _ h1)
    · exact h.sound a b hab
  · by_cases e : c = m
    · subst e
      unfold updZ
      rw [if_pos ⟨rfl, rfl⟩, h.up k c h2, Bool.or_true]
    · exact mono i c (h.cur c (by omega) h1 h2)
/-- the inner loop is left: at its end, or for there is no way -/
theorem Rd.stepK {us : Web} {Z0 Z : Nat → Nat → Bool} {i k m n : Nat} (h : Rd us Z0 Z i k m) (hd : ∀ a b, Z0 a b = true → b < n) (he : n ≤ m ∨ Z i k = false) : Rd us Z0 Z i (k + 1) 0 := by
  refine ⟨h.sound, h.up, fun a b c hab h1 h2 => ?_, fun c hc => by omega⟩
  by_cases e : a = i ∧ b = k
  · obtain ⟨rfl, rfl⟩ := e
    rcases he with he | he
    · exact h.cur c (by have := hd _ _ h2; omega) h1 h2
    · rw [h.up _ _ h1] at he; cases he
  · exact h.dn a b c (by rcases hab with h' | ⟨h', h''⟩; exact .inl h'; by_cases hbk : b = k; exact absurd ⟨h', hbk⟩ e; exact .inr ⟨h', by omega⟩) h1 h2
theorem Rd.stepI {us : Web} {Z0 Z : Nat → Nat → Bool} {i k n : Nat} (h : Rd us Z0 Z i k 0) (hd : ∀ a b, Z0 a b = true → b < n) (hk : n ≤ k) : Rd us Z0 Z (i + 1) 0 0 :=
  ⟨h.sound, h.up, fun a b c hab h1 h2 => h.dn a b c (by rcases hab with h' | ⟨_, h'⟩; (by_cases e : a = i; exact .inr ⟨e, by have := hd _ _ h1; omega⟩; exact .inl (by omega)); omega) h1 h2, fun c hc => by omega⟩
theorem Rd.done {us : Web} {Z0 Z : Nat → Nat → Bool} {r i n : Nat} (h : Rd us Z0 Z i 0 0) (hd : ∀ a b, Z0 a b = true → a < n) (hi : n ≤ i) (hM : Mat us r Z0) : Mat us (r + 1) Z :=
  hM.round h.sound h.up (fun a b c h1 h2 => h.dn a b c (.inl (by have := hd _ _ h1; omega)) h1 h2)
end Go.Proofs.YtikplcpghohklaaGreat
