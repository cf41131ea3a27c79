/- The chapter's examples: what modules answers at four languages. -/
import Derived.Test.YtikplcpghohklaaGreatZTab
import Derived.Test.YtikplcpghohklaaGreatZFour
import Derived.StillTailTactics
namespace Go.Proofs.YtikplcpghohklaaGreat
set_option linter.unusedSimpArgs false
set_option linter.unusedVariables false
open Go.RowKit

theorem texts_read {W : World} {g : Nat} {t : TypeId} (l : List ByteArray) (h : Blk W g t (l.map Value.string).toArray) (hs : ∀ s ∈ l, s.size ≤ maxLen) (hl : l.length ≤ maxLen) : SlR W W.heap.size 1 IsText (.slice (some ⟨g, 0, none⟩) l.length l.length) l := by
  refine ⟨_, _, rfl, Nat.le_refl _, hl, fun _ => ⟨g, 0, rfl, h.lt, fun i y hy => ⟨[.string y], rfl, ⟨rfl, hs y (List.mem_iff_getElem?.2 ⟨i, hy⟩)⟩, fun j u hu => ?_⟩⟩⟩
  rcases j with _ | j
  · simp at hu
    subst hu
    refine h.cell ?_
    rw [List.getElem?_toArray, Nat.zero_add, Nat.mul_one, Nat.add_zero, List.getElem?_map, hy]
    rfl
  · simp at hu
theorem bare_is {W : World} {B : Nat} (n : UInt8) (u : Value) (us : List ByteArray) (hu : SlR W B 1 IsText u us) (hf : Fit us.length 16) : Language.Is W B [.string ⟨#[n]⟩, .int .i64 1, u, .slice none 0 0, .slice none 0 0, .slice none 0 0, .slice none 0 0, .slice none 0 0] ⟨tx n, 1, us, [], [], [], [], []⟩ :=
  ⟨_, _, _, _, _, _, rfl, hu, SlR.nil_ _ (by unfold maxLen; omega) _, SlR.nil_ _ (by unfold maxLen; omega) _, SlR.nil_ _ (by unfold maxLen; omega) _, SlR.nil_ _ (by unfold maxLen; omega) _, SlR.nil_ _ (by unfold maxLen; omega) _, ⟨hf, by simp [Fit], by simp [Fit], by simp [Fit], by simp [Fit], by simp [Fit]⟩, by show (1 : Nat) ≤ maxLen; unfold maxLen; omega, by show (Lit.int .i64 1).wf = true; decide⟩
theorem SlR.sub {α : Type} {w : World} {B size b off n c : Nat} {R : List Value → α → Prop} {l : List α} (h : SlR w B size R (.slice (some ⟨b, off, none⟩) n c) l) (i j : Nat) (hij : i < j) (hj : j ≤ n) : SlR w B size R (.slice (some ⟨b, off + i * size, none⟩) (j - i) (c - i)) ((l.take j).drop i) := by
  have hc := h.caps
  have hn := h.len
  obtain ⟨a', c', hv, h1, h2, h3⟩ := h
  injection hv with e1 e2 e3
  subst e1 e3
  have hlen : ((l.take j).drop i).length = j - i := by rw [List.length_drop, List.length_take, Nat.min_eq_left (by omega)]
  refine ⟨_, c - i, by rw [hlen], by omega, by omega, fun _ => ⟨b, off + i * size, rfl, ?_, fun m y hy => ?_⟩⟩
  · obtain ⟨b', off', e, hb, _⟩ := h3 (by omega)
    injection e with e
    injection e with e _
    rw [e]; exact hb
  · obtain ⟨b', off', e, hb, hx⟩ := h3 (by omega)
    injection e with e
    injection e with e e'
    subst e e'
    have hm : m < j - i := by rw [← hlen]; exact (List.getElem?_eq_some_iff.1 hy).1
    rw [List.getElem?_drop, List.getElem?_take_of_lt (by omega)] at hy
    obtain ⟨x, x1, x2, x3⟩ := hx (i + m) y hy
    refine ⟨x, x1, x2, fun k u hu => ?_⟩
    have := x3 k u hu
    rw [Nat.add_mul, ← Nat.add_assoc] at this
    exact this
theorem ints_at {W : World} {B : Nat} {a : Option Addr} {n c : Nat} {l : List Int} (h : SlR W B 1 IsInt (.slice a n c) l) (hn : 0 < n) : ∃ b off, a = some ⟨b, off, none⟩ ∧ b < B ∧ ∀ (k : Nat) (y : Int), l[k]? = some y → W.cell? ⟨b, off + k, none⟩ = some (.int .i64 y) := by
  have hl := h.len
  obtain ⟨a', c', hv, _, _, h3⟩ := h
  injection hv with e1 _ _
  subst e1
  obtain ⟨b, off, rfl, hb, hx⟩ := h3 (by omega)
  refine ⟨b, off, rfl, hb, fun k y hy => ?_⟩
  obtain ⟨x, _, ⟨rfl, _⟩, x3⟩ := hx k y hy
  have := x3 0 _ rfl
  simpa using this
/-- the four languages as they lie -/
structure FourS (w W : World) : Prop where
  low : Below w.heap.size w W
  ba : Blk W w.heap.size 9 #[.string ⟨#[97]⟩]
  bb : Blk W (w.heap.size + 1) 9 #[.string ⟨#[97]⟩, .string ⟨#[98]⟩]
  bc : Blk W (w.heap.size + 1 + 1) 9 #[.string ⟨#[99]⟩]
  bd : Blk W (w.heap.size + 1 + 1 + 1) 39 #[.string ⟨#[97]⟩, .int .i64 1, .slice none 0 0, .slice none 0 0, .slice none 0 0, .slice none 0 0, .slice none 0 0, .slice none 0 0, .string ⟨#[98]⟩, .int .i64 1, .slice (some ⟨w.heap.size, 0, none⟩) 1 1, .slice none 0 0, .slice none 0 0, .slice none 0 0, .slice none 0 0, .slice none 0 0, .string ⟨#[99]⟩, .int .i64 1, .slice (some ⟨w.heap.size + 1, 0, none⟩) 2 2, .slice none 0 0, .slice none 0 0, .slice none 0 0, .slice none 0 0, .slice none 0 0, .string ⟨#[100]⟩, .int .i64 1, .slice (some ⟨w.heap.size + 1 + 1, 0, none⟩) 1 1, .slice none 0 0, .slice none 0 0, .slice none 0 0, .slice none 0 0, .slice none 0 0]
theorem FourS.below {w W W' : World} (h : FourS w W) (b : Below W.heap.size W W') : FourS w W' := ⟨h.low.trans (b.mono h.low.size), h.ba.below b h.ba.lt, h.bb.below b h.bb.lt, h.bc.below b h.bc.lt, h.bd.below b h.bd.lt⟩
section
variable {w W : World}
theorem FourS.ua (h : FourS w W) : SlR W W.heap.size 1 IsText (.slice (some ⟨w.heap.size, 0, none⟩) 1 1) [tx 97] := texts_read [tx 97] h.ba (by intro s hs; simp at hs; subst hs; show (1 : Nat) ≤ maxLen; unfold maxLen; omega) (by simp [maxLen])
theorem FourS.ub (h : FourS w W) : SlR W W.heap.size 1 IsText (.slice (some ⟨w.heap.size + 1, 0, none⟩) 2 2) [tx 97, tx 98] := texts_read [tx 97, tx 98] h.bb (by intro s hs; simp at hs; rcases hs with rfl | rfl <;> (show (1 : Nat) ≤ maxLen; unfold maxLen; omega)) (by simp [maxLen])
theorem FourS.uc (h : FourS w W) : SlR W W.heap.size 1 IsText (.slice (some ⟨w.heap.size + 1 + 1, 0, none⟩) 1 1) [tx 99] := texts_read [tx 99] h.bc (by intro s hs; simp at hs; subst hs; show (1 : Nat) ≤ maxLen; unfold maxLen; omega) (by simp [maxLen])
theorem FourS.ia (h : FourS w W) : Language.Is W W.heap.size [.string ⟨#[97]⟩, .int .i64 1, .slice none 0 0, .slice none 0 0, .slice none 0 0, .slice none 0 0, .slice none 0 0, .slice none 0 0] la := bare_is 97 _ [] (SlR.nil_ _ (by unfold maxLen; omega) _) (by simp [Fit])
theorem FourS.ib (h : FourS w W) : Language.Is W W.heap.size [.string ⟨#[98]⟩, .int .i64 1, .slice (some ⟨w.heap.size, 0, none⟩) 1 1, .slice none 0 0, .slice none 0 0, .slice none 0 0, .slice none 0 0, .slice none 0 0] lb := bare_is 98 _ [tx 97] h.ua (by simp [Fit])
theorem FourS.ic (h : FourS w W) : Language.Is W W.heap.size [.string ⟨#[99]⟩, .int .i64 1, .slice (some ⟨w.heap.size + 1, 0, none⟩) 2 2, .slice none 0 0, .slice none 0 0, .slice none 0 0, .slice none 0 0, .slice none 0 0] lc := bare_is 99 _ [tx 97, tx 98] h.ub (by simp [Fit])
theorem FourS.id_ (h : FourS w W) : Language.Is W W.heap.size [.string ⟨#[100]⟩, .int .i64 1, .slice (some ⟨w.heap.size + 1 + 1, 0, none⟩) 1 1, .slice none 0 0, .slice none 0 0, .slice none 0 0, .slice none 0 0, .slice none 0 0] ld := bare_is 100 _ [tx 99] h.uc (by simp [Fit])
theorem FourS.four (h : FourS w W) : LsR W W.heap.size (.slice (some ⟨w.heap.size + 1 + 1 + 1, 0, none⟩) 4 4) fourL := by
  have ho : Own1 W 0 39 8 (Language.Is W W.heap.size) (.slice (some ⟨w.heap.size + 1 + 1 + 1, 0, none⟩) 4 4) fourL :=
    ⟨[.string ⟨#[97]⟩, .int .i64 1, .slice none 0 0, .slice none 0 0, .slice none 0 0, .slice none 0 0, .slice none 0 0, .slice none 0 0, .string ⟨#[98]⟩, .int .i64 1, .slice (some ⟨w.heap.size, 0, none⟩) 1 1, .slice none 0 0, .slice none 0 0, .slice none 0 0, .slice none 0 0, .slice none 0 0, .string ⟨#[99]⟩, .int .i64 1, .slice (some ⟨w.heap.size + 1, 0, none⟩) 2 2, .slice none 0 0, .slice none 0 0, .slice none 0 0, .slice none 0 0, .slice none 0 0, .string ⟨#[100]⟩, .int .i64 1, .slice (some ⟨w.heap.size + 1 + 1, 0, none⟩) 1 1, .slice none 0 0, .slice none 0 0, .slice none 0 0, .slice none 0 0, .slice none 0 0], ⟨rfl, .inr ⟨_, 4, _, rfl, Nat.zero_le _, h.bd, Nat.le_refl _, by simp [maxLen], rfl, rfl⟩⟩, (((FlatR.one (size := 8) (xs := [.string ⟨#[97]⟩, .int .i64 1, .slice none 0 0, .slice none 0 0, .slice none 0 0, .slice none 0 0, .slice none 0 0, .slice none 0 0]) rfl h.ia).app (FlatR.one (size := 8) (xs := [.string ⟨#[98]⟩, .int .i64 1, .slice (some ⟨w.heap.size, 0, none⟩) 1 1, .slice none 0 0, .slice none 0 0, .slice none 0 0, .slice none 0 0, .slice none 0 0]) rfl h.ib)).app (FlatR.one (size := 8) (xs := [.string ⟨#[99]⟩, .int .i64 1, .slice (some ⟨w.heap.size + 1, 0, none⟩) 2 2, .slice none 0 0, .slice none 0 0, .slice none 0 0, .slice none 0 0, .slice none 0 0]) rfl h.ic)).app (FlatR.one (size := 8) (xs := [.string ⟨#[100]⟩, .int .i64 1, .slice (some ⟨w.heap.size + 1 + 1, 0, none⟩) 1 1, .slice none 0 0, .slice none 0 0, .slice none 0 0, .slice none 0 0, .slice none 0 0]) rfl h.id_)⟩
  exact ho.read (by omega)
theorem FourS.back {g : Nat} (h : FourS w W) (hg : Blk W g 39 #[.string ⟨#[100]⟩, .int .i64 1, .slice (some ⟨w.heap.size + 1 + 1, 0, none⟩) 1 1, .slice none 0 0, .slice none 0 0, .slice none 0 0, .slice none 0 0, .slice none 0 0, .string ⟨#[99]⟩, .int .i64 1, .slice (some ⟨w.heap.size + 1, 0, none⟩) 2 2, .slice none 0 0, .slice none 0 0, .slice none 0 0, .slice none 0 0, .slice none 0 0, .string ⟨#[98]⟩, .int .i64 1, .slice (some ⟨w.heap.size, 0, none⟩) 1 1, .slice none 0 0, .slice none 0 0, .slice none 0 0, .slice none 0 0, .slice none 0 0, .string ⟨#[97]⟩, .int .i64 1, .slice none 0 0, .slice none 0 0, .slice none 0 0, .slice none 0 0, .slice none 0 0, .slice none 0 0]) : LsR W W.heap.size (.slice (some ⟨g, 0, none⟩) 4 4) backL := by
  have ho : Own1 W 0 39 8 (Language.Is W W.heap.size) (.slice (some ⟨g, 0, none⟩) 4 4) backL :=
    ⟨[.string ⟨#[100]⟩, .int .i64 1, .slice (some ⟨w.heap.size + 1 + 1, 0, none⟩) 1 1, .slice none 0 0, .slice none 0 0, .slice none 0 0, .slice none 0 0, .slice none 0 0, .string ⟨#[99]⟩, .int .i64 1, .slice (some ⟨w.heap.size + 1, 0, none⟩) 2 2, .slice none 0 0, .slice none 0 0, .slice none 0 0, .slice none 0 0, .slice none 0 0, .string ⟨#[98]⟩, .int .i64 1, .slice (some ⟨w.heap.size, 0, none⟩) 1 1, .slice none 0 0, .slice none 0 0, .slice none 0 0, .slice none 0 0, .slice none 0 0, .string ⟨#[97]⟩, .int .i64 1, .slice none 0 0, .slice none 0 0, .slice none 0 0, .slice none 0 0, .slice none 0 0, .slice none 0 0], ⟨rfl, .inr ⟨_, 4, _, rfl, Nat.zero_le _, hg, Nat.le_refl _, by simp [maxLen], rfl, rfl⟩⟩, (((FlatR.one (size := 8) (xs := [.string ⟨#[100]⟩, .int .i64 1, .slice (some ⟨w.heap.size + 1 + 1, 0, none⟩) 1 1, .slice none 0 0, .slice none 0 0, .slice none 0 0, .slice none 0 0, .slice none 0 0]) rfl h.id_).app (FlatR.one (size := 8) (xs := [.string ⟨#[99]⟩, .int .i64 1, .slice (some ⟨w.heap.size + 1, 0, none⟩) 2 2, .slice none 0 0, .slice none 0 0, .slice none 0 0, .slice none 0 0, .slice none 0 0]) rfl h.ic)).app (FlatR.one (size := 8) (xs := [.string ⟨#[98]⟩, .int .i64 1, .slice (some ⟨w.heap.size, 0, none⟩) 1 1, .slice none 0 0, .slice none 0 0, .slice none 0 0, .slice none 0 0, .slice none 0 0]) rfl h.ib)).app (FlatR.one (size := 8) (xs := [.string ⟨#[97]⟩, .int .i64 1, .slice none 0 0, .slice none 0 0, .slice none 0 0, .slice none 0 0, .slice none 0 0, .slice none 0 0]) rfl h.ia)⟩
  exact ho.read (by omega)
end
theorem z_four (w : World) : Calls Tryz.prog 30 #[] w fun e w' => e = .returned (.slice (some ⟨w.heap.size + 1 + 1 + 1, 0, none⟩) 4 4) ∧ FourS w w' := by
  go_enter Tryz.func30, Tryz.ntmps30
  go_wp2_with fail
  go_ret
  refine ⟨rfl, ((((Below.refl w.heap.size w).alloc (Nat.le_refl _) _).alloc (below2 (Nat.le_refl _)) _).alloc (below3 (Nat.le_refl _)) _).alloc (by simp; omega) _, (((Blk.new w _ _).alloc _).alloc _).alloc _, ((Blk.new_ (by simp) _ _).alloc _).alloc _, (Blk.new_ (by simp) _ _).alloc _, Blk.new_ (by simp) _ _⟩


section
variable {W : World}
theorem c_back {v : Value} (h : LsR W W.heap.size v backL) (w : World) (hw : Below W.heap.size W w) : Calls Tryz.prog 10 #[v] w fun e w' => (∃ a c, e = .returned (.tuple #[.slice a 4 c, .agg #[.int .i64 0, .int .i64 0, .int .i64 0, .int .i64 0]]) ∧ SlR w' w'.heap.size 1 IsInt (.slice a 4 c) [3, 2, 1, 0]) ∧ Below w.heap.size w w' :=
  (m_Order w W h hw).mono fun e w' h => by
    unfold MOPost at h
    rw [back_fault] at h
    simp only at h
    rw [back_row] at h
    exact h
theorem c_mid {v : Value} (h : LsR W W.heap.size v [lb, lc]) (w : World) (hw : Below W.heap.size W w) : Calls Tryz.prog 10 #[v] w fun e w' => e = .returned (.tuple #[.slice none 0 0, .agg #[.int .i64 1, .int .i64 0, .int .i64 0, .int .i64 240]]) ∧ Below w.heap.size w w' :=
  (m_Order w W h hw).mono fun e w' h => by
    unfold MOPost at h
    rw [mid_fault] at h
    exact h
theorem c_close {v : Value} (h : LsR W W.heap.size v backL) (w : World) (hw : Below W.heap.size W w) : Calls Tryz.prog 13 #[v, .string ⟨#[98]⟩] w fun e w' => (∃ a c, e = .returned (.tuple #[.slice a 2 c, .agg #[.int .i64 0, .int .i64 0, .int .i64 0, .int .i64 0]]) ∧ SlR w' w'.heap.size 1 IsInt (.slice a 2 c) [3, 2]) ∧ Below w.heap.size w w' :=
  (m_Close (tx 98) (by show (1 : Nat) ≤ maxLen; unfold maxLen; omega) w W h hw).mono fun e w' h => by
    unfold ClosePost at h
    rw [back_fault, back_find] at h
    simp only at h
    rw [if_neg (by omega), Int.toNat_natCast, back_close] at h
    obtain ⟨⟨a, n, c, he, hs⟩, hb⟩ := h
    obtain rfl : n = 2 := hs.len
    exact ⟨⟨a, c, he, hs⟩, hb⟩
theorem c_nox {v : Value} (h : LsR W W.heap.size v fourL) (w : World) (hw : Below W.heap.size W w) : Calls Tryz.prog 13 #[v, .string ⟨#[120]⟩] w fun e w' => e = .returned (.tuple #[.slice none 0 0, .agg #[.int .i64 (-1), .int .i64 0, .int .i64 0, .int .i64 240]]) ∧ Below w.heap.size w w' :=
  (m_Close (tx 120) (by show (1 : Nat) ≤ maxLen; unfold maxLen; omega) w W h hw).mono fun e w' h => by
    unfold ClosePost at h
    rw [four_fault, four_nox] at h
    simp only at h
    rw [if_pos (by omega)] at h
    exact h
theorem c_table {v : Value} (h : LsR W W.heap.size v fourL) (w : World) (hw : Below W.heap.size W w) : Calls Tryz.prog 15 #[v, .string ⟨#[97]⟩] w fun e w' => (∃ p, e = .returned (.tuple #[.pointer (some p), .agg #[.int .i64 0, .int .i64 0, .int .i64 0, .int .i64 0]])) ∧ Below w.heap.size w w' :=
  b_table (tx 97) (by show (1 : Nat) ≤ maxLen; unfold maxLen; omega) w W h hw four_fault 0 four_find four_close rfl chk_a rfl rfl rfl rfl rfl
end

set_option maxRecDepth 100000 in
set_option maxHeartbeats 8000000 in
theorem z_awake (w : World) : Calls Tryz.prog 8 #[] w fun e w' => e = .returned (.bool true) ∧ Below w.heap.size w w' := by
  go_enter Tryz.func8, Tryz.ntmps8
  try dsimp only [List.append]
  go_wp2_with (go_at_call 30; refine (z_four w).mono ?_; rintro e w1 ⟨rfl, hF⟩; have K1 := Lib.hid hF; clear hF)

  have d0 : w1.cell? ⟨w.heap.size + 1 + 1 + 1, 0, none⟩ = some (.string ⟨#[97]⟩) := K1.out.bd.cell (i := 0) rfl
  have d1 : w1.cell? ⟨w.heap.size + 1 + 1 + 1, 1, none⟩ = some (.int .i64 1) := K1.out.bd.cell (i := 1) rfl
  have d2 : w1.cell? ⟨w.heap.size + 1 + 1 + 1, 2, none⟩ = some (.slice none 0 0) := K1.out.bd.cell (i := 2) rfl
  have d3 : w1.cell? ⟨w.heap.size + 1 + 1 + 1, 3, none⟩ = some (.slice none 0 0) := K1.out.bd.cell (i := 3) rfl
  have d4 : w1.cell? ⟨w.heap.size + 1 + 1 + 1, 4, none⟩ = some (.slice none 0 0) := K1.out.bd.cell (i := 4) rfl
  have d5 : w1.cell? ⟨w.heap.size + 1 + 1 + 1, 5, none⟩ = some (.slice none 0 0) := K1.out.bd.cell (i := 5) rfl
  have d6 : w1.cell? ⟨w.heap.size + 1 + 1 + 1, 6, none⟩ = some (.slice none 0 0) := K1.out.bd.cell (i := 6) rfl
  have d7 : w1.cell? ⟨w.heap.size + 1 + 1 + 1, 7, none⟩ = some (.slice none 0 0) := K1.out.bd.cell (i := 7) rfl
  have d8 : w1.cell? ⟨w.heap.size + 1 + 1 + 1, 8, none⟩ = some (.string ⟨#[98]⟩) := K1.out.bd.cell (i := 8) rfl
  have d9 : w1.cell? ⟨w.heap.size + 1 + 1 + 1, 9, none⟩ = some (.int .i64 1) := K1.out.bd.cell (i := 9) rfl
  have d10 : w1.cell? ⟨w.heap.size + 1 + 1 + 1, 10, none⟩ = some (.slice (some ⟨w.heap.size, 0, none⟩) 1 1) := K1.out.bd.cell (i := 10) rfl
  have d11 : w1.cell? ⟨w.heap.size + 1 + 1 + 1, 11, none⟩ = some (.slice none 0 0) := K1.out.bd.cell (i := 11) rfl
  have d12 : w1.cell? ⟨w.heap.size + 1 + 1 + 1, 12, none⟩ = some (.slice none 0 0) := K1.out.bd.cell (i := 12) rfl
  have d13 : w1.cell? ⟨w.heap.size + 1 + 1 + 1, 13, none⟩ = some (.slice none 0 0) := K1.out.bd.cell (i := 13) rfl
  have d14 : w1.cell? ⟨w.heap.size + 1 + 1 + 1, 14, none⟩ = some (.slice none 0 0) := K1.out.bd.cell (i := 14) rfl
  have d15 : w1.cell? ⟨w.heap.size + 1 + 1 + 1, 15, none⟩ = some (.slice none 0 0) := K1.out.bd.cell (i := 15) rfl
  have d16 : w1.cell? ⟨w.heap.size + 1 + 1 + 1, 16, none⟩ = some (.string ⟨#[99]⟩) := K1.out.bd.cell (i := 16) rfl
  have d17 : w1.cell? ⟨w.heap.size + 1 + 1 + 1, 17, none⟩ = some (.int .i64 1) := K1.out.bd.cell (i := 17) rfl
  have d18 : w1.cell? ⟨w.heap.size + 1 + 1 + 1, 18, none⟩ = some (.slice (some ⟨w.heap.size + 1, 0, none⟩) 2 2) := K1.out.bd.cell (i := 18) rfl
  have d19 : w1.cell? ⟨w.heap.size + 1 + 1 + 1, 19, none⟩ = some (.slice none 0 0) := K1.out.bd.cell (i := 19) rfl
  have d20 : w1.cell? ⟨w.heap.size + 1 + 1 + 1, 20, none⟩ = some (.slice none 0 0) := K1.out.bd.cell (i := 20) rfl
  have d21 : w1.cell? ⟨w.heap.size + 1 + 1 + 1, 21, none⟩ = some (.slice none 0 0) := K1.out.bd.cell (i := 21) rfl
  have d22 : w1.cell? ⟨w.heap.size + 1 + 1 + 1, 22, none⟩ = some (.slice none 0 0) := K1.out.bd.cell (i := 22) rfl
  have d23 : w1.cell? ⟨w.heap.size + 1 + 1 + 1, 23, none⟩ = some (.slice none 0 0) := K1.out.bd.cell (i := 23) rfl
  have d24 : w1.cell? ⟨w.heap.size + 1 + 1 + 1, 24, none⟩ = some (.string ⟨#[100]⟩) := K1.out.bd.cell (i := 24) rfl
  have d25 : w1.cell? ⟨w.heap.size + 1 + 1 + 1, 25, none⟩ = some (.int .i64 1) := K1.out.bd.cell (i := 25) rfl
  have d26 : w1.cell? ⟨w.heap.size + 1 + 1 + 1, 26, none⟩ = some (.slice (some ⟨w.heap.size + 1 + 1, 0, none⟩) 1 1) := K1.out.bd.cell (i := 26) rfl
  have d27 : w1.cell? ⟨w.heap.size + 1 + 1 + 1, 27, none⟩ = some (.slice none 0 0) := K1.out.bd.cell (i := 27) rfl
  have d28 : w1.cell? ⟨w.heap.size + 1 + 1 + 1, 28, none⟩ = some (.slice none 0 0) := K1.out.bd.cell (i := 28) rfl
  have d29 : w1.cell? ⟨w.heap.size + 1 + 1 + 1, 29, none⟩ = some (.slice none 0 0) := K1.out.bd.cell (i := 29) rfl
  have d30 : w1.cell? ⟨w.heap.size + 1 + 1 + 1, 30, none⟩ = some (.slice none 0 0) := K1.out.bd.cell (i := 30) rfl
  have d31 : w1.cell? ⟨w.heap.size + 1 + 1 + 1, 31, none⟩ = some (.slice none 0 0) := K1.out.bd.cell (i := 31) rfl
  go_still_tail 12, mixed
  change wpList _ _ _ _ _ w1.drew
  obtain ⟨W2, hW2⟩ : ∃ W2, W2 = w1.drew.alloc (.cells #[.string ⟨#[100]⟩, .int .i64 1, .slice (some ⟨w.heap.size + 1 + 1, 0, none⟩) 1 1, .slice none 0 0, .slice none 0 0, .slice none 0 0, .slice none 0 0, .slice none 0 0, .string ⟨#[99]⟩, .int .i64 1, .slice (some ⟨w.heap.size + 1, 0, none⟩) 2 2, .slice none 0 0, .slice none 0 0, .slice none 0 0, .slice none 0 0, .slice none 0 0, .string ⟨#[98]⟩, .int .i64 1, .slice (some ⟨w.heap.size, 0, none⟩) 1 1, .slice none 0 0, .slice none 0 0, .slice none 0 0, .slice none 0 0, .slice none 0 0, .string ⟨#[97]⟩, .int .i64 1, .slice none 0 0, .slice none 0 0, .slice none 0 0, .slice none 0 0, .slice none 0 0, .slice none 0 0] 39) := ⟨_, rfl⟩
  have K2 : Hid (FourS w W2) := Lib.hid (by rw [hW2]; exact K1.out.below ((Below.refl w1.heap.size w1).drew.alloc (Nat.le_refl _) _))
  have G2 : Blk W2 w1.heap.size 39 #[.string ⟨#[100]⟩, .int .i64 1, .slice (some ⟨w.heap.size + 1 + 1, 0, none⟩) 1 1, .slice none 0 0, .slice none 0 0, .slice none 0 0, .slice none 0 0, .slice none 0 0, .string ⟨#[99]⟩, .int .i64 1, .slice (some ⟨w.heap.size + 1, 0, none⟩) 2 2, .slice none 0 0, .slice none 0 0, .slice none 0 0, .slice none 0 0, .slice none 0 0, .string ⟨#[98]⟩, .int .i64 1, .slice (some ⟨w.heap.size, 0, none⟩) 1 1, .slice none 0 0, .slice none 0 0, .slice none 0 0, .slice none 0 0, .slice none 0 0, .string ⟨#[97]⟩, .int .i64 1, .slice none 0 0, .slice none 0 0, .slice none 0 0, .slice none 0 0, .slice none 0 0, .slice none 0 0] := by rw [hW2]; exact Blk.new w1.drew _ _
  have HB := Lib.hid (K2.out.back G2)
  have HF := Lib.hid K2.out.four
  have HM : Hid (LsR W2 W2.heap.size (.slice (some ⟨w.heap.size + 1 + 1 + 1, 8, none⟩) 2 3) [lb, lc]) := Lib.hid (K2.out.four.sub 1 3 (by omega) (by omega))
  clear G2 d0 d1 d2 d3 d4 d5 d6 d7 d8 d9 d10 d11 d12 d13 d14 d15 d16 d17 d18 d19 d20 d21 d22 d23 d24 d25 d26 d27 d28 d29 d30 d31
  have HW2 := Lib.hid hW2
  clear hW2
  have tok1 : True := trivial
  have tok2 : True := trivial
  have tok3 : True := trivial
  have tok4 : True := trivial
  have tok5 : True := trivial
  go_wp2_with (first
    | (go_at_call 10; have _t := tok1; refine (c_back HB.out _ (by rw [HW2.out]; exact Below.refl _ _)).mono ?_; rintro e v1 ⟨⟨ra, rc, rfl, hS⟩, hb⟩; have L1 : Hid (Below W2.heap.size W2 v1) := Lib.hid ((by rw [HW2.out]; exact hb)); have S1 := Lib.hid hS; clear hS; clear hb _t tok1)
    | (go_at_call 10; have _t := tok2; refine (c_mid HM.out _ (L1.out.alloc L1.out.size _)).mono ?_; rintro e v2 ⟨rfl, hb⟩; have L2 : Hid (Below W2.heap.size W2 v2) := Lib.hid ((L1.out.alloc L1.out.size _).trans (hb.mono (Nat.le_trans L1.out.size (by simp)))); have T1_2 : Hid (Blk v2 v1.heap.size 28 #[.int .i64 0, .int .i64 0, .int .i64 0, .int .i64 0]) := Lib.hid ((Blk.new v1 28 #[.int .i64 0, .int .i64 0, .int .i64 0, .int .i64 0]).below hb (by first | exact (Blk.lt (Blk.new v1 28 #[.int .i64 0, .int .i64 0, .int .i64 0, .int .i64 0])) | (simp))); have B12 : Hid (Below v1.heap.size v1 v2) := Lib.hid (((Below.refl _ _).alloc (Nat.le_refl _) _).trans (hb.mono (by simp))); clear hb _t tok2)
    | (go_at_call 13; have _t := tok3; refine (c_close HB.out _ (L2.out.alloc L2.out.size _)).mono ?_; rintro e v3 ⟨⟨sa, sc, rfl, hS⟩, hb⟩; have L3 : Hid (Below W2.heap.size W2 v3) := Lib.hid ((L2.out.alloc L2.out.size _).trans (hb.mono (Nat.le_trans L2.out.size (by simp)))); have T1_3 : Hid (Blk v3 v1.heap.size 28 #[.int .i64 0, .int .i64 0, .int .i64 0, .int .i64 0]) := Lib.hid ((T1_2.out.alloc _).below hb (by first | exact (Blk.lt (T1_2.out.alloc _)) | (simp))); have T2_3 : Hid (Blk v3 v2.heap.size 28 #[.int .i64 1, .int .i64 0, .int .i64 0, .int .i64 240]) := Lib.hid ((Blk.new v2 28 #[.int .i64 1, .int .i64 0, .int .i64 0, .int .i64 240]).below hb (by first | exact (Blk.lt (Blk.new v2 28 #[.int .i64 1, .int .i64 0, .int .i64 0, .int .i64 240])) | (simp))); have S3 := Lib.hid hS; clear hS; have B23 : Hid (Below v2.heap.size v2 v3) := Lib.hid (((Below.refl _ _).alloc (Nat.le_refl _) _).trans (hb.mono (by simp))); clear hb _t tok3)
    | (go_at_call 13; have _t := tok4; refine (c_nox HF.out _ (L3.out.alloc L3.out.size _)).mono ?_; rintro e v4 ⟨rfl, hb⟩; have L4 : Hid (Below W2.heap.size W2 v4) := Lib.hid ((L3.out.alloc L3.out.size _).trans (hb.mono (Nat.le_trans L3.out.size (by simp)))); have T1_4 : Hid (Blk v4 v1.heap.size 28 #[.int .i64 0, .int .i64 0, .int .i64 0, .int .i64 0]) := Lib.hid ((T1_3.out.alloc _).below hb (by first | exact (Blk.lt (T1_3.out.alloc _)) | (simp))); have T2_4 : Hid (Blk v4 v2.heap.size 28 #[.int .i64 1, .int .i64 0, .int .i64 0, .int .i64 240]) := Lib.hid ((T2_3.out.alloc _).below hb (by first | exact (Blk.lt (T2_3.out.alloc _)) | (simp))); have T3_4 : Hid (Blk v4 v3.heap.size 28 #[.int .i64 0, .int .i64 0, .int .i64 0, .int .i64 0]) := Lib.hid ((Blk.new v3 28 #[.int .i64 0, .int .i64 0, .int .i64 0, .int .i64 0]).below hb (by first | exact (Blk.lt (Blk.new v3 28 #[.int .i64 0, .int .i64 0, .int .i64 0, .int .i64 0])) | (simp))); have B34 : Hid (Below v3.heap.size v3 v4) := Lib.hid (((Below.refl _ _).alloc (Nat.le_refl _) _).trans (hb.mono (by simp))); clear hb _t tok4)
    | (go_at_call 15; have _t := tok5; refine (c_table HF.out _ (L4.out.alloc L4.out.size _)).mono ?_; rintro e v5 ⟨⟨tp, rfl⟩, hb⟩; have L5 : Hid (Below W2.heap.size W2 v5) := Lib.hid ((L4.out.alloc L4.out.size _).trans (hb.mono (Nat.le_trans L4.out.size (by simp)))); have T1_5 : Hid (Blk v5 v1.heap.size 28 #[.int .i64 0, .int .i64 0, .int .i64 0, .int .i64 0]) := Lib.hid ((T1_4.out.alloc _).below hb (by first | exact (Blk.lt (T1_4.out.alloc _)) | (simp))); have T2_5 : Hid (Blk v5 v2.heap.size 28 #[.int .i64 1, .int .i64 0, .int .i64 0, .int .i64 240]) := Lib.hid ((T2_4.out.alloc _).below hb (by first | exact (Blk.lt (T2_4.out.alloc _)) | (simp))); have T3_5 : Hid (Blk v5 v3.heap.size 28 #[.int .i64 0, .int .i64 0, .int .i64 0, .int .i64 0]) := Lib.hid ((T3_4.out.alloc _).below hb (by first | exact (Blk.lt (T3_4.out.alloc _)) | (simp))); have T4_5 : Hid (Blk v5 v4.heap.size 28 #[.int .i64 (-1), .int .i64 0, .int .i64 0, .int .i64 240]) := Lib.hid ((Blk.new v4 28 #[.int .i64 (-1), .int .i64 0, .int .i64 0, .int .i64 240]).below hb (by first | exact (Blk.lt (Blk.new v4 28 #[.int .i64 (-1), .int .i64 0, .int .i64 0, .int .i64 240])) | (simp))); have B45 : Hid (Below v4.heap.size v4 v5) := Lib.hid (((Below.refl _ _).alloc (Nat.le_refl _) _).trans (hb.mono (by simp))); have q10 : v5.cell? ⟨v1.heap.size, 0, none⟩ = some (.int .i64 0) := T1_5.out.cell (i := 0) rfl; have q11 : v5.cell? ⟨v1.heap.size, 1, none⟩ = some (.int .i64 0) := T1_5.out.cell (i := 1) rfl; have q12 : v5.cell? ⟨v1.heap.size, 2, none⟩ = some (.int .i64 0) := T1_5.out.cell (i := 2) rfl; have q13 : v5.cell? ⟨v1.heap.size, 3, none⟩ = some (.int .i64 0) := T1_5.out.cell (i := 3) rfl; have q20 : v5.cell? ⟨v2.heap.size, 0, none⟩ = some (.int .i64 1) := T2_5.out.cell (i := 0) rfl; have q21 : v5.cell? ⟨v2.heap.size, 1, none⟩ = some (.int .i64 0) := T2_5.out.cell (i := 1) rfl; have q22 : v5.cell? ⟨v2.heap.size, 2, none⟩ = some (.int .i64 0) := T2_5.out.cell (i := 2) rfl; have q23 : v5.cell? ⟨v2.heap.size, 3, none⟩ = some (.int .i64 240) := T2_5.out.cell (i := 3) rfl; have q30 : v5.cell? ⟨v3.heap.size, 0, none⟩ = some (.int .i64 0) := T3_5.out.cell (i := 0) rfl; have q31 : v5.cell? ⟨v3.heap.size, 1, none⟩ = some (.int .i64 0) := T3_5.out.cell (i := 1) rfl; have q32 : v5.cell? ⟨v3.heap.size, 2, none⟩ = some (.int .i64 0) := T3_5.out.cell (i := 2) rfl; have q33 : v5.cell? ⟨v3.heap.size, 3, none⟩ = some (.int .i64 0) := T3_5.out.cell (i := 3) rfl; have q40 : v5.cell? ⟨v4.heap.size, 0, none⟩ = some (.int .i64 (-1)) := T4_5.out.cell (i := 0) rfl; have q41 : v5.cell? ⟨v4.heap.size, 1, none⟩ = some (.int .i64 0) := T4_5.out.cell (i := 1) rfl; have q42 : v5.cell? ⟨v4.heap.size, 2, none⟩ = some (.int .i64 0) := T4_5.out.cell (i := 2) rfl; have q43 : v5.cell? ⟨v4.heap.size, 3, none⟩ = some (.int .i64 240) := T4_5.out.cell (i := 3) rfl; have lt1 := T1_5.out.lt; have lt2 := T2_5.out.lt; have lt3 := T3_5.out.lt; have lt4 := T4_5.out.lt; have B15 := (B12.out.trans (B23.out.mono B12.out.size)).trans ((B34.out.trans (B45.out.mono B34.out.size)).mono (Nat.le_trans B12.out.size B23.out.size)); have B35 := B34.out.trans (B45.out.mono B34.out.size); obtain ⟨rb, ro, rfl, hrb, hrc⟩ := ints_at S1.out (by omega); have r0 : v5.cell? ⟨rb, ro, none⟩ = some (.int .i64 3) := (B15.cell (p := ⟨rb, ro, none⟩) hrb).trans (hrc 0 3 rfl); have r3 : v5.cell? ⟨rb, ro + 3, none⟩ = some (.int .i64 0) := (B15.cell (p := ⟨rb, ro + 3, none⟩) hrb).trans (hrc 3 0 rfl); have lr : rb < v5.heap.size := Nat.lt_of_lt_of_le hrb B15.size; obtain ⟨sb, so, rfl, hsb, hsc⟩ := ints_at S3.out (by omega); have s0 : v5.cell? ⟨sb, so, none⟩ = some (.int .i64 3) := (B35.cell (p := ⟨sb, so, none⟩) hsb).trans (hsc 0 3 rfl); have s1 : v5.cell? ⟨sb, so + 1, none⟩ = some (.int .i64 2) := (B35.cell (p := ⟨sb, so + 1, none⟩) hsb).trans (hsc 1 2 rfl); have ls_ : sb < v5.heap.size := Nat.lt_of_lt_of_le hsb B35.size; clear hrc hsc B15 B35; clear hb _t tok5))
  go_ret
  refine ⟨rfl, ?_⟩
  have h5 := (K1.out.low.drew.alloc K1.out.low.size (.cells #[.string ⟨#[100]⟩, .int .i64 1, .slice (some ⟨w.heap.size + 1 + 1, 0, none⟩) 1 1, .slice none 0 0, .slice none 0 0, .slice none 0 0, .slice none 0 0, .slice none 0 0, .string ⟨#[99]⟩, .int .i64 1, .slice (some ⟨w.heap.size + 1, 0, none⟩) 2 2, .slice none 0 0, .slice none 0 0, .slice none 0 0, .slice none 0 0, .slice none 0 0, .string ⟨#[98]⟩, .int .i64 1, .slice (some ⟨w.heap.size, 0, none⟩) 1 1, .slice none 0 0, .slice none 0 0, .slice none 0 0, .slice none 0 0, .slice none 0 0, .string ⟨#[97]⟩, .int .i64 1, .slice none 0 0, .slice none 0 0, .slice none 0 0, .slice none 0 0, .slice none 0 0, .slice none 0 0] 39)).trans (((show Below W2.heap.size (w1.drew.alloc (.cells #[.string ⟨#[100]⟩, .int .i64 1, .slice (some ⟨w.heap.size + 1 + 1, 0, none⟩) 1 1, .slice none 0 0, .slice none 0 0, .slice none 0 0, .slice none 0 0, .slice none 0 0, .string ⟨#[99]⟩, .int .i64 1, .slice (some ⟨w.heap.size + 1, 0, none⟩) 2 2, .slice none 0 0, .slice none 0 0, .slice none 0 0, .slice none 0 0, .slice none 0 0, .string ⟨#[98]⟩, .int .i64 1, .slice (some ⟨w.heap.size, 0, none⟩) 1 1, .slice none 0 0, .slice none 0 0, .slice none 0 0, .slice none 0 0, .slice none 0 0, .string ⟨#[97]⟩, .int .i64 1, .slice none 0 0, .slice none 0 0, .slice none 0 0, .slice none 0 0, .slice none 0 0, .slice none 0 0] 39)) v5 from by rw [← HW2.out]; exact L5.out)).mono (by rw [HW2.out]; simp; exact Nat.le_succ_of_le K1.out.low.size))
  exact h5.alloc h5.size _
end Go.Proofs.YtikplcpghohklaaGreat
