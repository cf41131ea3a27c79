/- Chapter 09, outright: read, closed, awake, walked. -/
import Derived.Test.YtidkbodmiegbkaaGreatDoorKzC
namespace Go.Proofs.YtidkbodmiegbkaaGreatDoor
set_option linter.unusedSimpArgs false
set_option linter.unusedVariables false
open Go.RowKit

/-- the variables that the statements lean on -/
structure AllV (w : World) : Prop where
  marks : Marks w
  signs : Signs w
  pow : Pow w
  takes : TakesB w
theorem AllV.below {w w' : World} (h : AllV w) (hb : Below w.heap.size w w') : AllV w' := by
  have l2 : 2 < w.heap.size := by
    obtain ⟨t, fr, e⟩ := signs_block h.signs
    rcases Nat.lt_or_ge 2 w.heap.size with h | h
    · exact h
    · rw [Array.getElem?_eq_none h] at e; cases e
  exact ⟨h.marks.below hb, h.signs.of_block (hb.block 2 l2), h.pow.below hb, h.takes.block (hb.block 0 (by omega))⟩
/-- a list of nodes handed back -/
def ReadK (W : World) (l : List ND) (n : Nat) (e : Ending) (w' : World) : Prop := ∃ (a : Option Addr) (c : Nat), e = .returned (.agg #[.slice a n c]) ∧ SlR w' w'.heap.size 4 (ND.Is w' w'.heap.size) (.slice a n c) l ∧ Below W.heap.size W w'
theorem cell_same {w w' : World} {p : Addr} (h : w'.heap[p.block]? = w.heap[p.block]?) : w'.cell? p = w.cell? p := by
  unfold World.cell?
  rw [h]
/-- nodes do not lie in a block of a slice -/
theorem nd_keep {w w' : World} {B g : Nat} {t : TypeId} {v sv : Value} {l : List ND} (h : SlR w B 4 (ND.Is w B) v l) (hg : Blk w g t #[sv]) (hs : ∀ k i, sv ≠ .int k i) (hk : ∀ i, i < B → i ≠ g → w'.heap[i]? = w.heap[i]?) : SlR w' B 4 (ND.Is w' B) v l := by
  have no : ∀ i k z, w.cell? ⟨g, i, none⟩ ≠ some (.int k z) := by
    intro i k z e
    unfold World.cell? at e
    simp only [show w.heap[g]? = some _ from hg] at e
    cases i with
    | zero => simp at e; exact hs _ _ e
    | succ i => simp at e
  have ki : ∀ (kv : Value) (ks : List Int), SlR w B 1 IsI kv ks → SlR w' B 1 IsI kv ks := by
    intro kv ks h
    obtain ⟨a, c, rfl, h1, h2, h3⟩ := h
    refine ⟨a, c, rfl, h1, h2, fun hl => ?_⟩
    obtain ⟨b, off, ha, hb, hc⟩ := h3 hl
    refine ⟨b, off, ha, hb, fun i y hy => ?_⟩
    obtain ⟨x, hx1, hx2, hx3⟩ := hc i y hy
    refine ⟨x, hx1, hx2, fun j u hu => ?_⟩
    have hne : b ≠ g := by
      rintro rfl
      unfold IsI at hx2
      subst hx2
      exact no _ _ _ (hx3 0 _ rfl)
    rw [cell_same (p := ⟨b, _, none⟩) (hk b hb hne)]
    exact hx3 j u hu
  obtain ⟨a, c, rfl, h1, h2, h3⟩ := h
  refine ⟨a, c, rfl, h1, h2, fun hl => ?_⟩
  obtain ⟨b, off, ha, hb, hc⟩ := h3 hl
  refine ⟨b, off, ha, hb, fun i y hy => ?_⟩
  obtain ⟨x, hx1, ⟨kv, hx2, hx4⟩, hx3⟩ := hc i y hy
  have hne : b ≠ g := by
    rintro rfl
    subst hx2
    exact no _ _ _ (hx3 0 _ rfl)
  refine ⟨x, hx1, ⟨kv, hx2, ki kv _ hx4⟩, fun j u hu => ?_⟩
  rw [cell_same (p := ⟨b, _, none⟩) (hk b hb hne)]
  exact hx3 j u hu
set_option maxRecDepth 100000 in
set_option maxHeartbeats 4000000 in
theorem read_any (t : Tr) (s : ByteArray) (hs : s.size ≤ maxLen) (hp : parseN (bs s) = (t.flat 0, 0, 0)) (n : Nat) (hn : t.size = n) (w : World) (hv : AllV w) :
    Calls Tryz.prog 18 #[.string s] w (ReadK w (ndsT t 0) n) := by
  have hB : Below w.heap.size w (w.alloc (.cells #[.slice none 0 0] 24)) := (Below.refl _ _).alloc (Nat.le_refl _) _
  have HP := Lib.hid (parse8_any s hs (w.alloc (.cells #[.slice none 0 0] 24)) (hv.below hB).marks (hv.below hB).signs)
  rw [hp] at HP
  have HN : Hid ((t.flat 0).length = n) := Lib.hid (by rw [trFlat_len]; exact hn)
  have K0 : Hid (Blk (w.alloc (.cells #[.slice none 0 0] 24)) w.heap.size 24 #[.slice none 0 0]) := Lib.hid (Blk.new _ _ _)
  have HB := Lib.hid hB
  clear hv hp hs hn hB
  unfold ReadK
  go_enter Tryz.func18, Tryz.ntmps18
  go_wp2_with (first
    | (go_at_call 24; go_must (refine HP.out.mono ?_); rintro e w1 ⟨v1, rfl, h1, b1⟩
       obtain ⟨a1, c1, hv1, _⟩ := h1.form
       subst hv1
       rw [HN.out] at h1 ⊢
       have S1 := Lib.hid (h1.map_ EN.nd (fun x y h => ENode.nd h))
       have BB1 := Lib.hid (HB.out.trans (b1.mono HB.out.size))
       go_must (have K1 := Lib.hid (K0.out.below b1 K0.out.lt))
       have l1 : w.heap.size < w1.heap.size := K1.out.lt
       have k1 : w1.cell? ⟨w.heap.size, 0, none⟩ = some (.slice none 0 0) := K1.out.cell rfl
       have z1 := K1.out.frozen 0
       clear h1 b1)
    | fail)
  generalize hW9 : World.alloc (World.setCell w1 _ _) _ = W9
  have r9 : W9.cell? ⟨w.heap.size, 0, none⟩ = some (.slice a1 n c1) := by rw [← hW9]; exact ((K1.out.set_ 0 (.slice a1 n c1)).alloc _).cell (i := 0) rfl
  have sz : (w1.setCell ⟨w.heap.size, 0, none⟩ (.slice a1 n c1)).heap.size = w1.heap.size := by simp [World.setCell]
  have b9 : Below w.heap.size w W9 := by rw [← hW9]; exact (BB1.out.setCell (p := ⟨w.heap.size, 0, none⟩) (Nat.le_refl _) _).alloc (by rw [sz]; exact BB1.out.size) _
  have s9 : SlR W9 W9.heap.size 4 (ND.Is W9 W9.heap.size) (.slice a1 n c1) (ndsT t 0) := by
    have h := nd_keep (w' := W9) S1.out K1.out (fun k i => by simp) (fun i hi hne => by
      rw [← hW9]
      exact (Below.heap_alloc _ _ _ (by rw [sz]; exact hi)).trans (Below.heap_setCell _ _ _ _ hne))
    have hz : w1.heap.size ≤ W9.heap.size := by rw [← hW9, World.size_alloc, sz]; omega
    exact (h.imp (fun x d hd => ND.more hd hz)).more hz
  refine bodyPost_ret (v := .agg #[.slice a1 n c1]) (by simp [results, Tryz.results18, go_sem, r9]) rfl ?_
  exact ⟨a1, c1, rfl, s9, b9⟩
/-- what a call is asked with -/
structure ExIs (W W0 : World) (v : Value) (t : Tr) : Prop where
  read : SlR W0 W0.heap.size 4 (ND.Is W0 W0.heap.size) v (ndsT t 0)
  vars : AllV W0
  bel : Below W0.heap.size W0 W
  good : t.Good
  deep : t.deep ≤ 32
  few : t.size ≤ 256
theorem ExIs.ok {W W0 : World} {v : Value} {t : Tr} (h : ExIs W W0 v t) : ∀ d ∈ ndsT t 0, NdOk d := nds_ok h.good 0
theorem of_t {W W0 : World} {v : Value} {t : Tr} (h : ExIs W W0 v t) : Calls Tryz.prog 8 #[.agg #[v]] W fun e w' => e = .returned (.tuple #[.int .i64 (kindT t), .int .i64 (atN t), .int .i64 (errN (ndsT t 0) t)]) ∧ Below W.heap.size W w' :=
  of_ok W W0 h.read h.ok h.vars.marks h.vars.pow h.vars.takes h.bel h.good h.deep h.few
theorem each_t {W W0 : World} {v : Value} {t : Tr} (h : ExIs W W0 v t) : Calls Tryz.prog 12 #[.agg #[v]] W fun e w' => ∃ sv, e = .returned (.tuple #[sv, .int .i64 (atN t), .int .i64 (errN (ndsT t 0) t)]) ∧ Own1 w' W.heap.size 3 1 IsI sv (kindsT t) ∧ Below W.heap.size W w' :=
  each_ok W W0 h.read h.ok h.vars.marks h.vars.pow h.vars.takes h.bel h.good h.deep h.few
theorem free_t {W W0 : World} {v : Value} {t : Tr} (h : ExIs W W0 v t) : Calls Tryz.prog 13 #[.agg #[v]] W fun e w' => ∃ (a : Option Addr) (c : Nat) (L : List ByteArray), e = .returned (.tuple #[.slice a L.length c, .int .i64 0]) ∧ L.length ≤ 256 ∧ FreeL (frR 32 t [] []) L ∧ Own1 w' W.heap.size 9 1 IsText (.slice a L.length c) L ∧ Below W.heap.size W w' :=
  free_ok W W0 h.read h.ok h.vars.marks h.vars.pow h.vars.takes h.bel h.good h.deep h.few
theorem free_len {F : List (List Nat)} {L : List ByteArray} (h : FreeL F L) : L.length = 0 ↔ F = [] := by
  constructor
  · intro e
    have : L = [] := List.eq_nil_of_length_eq_zero e
    subst this
    cases F with
    | nil => rfl
    | cons s F => have := (h.2 (bsN s)).2 ⟨s, by simp, rfl⟩; simp at this
  · rintro rfl
    cases L with
    | nil => rfl
    | cons s L => obtain ⟨_, h1, _⟩ := (h.2 (bsL s)).1 (by simp); simp at h1
theorem free_dec {F : List (List Nat)} {L : List ByteArray} {k : Nat} (h : FreeL F L) (hk : L.length = k) : (((k : Nat) : Int) == 0) = decide (F = []) := by
  have := free_len h
  rw [hk] at this
  by_cases e : k = 0
  · rw [decide_eq_true (this.1 e), e]; rfl
  · rw [decide_eq_false (fun h => e (this.2 h))]
    simpa using e
set_option maxRecDepth 100000 in
set_option maxHeartbeats 4000000 in
theorem closed_t {W W0 : World} {v : Value} {t : Tr} (h : ExIs W W0 v t) : Calls Tryz.prog 9 #[.agg #[v]] W fun e w' => e = .returned (.bool (decide (frR 32 t [] [] = []))) ∧ Below W.heap.size W w' := by
  obtain ⟨a, c, rfl⟩ : ∃ a c, v = .slice a (ndsT t 0).length c := by obtain ⟨a, c, h, _⟩ := h.read.form; exact ⟨a, c, h⟩
  obtain ⟨n, hn⟩ : ∃ n, (ndsT t 0).length = n := ⟨_, rfl⟩
  have hb : Below W.heap.size W (W.alloc (.cells #[.slice a n c] 24)) := (Below.refl _ _).alloc (Nat.le_refl _) _
  have HF := Lib.hid (free_t (W := W.alloc (.cells #[.slice a n c] 24)) ⟨hn ▸ h.read, h.vars, h.bel.trans (hb.mono h.bel.size), h.good, h.deep, h.few⟩)
  obtain ⟨F, hF⟩ : ∃ z, frR 32 t [] [] = z := ⟨_, rfl⟩
  rw [hF] at HF
  rw [hn, hF]
  obtain ⟨B, hB⟩ : ∃ z, decide (F = []) = z := ⟨_, rfl⟩
  rw [hB]
  have HBB := Lib.hid hB
  have HB := Lib.hid hb
  clear h hn hF hB hb
  go_enter Tryz.func9, Tryz.ntmps9
  go_wp2_with (first
    | (go_at_call 13; go_must (refine HF.out.mono ?_); rintro e w1 ⟨a1, c1, L, rfl, hl, hf, _, hb1⟩
       obtain ⟨k, hk⟩ : ∃ k, L.length = k := ⟨_, rfl⟩
       rw [hk] at hl ⊢
       go_must (have hkb : (((k : Nat) : Int) == 0) = B := by rw [← HBB.out]; exact free_dec hf hk)
       have HB1 := Lib.hid (HB.out.trans (hb1.mono HB.out.size))
       clear hf hb1 hk)
    | fail)
  go_ret
  exact ⟨rfl, HB1.out⟩

set_option maxRecDepth 100000 in
set_option maxHeartbeats 8000000 in
theorem awake_any (w : World) (hv : AllV w) : Calls Tryz.prog 7 #[] w fun e w' => e = .returned (.bool true) ∧ Below w.heap.size w w' := by
  have RD1 := Lib.hid (fun W (hW : Below w.heap.size w W) => read_any aw1 ⟨#[102, 105, 114, 115, 116, 40, 115, 101, 108, 102, 35, 105, 116, 101, 109, 41, 46, 110, 97, 109, 101]⟩ (by decide) (by rw [show bs (⟨#[102, 105, 114, 115, 116, 40, 115, 101, 108, 102, 35, 105, 116, 101, 109, 41, 46, 110, 97, 109, 101]⟩ : ByteArray) = [102, 105, 114, 115, 116, 40, 115, 101, 108, 102, 35, 105, 116, 101, 109, 41, 46, 110, 97, 109, 101] by decide]; exact aw1_parse) 4 aw1_size.1 W (hv.below hW))
  have EX1 := Lib.hid (fun W W0 v (h0 : Below w.heap.size w W0) (hr : SlR W0 W0.heap.size 4 (ND.Is W0 W0.heap.size) v (ndsT aw1 0)) (hW : Below W0.heap.size W0 W) => (⟨hr, hv.below h0, hW, aw1_good, aw1_size.2, by rw [aw1_size.1]; omega⟩ : ExIs W W0 v aw1))
  have RD2 := Lib.hid (fun W (hW : Below w.heap.size w W) => read_any aw2 ⟨#[97, 110, 121, 32, 120, 32, 105, 110, 32, 120, 35, 105, 116, 101, 109, 58, 32, 116, 114, 117, 101, 32, 101, 110, 100]⟩ (by decide) (by rw [show bs (⟨#[97, 110, 121, 32, 120, 32, 105, 110, 32, 120, 35, 105, 116, 101, 109, 58, 32, 116, 114, 117, 101, 32, 101, 110, 100]⟩ : ByteArray) = [97, 110, 121, 32, 120, 32, 105, 110, 32, 120, 35, 105, 116, 101, 109, 58, 32, 116, 114, 117, 101, 32, 101, 110, 100] by decide]; exact aw2_parse) 4 aw2_size.1 W (hv.below hW))
  have EX2 := Lib.hid (fun W W0 v (h0 : Below w.heap.size w W0) (hr : SlR W0 W0.heap.size 4 (ND.Is W0 W0.heap.size) v (ndsT aw2 0)) (hW : Below W0.heap.size W0 W) => (⟨hr, hv.below h0, hW, aw2_good, aw2_size.2, by rw [aw2_size.1]; omega⟩ : ExIs W W0 v aw2))
  have RD3 := Lib.hid (fun W (hW : Below w.heap.size w W) => read_any aw3 ⟨#[105, 102, 32, 49, 32, 116, 104, 101, 110, 32, 120, 32, 101, 108, 115, 101, 32, 50, 32, 101, 110, 100]⟩ (by decide) (by rw [show bs (⟨#[105, 102, 32, 49, 32, 116, 104, 101, 110, 32, 120, 32, 101, 108, 115, 101, 32, 50, 32, 101, 110, 100]⟩ : ByteArray) = [105, 102, 32, 49, 32, 116, 104, 101, 110, 32, 120, 32, 101, 108, 115, 101, 32, 50, 32, 101, 110, 100] by decide]; exact aw3_parse) 4 aw3_size.1 W (hv.below hW))
  have EX3 := Lib.hid (fun W W0 v (h0 : Below w.heap.size w W0) (hr : SlR W0 W0.heap.size 4 (ND.Is W0 W0.heap.size) v (ndsT aw3 0)) (hW : Below W0.heap.size W0 W) => (⟨hr, hv.below h0, hW, aw3_good, aw3_size.2, by rw [aw3_size.1]; omega⟩ : ExIs W W0 v aw3))
  have RD4 := Lib.hid (fun W (hW : Below w.heap.size w W) => read_any aw4 ⟨#[49, 32, 43, 32, 34, 97, 34]⟩ (by decide) (by rw [show bs (⟨#[49, 32, 43, 32, 34, 97, 34]⟩ : ByteArray) = [49, 32, 43, 32, 34, 97, 34] by decide]; exact aw4_parse) 3 aw4_size.1 W (hv.below hW))
  have EX4 := Lib.hid (fun W W0 v (h0 : Below w.heap.size w W0) (hr : SlR W0 W0.heap.size 4 (ND.Is W0 W0.heap.size) v (ndsT aw4 0)) (hW : Below W0.heap.size W0 W) => (⟨hr, hv.below h0, hW, aw4_good, aw4_size.2, by rw [aw4_size.1]; omega⟩ : ExIs W W0 v aw4))
  have RD5 := Lib.hid (fun W (hW : Below w.heap.size w W) => read_any aw5 ⟨#[120, 46, 97, 32, 43, 32, 40, 97, 110, 121, 32, 121, 32, 105, 110, 32, 122, 58, 32, 121, 32, 61, 61, 32, 120, 32, 101, 110, 100, 41]⟩ (by decide) (by rw [show bs (⟨#[120, 46, 97, 32, 43, 32, 40, 97, 110, 121, 32, 121, 32, 105, 110, 32, 122, 58, 32, 121, 32, 61, 61, 32, 120, 32, 101, 110, 100, 41]⟩ : ByteArray) = [120, 46, 97, 32, 43, 32, 40, 97, 110, 121, 32, 121, 32, 105, 110, 32, 122, 58, 32, 121, 32, 61, 61, 32, 120, 32, 101, 110, 100, 41] by decide]; exact aw5_parse) 8 aw5_size.1 W (hv.below hW))
  have EX5 := Lib.hid (fun W W0 v (h0 : Below w.heap.size w W0) (hr : SlR W0 W0.heap.size 4 (ND.Is W0 W0.heap.size) v (ndsT aw5 0)) (hW : Below W0.heap.size W0 W) => (⟨hr, hv.below h0, hW, aw5_good, aw5_size.2, by rw [aw5_size.1]; omega⟩ : ExIs W W0 v aw5))
  have RD6 := Lib.hid (fun W (hW : Below w.heap.size w W) => read_any aw6 ⟨#[115, 105, 122, 101, 40, 115, 101, 108, 102, 35, 97, 41, 32, 60, 32, 50]⟩ (by decide) (by rw [show bs (⟨#[115, 105, 122, 101, 40, 115, 101, 108, 102, 35, 97, 41, 32, 60, 32, 50]⟩ : ByteArray) = [115, 105, 122, 101, 40, 115, 101, 108, 102, 35, 97, 41, 32, 60, 32, 50] by decide]; exact aw6_parse) 5 aw6_size.1 W (hv.below hW))
  have EX6 := Lib.hid (fun W W0 v (h0 : Below w.heap.size w W0) (hr : SlR W0 W0.heap.size 4 (ND.Is W0 W0.heap.size) v (ndsT aw6 0)) (hW : Below W0.heap.size W0 W) => (⟨hr, hv.below h0, hW, aw6_good, aw6_size.2, by rw [aw6_size.1]; omega⟩ : ExIs W W0 v aw6))
  have tokR1 : True := trivial
  have tokO1 : True := trivial
  have tokR2 : True := trivial
  have tokO2 : True := trivial
  have tokR3 : True := trivial
  have tokO3 : True := trivial
  have tokR4 : True := trivial
  have tokO4 : True := trivial
  have tokR5 : True := trivial
  have tokO5 : True := trivial
  have tokR6 : True := trivial
  have tokO6 : True := trivial
  clear hv
  go_enter Tryz.func7, Tryz.ntmps7
  go_wp2_with (first
    | (have _t := tokR1; go_at_call 18; go_must (refine (RD1.out w (Below.refl w.heap.size w)).mono ?_); clear tokR1 _t
       rintro e w1 ⟨a1, c1, rfl, h1, b1⟩
       have S1 := Lib.hid h1
       have B1 := Lib.hid ((Below.refl w.heap.size w).trans (b1.mono (Below.refl w.heap.size w).size))
       clear h1 b1)
    | (have _t := tokO1; go_at_call 8; go_must (refine (of_t (EX1.out w1 w1 _ B1.out S1.out (Below.refl _ _))).mono ?_); clear tokO1 _t
       rintro e w2 ⟨rfl, b1⟩
       rw [aw1_kind.1, aw1_kind.2.1, aw1_kind.2.2]
       have B2 := Lib.hid (B1.out.trans (b1.mono B1.out.size))
       clear b1)
    | (have _t := tokR2; go_at_call 18; go_must (refine (RD2.out w2 B2.out).mono ?_); clear tokR2 _t
       rintro e w3 ⟨a2, c2, rfl, h1, b1⟩
       have S2 := Lib.hid h1
       have B3 := Lib.hid (B2.out.trans (b1.mono B2.out.size))
       clear h1 b1)
    | (have _t := tokO2; go_at_call 8; go_must (refine (of_t (EX2.out w3 w3 _ B3.out S2.out (Below.refl _ _))).mono ?_); clear tokO2 _t
       rintro e w4 ⟨rfl, b1⟩
       rw [aw2_kind.1, aw2_kind.2.1, aw2_kind.2.2]
       have B4 := Lib.hid (B3.out.trans (b1.mono B3.out.size))
       clear b1)
    | (have _t := tokR3; go_at_call 18; go_must (refine (RD3.out w4 B4.out).mono ?_); clear tokR3 _t
       rintro e w5 ⟨a3, c3, rfl, h1, b1⟩
       have S3 := Lib.hid h1
       have B5 := Lib.hid (B4.out.trans (b1.mono B4.out.size))
       clear h1 b1)
    | (have _t := tokO3; go_at_call 8; go_must (refine (of_t (EX3.out w5 w5 _ B5.out S3.out (Below.refl _ _))).mono ?_); clear tokO3 _t
       rintro e w6 ⟨rfl, b1⟩
       rw [aw3_kind.1, aw3_kind.2.1, aw3_kind.2.2]
       have B6 := Lib.hid (B5.out.trans (b1.mono B5.out.size))
       clear b1)
    | (have _t := tokR4; go_at_call 18; go_must (refine (RD4.out w6 B6.out).mono ?_); clear tokR4 _t
       rintro e w7 ⟨a4, c4, rfl, h1, b1⟩
       have S4 := Lib.hid h1
       have B7 := Lib.hid (B6.out.trans (b1.mono B6.out.size))
       clear h1 b1)
    | (have _t := tokO4; go_at_call 8; go_must (refine (of_t (EX4.out w7 w7 _ B7.out S4.out (Below.refl _ _))).mono ?_); clear tokO4 _t
       rintro e w8 ⟨rfl, b1⟩
       rw [aw4_kind.1, aw4_kind.2.1, aw4_kind.2.2]
       have B8 := Lib.hid (B7.out.trans (b1.mono B7.out.size))
       clear b1)
    | (have _t := tokR5; go_at_call 18; go_must (refine (RD5.out w8 B8.out).mono ?_); clear tokR5 _t
       rintro e w9 ⟨a5, c5, rfl, h1, b1⟩
       have S5 := Lib.hid h1
       have B9 := Lib.hid (B8.out.trans (b1.mono B8.out.size))
       clear h1 b1)
    | (have _t := tokO5; go_at_call 13; go_must (refine (free_t (EX5.out w9 w9 _ B9.out S5.out (Below.refl _ _))).mono ?_); clear tokO5 _t
       rintro e w10 ⟨fa, fc, L, rfl, _, hf, ho, b1⟩
       have hL := hf.same aw5_free
       subst hL
       have OF5 := Lib.hid ho
       have B10 := Lib.hid (B9.out.trans (b1.mono B9.out.size))
       clear b1 ho hf)
    | (have _t := tokR6; go_at_call 18; go_must (refine (RD6.out w10 B10.out).mono ?_); clear tokR6 _t
       rintro e w11 ⟨a6, c6, rfl, h1, b1⟩
       have S6 := Lib.hid h1
       have B11 := Lib.hid (B10.out.trans (b1.mono B10.out.size))
       have B11D := Lib.hid b1
       clear h1 b1)
    | (have _t := tokO6; go_at_call 12; go_must (refine (each_t (EX6.out w11 w11 _ B11.out S6.out (Below.refl _ _))).mono ?_); clear tokO6 _t
       rintro e w12 ⟨sv, rfl, ho, b1⟩
       rw [aw6_kinds.1] at ho
       obtain ⟨ga, gc, rfl⟩ := ho.form
       rw [aw6_kinds.2.1, aw6_kinds.2.2]
       have OE6 := Lib.hid ho
       have B12 := Lib.hid (B11.out.trans (b1.mono B11.out.size))
       have D12 := Lib.hid b1
       clear b1 ho
       go_must (have f10 := ((OF5.out.below (B11D.out.trans (D12.out.mono B11D.out.size)) (Nat.le_refl _)).read (by decide)))
       go_must (have g12 := OE6.out.read (by decide))
       obtain ⟨fb, fo, fx, rfl, hfb, _, ⟨rfl, _⟩, hfx⟩ := f10.at_ (show ([⟨#[120]⟩, ⟨#[122]⟩] : List ByteArray)[0]? = some ⟨#[120]⟩ from rfl)
       obtain ⟨_, _, fx2, e2, _, _, ⟨rfl, _⟩, hfx2⟩ := f10.at_ (show ([⟨#[120]⟩, ⟨#[122]⟩] : List ByteArray)[1]? = some ⟨#[122]⟩ from rfl)
       injection e2 with e2
       injection e2 with e2 e3
       subst e2 e3
       have f0 : w12.cell? ⟨fb, fo, none⟩ = some (.string ⟨#[120]⟩) := hfx 0 _ rfl
       have f1 : w12.cell? ⟨fb, fo + 1, none⟩ = some (.string ⟨#[122]⟩) := hfx2 0 _ rfl
       obtain ⟨gb, go, gx, rfl, hgb, _, rfl, hgx⟩ := g12.at_ (show ([3, 1, 5, 4, 1] : List Int)[0]? = some 3 from rfl)
       have g0 : w12.cell? ⟨gb, go, none⟩ = some (.int .i64 3) := hgx 0 _ rfl
       have g1 : w12.cell? ⟨gb, go + 1, none⟩ = some (.int .i64 1) := by
         obtain ⟨_, _, gx2, e2, _, _, rfl, hg2⟩ := g12.at_ (show ([3, 1, 5, 4, 1] : List Int)[1]? = some 1 from rfl)
         injection e2 with e2
         injection e2 with e2 e3
         subst e2 e3
         exact hg2 0 _ rfl
       have g2 : w12.cell? ⟨gb, go + 2, none⟩ = some (.int .i64 5) := by
         obtain ⟨_, _, gx2, e2, _, _, rfl, hg2⟩ := g12.at_ (show ([3, 1, 5, 4, 1] : List Int)[2]? = some 5 from rfl)
         injection e2 with e2
         injection e2 with e2 e3
         subst e2 e3
         exact hg2 0 _ rfl
       have g3 : w12.cell? ⟨gb, go + 3, none⟩ = some (.int .i64 4) := by
         obtain ⟨_, _, gx2, e2, _, _, rfl, hg2⟩ := g12.at_ (show ([3, 1, 5, 4, 1] : List Int)[3]? = some 4 from rfl)
         injection e2 with e2
         injection e2 with e2 e3
         subst e2 e3
         exact hg2 0 _ rfl
       have g4 : w12.cell? ⟨gb, go + 4, none⟩ = some (.int .i64 1) := by
         obtain ⟨_, _, gx2, e2, _, _, rfl, hg2⟩ := g12.at_ (show ([3, 1, 5, 4, 1] : List Int)[4]? = some 1 from rfl)
         injection e2 with e2
         injection e2 with e2 e3
         subst e2 e3
         exact hg2 0 _ rfl
       clear f10 g12 hfx hfx2 hgx)
    | fail)
  go_ret
  exact ⟨rfl, B12.out⟩
end Go.Proofs.YtidkbodmiegbkaaGreatDoor
