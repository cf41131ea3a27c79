/- The reference's reader: under way along one production, well so far or at fault. The reference's reader: a word with brackets, a loop. The reference's reader: what stands by itself. -/
import Derived.Test.YtlenenfgedgmhaaDoorRd6
import Derived.Test.YtlenenfgedgmhaaDoorRSmall
namespace Go.Proofs.YtlenenfgedgmhaaDoor
set_option linter.unusedSimpArgs false
set_option linter.unusedVariables false
open Go.RowKit

theorem Reps.snoc {es : List EN} : ∀ {ts : List Tr} {gs : List Nat} {t : Tr} {g : Nat}, Reps es ts gs → Rep es t g → Reps es (ts ++ [t]) (gs ++ [g])
  | [], gs, t, g, h, ht => by
    simp only [Reps] at h
    subst h
    simp only [List.nil_append, Reps]
    exact ⟨g, [], rfl, ht, rfl⟩
  | u :: us, gs, t, g, h, ht => by
    simp only [Reps] at h
    obtain ⟨g0, gs0, rfl, h1, h2⟩ := h
    simp only [List.cons_append, Reps]
    exact ⟨g0, gs0 ++ [g], rfl, h1, Reps.snoc h2 ht⟩
/-- under way along one production: the parts read so far have the numbers gs; what is left is K -/
def UW (q : Nat) (a : Option Addr) (c sz : Nat) (l : List Tok) (i : Nat) (es : List (EN × Value)) (X : World) (r : PR) (gs : List Nat) (K : List Tr → Nat → PR) (w : World) : Prop :=
  Below q X w ∧ ∃ (es1 : List (EN × Value)) (i1 : Nat), es1.length + i + 1 ≤ i1 ∧
    ((∃ ts, Reps ((es ++ es1).map (·.1)) ts gs ∧ RSt q a c sz l i1 (-1) (es ++ es1) w ∧ K ts i1 = r) ∨
     (∃ jj, r = .no jj ∧ RSt q a c sz l i1 (placeAt l sz jj) (es ++ es1) w))
/-- what is left: a mark or word, and more -/
def kMust (l : List Tok) (T : List Nat) (K : List Tr → Nat → PR) : List Tr → Nat → PR := fun ts j => want l j T (K ts (j + 1))
/-- what is left: a name, and more -/
def kName (l : List Tok) (K : List Nat → List Tr → Nat → PR) : List Tr → Nat → PR := fun ts j => nameAt l j fun s => K s ts (j + 1)
/-- what is left: an expression, and more -/
def kLev (l : List Tok) (f : Nat) (K : List Tr → Nat → PR) : List Tr → Nat → PR := fun ts j => (pL l f 1 j).bind fun t j' => K (ts ++ [t]) j'
/-- a node is made of the parts -/
def kEnd (k : Nat) (s : List Nat) (v : Int) : List Tr → Nat → PR := fun ts j => .ok (.node k s v ts) j
/-- the one part it is -/
def kOne : List Tr → Nat → PR := fun ts j => match ts with | [t] => .ok t j | _ => .out
section
variable {q : Nat} {a : Option Addr} {c sz : Nat} {l : List Tok} {i : Nat} {es : List (EN × Value)} {X w : World} {r : PR} {gs : List Nat} {K : List Tr → Nat → PR}
theorem UW.start {j : Nat} (hj : i + 1 ≤ j) (hb : Below q X w) (h : RSt q a c sz l j (-1) es w) (hk : K [] j = r) : UW q a c sz l i es X r [] K w :=
  ⟨hb, [], j, by simp; omega, .inl ⟨[], by simp [Reps], by rw [List.append_nil]; exact h, hk⟩⟩
theorem UW.lt (h : UW q a c sz l i es X r gs K w) : q < w.heap.size := by
  obtain ⟨_, es1, i1, _, h | h⟩ := h
  · obtain ⟨_, _, h, _⟩ := h; exact h.lt
  · obtain ⟨_, _, h⟩ := h; exact h.lt
theorem UW.keep {w2 : World} (h : UW q a c sz l i es X r gs K w) (hb : Below w.heap.size w w2) : UW q a c sz l i es X r gs K w2 := by
  have hlt := h.lt
  obtain ⟨h0, es1, i1, hl, h⟩ := h
  refine ⟨h0.trans (hb.mono (Nat.le_of_lt hlt)), es1, i1, hl, ?_⟩
  rcases h with ⟨ts, h1, h2, h3⟩ | ⟨jj, h1, h2⟩
  · exact .inl ⟨ts, h1, h2.keep hb, h3⟩
  · exact .inr ⟨jj, h1, h2.keep hb⟩
theorem UW.quiet {w2 : World} (h : UW q a c sz l i es X r gs K w) (hq : Quiet w w2) : UW q a c sz l i es X r gs K w2 := h.keep (hq.below _)
theorem u_must (T : List Nat) (hT : Bytes T) (h : UW q a c sz l i es X r gs (kMust l T K) w) : Calls Tryd.prog 98 #[.pointer (some ⟨q, 0, none⟩), .string (txt T)] w fun e w' => e = .returned (.tuple #[]) ∧ UW q a c sz l i es X r gs K w' := by
  obtain ⟨h0, es1, i1, hl, h⟩ := h
  rcases h with ⟨ts, h1, h2, h3⟩ | ⟨jj, h1, h2⟩
  · unfold kMust want at h3
    try dsimp only at h3
    cases hb : isT l i1 T with
    | true =>
      rw [hb, if_pos rfl] at h3
      exact (r_must_yes T hT hb h2).mono fun e w' ⟨he, h4, h5⟩ => ⟨he, h0.trans h4, es1, i1 + 1, by omega, .inl ⟨ts, h1, h5, h3⟩⟩
    | false =>
      rw [hb, if_neg (by simp)] at h3
      exact (r_must_no T hT hb h2).mono fun e w' ⟨he, h4, h5⟩ => ⟨he, h0.trans h4, es1, i1, hl, .inr ⟨i1, h3.symm, h5⟩⟩
  · exact (r_must_bad T (h2.placeAt_nn jj) h2).mono fun e w' ⟨he, h4⟩ => ⟨he, h0.trans (h4.below q), es1, i1, hl, .inr ⟨jj, h1, h2.quiet h4⟩⟩
theorem u_name {K : List Nat → List Tr → Nat → PR} (h : UW q a c sz l i es X r gs (kName l K) w) : Calls Tryd.prog 82 #[.pointer (some ⟨q, 0, none⟩)] w fun e w' => ∃ s, e = .returned (.string (txt s)) ∧ UW q a c sz l i es X r gs (K s) w' := by
  obtain ⟨h0, es1, i1, hl, h⟩ := h
  rcases h with ⟨ts, h1, h2, h3⟩ | ⟨jj, h1, h2⟩
  · unfold kName nameAt at h3
    try dsimp only at h3
    by_cases hn : ∃ tk, l[i1]? = some tk ∧ tk.kind = 3
    · obtain ⟨tk, htk, hkd⟩ := hn
      rw [htk] at h3
      simp only at h3
      rw [if_pos hkd] at h3
      exact (r_name_yes htk hkd h2).mono fun e w' ⟨he, h4, h5⟩ => ⟨tk.text, he, h0.trans h4, es1, i1 + 1, by omega, .inl ⟨ts, h1, h5, h3⟩⟩
    · have hno : PR.no i1 = r := by
        rw [← h3]
        cases htk : l[i1]? with
        | none => rfl
        | some tk => exact (if_neg fun e => hn ⟨tk, htk, e⟩).symm
      exact (r_name_no (fun t ht e => hn ⟨t, ht, e⟩) h2).mono fun e w' ⟨he, h4, h5⟩ => ⟨[], he, h0.trans h4, es1, i1, hl, .inr ⟨i1, hno.symm, h5⟩⟩
  · exact (r_name_bad (h2.placeAt_nn jj) h2).mono fun e w' ⟨he, h4⟩ => ⟨[], he, h0.trans (h4.below q), es1, i1, hl, .inr ⟨jj, h1, h2.quiet h4⟩⟩
theorem u_level (f : Nat) (HO : RLevel q a c sz l 27 [.int .i64 1] (fun i => pL l f 1 i)) (hes : es.length ≤ i) (hr : r ≠ .out) (h : UW q a c sz l i es X r gs (kLev l f K) w) :
    Calls Tryd.prog 27 #[.pointer (some ⟨q, 0, none⟩), .int .i64 1] w fun e w' => ∃ g : Nat, e = .returned (.int .i64 (g : Int)) ∧ UW q a c sz l i es X r (gs ++ [g]) K w' := by
  obtain ⟨h0, es1, i1, hl, h⟩ := h
  rcases h with ⟨ts, h1, h2, h3⟩ | ⟨jj, h1, h2⟩
  · unfold kLev at h3
    try dsimp only at h3
    have hne : pL l f 1 i1 ≠ .out := fun e => hr (by rw [← h3, e]; rfl)
    refine (show Calls Tryd.prog 27 #[.pointer (some ⟨q, 0, none⟩), .int .i64 1] w _ from HO i1 (es ++ es1) w h2 (by rw [List.length_append]; omega) hne).mono fun e w' hR => ?_
    simp only at hR
    cases hp : pL l f 1 i1 with
    | out => exact absurd hp hne
    | ok t j =>
      rw [hp] at hR h3
      obtain ⟨g, es2, he, k1, k2, k3, k4⟩ := hR
      refine ⟨g, he, h0.trans k2, es1 ++ es2, j, by rw [List.length_append]; omega, .inl ⟨ts ++ [t], ?_, by rw [← List.append_assoc]; exact k3, h3⟩⟩
      rw [← List.append_assoc]
      refine Reps.snoc ?_ k1
      rw [List.map_append]
      exact h1.app _
    | no j =>
      rw [hp] at hR h3
      obtain ⟨g, es2, i2, he, k2, k3, k4⟩ := hR
      exact ⟨g, he, h0.trans k2, es1 ++ es2, i2, by rw [List.length_append]; omega, .inr ⟨j, h3.symm, by rw [← List.append_assoc]; exact k3⟩⟩
  · exact (r_level_bad 1 (h2.placeAt_nn jj) h2).mono fun e w' ⟨he, h4⟩ => ⟨0, he, by subst h4; exact h0, es1, i1, hl, .inr ⟨jj, h1, by subst h4; exact h2⟩⟩
theorem u_add (k : Nat) (s : List Nat) (v : Int) (ka : Option Addr) (kn kc : Nat) {w2 : World} (hw : Below w.heap.size w w2) (hks : SlR w2 w2.heap.size 1 IsNat (.slice ka kn kc) gs) (h3 : gs.length ≤ 3) (hes : es.length ≤ i) (h : UW q a c sz l i es X r gs (kEnd k s v) w) :
    Calls Tryd.prog 52 #[.pointer (some ⟨q, 0, none⟩), .int .i64 (k : Int), .string (txt s), .int .i64 v, .slice ka kn kc] w2 fun e w' => ∃ g : Nat, e = .returned (.int .i64 (g : Int)) ∧ RReads q a c sz l i es X r (.returned (.int .i64 (g : Int))) w' := by
  obtain ⟨h0, es1, i1, hl, h⟩ := h.keep hw
  have hfin : ∀ (bd : Int), RSt q a c sz l i1 bd (es ++ es1) w2 → (es ++ es1).length ≤ 5000 := fun bd h => by
    have := h.le
    have := h.few
    rw [List.length_append]
    omega
  rcases h with ⟨ts, h1, h2, rfl⟩ | ⟨jj, rfl, h2⟩
  · unfold kEnd
    refine (r_add k s v gs ka kn kc hks h3 (hfin _ h2) h2).mono ?_
    rintro e w' ⟨rfl, h4, kv, h5⟩
    refine ⟨_, rfl, (es ++ es1).length, es1 ++ [(⟨k, s, v, gs⟩, kv)], rfl, ?_, h0.trans h4, by rw [← List.append_assoc]; exact h5, by rw [List.length_append]; simp; omega⟩
    rw [← List.append_assoc, List.map_append]
    simp only [Rep]
    refine ⟨gs, ?_, h1.app _⟩
    rw [List.getElem?_append_right (by simp)]
    simp
  · refine (r_add k s v gs ka kn kc hks h3 (hfin _ h2) h2).mono ?_
    rintro e w' ⟨rfl, h4, kv, h5⟩
    exact ⟨_, rfl, (es ++ es1).length, es1 ++ [(⟨k, s, v, gs⟩, kv)], i1, rfl, h0.trans h4, by rw [← List.append_assoc]; exact h5, by rw [List.length_append]; simp; omega⟩
theorem u_done {g : Nat} (h : UW q a c sz l i es X r [g] kOne w) : RReads q a c sz l i es X r (.returned (.int .i64 (g : Int))) w := by
  obtain ⟨h0, es1, i1, hl, h⟩ := h
  rcases h with ⟨ts, h1, h2, h3⟩ | ⟨jj, rfl, h2⟩
  · unfold kOne at h3
    rcases ts with _ | ⟨t, _ | ⟨t2, ts⟩⟩
    · simp only [Reps] at h1
      cases h1
    · simp only at h3
      subst h3
      simp only [Reps] at h1
      obtain ⟨g', is', e1, k1, k2⟩ := h1
      injection e1 with e1 e2
      subst e1
      exact ⟨_, es1, rfl, k1, h0, h2, by omega⟩
    · simp only [Reps] at h1
      obtain ⟨g', is', e1, k1, g2, is2, e2, _⟩ := h1
      subst e2
      simp at e1
  · exact ⟨_, es1, i1, rfl, h0, h2, by omega⟩
/-- reading that stops at the token where it begins -/
theorem u_stop {e : Ending} (he : ∃ g : Nat, e = .returned (.int .i64 (g : Int))) (hb : Below q X w) {i1 j : Nat} (hi : i ≤ i1) (h : RSt q a c sz l i1 (placeAt l sz j) es w) : RReads q a c sz l i es X (.no j) e w := by
  obtain ⟨g, rfl⟩ := he
  exact ⟨g, [], i1, rfl, hb, by rw [List.append_nil]; exact h, by simpa using hi⟩
end
end Go.Proofs.YtlenenfgedgmhaaDoor
namespace Go.Proofs.YtlenenfgedgmhaaDoor
set_option linter.unusedSimpArgs false
set_option linter.unusedVariables false
open Go.RowKit

def onesA : List (List Nat) := [[115, 105, 122, 101], [102, 105, 114, 115, 116], [116, 101, 120, 116], [99, 111, 110, 99, 101, 112, 116], [105, 100], [105, 110, 116]]
def loopsA : List (List Nat) := [[97, 110, 121], [101, 118, 101, 114, 121], [111, 110, 108, 121], [115, 117, 109]]
theorem IsTxt.get {W : World} {B g n c k : Nat} {L : List (List Nat)} {m : List Nat} (h : SlR W B 1 IsTxt (.slice (some ⟨g, 0, none⟩) n c) L) (hk : L[k]? = some m) : W.cell? ⟨g, k, none⟩ = some (.string (txt m)) ∧ Bytes m := by
  obtain ⟨b, off, x, hsome, _, _, ⟨rfl, hb, _⟩, hx⟩ := h.at_ hk
  injection hsome with hsome
  injection hsome with e1 e2
  subst e1 e2
  have h0 := hx 0 _ rfl
  simp only [Nat.mul_one, Nat.add_zero, Nat.zero_add] at h0
  exact ⟨h0, hb⟩
section
variable {q : Nat} {a : Option Addr} {c sz : Nat} {l : List Tok} {i : Nat} {es : List (EN × Value)} {X : World} {r : PR}
set_option maxRecDepth 100000 in
set_option maxHeartbeats 8000000 in
theorem r_word_one (k0 : Nat) {tt : List Nat} (hk0 : k0 < 6) (hk : onesA[k0]? = some tt) (f : Nat) (HO : RLevel q a c sz l 27 [.int .i64 1] (fun i => pL l f 1 i)) (hes : es.length ≤ i) (hlt : i + 1 ≤ l.length) (h : RSt q a c sz l i (-1) es X)
    (hr : kMust l openT (kLev l f (kMust l closeT (kEnd (14 + k0) [] 0))) [] (i + 1) = r) (hne : r ≠ .out) : Calls Tryd.prog 99 #[.pointer (some ⟨q, 0, none⟩), .string (txt tt)] X (RReads q a c sz l i es X r) := by
  have hdist : ∀ k, k < k0 → onesA[k]? ≠ some tt := by
    have h0 : ∀ k0, k0 < 6 → ∀ k, k < k0 → onesA[k]? ≠ onesA[k0]? := by decide
    rw [← hk]
    exact h0 k0 hk0
  have hfew := h.few
  have i5 : (i : Int) ≤ 5000 := by omega
  have i0 : (0 : Int) ≤ (i : Int) := Int.natCast_nonneg _
  have MO := (show Hid (∀ gs K Y, UW q a c sz l i es X r gs (kMust l openT K) Y → Calls Tryd.prog 98 #[.pointer (some ⟨q, 0, none⟩), .string ⟨#[40]⟩] Y fun e w' => e = .returned (.tuple #[]) ∧ UW q a c sz l i es X r gs K w') from Lib.hid (fun gs K Y hY => by rw [← lit_openT]; exact u_must openT (show ∀ n ∈ openT, n < 256 by decide) hY))
  have MC := (show Hid (∀ gs K Y, UW q a c sz l i es X r gs (kMust l closeT K) Y → Calls Tryd.prog 98 #[.pointer (some ⟨q, 0, none⟩), .string ⟨#[41]⟩] Y fun e w' => e = .returned (.tuple #[]) ∧ UW q a c sz l i es X r gs K w') from Lib.hid (fun gs K Y hY => by rw [← lit_closeT]; exact u_must closeT (show ∀ n ∈ closeT, n < 256 by decide) hY))
  have LV := (show Hid (∀ gs K Y, UW q a c sz l i es X r gs (kLev l f K) Y → Calls Tryd.prog 27 #[.pointer (some ⟨q, 0, none⟩), .int .i64 1] Y fun e w' => ∃ g : Nat, e = .returned (.int .i64 (g : Int)) ∧ UW q a c sz l i es X r (gs ++ [g]) K w') from Lib.hid (fun gs K Y hY => u_level f HO hes hne hY))
  have AD : Hid (∀ g Y, UW q a c sz l i es X r [g] (kEnd (14 + k0) [] 0) Y → Calls Tryd.prog 52 #[.pointer (some ⟨q, 0, none⟩), .int .i64 (14 + (k0 : Int)), .string ⟨#[]⟩, .int .i64 0, .slice (some ⟨Y.heap.size, 0, none⟩) 1 1] (Y.alloc (.cells #[.int .i64 (g : Int)] 3)) fun e w' => ∃ g : Nat, e = .returned (.int .i64 (g : Int)) ∧ RReads q a c sz l i es X r (.returned (.int .i64 (g : Int))) w') := Lib.hid (fun g Y hY => by
    have h0 := u_add (14 + k0) [] 0 _ _ _ ((Below.refl _ Y).alloc (Nat.le_refl _) _) (ints1 Y g) (by simp) hes hY
    rw [show ((14 + k0 : Nat) : Int) = 14 + (k0 : Int) by omega] at h0
    exact h0)
  have H := Lib.hid h
  have HR := Lib.hid hr
  have HK := Lib.hid hk
  have HD := Lib.hid hdist
  have LQ := Lib.hid h.lt
  clear h hr hk hdist HO
  go_enter Tryd.func99, Tryd.ntmps99
  go_wp2_with fail
  generalize hwq : World.alloc _ _ = W1
  have B1 : Hid (Below q X W1) := Lib.hid (by rw [← hwq]; exact (Below.refl q X).alloc (Nat.le_of_lt LQ.out) _)
  have S1 : Hid (RSt q a c sz l i (-1) es W1) := Lib.hid (by rw [← hwq]; exact H.out.keep ((Below.refl _ X).alloc (Nat.le_refl _) _))
  have R1 : Hid (SlR W1 W1.heap.size 1 IsTxt (.slice (some ⟨X.heap.size, 0, none⟩) 6 6) onesA) := Lib.hid (by rw [← hwq]; exact texts_read onesA (by unfold Bytes; decide) (by decide) (Blk.new X 9 _) 6 6 rfl rfl)
  clear hwq
  have UST : Hid (UW q a c sz l i es X r [] (kMust l openT (kLev l f (kMust l closeT (kEnd (14 + k0) [] 0)))) (W1.setCell ⟨q, 1, none⟩ (.int .i64 ((i : Int) + 1)))) := Lib.hid (UW.start (Nat.le_refl _) (B1.out.trans ((Below.refl q W1).setCell (p := ⟨q, 1, none⟩) (Nat.le_refl q) _)) (S1.out.at_ (by go_num) hlt) HR.out)
  obtain ⟨f0, f1, f2, f3, f4, f5, f6⟩ := S1.out.facts
  obtain ⟨xs, hxs⟩ : ∃ z, X.heap.size = z := ⟨_, rfl⟩
  rw [hxs] at R1 ⊢
  clear f0 f2 f3 f5 hxs
  go_loopw [6, 7] (fun j v wr => ∃ k : Nat, k ≤ k0 ∧ j = .int .i64 (k : Int) ∧ W1 = wr) (fun j _ _ => k0 - (intOf j).toNat)
  case atStart => exact ⟨0, Nat.zero_le _, rfl, rfl⟩
  case round =>
    obtain ⟨k, hkk, rfl, rfl⟩ := hrel
    have c1 : (0 : Int) ≤ (k : Int) := Int.natCast_nonneg _
    have c6 : (k : Int) < 6 := by omega
    have dk : decide (k < 6) = true := by simp; omega
    obtain ⟨m, hm⟩ := get_some (l := onesA) (n := 6) rfl (show k < 6 by omega)
    obtain ⟨t1, hmb⟩ := IsTxt.get R1.out hm
    by_cases hkq : k = k0
    · subst hkq
      have hmt : m = tt := by have h0 := HK.out; rw [hm] at h0; injection h0
      subst hmt
      clear hm hmb
      go_wp2_with (first
        | (go_at_call 98; (with_reducible refine (MO.out _ _ _ UST.out).mono ?_); rintro e w_U2 ⟨rfl, h2⟩; have U2 := Lib.hid h2; clear h2 UST)
        | (go_at_call 27; (with_reducible refine (LV.out _ _ _ U2.out).mono ?_); rintro e w_U3 ⟨g3, rfl, h2⟩; simp only [List.nil_append, List.cons_append] at h2; have U3 := Lib.hid h2; clear h2 U2)
        | (go_at_call 98; (with_reducible refine (MC.out _ _ _ U3.out).mono ?_); rintro e w_U4 ⟨rfl, h2⟩; have U4 := Lib.hid h2; clear h2 U3)
        | (go_at_call 52; (with_reducible refine (AD.out _ _ U4.out).mono ?_); rintro e w_5 ⟨g5, rfl, h2⟩; have U5 := Lib.hid h2; clear h2))
      go_ret
      exact U5.out
    · have hne2 : ¬ (txt m).toList = (txt tt).toList := fun e => HD.out k (by omega) (by rw [hm]; exact congrArg some (txt_inj hmb (by have := HK.out; exact (show ∀ m ∈ onesA, Bytes m by unfold Bytes; decide) _ (List.mem_iff_getElem?.2 ⟨k0, this⟩)) e))
      have e1 : ((txt m).toList == (txt tt).toList) = false := by rw [beq_eq_false_iff_ne]; exact hne2
      clear hm hmb
      go_wp2_with fail
      go_roundw
      case rel => exact ⟨k + 1, by omega, by go_num, by first | rfl | trivial⟩
      case measure => simp [intOf]; omega
set_option maxRecDepth 100000 in
set_option maxHeartbeats 8000000 in
theorem r_word_loop (k0 : Nat) {tt : List Nat} (hk0 : k0 < 4) (hk : loopsA[k0]? = some tt) (f : Nat) (HO : RLevel q a c sz l 27 [.int .i64 1] (fun i => pL l f 1 i)) (hes : es.length ≤ i) (hlt : i + 1 ≤ l.length) (h : RSt q a c sz l i (-1) es X)
    (hr : kName l (fun s => kMust l inT (kLev l f (kMust l colonT (kLev l f (kMust l endT (kEnd (31 + k0) s 0)))))) [] (i + 1) = r) (hne : r ≠ .out) : Calls Tryd.prog 99 #[.pointer (some ⟨q, 0, none⟩), .string (txt tt)] X (RReads q a c sz l i es X r) := by
  have hdist : ∀ k, k < k0 → loopsA[k]? ≠ some tt := by
    have h0 : ∀ k0, k0 < 4 → ∀ k, k < k0 → loopsA[k]? ≠ loopsA[k0]? := by decide
    rw [← hk]
    exact h0 k0 hk0
  have hmem : tt ∈ loopsA := List.mem_iff_getElem?.2 ⟨k0, hk⟩
  have HN1 : Hid (tt ∉ onesA) := Lib.hid ((show ∀ m ∈ loopsA, m ∉ onesA by decide) tt hmem)
  have HTB : Hid (Bytes tt) := Lib.hid ((show ∀ m ∈ loopsA, Bytes m by unfold Bytes; decide) tt hmem)
  have hfew := h.few
  have i5 : (i : Int) ≤ 5000 := by omega
  have i0 : (0 : Int) ≤ (i : Int) := Int.natCast_nonneg _
  have NM : Hid (∀ gs K Y, UW q a c sz l i es X r gs (kName l K) Y → Calls Tryd.prog 82 #[.pointer (some ⟨q, 0, none⟩)] Y fun e w' => ∃ s, e = .returned (.string (txt s)) ∧ UW q a c sz l i es X r gs (K s) w') := Lib.hid (fun gs K Y hY => u_name hY)
  have MI := (show Hid (∀ gs K Y, UW q a c sz l i es X r gs (kMust l inT K) Y → Calls Tryd.prog 98 #[.pointer (some ⟨q, 0, none⟩), .string ⟨#[105, 110]⟩] Y fun e w' => e = .returned (.tuple #[]) ∧ UW q a c sz l i es X r gs K w') from Lib.hid (fun gs K Y hY => by rw [← lit_inT]; exact u_must inT (show ∀ n ∈ inT, n < 256 by decide) hY))
  have MC := (show Hid (∀ gs K Y, UW q a c sz l i es X r gs (kMust l colonT K) Y → Calls Tryd.prog 98 #[.pointer (some ⟨q, 0, none⟩), .string ⟨#[58]⟩] Y fun e w' => e = .returned (.tuple #[]) ∧ UW q a c sz l i es X r gs K w') from Lib.hid (fun gs K Y hY => by rw [← lit_colonT]; exact u_must colonT (show ∀ n ∈ colonT, n < 256 by decide) hY))
  have ME := (show Hid (∀ gs K Y, UW q a c sz l i es X r gs (kMust l endT K) Y → Calls Tryd.prog 98 #[.pointer (some ⟨q, 0, none⟩), .string ⟨#[101, 110, 100]⟩] Y fun e w' => e = .returned (.tuple #[]) ∧ UW q a c sz l i es X r gs K w') from Lib.hid (fun gs K Y hY => by rw [← lit_endT]; exact u_must endT (show ∀ n ∈ endT, n < 256 by decide) hY))
  have LV := (show Hid (∀ gs K Y, UW q a c sz l i es X r gs (kLev l f K) Y → Calls Tryd.prog 27 #[.pointer (some ⟨q, 0, none⟩), .int .i64 1] Y fun e w' => ∃ g : Nat, e = .returned (.int .i64 (g : Int)) ∧ UW q a c sz l i es X r (gs ++ [g]) K w') from Lib.hid (fun gs K Y hY => u_level f HO hes hne hY))
  have AD : Hid (∀ s g1 g2 Y, UW q a c sz l i es X r [g1, g2] (kEnd (31 + k0) s 0) Y → Calls Tryd.prog 52 #[.pointer (some ⟨q, 0, none⟩), .int .i64 (31 + (k0 : Int)), .string (txt s), .int .i64 0, .slice (some ⟨Y.heap.size, 0, none⟩) 2 2] (Y.alloc (.cells #[.int .i64 (g1 : Int), .int .i64 (g2 : Int)] 3)) fun e w' => ∃ g : Nat, e = .returned (.int .i64 (g : Int)) ∧ RReads q a c sz l i es X r (.returned (.int .i64 (g : Int))) w') := Lib.hid (fun s g1 g2 Y hY => by
    have h0 := u_add (31 + k0) s 0 _ _ _ ((Below.refl _ Y).alloc (Nat.le_refl _) _) (ints2 Y g1 g2) (by simp) hes hY
    rw [show ((31 + k0 : Nat) : Int) = 31 + (k0 : Int) by omega] at h0
    exact h0)
  have H := Lib.hid h
  have HR := Lib.hid hr
  have HK := Lib.hid hk
  have HD := Lib.hid hdist
  have LQ := Lib.hid h.lt
  clear h hr hk hdist HO hmem
  go_enter Tryd.func99, Tryd.ntmps99
  go_wp2_with fail
  generalize hwq : World.alloc _ _ = W1
  have B1 : Hid (Below q X W1) := Lib.hid (by rw [← hwq]; exact (Below.refl q X).alloc (Nat.le_of_lt LQ.out) _)
  have S1 : Hid (RSt q a c sz l i (-1) es W1) := Lib.hid (by rw [← hwq]; exact H.out.keep ((Below.refl _ X).alloc (Nat.le_refl _) _))
  have R1 : Hid (SlR W1 W1.heap.size 1 IsTxt (.slice (some ⟨X.heap.size, 0, none⟩) 6 6) onesA) := Lib.hid (by rw [← hwq]; exact texts_read onesA (by unfold Bytes; decide) (by decide) (Blk.new X 9 _) 6 6 rfl rfl)
  have LW1 := Lib.hid S1.out.lt
  clear hwq
  obtain ⟨xs, hxs⟩ : ∃ z, X.heap.size = z := ⟨_, rfl⟩
  rw [hxs] at R1 ⊢
  clear hxs
  go_loopw [6, 7] (fun j v wr => ∃ k : Nat, k ≤ 6 ∧ j = .int .i64 (k : Int) ∧ W1 = wr) (fun j _ _ => 6 - (intOf j).toNat)
  case atStart => exact ⟨0, Nat.zero_le _, rfl, rfl⟩
  case round =>
    obtain ⟨k, hkk, rfl, rfl⟩ := hrel
    have c1 : (0 : Int) ≤ (k : Int) := Int.natCast_nonneg _
    by_cases hk6 : k < 6
    · have c6 : (k : Int) < 6 := by omega
      have dk : decide (k < 6) = true := by simp; omega
      obtain ⟨m, hm⟩ := get_some (l := onesA) (n := 6) rfl (show k < 6 by omega)
      obtain ⟨t1, hmb⟩ := IsTxt.get R1.out hm
      have hne2 : ¬ (txt m).toList = (txt tt).toList := fun e => HN1.out (by rw [← txt_inj hmb HTB.out e]; exact List.mem_iff_getElem?.2 ⟨k, hm⟩)
      have e1 : ((txt m).toList == (txt tt).toList) = false := by rw [beq_eq_false_iff_ne]; exact hne2
      clear hm hmb
      go_wp2_with fail
      go_roundw
      case rel => exact ⟨k + 1, by omega, by go_num, by first | rfl | trivial⟩
      case measure => simp [intOf]; omega
    · obtain rfl : k = 6 := by omega
      have dk : decide (((6 : Nat) : Int) < 6) = false := by decide
      clear hk6 hkk c1
      go_wp2_with fail
      obtain ⟨ws, hws⟩ : ∃ z, W1.heap.size = z := ⟨_, rfl⟩
      generalize hwq : World.alloc _ _ = W2
      have B2 : Hid (Below q X W2) := Lib.hid (by rw [← hwq]; exact B1.out.alloc (Nat.le_of_lt LW1.out) _)
      have S2 : Hid (RSt q a c sz l i (-1) es W2) := Lib.hid (by rw [← hwq]; exact S1.out.keep ((Below.refl _ W1).alloc (Nat.le_refl _) _))
      have R2 : Hid (SlR W2 W2.heap.size 1 IsTxt (.slice (some ⟨W1.heap.size, 0, none⟩) 4 4) loopsA) := Lib.hid (by rw [← hwq]; exact texts_read loopsA (by unfold Bytes; decide) (by decide) (Blk.new W1 9 _) 4 4 rfl rfl)
      rw [hws] at R2 ⊢
      clear hwq hws dk
      have UST : Hid (UW q a c sz l i es X r [] (kName l (fun s => kMust l inT (kLev l f (kMust l colonT (kLev l f (kMust l endT (kEnd (31 + k0) s 0))))))) (W2.setCell ⟨q, 1, none⟩ (.int .i64 ((i : Int) + 1)))) := Lib.hid (UW.start (Nat.le_refl _) (B2.out.trans ((Below.refl q W2).setCell (p := ⟨q, 1, none⟩) (Nat.le_refl q) _)) (S2.out.at_ (by go_num) hlt) HR.out)
      obtain ⟨f0, f1, f2, f3, f4, f5, f6⟩ := S2.out.facts
      clear f0 f2 f3 f5 B1 S1 R1
      go_loopw [9, 10, 11, 12] (fun j _ _ _ wr => ∃ k : Nat, k ≤ k0 ∧ j = .int .i64 (k : Int) ∧ W2 = wr) (fun j _ _ _ _ => k0 - (intOf j).toNat)
      case atStart => exact ⟨0, Nat.zero_le _, rfl, rfl⟩
      case round =>
        obtain ⟨k, hkk, rfl, rfl⟩ := hrel
        have c1 : (0 : Int) ≤ (k : Int) := Int.natCast_nonneg _
        have c6 : (k : Int) < 4 := by omega
        have dk : decide (k < 4) = true := by simp; omega
        obtain ⟨m, hm⟩ := get_some (l := loopsA) (n := 4) rfl (show k < 4 by omega)
        obtain ⟨t1, hmb⟩ := IsTxt.get R2.out hm
        by_cases hkq : k = k0
        · subst hkq
          have hmt : m = tt := by have h0 := HK.out; rw [hm] at h0; injection h0
          subst hmt
          clear hm hmb
          go_wp2_with (first
            | (go_at_call 82; (with_reducible refine (NM.out _ _ _ UST.out).mono ?_); rintro e w_U1 ⟨s1, rfl, h2⟩; have U1 := Lib.hid h2; clear h2 UST)
            | (go_at_call 98; (with_reducible refine (MI.out _ _ _ U1.out).mono ?_); rintro e w_U2 ⟨rfl, h2⟩; have U2 := Lib.hid h2; clear h2 U1)
            | (go_at_call 27; (with_reducible refine (LV.out _ _ _ U2.out).mono ?_); rintro e w_U3 ⟨g3, rfl, h2⟩; simp only [List.nil_append, List.cons_append] at h2; have U3 := Lib.hid h2; clear h2 U2)
            | (go_at_call 98; (with_reducible refine (MC.out _ _ _ U3.out).mono ?_); rintro e w_U4 ⟨rfl, h2⟩; have U4 := Lib.hid h2; clear h2 U3)
            | (go_at_call 27; (with_reducible refine (LV.out _ _ _ U4.out).mono ?_); rintro e w_U5 ⟨g5, rfl, h2⟩; simp only [List.nil_append, List.cons_append] at h2; have U5 := Lib.hid h2; clear h2 U4)
            | (go_at_call 98; (with_reducible refine (ME.out _ _ _ U5.out).mono ?_); rintro e w_U6 ⟨rfl, h2⟩; have U6 := Lib.hid h2; clear h2 U5)
            | (go_at_call 52; (with_reducible refine (AD.out _ _ _ _ U6.out).mono ?_); rintro e w_7 ⟨g7, rfl, h2⟩; have U7 := Lib.hid h2; clear h2))
          go_ret
          exact U7.out
        · have hne2 : ¬ (txt m).toList = (txt tt).toList := fun e => HD.out k (by omega) (by rw [hm]; exact congrArg some (txt_inj hmb HTB.out e))
          have e1 : ((txt m).toList == (txt tt).toList) = false := by rw [beq_eq_false_iff_ne]; exact hne2
          clear hm hmb
          go_wp2_with fail
          go_roundw
          case rel => exact ⟨k + 1, by omega, by go_num, by first | rfl | trivial⟩
          case measure => simp [intOf]; omega
set_option maxRecDepth 100000 in
set_option maxHeartbeats 8000000 in
theorem r_word_no {tt : List Nat} (hb : Bytes tt) (h1 : tt ∉ onesA) (h2 : tt ∉ loopsA) (h : RSt q a c sz l i (-1) es X) : Calls Tryd.prog 99 #[.pointer (some ⟨q, 0, none⟩), .string (txt tt)] X (RReads q a c sz l i es X (.no i)) := by
  have HN1 := Lib.hid h1
  have HN2 := Lib.hid h2
  have HTB := Lib.hid hb
  have H := Lib.hid h
  have LQ := Lib.hid h.lt
  clear h h1 h2 hb
  go_enter Tryd.func99, Tryd.ntmps99
  go_wp2_with fail
  generalize hwq : World.alloc _ _ = W1
  have B1 : Hid (Below q X W1) := Lib.hid (by rw [← hwq]; exact (Below.refl q X).alloc (Nat.le_of_lt LQ.out) _)
  have S1 : Hid (RSt q a c sz l i (-1) es W1) := Lib.hid (by rw [← hwq]; exact H.out.keep ((Below.refl _ X).alloc (Nat.le_refl _) _))
  have R1 : Hid (SlR W1 W1.heap.size 1 IsTxt (.slice (some ⟨X.heap.size, 0, none⟩) 6 6) onesA) := Lib.hid (by rw [← hwq]; exact texts_read onesA (by unfold Bytes; decide) (by decide) (Blk.new X 9 _) 6 6 rfl rfl)
  have LW1 := Lib.hid S1.out.lt
  clear hwq
  obtain ⟨xs, hxs⟩ : ∃ z, X.heap.size = z := ⟨_, rfl⟩
  rw [hxs] at R1 ⊢
  clear hxs
  go_loopw [6, 7] (fun j v wr => ∃ k : Nat, k ≤ 6 ∧ j = .int .i64 (k : Int) ∧ W1 = wr) (fun j _ _ => 6 - (intOf j).toNat)
  case atStart => exact ⟨0, Nat.zero_le _, rfl, rfl⟩
  case round =>
    obtain ⟨k, hkk, rfl, rfl⟩ := hrel
    have c1 : (0 : Int) ≤ (k : Int) := Int.natCast_nonneg _
    by_cases hk6 : k < 6
    · have c6 : (k : Int) < 6 := by omega
      have dk : decide (k < 6) = true := by simp; omega
      obtain ⟨m, hm⟩ := get_some (l := onesA) (n := 6) rfl (show k < 6 by omega)
      obtain ⟨t1, hmb⟩ := IsTxt.get R1.out hm
      have hne2 : ¬ (txt m).toList = (txt tt).toList := fun e => HN1.out (by rw [← txt_inj hmb HTB.out e]; exact List.mem_iff_getElem?.2 ⟨k, hm⟩)
      have e1 : ((txt m).toList == (txt tt).toList) = false := by rw [beq_eq_false_iff_ne]; exact hne2
      clear hm hmb
      go_wp2_with fail
      go_roundw
      case rel => exact ⟨k + 1, by omega, by go_num, by first | rfl | trivial⟩
      case measure => simp [intOf]; omega
    · obtain rfl : k = 6 := by omega
      have dk : decide (((6 : Nat) : Int) < 6) = false := by decide
      clear hk6 hkk c1
      go_wp2_with fail
      obtain ⟨ws, hws⟩ : ∃ z, W1.heap.size = z := ⟨_, rfl⟩
      generalize hwq : World.alloc _ _ = W2
      have B2 : Hid (Below q X W2) := Lib.hid (by rw [← hwq]; exact B1.out.alloc (Nat.le_of_lt LW1.out) _)
      have S2 : Hid (RSt q a c sz l i (-1) es W2) := Lib.hid (by rw [← hwq]; exact S1.out.keep ((Below.refl _ W1).alloc (Nat.le_refl _) _))
      have R2 : Hid (SlR W2 W2.heap.size 1 IsTxt (.slice (some ⟨W1.heap.size, 0, none⟩) 4 4) loopsA) := Lib.hid (by rw [← hwq]; exact texts_read loopsA (by unfold Bytes; decide) (by decide) (Blk.new W1 9 _) 4 4 rfl rfl)
      rw [hws] at R2 ⊢
      clear hwq hws dk
      clear B1 S1 R1
      go_loopw [9, 10, 11, 12] (fun j _ _ _ wr => ∃ k : Nat, k ≤ 4 ∧ j = .int .i64 (k : Int) ∧ W2 = wr) (fun j _ _ _ _ => 4 - (intOf j).toNat)
      case atStart => exact ⟨0, Nat.zero_le _, rfl, rfl⟩
      case round =>
        obtain ⟨k, hkk, rfl, rfl⟩ := hrel
        have c1 : (0 : Int) ≤ (k : Int) := Int.natCast_nonneg _
        by_cases hk4 : k < 4
        · have c6 : (k : Int) < 4 := by omega
          have dk : decide (k < 4) = true := by simp; omega
          obtain ⟨m, hm⟩ := get_some (l := loopsA) (n := 4) rfl (show k < 4 by omega)
          obtain ⟨t1, hmb⟩ := IsTxt.get R2.out hm
          have hne2 : ¬ (txt m).toList = (txt tt).toList := fun e => HN2.out (by rw [← txt_inj hmb HTB.out e]; exact List.mem_iff_getElem?.2 ⟨k, hm⟩)
          have e1 : ((txt m).toList == (txt tt).toList) = false := by rw [beq_eq_false_iff_ne]; exact hne2
          clear hm hmb
          go_wp2_with fail
          go_roundw
          case rel => exact ⟨k + 1, by omega, by go_num, by first | rfl | trivial⟩
          case measure => simp [intOf]; omega
        · obtain rfl : k = 4 := by omega
          have dk : decide (((4 : Nat) : Int) < 4) = false := by decide
          clear hk4 hkk c1
          go_wp2_with (first
            | (go_at_call 28; (refine (r_stop S2.out).mono ?_); rintro e w2 ⟨rfl, h2, h3⟩; have S3 := Lib.hid (And.intro (B2.out.trans h2) h3); clear h2 h3))
          go_ret
          exact u_stop ⟨0, rfl⟩ S3.out.1 (Nat.le_refl _) S3.out.2
end
end Go.Proofs.YtlenenfgedgmhaaDoor
namespace Go.Proofs.YtlenenfgedgmhaaDoor
set_option linter.unusedSimpArgs false
set_option linter.unusedVariables false
open Go.RowKit

def trueT : List Nat := [116, 114, 117, 101]
def falseT : List Nat := [102, 97, 108, 115, 101]
def selfT : List Nat := [115, 101, 108, 102]
def noneT : List Nat := [110, 111, 110, 101]
def ifT : List Nat := [105, 102]
theorem tl_minusT : (txt minusT).toList = [45] := by rw [show txt minusT = ⟨#[45]⟩ from by decide]; simp
theorem tl_openT : (txt openT).toList = [40] := by rw [show txt openT = ⟨#[40]⟩ from by decide]; simp
theorem tl_trueT : (txt trueT).toList = [116, 114, 117, 101] := by rw [show txt trueT = ⟨#[116, 114, 117, 101]⟩ from by decide]; simp
theorem tl_falseT : (txt falseT).toList = [102, 97, 108, 115, 101] := by rw [show txt falseT = ⟨#[102, 97, 108, 115, 101]⟩ from by decide]; simp
theorem tl_selfT : (txt selfT).toList = [115, 101, 108, 102] := by rw [show txt selfT = ⟨#[115, 101, 108, 102]⟩ from by decide]; simp
theorem tl_noneT : (txt noneT).toList = [110, 111, 110, 101] := by rw [show txt noneT = ⟨#[110, 111, 110, 101]⟩ from by decide]; simp
theorem tl_ifT : (txt ifT).toList = [105, 102] := by rw [show txt ifT = ⟨#[105, 102]⟩ from by decide]; simp
section
variable {l : List Tok} {f i k : Nat} {s : List Nat}
theorem wordR_leaf (h : oneN s = (k, 0)) (hk : k ≠ 0) : wordR l f i s = .ok (.node k [] 0 []) (i + 1) := by
  unfold wordR
  rw [h]
  simp [hk]
theorem wordR_one (h : oneN s = (k, 1)) (hk : k ≠ 0) : wordR l f i s = kMust l openT (kLev l f (kMust l closeT (kEnd k [] 0))) [] (i + 1) := by
  unfold wordR
  rw [h]
  simp only [if_neg hk]
  rfl
theorem wordR_loop (h : oneN s = (k, 2)) (hk : k ≠ 0) : wordR l f i s = kName l (fun s => kMust l inT (kLev l f (kMust l colonT (kLev l f (kMust l endT (kEnd k s 0)))))) [] (i + 1) := by
  unfold wordR
  rw [h]
  simp only [if_neg hk]
  rfl
theorem wordR_if (h : oneN s = (k, 3)) (hk : k ≠ 0) : wordR l f i s = kLev l f (kMust l thenT (kLev l f (kMust l elseT (kLev l f (kMust l endT (kEnd k [] 0)))))) [] (i + 1) := by
  unfold wordR
  rw [h]
  simp only [if_neg hk]
  rfl
theorem wordR_no (h : (oneN s).1 = 0) : wordR l f i s = .no i := by
  unfold wordR
  rw [if_pos h]
theorem ones_at {k0 : Nat} (hk : onesA[k0]? = some s) : oneN s = (14 + k0, 1) ∧ k0 < 6 := by
  rcases k0 with _ | _ | _ | _ | _ | _ | k0 <;> first | (injection hk with hk; subst hk; decide) | (simp [onesA] at hk)
theorem loops_at {k0 : Nat} (hk : loopsA[k0]? = some s) : oneN s = (31 + k0, 2) ∧ k0 < 4 := by
  rcases k0 with _ | _ | _ | _ | k0 <;> first | (injection hk with hk; subst hk; decide) | (simp [loopsA] at hk)
theorem ones_none : ∀ m ∈ wordsL, m ∉ onesA → m ∉ loopsA → m ≠ trueT → m ≠ falseT → m ≠ selfT → m ≠ noneT → m ≠ ifT → (oneN m).1 = 0 := by decide
end
section
variable {q : Nat} {a : Option Addr} {c sz : Nat} {l : List Tok} {i : Nat} {es : List (EN × Value)} {X : World} {r : PR}
/-- a word, but for those that prim itself knows -/
theorem r_word {tt : List Nat} (hb : Bytes tt) (hm : tt ∈ wordsL ∨ tt ∈ marksL) (h1 : tt ≠ trueT) (h2 : tt ≠ falseT) (h3 : tt ≠ selfT) (h4 : tt ≠ noneT) (h5 : tt ≠ ifT) (f : Nat) (HO : RLevel q a c sz l 27 [.int .i64 1] (fun i => pL l f 1 i)) (hes : es.length ≤ i) (hlt : i + 1 ≤ l.length) (h : RSt q a c sz l i (-1) es X)
    (hne : wordR l f i tt ≠ .out) : Calls Tryd.prog 99 #[.pointer (some ⟨q, 0, none⟩), .string (txt tt)] X (RReads q a c sz l i es X (wordR l f i tt)) := by
  by_cases k1 : tt ∈ onesA
  · obtain ⟨k0, hk⟩ := List.mem_iff_getElem?.1 k1
    obtain ⟨e1, hk0⟩ := ones_at hk
    exact r_word_one k0 hk0 hk f HO hes hlt h (wordR_one e1 (by omega)).symm hne
  · by_cases k2 : tt ∈ loopsA
    · obtain ⟨k0, hk⟩ := List.mem_iff_getElem?.1 k2
      obtain ⟨e1, hk0⟩ := loops_at hk
      exact r_word_loop k0 hk0 hk f HO hes hlt h (wordR_loop e1 (by omega)).symm hne
    · have h0 : (oneN tt).1 = 0 := by
        rcases hm with hm | hm
        · exact ones_none tt hm k1 k2 h1 h2 h3 h4 h5
        · exact (show ∀ m ∈ marksL, (oneN m).1 = 0 by decide) tt hm
      rw [wordR_no h0]
      exact r_word_no hb k1 k2 h
set_option maxRecDepth 100000 in
set_option maxHeartbeats 16000000 in
theorem r_prim (f : Nat) (HO : RLevel q a c sz l 27 [.int .i64 1] (fun i => pL l f 1 i)) : RLevel q a c sz l 81 [] (fun i => pP l (f + 1) i) := by
  intro i es X h hes hne
  simp only at hne ⊢
  obtain ⟨r, hr⟩ : ∃ r, pP l (f + 1) i = r := ⟨_, rfl⟩
  rw [hr] at hne ⊢
  show Calls _ _ #[.pointer (some ⟨q, 0, none⟩)] _ _
  have H := Lib.hid h
  have HES := Lib.hid hes
  obtain ⟨f0, f1, f2, f3, f4, f5, f6⟩ := h.facts
  obtain ⟨n, hn⟩ : ∃ n, l.length = n := ⟨_, rfl⟩
  have Hn := Lib.hid hn
  have hle := h.le
  have hfew := h.few
  rw [hn] at f0 hle hfew
  have n63 : n ≤ 9223372036854775807 := by omega
  have i5 : (i : Int) ≤ 5000 := by omega
  have i0 : (0 : Int) ≤ (i : Int) := Int.natCast_nonneg _
  by_cases hlt : i < n
  · obtain ⟨t, ht⟩ := get_some hn hlt
    have hg := h.good t (List.mem_iff_getElem?.2 ⟨i, ht⟩)
    rw [pP_some f ht] at hr
    obtain ⟨b0, off, rfl, t0, t1, t2, t3, hok⟩ := h.tok ht
    have dlt : decide ((n : Int) ≤ (i : Int)) = false := by simp; omega
    have dlt2 : decide (n ≤ i) = false := by simp; omega
    have ilt : (i : Int) < (n : Int) := by omega
    obtain ⟨⟨kd, tt, tn, tp⟩, htt⟩ : ∃ z, t = z := ⟨_, rfl⟩
    subst htt
    simp only at t0 t1 t2 t3 hr
    have HTB : Hid (Bytes tt) := Lib.hid hok.1
    have HTG := Lib.hid hg
    have HT := Lib.hid ht
    clear hg hok h ht hn hfew hle hes
    by_cases hk1 : kd = 1
    · subst hk1
      simp only [if_true] at hr
      have hres : PR.ok (.node 1 [] tn []) (i + 1) = r := hr
      have HR := Lib.hid hres
      clear hr hres
      go_enter Tryd.func81, Tryd.ntmps81
      go_wp2_with fail
      go_quiet (fail)
      go_wp2_with fail
      generalize hwq : World.drewN X _ = W1
      have g0 : W1.cell? ⟨q, 0, none⟩ = some (.slice (some ⟨b0, off, none⟩) n c) := by rw [← hwq]; exact f0
      have g1 : W1.cell? ⟨q, 1, none⟩ = some (.int .i64 (i : Int)) := by rw [← hwq]; exact f1
      have u0 : W1.cell? ⟨b0, off + i * 4, none⟩ = some (.int .i64 1) := by rw [← hwq]; exact t0
      have u1 : W1.cell? ⟨b0, off + i * 4 + 1, none⟩ = some (.string (txt tt)) := by rw [← hwq]; exact t1
      have u2 : W1.cell? ⟨b0, off + i * 4 + 2, none⟩ = some (.int .i64 tn) := by rw [← hwq]; exact t2
      have u3 : W1.cell? ⟨b0, off + i * 4 + 3, none⟩ = some (.int .i64 tp) := by rw [← hwq]; exact t3
      have P1 : Hid (RSt q (some ⟨b0, off, none⟩) c sz l i (-1) es W1) := Lib.hid (by rw [← hwq]; exact H.out.quiet ⟨_, rfl⟩)
      have M1 : Hid (Below q X W1) := Lib.hid (by rw [← hwq]; exact below_drewN (Below.refl q X) _)
      clear hwq f0 f1 f2 f3 f4 f5 f6 t0 t1 t2 t3
      have n0 := World.new_ne W1 _ g0
      have n1 := World.new_ne W1 _ g1
      have n2 := World.new_ne W1 _ u0
      go_region_held3 (fun w' => w'.cell? ⟨q, 0, none⟩ = some (.slice (some ⟨b0, off, none⟩) n c) ∧ w'.cell? ⟨q, 1, none⟩ = some (.int .i64 (i : Int)) ∧ w'.cell? ⟨b0, off + i * 4, none⟩ = some (.int .i64 1) ∧ w'.cell? ⟨b0, off + i * 4 + 1, none⟩ = some (.string (txt tt)) ∧ w'.cell? ⟨b0, off + i * 4 + 2, none⟩ = some (.int .i64 tn) ∧ w'.cell? ⟨b0, off + i * 4 + 3, none⟩ = some (.int .i64 tp))
        (first | go_keep | fail)
        (first | fail)
      have bo := ((Below.refl W1.heap.size W1).alloc (Nat.le_refl _) (.cells #[.int .i64 1, .string (txt tt), .int .i64 tn, .int .i64 tp] 82)).drew
      have bk : Blk (W1.alloc (.cells #[.int .i64 1, .string (txt tt), .int .i64 tn, .int .i64 tp] 82)).drew W1.heap.size 82 #[.int .i64 1, .string (txt tt), .int .i64 tn, .int .i64 tp] := Blk.new W1 _ _
      have lq := P1.out.lt
      generalize hwq : World.drew (World.alloc _ _) = W2
      rw [hwq] at bo bk
      clear hwq
      obtain ⟨bt, hbt⟩ : ∃ z, W1.heap.size = z := ⟨_, rfl⟩
      have M2 : Hid (Below q X W2) := Lib.hid (M1.out.trans (bo.mono (Nat.le_of_lt lq)))
      have P2 := Lib.hid (P1.out.keep bo)
      rw [hbt] at lq bk ⊢
      have v0 : W2.cell? ⟨bt, 0, none⟩ = some (.int .i64 1) := bk.cell rfl
      have v1 : W2.cell? ⟨bt, 1, none⟩ = some (.string (txt tt)) := bk.cell rfl
      have v2 : W2.cell? ⟨bt, 2, none⟩ = some (.int .i64 tn) := bk.cell rfl
      have lbt := bk.lt
      have hbq : ¬ bt = q := by omega
      have hbq2 : ¬ q = bt := by omega
      clear bo bk hbt n0 n1 n2 g0 g1 u0 u1 u2 u3
      obtain ⟨f0, f1, f2, f3, f4, f5, f6⟩ := P2.out.facts
      rw [Hn.out] at f0
      have hlt1 : i + 1 ≤ l.length := by rw [Hn.out]; omega
      have UST : Hid (UW q (some ⟨b0, off, none⟩) c sz l i es X r [] (kEnd 1 [] tn) (W2.setCell ⟨q, 1, none⟩ (.int .i64 ((i : Int) + 1)))) := Lib.hid (UW.start (Nat.le_refl _) (M2.out.trans ((Below.refl q W2).setCell (p := ⟨q, 1, none⟩) (Nat.le_refl q) _)) (P2.out.at_ (by go_num) hlt1) HR.out)
      clear hlt1 P2 M2
      have AD : Hid (Calls Tryd.prog 52 #[.pointer (some ⟨q, 0, none⟩), .int .i64 1, .string ⟨#[]⟩, .int .i64 tn, .slice none 0 0] (W2.setCell ⟨q, 1, none⟩ (.int .i64 ((i : Int) + 1))) fun e w' => ∃ g : Nat, e = .returned (.int .i64 (g : Int)) ∧ RReads q (some ⟨b0, off, none⟩) c sz l i es X r (.returned (.int .i64 (g : Int))) w') := Lib.hid (u_add 1 [] tn none 0 0 (Below.refl _ _) (SlR.nil_ _ (by unfold maxLen; omega) _) (by simp) HES.out UST.out)
      go_wp2_with (first
        | (go_at_call 52; (with_reducible refine AD.out.mono ?_); rintro e w_5 ⟨g5, rfl, h2⟩; have U5 := Lib.hid h2; clear h2))
      go_ret
      exact U5.out
    by_cases hk2 : kd = 2
    · subst hk2
      simp only [if_neg hk1, if_true] at hr
      have hres : PR.ok (.node 2 tt 0 []) (i + 1) = r := hr
      have HR := Lib.hid hres
      clear hr hres
      go_enter Tryd.func81, Tryd.ntmps81
      go_wp2_with fail
      go_quiet (fail)
      go_wp2_with fail
      generalize hwq : World.drewN X _ = W1
      have g0 : W1.cell? ⟨q, 0, none⟩ = some (.slice (some ⟨b0, off, none⟩) n c) := by rw [← hwq]; exact f0
      have g1 : W1.cell? ⟨q, 1, none⟩ = some (.int .i64 (i : Int)) := by rw [← hwq]; exact f1
      have u0 : W1.cell? ⟨b0, off + i * 4, none⟩ = some (.int .i64 2) := by rw [← hwq]; exact t0
      have u1 : W1.cell? ⟨b0, off + i * 4 + 1, none⟩ = some (.string (txt tt)) := by rw [← hwq]; exact t1
      have u2 : W1.cell? ⟨b0, off + i * 4 + 2, none⟩ = some (.int .i64 tn) := by rw [← hwq]; exact t2
      have u3 : W1.cell? ⟨b0, off + i * 4 + 3, none⟩ = some (.int .i64 tp) := by rw [← hwq]; exact t3
      have P1 : Hid (RSt q (some ⟨b0, off, none⟩) c sz l i (-1) es W1) := Lib.hid (by rw [← hwq]; exact H.out.quiet ⟨_, rfl⟩)
      have M1 : Hid (Below q X W1) := Lib.hid (by rw [← hwq]; exact below_drewN (Below.refl q X) _)
      clear hwq f0 f1 f2 f3 f4 f5 f6 t0 t1 t2 t3
      have n0 := World.new_ne W1 _ g0
      have n1 := World.new_ne W1 _ g1
      have n2 := World.new_ne W1 _ u0
      go_region_held3 (fun w' => w'.cell? ⟨q, 0, none⟩ = some (.slice (some ⟨b0, off, none⟩) n c) ∧ w'.cell? ⟨q, 1, none⟩ = some (.int .i64 (i : Int)) ∧ w'.cell? ⟨b0, off + i * 4, none⟩ = some (.int .i64 2) ∧ w'.cell? ⟨b0, off + i * 4 + 1, none⟩ = some (.string (txt tt)) ∧ w'.cell? ⟨b0, off + i * 4 + 2, none⟩ = some (.int .i64 tn) ∧ w'.cell? ⟨b0, off + i * 4 + 3, none⟩ = some (.int .i64 tp))
        (first | go_keep | fail)
        (first | fail)
      have bo := ((Below.refl W1.heap.size W1).alloc (Nat.le_refl _) (.cells #[.int .i64 2, .string (txt tt), .int .i64 tn, .int .i64 tp] 82)).drew
      have bk : Blk (W1.alloc (.cells #[.int .i64 2, .string (txt tt), .int .i64 tn, .int .i64 tp] 82)).drew W1.heap.size 82 #[.int .i64 2, .string (txt tt), .int .i64 tn, .int .i64 tp] := Blk.new W1 _ _
      have lq := P1.out.lt
      generalize hwq : World.drew (World.alloc _ _) = W2
      rw [hwq] at bo bk
      clear hwq
      obtain ⟨bt, hbt⟩ : ∃ z, W1.heap.size = z := ⟨_, rfl⟩
      have M2 : Hid (Below q X W2) := Lib.hid (M1.out.trans (bo.mono (Nat.le_of_lt lq)))
      have P2 := Lib.hid (P1.out.keep bo)
      rw [hbt] at lq bk ⊢
      have v0 : W2.cell? ⟨bt, 0, none⟩ = some (.int .i64 2) := bk.cell rfl
      have v1 : W2.cell? ⟨bt, 1, none⟩ = some (.string (txt tt)) := bk.cell rfl
      have v2 : W2.cell? ⟨bt, 2, none⟩ = some (.int .i64 tn) := bk.cell rfl
      have lbt := bk.lt
      have hbq : ¬ bt = q := by omega
      have hbq2 : ¬ q = bt := by omega
      clear bo bk hbt n0 n1 n2 g0 g1 u0 u1 u2 u3
      obtain ⟨f0, f1, f2, f3, f4, f5, f6⟩ := P2.out.facts
      rw [Hn.out] at f0
      have hlt1 : i + 1 ≤ l.length := by rw [Hn.out]; omega
      have UST : Hid (UW q (some ⟨b0, off, none⟩) c sz l i es X r [] (kEnd 2 tt 0) (W2.setCell ⟨q, 1, none⟩ (.int .i64 ((i : Int) + 1)))) := Lib.hid (UW.start (Nat.le_refl _) (M2.out.trans ((Below.refl q W2).setCell (p := ⟨q, 1, none⟩) (Nat.le_refl q) _)) (P2.out.at_ (by go_num) hlt1) HR.out)
      clear hlt1 P2 M2
      have AD : Hid (Calls Tryd.prog 52 #[.pointer (some ⟨q, 0, none⟩), .int .i64 2, .string (txt tt), .int .i64 0, .slice none 0 0] (W2.setCell ⟨q, 1, none⟩ (.int .i64 ((i : Int) + 1))) fun e w' => ∃ g : Nat, e = .returned (.int .i64 (g : Int)) ∧ RReads q (some ⟨b0, off, none⟩) c sz l i es X r (.returned (.int .i64 (g : Int))) w') := Lib.hid (u_add 2 tt 0 none 0 0 (Below.refl _ _) (SlR.nil_ _ (by unfold maxLen; omega) _) (by simp) HES.out UST.out)
      go_wp2_with (first
        | (go_at_call 52; (with_reducible refine AD.out.mono ?_); rintro e w_5 ⟨g5, rfl, h2⟩; have U5 := Lib.hid h2; clear h2))
      go_ret
      exact U5.out
    by_cases hk3 : kd = 3
    · subst hk3
      simp only [if_neg hk1, if_neg hk2, if_true] at hr
      have hres : PR.ok (.node 7 tt 0 []) (i + 1) = r := hr
      have HR := Lib.hid hres
      clear hr hres
      go_enter Tryd.func81, Tryd.ntmps81
      go_wp2_with fail
      go_quiet (fail)
      go_wp2_with fail
      generalize hwq : World.drewN X _ = W1
      have g0 : W1.cell? ⟨q, 0, none⟩ = some (.slice (some ⟨b0, off, none⟩) n c) := by rw [← hwq]; exact f0
      have g1 : W1.cell? ⟨q, 1, none⟩ = some (.int .i64 (i : Int)) := by rw [← hwq]; exact f1
      have u0 : W1.cell? ⟨b0, off + i * 4, none⟩ = some (.int .i64 3) := by rw [← hwq]; exact t0
      have u1 : W1.cell? ⟨b0, off + i * 4 + 1, none⟩ = some (.string (txt tt)) := by rw [← hwq]; exact t1
      have u2 : W1.cell? ⟨b0, off + i * 4 + 2, none⟩ = some (.int .i64 tn) := by rw [← hwq]; exact t2
      have u3 : W1.cell? ⟨b0, off + i * 4 + 3, none⟩ = some (.int .i64 tp) := by rw [← hwq]; exact t3
      have P1 : Hid (RSt q (some ⟨b0, off, none⟩) c sz l i (-1) es W1) := Lib.hid (by rw [← hwq]; exact H.out.quiet ⟨_, rfl⟩)
      have M1 : Hid (Below q X W1) := Lib.hid (by rw [← hwq]; exact below_drewN (Below.refl q X) _)
      clear hwq f0 f1 f2 f3 f4 f5 f6 t0 t1 t2 t3
      have n0 := World.new_ne W1 _ g0
      have n1 := World.new_ne W1 _ g1
      have n2 := World.new_ne W1 _ u0
      go_region_held3 (fun w' => w'.cell? ⟨q, 0, none⟩ = some (.slice (some ⟨b0, off, none⟩) n c) ∧ w'.cell? ⟨q, 1, none⟩ = some (.int .i64 (i : Int)) ∧ w'.cell? ⟨b0, off + i * 4, none⟩ = some (.int .i64 3) ∧ w'.cell? ⟨b0, off + i * 4 + 1, none⟩ = some (.string (txt tt)) ∧ w'.cell? ⟨b0, off + i * 4 + 2, none⟩ = some (.int .i64 tn) ∧ w'.cell? ⟨b0, off + i * 4 + 3, none⟩ = some (.int .i64 tp))
        (first | go_keep | fail)
        (first | fail)
      have bo := ((Below.refl W1.heap.size W1).alloc (Nat.le_refl _) (.cells #[.int .i64 3, .string (txt tt), .int .i64 tn, .int .i64 tp] 82)).drew
      have bk : Blk (W1.alloc (.cells #[.int .i64 3, .string (txt tt), .int .i64 tn, .int .i64 tp] 82)).drew W1.heap.size 82 #[.int .i64 3, .string (txt tt), .int .i64 tn, .int .i64 tp] := Blk.new W1 _ _
      have lq := P1.out.lt
      generalize hwq : World.drew (World.alloc _ _) = W2
      rw [hwq] at bo bk
      clear hwq
      obtain ⟨bt, hbt⟩ : ∃ z, W1.heap.size = z := ⟨_, rfl⟩
      have M2 : Hid (Below q X W2) := Lib.hid (M1.out.trans (bo.mono (Nat.le_of_lt lq)))
      have P2 := Lib.hid (P1.out.keep bo)
      rw [hbt] at lq bk ⊢
      have v0 : W2.cell? ⟨bt, 0, none⟩ = some (.int .i64 3) := bk.cell rfl
      have v1 : W2.cell? ⟨bt, 1, none⟩ = some (.string (txt tt)) := bk.cell rfl
      have v2 : W2.cell? ⟨bt, 2, none⟩ = some (.int .i64 tn) := bk.cell rfl
      have lbt := bk.lt
      have hbq : ¬ bt = q := by omega
      have hbq2 : ¬ q = bt := by omega
      clear bo bk hbt n0 n1 n2 g0 g1 u0 u1 u2 u3
      obtain ⟨f0, f1, f2, f3, f4, f5, f6⟩ := P2.out.facts
      rw [Hn.out] at f0
      have hlt1 : i + 1 ≤ l.length := by rw [Hn.out]; omega
      have UST : Hid (UW q (some ⟨b0, off, none⟩) c sz l i es X r [] (kEnd 7 tt 0) (W2.setCell ⟨q, 1, none⟩ (.int .i64 ((i : Int) + 1)))) := Lib.hid (UW.start (Nat.le_refl _) (M2.out.trans ((Below.refl q W2).setCell (p := ⟨q, 1, none⟩) (Nat.le_refl q) _)) (P2.out.at_ (by go_num) hlt1) HR.out)
      clear hlt1 P2 M2
      have AD : Hid (Calls Tryd.prog 52 #[.pointer (some ⟨q, 0, none⟩), .int .i64 7, .string (txt tt), .int .i64 0, .slice none 0 0] (W2.setCell ⟨q, 1, none⟩ (.int .i64 ((i : Int) + 1))) fun e w' => ∃ g : Nat, e = .returned (.int .i64 (g : Int)) ∧ RReads q (some ⟨b0, off, none⟩) c sz l i es X r (.returned (.int .i64 (g : Int))) w') := Lib.hid (u_add 7 tt 0 none 0 0 (Below.refl _ _) (SlR.nil_ _ (by unfold maxLen; omega) _) (by simp) HES.out UST.out)
      go_wp2_with (first
        | (go_at_call 52; (with_reducible refine AD.out.mono ?_); rintro e w_5 ⟨g5, rfl, h2⟩; have U5 := Lib.hid h2; clear h2))
      go_ret
      exact U5.out
    by_cases hk5 : kd = 5
    · subst hk5
      simp only [if_neg hk1, if_neg hk2, if_neg hk3, if_true] at hr
      have htm : tt ∈ marksL := by
        have h0 := HTG.out
        unfold TokG at h0
        rcases h0 with h | h | h | h | h <;> first | exact h.2 | (exfalso; simp at h)
      clear hk1 hk2 hk3
      by_cases n_minusT : tt = minusT
      · subst n_minusT
        have t1 : X.cell? ⟨b0, off + i * 4 + 1, none⟩ = some (.string ⟨#[45]⟩) := t1
        unfold markR at hr
        rw [if_pos rfl] at hr
        have MB : Hid (∀ W2, Below q X W2 → Below q X (W2.setCell ⟨q, 1, none⟩ (.int .i64 ((i : Int) + 1)))) := Lib.hid (fun W2 hW => hW.trans ((Below.refl q W2).setCell (p := ⟨q, 1, none⟩) (Nat.le_refl q) _))
        have MS : Hid (∀ W2, RSt q (some ⟨b0, off, none⟩) c sz l i (-1) es W2 → RSt q (some ⟨b0, off, none⟩) c sz l (i + 1) (-1) es (W2.setCell ⟨q, 1, none⟩ (.int .i64 ((i : Int) + 1)))) := Lib.hid (fun W2 hW => hW.at_ (by go_num) (by rw [Hn.out]; omega))
        have i00 : (0 : Int) ≤ (i : Int) + 1 := by omega
        by_cases hx : ∃ x, l[i + 1]? = some x ∧ x.kind = 1
        · obtain ⟨x, hx1, hxk⟩ := hx
          rw [hx1] at hr
          simp only at hr
          rw [if_pos hxk] at hr
          have hx2 : i + 1 < n := by rw [← Hn.out]; exact (List.getElem?_eq_some_iff.1 hx1).1
          have hxg := H.out.good x (List.mem_iff_getElem?.2 ⟨_, hx1⟩)
          have hnum : 0 ≤ x.num := by unfold TokG at hxg; omega
          have hxr := (H.out.tok hx1).choose_spec.choose_spec.2.2.2.2.2.2.2.2.1
          obtain ⟨xv, hxv⟩ : ∃ k, x.num = k := ⟨_, rfl⟩
          have HV := Lib.hid hxv
          have HXK := Lib.hid hxk
          have HX1 := Lib.hid hx1
          rw [hxv] at hnum hxr hr
          have hx63 : xv ≤ 9223372036854775807 := by
            have h2 := hxr
            unfold Lit.wf at h2
            rw [Bool.and_eq_true] at h2
            have h3 := of_decide_eq_true h2.2
            have h4 : IntKind.max .i64 = 9223372036854775807 := by decide
            omega
          have wn : IntKind.i64.wrap (-xv) = -xv := by rw [IntKind.wrap_i64]; omega
          have dlt3 : decide ((i : Int) + 1 < (n : Int)) = true := by simp; omega
          have dlt4 : (i : Int) + 1 < (n : Int) := by omega
          have HR := Lib.hid (show PR.ok (.node 1 [] (-xv) []) (i + 2) = r from hr)
          clear hr hxv hxk hx1 hxr hxg htm HO
          go_enter Tryd.func81, Tryd.ntmps81
          go_wp2_with fail
          go_quiet (fail)
          go_wp2_with fail
          generalize hwq : World.drewN X _ = W1
          have g0 : W1.cell? ⟨q, 0, none⟩ = some (.slice (some ⟨b0, off, none⟩) n c) := by rw [← hwq]; exact f0
          have g1 : W1.cell? ⟨q, 1, none⟩ = some (.int .i64 (i : Int)) := by rw [← hwq]; exact f1
          have u0 : W1.cell? ⟨b0, off + i * 4, none⟩ = some (.int .i64 5) := by rw [← hwq]; exact t0
          have u1 : W1.cell? ⟨b0, off + i * 4 + 1, none⟩ = some (.string ⟨#[45]⟩) := by rw [← hwq]; exact t1
          have u2 : W1.cell? ⟨b0, off + i * 4 + 2, none⟩ = some (.int .i64 tn) := by rw [← hwq]; exact t2
          have u3 : W1.cell? ⟨b0, off + i * 4 + 3, none⟩ = some (.int .i64 tp) := by rw [← hwq]; exact t3
          have P1 : Hid (RSt q (some ⟨b0, off, none⟩) c sz l i (-1) es W1) := Lib.hid (by rw [← hwq]; exact H.out.quiet ⟨_, rfl⟩)
          have M1 : Hid (Below q X W1) := Lib.hid (by rw [← hwq]; exact below_drewN (Below.refl q X) _)
          clear hwq f0 f1 f2 f3 f4 f5 f6 t0 t1 t2 t3
          have n0 := World.new_ne W1 _ g0
          have n1 := World.new_ne W1 _ g1
          have n2 := World.new_ne W1 _ u0
          go_region_held3 (fun w' => w'.cell? ⟨q, 0, none⟩ = some (.slice (some ⟨b0, off, none⟩) n c) ∧ w'.cell? ⟨q, 1, none⟩ = some (.int .i64 (i : Int)) ∧ w'.cell? ⟨b0, off + i * 4, none⟩ = some (.int .i64 5) ∧ w'.cell? ⟨b0, off + i * 4 + 1, none⟩ = some (.string ⟨#[45]⟩) ∧ w'.cell? ⟨b0, off + i * 4 + 2, none⟩ = some (.int .i64 tn) ∧ w'.cell? ⟨b0, off + i * 4 + 3, none⟩ = some (.int .i64 tp))
            (first | go_keep | fail)
            (first | fail)
          have bo := ((Below.refl W1.heap.size W1).alloc (Nat.le_refl _) (.cells #[.int .i64 5, .string ⟨#[45]⟩, .int .i64 tn, .int .i64 tp] 82)).drew
          have bk : Blk (W1.alloc (.cells #[.int .i64 5, .string ⟨#[45]⟩, .int .i64 tn, .int .i64 tp] 82)).drew W1.heap.size 82 #[.int .i64 5, .string ⟨#[45]⟩, .int .i64 tn, .int .i64 tp] := Blk.new W1 _ _
          have lq := P1.out.lt
          generalize hwq : World.drew (World.alloc _ _) = W2
          rw [hwq] at bo bk
          clear hwq
          obtain ⟨bt, hbt⟩ : ∃ z, W1.heap.size = z := ⟨_, rfl⟩
          have M2 : Hid (Below q X W2) := Lib.hid (M1.out.trans (bo.mono (Nat.le_of_lt lq)))
          have P2 := Lib.hid (P1.out.keep bo)
          rw [hbt] at lq bk ⊢
          have v0 : W2.cell? ⟨bt, 0, none⟩ = some (.int .i64 5) := bk.cell rfl
          have v1 : W2.cell? ⟨bt, 1, none⟩ = some (.string ⟨#[45]⟩) := bk.cell rfl
          have v2 : W2.cell? ⟨bt, 2, none⟩ = some (.int .i64 tn) := bk.cell rfl
          have lbt := bk.lt
          have hbq : ¬ bt = q := by omega
          have hbq2 : ¬ q = bt := by omega
          clear bo bk hbt n0 n1 n2 g0 g1 u0 u1 u2 u3
          obtain ⟨f0, f1, f2, f3, f4, f5, f6⟩ := P2.out.facts
          rw [Hn.out] at f0
          go_wp2_with fail
          generalize hwq : World.setCell _ _ _ = W3
          have M3 : Hid (Below q X W3) := Lib.hid (by rw [← hwq]; exact MB.out _ M2.out)
          have P3 : Hid (RSt q (some ⟨b0, off, none⟩) c sz l (i + 1) (-1) es W3) := Lib.hid (by rw [← hwq]; exact MS.out _ P2.out)
          clear hwq f0 f1 f2 f3 f4 f5 f6 M2 P2 v0 v1 v2
          obtain ⟨f0, f1, f2, f3, f4, f5, f6⟩ := P3.out.facts
          rw [Hn.out] at f0
          have f1' : W3.cell? ⟨q, 1, none⟩ = some (.int .i64 ((i : Int) + 1)) := f1
          obtain ⟨b1, o1, e1, t0, _, t2, _, _⟩ := P3.out.tok HX1.out
          injection e1 with e1
          injection e1 with e1 e2
          subst e1 e2
          rw [HXK.out] at t0
          clear f1 t2
          go_quiet (fail)
          go_wp2_with fail
          generalize hwq : World.setCell _ _ _ = W4
          have M4 : Hid (Below q X W4) := Lib.hid (by rw [← hwq]; exact (below_drewN M3.out _).trans ((Below.refl q _).setCell (p := ⟨q, 1, none⟩) (Nat.le_refl q) _))
          have P4 : Hid (RSt q (some ⟨b0, off, none⟩) c sz l (i + 2) (-1) es W4) := Lib.hid (by rw [← hwq]; exact (P3.out.quiet ⟨_, rfl⟩).at_ (by go_num) (by rw [Hn.out]; omega))
          clear hwq f0 f1' f2 f3 f4 f5 f6 M3 P3 t0
          obtain ⟨f0, f1, f2, f3, f4, f5, f6⟩ := P4.out.facts
          rw [Hn.out] at f0
          have f1' : W4.cell? ⟨q, 1, none⟩ = some (.int .i64 ((i : Int) + 2)) := f1
          obtain ⟨b1, o1, e1, _, _, t2, _, _⟩ := P4.out.tok HX1.out
          injection e1 with e1
          injection e1 with e1 e2
          subst e1 e2
          rw [HV.out] at t2
          have ws : IntKind.i64.wrap ((i : Int) + 2 - 1) = (i : Int) + 1 := by rw [IntKind.wrap_i64]; omega
          have UST : Hid (UW q (some ⟨b0, off, none⟩) c sz l i es X r [] (kEnd 1 [] (-xv)) W4.drew) := Lib.hid (UW.start (by omega) M4.out.drew (P4.out.quiet ⟨1, rfl⟩) HR.out)
          have AD : Hid (Calls Tryd.prog 52 #[.pointer (some ⟨q, 0, none⟩), .int .i64 1, .string ⟨#[]⟩, .int .i64 (-xv), .slice none 0 0] W4.drew fun e w' => ∃ g : Nat, e = .returned (.int .i64 (g : Int)) ∧ RReads q (some ⟨b0, off, none⟩) c sz l i es X r (.returned (.int .i64 (g : Int))) w') := Lib.hid (u_add 1 [] (-xv) none 0 0 (Below.refl _ _) (SlR.nil_ _ (by unfold maxLen; omega) _) (by simp) HES.out UST.out)
          clear f1 f2 f3 f4 f5 f6 M4 P4
          go_still_tail 14, (by kernel_rfl)
          change wpList _ _ _ _ _ W4.drew
          go_wp2_with (first
            | (go_at_call 52; (with_reducible refine AD.out.mono ?_); rintro e w_5 ⟨g5, rfl, h2⟩; have U5 := Lib.hid h2; clear h2))
          go_ret
          exact U5.out
        · have hno : PR.no (i + 1) = r := by
            rw [← hr]
            cases hx1 : l[i + 1]? with
            | none => rfl
            | some x => exact (if_neg fun e => hx ⟨x, hx1, e⟩).symm
          clear hr
          subst hno
          by_cases hx2 : i + 1 < n
          · obtain ⟨x, hx1⟩ := get_some Hn.out hx2
            have hk1 : x.kind ≠ 1 := fun e => hx ⟨x, hx1, e⟩
            obtain ⟨kd, hkd⟩ : ∃ k, x.kind = k := ⟨_, rfl⟩
            have HX1 := Lib.hid hx1
            have HXK := Lib.hid hkd
            rw [hkd] at hk1
            have d1 : (kd == 1) = false := by simpa using hk1
            have dlt3 : decide ((i : Int) + 1 < (n : Int)) = true := by simp; omega
            have dlt4 : (i : Int) + 1 < (n : Int) := by omega
            clear hx hx1 hkd hk1 htm HO
            go_enter Tryd.func81, Tryd.ntmps81
            go_wp2_with fail
            go_quiet (fail)
            go_wp2_with fail
            generalize hwq : World.drewN X _ = W1
            have g0 : W1.cell? ⟨q, 0, none⟩ = some (.slice (some ⟨b0, off, none⟩) n c) := by rw [← hwq]; exact f0
            have g1 : W1.cell? ⟨q, 1, none⟩ = some (.int .i64 (i : Int)) := by rw [← hwq]; exact f1
            have u0 : W1.cell? ⟨b0, off + i * 4, none⟩ = some (.int .i64 5) := by rw [← hwq]; exact t0
            have u1 : W1.cell? ⟨b0, off + i * 4 + 1, none⟩ = some (.string ⟨#[45]⟩) := by rw [← hwq]; exact t1
            have u2 : W1.cell? ⟨b0, off + i * 4 + 2, none⟩ = some (.int .i64 tn) := by rw [← hwq]; exact t2
            have u3 : W1.cell? ⟨b0, off + i * 4 + 3, none⟩ = some (.int .i64 tp) := by rw [← hwq]; exact t3
            have P1 : Hid (RSt q (some ⟨b0, off, none⟩) c sz l i (-1) es W1) := Lib.hid (by rw [← hwq]; exact H.out.quiet ⟨_, rfl⟩)
            have M1 : Hid (Below q X W1) := Lib.hid (by rw [← hwq]; exact below_drewN (Below.refl q X) _)
            clear hwq f0 f1 f2 f3 f4 f5 f6 t0 t1 t2 t3
            have n0 := World.new_ne W1 _ g0
            have n1 := World.new_ne W1 _ g1
            have n2 := World.new_ne W1 _ u0
            go_region_held3 (fun w' => w'.cell? ⟨q, 0, none⟩ = some (.slice (some ⟨b0, off, none⟩) n c) ∧ w'.cell? ⟨q, 1, none⟩ = some (.int .i64 (i : Int)) ∧ w'.cell? ⟨b0, off + i * 4, none⟩ = some (.int .i64 5) ∧ w'.cell? ⟨b0, off + i * 4 + 1, none⟩ = some (.string ⟨#[45]⟩) ∧ w'.cell? ⟨b0, off + i * 4 + 2, none⟩ = some (.int .i64 tn) ∧ w'.cell? ⟨b0, off + i * 4 + 3, none⟩ = some (.int .i64 tp))
              (first | go_keep | fail)
              (first | fail)
            have bo := ((Below.refl W1.heap.size W1).alloc (Nat.le_refl _) (.cells #[.int .i64 5, .string ⟨#[45]⟩, .int .i64 tn, .int .i64 tp] 82)).drew
            have bk : Blk (W1.alloc (.cells #[.int .i64 5, .string ⟨#[45]⟩, .int .i64 tn, .int .i64 tp] 82)).drew W1.heap.size 82 #[.int .i64 5, .string ⟨#[45]⟩, .int .i64 tn, .int .i64 tp] := Blk.new W1 _ _
            have lq := P1.out.lt
            generalize hwq : World.drew (World.alloc _ _) = W2
            rw [hwq] at bo bk
            clear hwq
            obtain ⟨bt, hbt⟩ : ∃ z, W1.heap.size = z := ⟨_, rfl⟩
            have M2 : Hid (Below q X W2) := Lib.hid (M1.out.trans (bo.mono (Nat.le_of_lt lq)))
            have P2 := Lib.hid (P1.out.keep bo)
            rw [hbt] at lq bk ⊢
            have v0 : W2.cell? ⟨bt, 0, none⟩ = some (.int .i64 5) := bk.cell rfl
            have v1 : W2.cell? ⟨bt, 1, none⟩ = some (.string ⟨#[45]⟩) := bk.cell rfl
            have v2 : W2.cell? ⟨bt, 2, none⟩ = some (.int .i64 tn) := bk.cell rfl
            have lbt := bk.lt
            have hbq : ¬ bt = q := by omega
            have hbq2 : ¬ q = bt := by omega
            clear bo bk hbt n0 n1 n2 g0 g1 u0 u1 u2 u3
            obtain ⟨f0, f1, f2, f3, f4, f5, f6⟩ := P2.out.facts
            rw [Hn.out] at f0
            go_wp2_with fail
            generalize hwq : World.setCell _ _ _ = W3
            have M3 : Hid (Below q X W3) := Lib.hid (by rw [← hwq]; exact MB.out _ M2.out)
            have P3 : Hid (RSt q (some ⟨b0, off, none⟩) c sz l (i + 1) (-1) es W3) := Lib.hid (by rw [← hwq]; exact MS.out _ P2.out)
            clear hwq f0 f1 f2 f3 f4 f5 f6 M2 P2 v0 v1 v2
            obtain ⟨f0, f1, f2, f3, f4, f5, f6⟩ := P3.out.facts
            rw [Hn.out] at f0
            have f1' : W3.cell? ⟨q, 1, none⟩ = some (.int .i64 ((i : Int) + 1)) := f1
            obtain ⟨b1, o1, e1, t0, _, _, _, _⟩ := P3.out.tok HX1.out
            injection e1 with e1
            injection e1 with e1 e2
            subst e1 e2
            rw [HXK.out] at t0
            clear f1
            go_quiet (fail)
            rename_i nq
            have Q4 : Hid (Quiet W3 (W3.drewN nq)) := Lib.hid ⟨nq, rfl⟩
            go_wp2_with (first
              | (go_at_call 28; (refine (r_stop (P3.out.quiet Q4.out)).mono ?_); rintro e w2 ⟨rfl, h2, h3⟩; have S3 := Lib.hid (And.intro (M3.out.trans ((Q4.out.below q).trans h2)) h3); clear h2 h3))
            go_ret
            exact u_stop ⟨0, rfl⟩ S3.out.1 (Nat.le_succ _) S3.out.2
          · have dlt3 : decide ((i : Int) + 1 < (n : Int)) = false := by simp; omega
            clear hx htm HO
            go_enter Tryd.func81, Tryd.ntmps81
            go_wp2_with fail
            go_quiet (fail)
            go_wp2_with fail
            generalize hwq : World.drewN X _ = W1
            have g0 : W1.cell? ⟨q, 0, none⟩ = some (.slice (some ⟨b0, off, none⟩) n c) := by rw [← hwq]; exact f0
            have g1 : W1.cell? ⟨q, 1, none⟩ = some (.int .i64 (i : Int)) := by rw [← hwq]; exact f1
            have u0 : W1.cell? ⟨b0, off + i * 4, none⟩ = some (.int .i64 5) := by rw [← hwq]; exact t0
            have u1 : W1.cell? ⟨b0, off + i * 4 + 1, none⟩ = some (.string ⟨#[45]⟩) := by rw [← hwq]; exact t1
            have u2 : W1.cell? ⟨b0, off + i * 4 + 2, none⟩ = some (.int .i64 tn) := by rw [← hwq]; exact t2
            have u3 : W1.cell? ⟨b0, off + i * 4 + 3, none⟩ = some (.int .i64 tp) := by rw [← hwq]; exact t3
            have P1 : Hid (RSt q (some ⟨b0, off, none⟩) c sz l i (-1) es W1) := Lib.hid (by rw [← hwq]; exact H.out.quiet ⟨_, rfl⟩)
            have M1 : Hid (Below q X W1) := Lib.hid (by rw [← hwq]; exact below_drewN (Below.refl q X) _)
            clear hwq f0 f1 f2 f3 f4 f5 f6 t0 t1 t2 t3
            have n0 := World.new_ne W1 _ g0
            have n1 := World.new_ne W1 _ g1
            have n2 := World.new_ne W1 _ u0
            go_region_held3 (fun w' => w'.cell? ⟨q, 0, none⟩ = some (.slice (some ⟨b0, off, none⟩) n c) ∧ w'.cell? ⟨q, 1, none⟩ = some (.int .i64 (i : Int)) ∧ w'.cell? ⟨b0, off + i * 4, none⟩ = some (.int .i64 5) ∧ w'.cell? ⟨b0, off + i * 4 + 1, none⟩ = some (.string ⟨#[45]⟩) ∧ w'.cell? ⟨b0, off + i * 4 + 2, none⟩ = some (.int .i64 tn) ∧ w'.cell? ⟨b0, off + i * 4 + 3, none⟩ = some (.int .i64 tp))
              (first | go_keep | fail)
              (first | fail)
            have bo := ((Below.refl W1.heap.size W1).alloc (Nat.le_refl _) (.cells #[.int .i64 5, .string ⟨#[45]⟩, .int .i64 tn, .int .i64 tp] 82)).drew
            have bk : Blk (W1.alloc (.cells #[.int .i64 5, .string ⟨#[45]⟩, .int .i64 tn, .int .i64 tp] 82)).drew W1.heap.size 82 #[.int .i64 5, .string ⟨#[45]⟩, .int .i64 tn, .int .i64 tp] := Blk.new W1 _ _
            have lq := P1.out.lt
            generalize hwq : World.drew (World.alloc _ _) = W2
            rw [hwq] at bo bk
            clear hwq
            obtain ⟨bt, hbt⟩ : ∃ z, W1.heap.size = z := ⟨_, rfl⟩
            have M2 : Hid (Below q X W2) := Lib.hid (M1.out.trans (bo.mono (Nat.le_of_lt lq)))
            have P2 := Lib.hid (P1.out.keep bo)
            rw [hbt] at lq bk ⊢
            have v0 : W2.cell? ⟨bt, 0, none⟩ = some (.int .i64 5) := bk.cell rfl
            have v1 : W2.cell? ⟨bt, 1, none⟩ = some (.string ⟨#[45]⟩) := bk.cell rfl
            have v2 : W2.cell? ⟨bt, 2, none⟩ = some (.int .i64 tn) := bk.cell rfl
            have lbt := bk.lt
            have hbq : ¬ bt = q := by omega
            have hbq2 : ¬ q = bt := by omega
            clear bo bk hbt n0 n1 n2 g0 g1 u0 u1 u2 u3
            obtain ⟨f0, f1, f2, f3, f4, f5, f6⟩ := P2.out.facts
            rw [Hn.out] at f0
            go_wp2_with fail
            generalize hwq : World.setCell _ _ _ = W3
            have M3 : Hid (Below q X W3) := Lib.hid (by rw [← hwq]; exact MB.out _ M2.out)
            have P3 : Hid (RSt q (some ⟨b0, off, none⟩) c sz l (i + 1) (-1) es W3) := Lib.hid (by rw [← hwq]; exact MS.out _ P2.out)
            clear hwq f0 f1 f2 f3 f4 f5 f6 M2 P2 v0 v1 v2
            obtain ⟨f0, f1, f2, f3, f4, f5, f6⟩ := P3.out.facts
            rw [Hn.out] at f0
            have f1' : W3.cell? ⟨q, 1, none⟩ = some (.int .i64 ((i : Int) + 1)) := f1
            clear f1
            go_quiet (fail)
            rename_i nq
            have Q4 : Hid (Quiet W3 (W3.drewN nq)) := Lib.hid ⟨nq, rfl⟩
            go_wp2_with (first
              | (go_at_call 28; (refine (r_stop (P3.out.quiet Q4.out)).mono ?_); rintro e w2 ⟨rfl, h2, h3⟩; have S3 := Lib.hid (And.intro (M3.out.trans ((Q4.out.below q).trans h2)) h3); clear h2 h3))
            go_ret
            exact u_stop ⟨0, rfl⟩ S3.out.1 (Nat.le_succ _) S3.out.2
      by_cases n_openT : tt = openT
      · subst n_openT
        have t1 : X.cell? ⟨b0, off + i * 4 + 1, none⟩ = some (.string ⟨#[40]⟩) := t1
        unfold markR at hr
        rw [if_neg (by decide), if_pos rfl] at hr
        have HR := Lib.hid (show kLev l f (kMust l closeT kOne) [] (i + 1) = r from hr)
        have MC := (show Hid (∀ gs K Y, UW q (some ⟨b0, off, none⟩) c sz l i es X r gs (kMust l closeT K) Y → Calls Tryd.prog 98 #[.pointer (some ⟨q, 0, none⟩), .string ⟨#[41]⟩] Y fun e w' => e = .returned (.tuple #[]) ∧ UW q (some ⟨b0, off, none⟩) c sz l i es X r gs K w') from Lib.hid (fun gs K Y hY => by rw [← lit_closeT]; exact u_must closeT (show ∀ n ∈ closeT, n < 256 by decide) hY))
        have LV := (show Hid (∀ gs K Y, UW q (some ⟨b0, off, none⟩) c sz l i es X r gs (kLev l f K) Y → Calls Tryd.prog 27 #[.pointer (some ⟨q, 0, none⟩), .int .i64 1] Y fun e w' => ∃ g : Nat, e = .returned (.int .i64 (g : Int)) ∧ UW q (some ⟨b0, off, none⟩) c sz l i es X r (gs ++ [g]) K w') from Lib.hid (fun gs K Y hY => u_level f HO HES.out hne hY))
        clear hr htm HO n_minusT
        go_enter Tryd.func81, Tryd.ntmps81
        go_wp2_with fail
        go_quiet (fail)
        go_wp2_with fail
        generalize hwq : World.drewN X _ = W1
        have g0 : W1.cell? ⟨q, 0, none⟩ = some (.slice (some ⟨b0, off, none⟩) n c) := by rw [← hwq]; exact f0
        have g1 : W1.cell? ⟨q, 1, none⟩ = some (.int .i64 (i : Int)) := by rw [← hwq]; exact f1
        have u0 : W1.cell? ⟨b0, off + i * 4, none⟩ = some (.int .i64 5) := by rw [← hwq]; exact t0
        have u1 : W1.cell? ⟨b0, off + i * 4 + 1, none⟩ = some (.string ⟨#[40]⟩) := by rw [← hwq]; exact t1
        have u2 : W1.cell? ⟨b0, off + i * 4 + 2, none⟩ = some (.int .i64 tn) := by rw [← hwq]; exact t2
        have u3 : W1.cell? ⟨b0, off + i * 4 + 3, none⟩ = some (.int .i64 tp) := by rw [← hwq]; exact t3
        have P1 : Hid (RSt q (some ⟨b0, off, none⟩) c sz l i (-1) es W1) := Lib.hid (by rw [← hwq]; exact H.out.quiet ⟨_, rfl⟩)
        have M1 : Hid (Below q X W1) := Lib.hid (by rw [← hwq]; exact below_drewN (Below.refl q X) _)
        clear hwq f0 f1 f2 f3 f4 f5 f6 t0 t1 t2 t3
        have n0 := World.new_ne W1 _ g0
        have n1 := World.new_ne W1 _ g1
        have n2 := World.new_ne W1 _ u0
        go_region_held3 (fun w' => w'.cell? ⟨q, 0, none⟩ = some (.slice (some ⟨b0, off, none⟩) n c) ∧ w'.cell? ⟨q, 1, none⟩ = some (.int .i64 (i : Int)) ∧ w'.cell? ⟨b0, off + i * 4, none⟩ = some (.int .i64 5) ∧ w'.cell? ⟨b0, off + i * 4 + 1, none⟩ = some (.string ⟨#[40]⟩) ∧ w'.cell? ⟨b0, off + i * 4 + 2, none⟩ = some (.int .i64 tn) ∧ w'.cell? ⟨b0, off + i * 4 + 3, none⟩ = some (.int .i64 tp))
          (first | go_keep | fail)
          (first | fail)
        have bo := ((Below.refl W1.heap.size W1).alloc (Nat.le_refl _) (.cells #[.int .i64 5, .string ⟨#[40]⟩, .int .i64 tn, .int .i64 tp] 82)).drew
        have bk : Blk (W1.alloc (.cells #[.int .i64 5, .string ⟨#[40]⟩, .int .i64 tn, .int .i64 tp] 82)).drew W1.heap.size 82 #[.int .i64 5, .string ⟨#[40]⟩, .int .i64 tn, .int .i64 tp] := Blk.new W1 _ _
        have lq := P1.out.lt
        generalize hwq : World.drew (World.alloc _ _) = W2
        rw [hwq] at bo bk
        clear hwq
        obtain ⟨bt, hbt⟩ : ∃ z, W1.heap.size = z := ⟨_, rfl⟩
        have M2 : Hid (Below q X W2) := Lib.hid (M1.out.trans (bo.mono (Nat.le_of_lt lq)))
        have P2 := Lib.hid (P1.out.keep bo)
        rw [hbt] at lq bk ⊢
        have v0 : W2.cell? ⟨bt, 0, none⟩ = some (.int .i64 5) := bk.cell rfl
        have v1 : W2.cell? ⟨bt, 1, none⟩ = some (.string ⟨#[40]⟩) := bk.cell rfl
        have v2 : W2.cell? ⟨bt, 2, none⟩ = some (.int .i64 tn) := bk.cell rfl
        have lbt := bk.lt
        have hbq : ¬ bt = q := by omega
        have hbq2 : ¬ q = bt := by omega
        clear bo bk hbt n0 n1 n2 g0 g1 u0 u1 u2 u3
        obtain ⟨f0, f1, f2, f3, f4, f5, f6⟩ := P2.out.facts
        rw [Hn.out] at f0
        have hlt1 : i + 1 ≤ l.length := by rw [Hn.out]; omega
        have UST : Hid (UW q (some ⟨b0, off, none⟩) c sz l i es X r [] (kLev l f (kMust l closeT kOne)) (W2.setCell ⟨q, 1, none⟩ (.int .i64 ((i : Int) + 1)))) := Lib.hid (UW.start (Nat.le_refl _) (M2.out.trans ((Below.refl q W2).setCell (p := ⟨q, 1, none⟩) (Nat.le_refl q) _)) (P2.out.at_ (by go_num) hlt1) HR.out)
        clear hlt1 P2 M2
        go_wp2_with (first
          | (go_at_call 27; (with_reducible refine (LV.out _ _ _ UST.out).mono ?_); rintro e w_U2 ⟨g2, rfl, h2⟩; simp only [List.nil_append, List.cons_append] at h2; have U2 := Lib.hid h2; clear h2 UST)
          | (go_at_call 98; (with_reducible refine (MC.out _ _ _ U2.out).mono ?_); rintro e w_U3 ⟨rfl, h2⟩; have U3 := Lib.hid h2; clear h2 U2))
        go_ret
        exact u_done U3.out
      have n_trueT : tt ≠ trueT := fun e => (show trueT ∉ marksL by decide) (e ▸ htm)
      have n_falseT : tt ≠ falseT := fun e => (show falseT ∉ marksL by decide) (e ▸ htm)
      have n_selfT : tt ≠ selfT := fun e => (show selfT ∉ marksL by decide) (e ▸ htm)
      have n_noneT : tt ≠ noneT := fun e => (show noneT ∉ marksL by decide) (e ▸ htm)
      have n_ifT : tt ≠ ifT := fun e => (show ifT ∉ marksL by decide) (e ▸ htm)
      have HW : Hid (∀ Y, RSt q (some ⟨b0, off, none⟩) c sz l i (-1) es Y → Calls Tryd.prog 99 #[.pointer (some ⟨q, 0, none⟩), .string (txt tt)] Y (RReads q (some ⟨b0, off, none⟩) c sz l i es Y r)) := Lib.hid (fun Y hY => by
        have hw : wordR l f i tt = r := by rw [wordR_no ((show ∀ m ∈ marksL, (oneN m).1 = 0 by decide) tt htm), ← hr]; unfold markR; rw [if_neg n_minusT, if_neg n_openT]
        rw [← hw] at hne ⊢
        exact r_word HTB.out (.inr htm) n_trueT n_falseT n_selfT n_noneT n_ifT f HO HES.out (by rw [Hn.out]; omega) hY hne)
      have e_minusT : ((txt tt).toList == [45]) = false := by rw [beq_eq_false_iff_ne]; exact fun e => n_minusT (txt_inj HTB.out (show ∀ n ∈ minusT, n < 256 by decide) (by rw [e, tl_minusT]))
      have e_openT : ((txt tt).toList == [40]) = false := by rw [beq_eq_false_iff_ne]; exact fun e => n_openT (txt_inj HTB.out (show ∀ n ∈ openT, n < 256 by decide) (by rw [e, tl_openT]))
      have e_trueT : ((txt tt).toList == [116, 114, 117, 101]) = false := by rw [beq_eq_false_iff_ne]; exact fun e => n_trueT (txt_inj HTB.out (show ∀ n ∈ trueT, n < 256 by decide) (by rw [e, tl_trueT]))
      have e_falseT : ((txt tt).toList == [102, 97, 108, 115, 101]) = false := by rw [beq_eq_false_iff_ne]; exact fun e => n_falseT (txt_inj HTB.out (show ∀ n ∈ falseT, n < 256 by decide) (by rw [e, tl_falseT]))
      have e_selfT : ((txt tt).toList == [115, 101, 108, 102]) = false := by rw [beq_eq_false_iff_ne]; exact fun e => n_selfT (txt_inj HTB.out (show ∀ n ∈ selfT, n < 256 by decide) (by rw [e, tl_selfT]))
      have e_noneT : ((txt tt).toList == [110, 111, 110, 101]) = false := by rw [beq_eq_false_iff_ne]; exact fun e => n_noneT (txt_inj HTB.out (show ∀ n ∈ noneT, n < 256 by decide) (by rw [e, tl_noneT]))
      have e_ifT : ((txt tt).toList == [105, 102]) = false := by rw [beq_eq_false_iff_ne]; exact fun e => n_ifT (txt_inj HTB.out (show ∀ n ∈ ifT, n < 256 by decide) (by rw [e, tl_ifT]))
      clear hr HO n_minusT n_openT n_trueT n_falseT n_selfT n_noneT n_ifT htm
      cases r with
      | out => exact absurd rfl hne
      | no j =>
        clear hne
        go_enter Tryd.func81, Tryd.ntmps81
        go_wp2_with fail
        go_quiet (fail)
        go_wp2_with fail
        generalize hwq : World.drewN X _ = W1
        have g0 : W1.cell? ⟨q, 0, none⟩ = some (.slice (some ⟨b0, off, none⟩) n c) := by rw [← hwq]; exact f0
        have g1 : W1.cell? ⟨q, 1, none⟩ = some (.int .i64 (i : Int)) := by rw [← hwq]; exact f1
        have u0 : W1.cell? ⟨b0, off + i * 4, none⟩ = some (.int .i64 5) := by rw [← hwq]; exact t0
        have u1 : W1.cell? ⟨b0, off + i * 4 + 1, none⟩ = some (.string (txt tt)) := by rw [← hwq]; exact t1
        have u2 : W1.cell? ⟨b0, off + i * 4 + 2, none⟩ = some (.int .i64 tn) := by rw [← hwq]; exact t2
        have u3 : W1.cell? ⟨b0, off + i * 4 + 3, none⟩ = some (.int .i64 tp) := by rw [← hwq]; exact t3
        have P1 : Hid (RSt q (some ⟨b0, off, none⟩) c sz l i (-1) es W1) := Lib.hid (by rw [← hwq]; exact H.out.quiet ⟨_, rfl⟩)
        have M1 : Hid (Below q X W1) := Lib.hid (by rw [← hwq]; exact below_drewN (Below.refl q X) _)
        clear hwq f0 f1 f2 f3 f4 f5 f6 t0 t1 t2 t3
        have n0 := World.new_ne W1 _ g0
        have n1 := World.new_ne W1 _ g1
        have n2 := World.new_ne W1 _ u0
        go_region_held3 (fun w' => w'.cell? ⟨q, 0, none⟩ = some (.slice (some ⟨b0, off, none⟩) n c) ∧ w'.cell? ⟨q, 1, none⟩ = some (.int .i64 (i : Int)) ∧ w'.cell? ⟨b0, off + i * 4, none⟩ = some (.int .i64 5) ∧ w'.cell? ⟨b0, off + i * 4 + 1, none⟩ = some (.string (txt tt)) ∧ w'.cell? ⟨b0, off + i * 4 + 2, none⟩ = some (.int .i64 tn) ∧ w'.cell? ⟨b0, off + i * 4 + 3, none⟩ = some (.int .i64 tp))
          (first | go_keep | fail)
          (first | fail)
        have bo := ((Below.refl W1.heap.size W1).alloc (Nat.le_refl _) (.cells #[.int .i64 5, .string (txt tt), .int .i64 tn, .int .i64 tp] 82)).drew
        have bk : Blk (W1.alloc (.cells #[.int .i64 5, .string (txt tt), .int .i64 tn, .int .i64 tp] 82)).drew W1.heap.size 82 #[.int .i64 5, .string (txt tt), .int .i64 tn, .int .i64 tp] := Blk.new W1 _ _
        have lq := P1.out.lt
        generalize hwq : World.drew (World.alloc _ _) = W2
        rw [hwq] at bo bk
        clear hwq
        obtain ⟨bt, hbt⟩ : ∃ z, W1.heap.size = z := ⟨_, rfl⟩
        have M2 : Hid (Below q X W2) := Lib.hid (M1.out.trans (bo.mono (Nat.le_of_lt lq)))
        have P2 := Lib.hid (P1.out.keep bo)
        rw [hbt] at lq bk ⊢
        have v0 : W2.cell? ⟨bt, 0, none⟩ = some (.int .i64 5) := bk.cell rfl
        have v1 : W2.cell? ⟨bt, 1, none⟩ = some (.string (txt tt)) := bk.cell rfl
        have v2 : W2.cell? ⟨bt, 2, none⟩ = some (.int .i64 tn) := bk.cell rfl
        have lbt := bk.lt
        have hbq : ¬ bt = q := by omega
        have hbq2 : ¬ q = bt := by omega
        clear bo bk hbt n0 n1 n2 g0 g1 u0 u1 u2 u3
        obtain ⟨f0, f1, f2, f3, f4, f5, f6⟩ := P2.out.facts
        rw [Hn.out] at f0
        go_wp2_with (first
          | (go_at_call 99; refine (HW.out _ P2.out).mono ?_; rintro e w_5 ⟨g5, es5, i5, rfl, h2⟩; have U5 := Lib.hid h2; clear h2))
        go_ret
        exact RReads.back M2.out (Nat.le_refl _) (r := .no j) ⟨g5, es5, i5, rfl, U5.out⟩
      | ok tz j =>
        clear hne
        go_enter Tryd.func81, Tryd.ntmps81
        go_wp2_with fail
        go_quiet (fail)
        go_wp2_with fail
        generalize hwq : World.drewN X _ = W1
        have g0 : W1.cell? ⟨q, 0, none⟩ = some (.slice (some ⟨b0, off, none⟩) n c) := by rw [← hwq]; exact f0
        have g1 : W1.cell? ⟨q, 1, none⟩ = some (.int .i64 (i : Int)) := by rw [← hwq]; exact f1
        have u0 : W1.cell? ⟨b0, off + i * 4, none⟩ = some (.int .i64 5) := by rw [← hwq]; exact t0
        have u1 : W1.cell? ⟨b0, off + i * 4 + 1, none⟩ = some (.string (txt tt)) := by rw [← hwq]; exact t1
        have u2 : W1.cell? ⟨b0, off + i * 4 + 2, none⟩ = some (.int .i64 tn) := by rw [← hwq]; exact t2
        have u3 : W1.cell? ⟨b0, off + i * 4 + 3, none⟩ = some (.int .i64 tp) := by rw [← hwq]; exact t3
        have P1 : Hid (RSt q (some ⟨b0, off, none⟩) c sz l i (-1) es W1) := Lib.hid (by rw [← hwq]; exact H.out.quiet ⟨_, rfl⟩)
        have M1 : Hid (Below q X W1) := Lib.hid (by rw [← hwq]; exact below_drewN (Below.refl q X) _)
        clear hwq f0 f1 f2 f3 f4 f5 f6 t0 t1 t2 t3
        have n0 := World.new_ne W1 _ g0
        have n1 := World.new_ne W1 _ g1
        have n2 := World.new_ne W1 _ u0
        go_region_held3 (fun w' => w'.cell? ⟨q, 0, none⟩ = some (.slice (some ⟨b0, off, none⟩) n c) ∧ w'.cell? ⟨q, 1, none⟩ = some (.int .i64 (i : Int)) ∧ w'.cell? ⟨b0, off + i * 4, none⟩ = some (.int .i64 5) ∧ w'.cell? ⟨b0, off + i * 4 + 1, none⟩ = some (.string (txt tt)) ∧ w'.cell? ⟨b0, off + i * 4 + 2, none⟩ = some (.int .i64 tn) ∧ w'.cell? ⟨b0, off + i * 4 + 3, none⟩ = some (.int .i64 tp))
          (first | go_keep | fail)
          (first | fail)
        have bo := ((Below.refl W1.heap.size W1).alloc (Nat.le_refl _) (.cells #[.int .i64 5, .string (txt tt), .int .i64 tn, .int .i64 tp] 82)).drew
        have bk : Blk (W1.alloc (.cells #[.int .i64 5, .string (txt tt), .int .i64 tn, .int .i64 tp] 82)).drew W1.heap.size 82 #[.int .i64 5, .string (txt tt), .int .i64 tn, .int .i64 tp] := Blk.new W1 _ _
        have lq := P1.out.lt
        generalize hwq : World.drew (World.alloc _ _) = W2
        rw [hwq] at bo bk
        clear hwq
        obtain ⟨bt, hbt⟩ : ∃ z, W1.heap.size = z := ⟨_, rfl⟩
        have M2 : Hid (Below q X W2) := Lib.hid (M1.out.trans (bo.mono (Nat.le_of_lt lq)))
        have P2 := Lib.hid (P1.out.keep bo)
        rw [hbt] at lq bk ⊢
        have v0 : W2.cell? ⟨bt, 0, none⟩ = some (.int .i64 5) := bk.cell rfl
        have v1 : W2.cell? ⟨bt, 1, none⟩ = some (.string (txt tt)) := bk.cell rfl
        have v2 : W2.cell? ⟨bt, 2, none⟩ = some (.int .i64 tn) := bk.cell rfl
        have lbt := bk.lt
        have hbq : ¬ bt = q := by omega
        have hbq2 : ¬ q = bt := by omega
        clear bo bk hbt n0 n1 n2 g0 g1 u0 u1 u2 u3
        obtain ⟨f0, f1, f2, f3, f4, f5, f6⟩ := P2.out.facts
        rw [Hn.out] at f0
        go_wp2_with (first
          | (go_at_call 99; refine (HW.out _ P2.out).mono ?_; rintro e w_5 ⟨g5, es5, rfl, h2⟩; have U5 := Lib.hid h2; clear h2))
        go_ret
        exact RReads.back M2.out (Nat.le_refl _) (r := .ok tz j) ⟨g5, es5, rfl, U5.out⟩
    · have hk4 : kd = 4 ∧ tt ∈ wordsL := by
        have h0 : (kd = 1 ∧ 0 ≤ tn) ∨ kd = 2 ∨ kd = 3 ∨ (kd = 4 ∧ tt ∈ wordsL) ∨ (kd = 5 ∧ tt ∈ marksL) := HTG.out
        rcases h0 with h | h | h | h | h
        · exact absurd h.1 hk1
        · exact absurd h hk2
        · exact absurd h hk3
        · exact h
        · exact absurd h.1 hk5
      obtain ⟨hk4, htm⟩ := hk4
      subst hk4
      simp only [if_neg hk1, if_neg hk2, if_neg hk3, if_neg hk5] at hr
      clear hk1 hk2 hk3 hk5
      have n_minusT : tt ≠ minusT := fun e => (show minusT ∉ wordsL by decide) (e ▸ htm)
      have n_openT : tt ≠ openT := fun e => (show openT ∉ wordsL by decide) (e ▸ htm)
      by_cases n_trueT : tt = trueT
      · subst n_trueT
        have t1 : X.cell? ⟨b0, off + i * 4 + 1, none⟩ = some (.string ⟨#[116, 114, 117, 101]⟩) := t1
        rw [wordR_leaf (k := 3) (by decide) (by decide)] at hr
        have hres : PR.ok (.node 3 [] 0 []) (i + 1) = r := hr
        have HR := Lib.hid hres
        clear hr hres
        clear HO htm n_minusT n_openT
        go_enter Tryd.func81, Tryd.ntmps81
        go_wp2_with fail
        go_quiet (fail)
        go_wp2_with fail
        generalize hwq : World.drewN X _ = W1
        have g0 : W1.cell? ⟨q, 0, none⟩ = some (.slice (some ⟨b0, off, none⟩) n c) := by rw [← hwq]; exact f0
        have g1 : W1.cell? ⟨q, 1, none⟩ = some (.int .i64 (i : Int)) := by rw [← hwq]; exact f1
        have u0 : W1.cell? ⟨b0, off + i * 4, none⟩ = some (.int .i64 4) := by rw [← hwq]; exact t0
        have u1 : W1.cell? ⟨b0, off + i * 4 + 1, none⟩ = some (.string ⟨#[116, 114, 117, 101]⟩) := by rw [← hwq]; exact t1
        have u2 : W1.cell? ⟨b0, off + i * 4 + 2, none⟩ = some (.int .i64 tn) := by rw [← hwq]; exact t2
        have u3 : W1.cell? ⟨b0, off + i * 4 + 3, none⟩ = some (.int .i64 tp) := by rw [← hwq]; exact t3
        have P1 : Hid (RSt q (some ⟨b0, off, none⟩) c sz l i (-1) es W1) := Lib.hid (by rw [← hwq]; exact H.out.quiet ⟨_, rfl⟩)
        have M1 : Hid (Below q X W1) := Lib.hid (by rw [← hwq]; exact below_drewN (Below.refl q X) _)
        clear hwq f0 f1 f2 f3 f4 f5 f6 t0 t1 t2 t3
        have n0 := World.new_ne W1 _ g0
        have n1 := World.new_ne W1 _ g1
        have n2 := World.new_ne W1 _ u0
        go_region_held3 (fun w' => w'.cell? ⟨q, 0, none⟩ = some (.slice (some ⟨b0, off, none⟩) n c) ∧ w'.cell? ⟨q, 1, none⟩ = some (.int .i64 (i : Int)) ∧ w'.cell? ⟨b0, off + i * 4, none⟩ = some (.int .i64 4) ∧ w'.cell? ⟨b0, off + i * 4 + 1, none⟩ = some (.string ⟨#[116, 114, 117, 101]⟩) ∧ w'.cell? ⟨b0, off + i * 4 + 2, none⟩ = some (.int .i64 tn) ∧ w'.cell? ⟨b0, off + i * 4 + 3, none⟩ = some (.int .i64 tp))
          (first | go_keep | fail)
          (first | fail)
        have bo := ((Below.refl W1.heap.size W1).alloc (Nat.le_refl _) (.cells #[.int .i64 4, .string ⟨#[116, 114, 117, 101]⟩, .int .i64 tn, .int .i64 tp] 82)).drew
        have bk : Blk (W1.alloc (.cells #[.int .i64 4, .string ⟨#[116, 114, 117, 101]⟩, .int .i64 tn, .int .i64 tp] 82)).drew W1.heap.size 82 #[.int .i64 4, .string ⟨#[116, 114, 117, 101]⟩, .int .i64 tn, .int .i64 tp] := Blk.new W1 _ _
        have lq := P1.out.lt
        generalize hwq : World.drew (World.alloc _ _) = W2
        rw [hwq] at bo bk
        clear hwq
        obtain ⟨bt, hbt⟩ : ∃ z, W1.heap.size = z := ⟨_, rfl⟩
        have M2 : Hid (Below q X W2) := Lib.hid (M1.out.trans (bo.mono (Nat.le_of_lt lq)))
        have P2 := Lib.hid (P1.out.keep bo)
        rw [hbt] at lq bk ⊢
        have v0 : W2.cell? ⟨bt, 0, none⟩ = some (.int .i64 4) := bk.cell rfl
        have v1 : W2.cell? ⟨bt, 1, none⟩ = some (.string ⟨#[116, 114, 117, 101]⟩) := bk.cell rfl
        have v2 : W2.cell? ⟨bt, 2, none⟩ = some (.int .i64 tn) := bk.cell rfl
        have lbt := bk.lt
        have hbq : ¬ bt = q := by omega
        have hbq2 : ¬ q = bt := by omega
        clear bo bk hbt n0 n1 n2 g0 g1 u0 u1 u2 u3
        obtain ⟨f0, f1, f2, f3, f4, f5, f6⟩ := P2.out.facts
        rw [Hn.out] at f0
        have hlt1 : i + 1 ≤ l.length := by rw [Hn.out]; omega
        have UST : Hid (UW q (some ⟨b0, off, none⟩) c sz l i es X r [] (kEnd 3 [] 0) (W2.setCell ⟨q, 1, none⟩ (.int .i64 ((i : Int) + 1)))) := Lib.hid (UW.start (Nat.le_refl _) (M2.out.trans ((Below.refl q W2).setCell (p := ⟨q, 1, none⟩) (Nat.le_refl q) _)) (P2.out.at_ (by go_num) hlt1) HR.out)
        clear hlt1 P2 M2
        have AD : Hid (Calls Tryd.prog 52 #[.pointer (some ⟨q, 0, none⟩), .int .i64 3, .string ⟨#[]⟩, .int .i64 0, .slice none 0 0] (W2.setCell ⟨q, 1, none⟩ (.int .i64 ((i : Int) + 1))) fun e w' => ∃ g : Nat, e = .returned (.int .i64 (g : Int)) ∧ RReads q (some ⟨b0, off, none⟩) c sz l i es X r (.returned (.int .i64 (g : Int))) w') := Lib.hid (u_add 3 [] 0 none 0 0 (Below.refl _ _) (SlR.nil_ _ (by unfold maxLen; omega) _) (by simp) HES.out UST.out)
        go_wp2_with (first
          | (go_at_call 52; (with_reducible refine AD.out.mono ?_); rintro e w_5 ⟨g5, rfl, h2⟩; have U5 := Lib.hid h2; clear h2))
        go_ret
        exact U5.out
      by_cases n_falseT : tt = falseT
      · subst n_falseT
        have t1 : X.cell? ⟨b0, off + i * 4 + 1, none⟩ = some (.string ⟨#[102, 97, 108, 115, 101]⟩) := t1
        rw [wordR_leaf (k := 4) (by decide) (by decide)] at hr
        have hres : PR.ok (.node 4 [] 0 []) (i + 1) = r := hr
        have HR := Lib.hid hres
        clear hr hres
        clear HO htm n_minusT n_openT n_trueT
        go_enter Tryd.func81, Tryd.ntmps81
        go_wp2_with fail
        go_quiet (fail)
        go_wp2_with fail
        generalize hwq : World.drewN X _ = W1
        have g0 : W1.cell? ⟨q, 0, none⟩ = some (.slice (some ⟨b0, off, none⟩) n c) := by rw [← hwq]; exact f0
        have g1 : W1.cell? ⟨q, 1, none⟩ = some (.int .i64 (i : Int)) := by rw [← hwq]; exact f1
        have u0 : W1.cell? ⟨b0, off + i * 4, none⟩ = some (.int .i64 4) := by rw [← hwq]; exact t0
        have u1 : W1.cell? ⟨b0, off + i * 4 + 1, none⟩ = some (.string ⟨#[102, 97, 108, 115, 101]⟩) := by rw [← hwq]; exact t1
        have u2 : W1.cell? ⟨b0, off + i * 4 + 2, none⟩ = some (.int .i64 tn) := by rw [← hwq]; exact t2
        have u3 : W1.cell? ⟨b0, off + i * 4 + 3, none⟩ = some (.int .i64 tp) := by rw [← hwq]; exact t3
        have P1 : Hid (RSt q (some ⟨b0, off, none⟩) c sz l i (-1) es W1) := Lib.hid (by rw [← hwq]; exact H.out.quiet ⟨_, rfl⟩)
        have M1 : Hid (Below q X W1) := Lib.hid (by rw [← hwq]; exact below_drewN (Below.refl q X) _)
        clear hwq f0 f1 f2 f3 f4 f5 f6 t0 t1 t2 t3
        have n0 := World.new_ne W1 _ g0
        have n1 := World.new_ne W1 _ g1
        have n2 := World.new_ne W1 _ u0
        go_region_held3 (fun w' => w'.cell? ⟨q, 0, none⟩ = some (.slice (some ⟨b0, off, none⟩) n c) ∧ w'.cell? ⟨q, 1, none⟩ = some (.int .i64 (i : Int)) ∧ w'.cell? ⟨b0, off + i * 4, none⟩ = some (.int .i64 4) ∧ w'.cell? ⟨b0, off + i * 4 + 1, none⟩ = some (.string ⟨#[102, 97, 108, 115, 101]⟩) ∧ w'.cell? ⟨b0, off + i * 4 + 2, none⟩ = some (.int .i64 tn) ∧ w'.cell? ⟨b0, off + i * 4 + 3, none⟩ = some (.int .i64 tp))
          (first | go_keep | fail)
          (first | fail)
        have bo := ((Below.refl W1.heap.size W1).alloc (Nat.le_refl _) (.cells #[.int .i64 4, .string ⟨#[102, 97, 108, 115, 101]⟩, .int .i64 tn, .int .i64 tp] 82)).drew
        have bk : Blk (W1.alloc (.cells #[.int .i64 4, .string ⟨#[102, 97, 108, 115, 101]⟩, .int .i64 tn, .int .i64 tp] 82)).drew W1.heap.size 82 #[.int .i64 4, .string ⟨#[102, 97, 108, 115, 101]⟩, .int .i64 tn, .int .i64 tp] := Blk.new W1 _ _
        have lq := P1.out.lt
        generalize hwq : World.drew (World.alloc _ _) = W2
        rw [hwq] at bo bk
        clear hwq
        obtain ⟨bt, hbt⟩ : ∃ z, W1.heap.size = z := ⟨_, rfl⟩
        have M2 : Hid (Below q X W2) := Lib.hid (M1.out.trans (bo.mono (Nat.le_of_lt lq)))
        have P2 := Lib.hid (P1.out.keep bo)
        rw [hbt] at lq bk ⊢
        have v0 : W2.cell? ⟨bt, 0, none⟩ = some (.int .i64 4) := bk.cell rfl
        have v1 : W2.cell? ⟨bt, 1, none⟩ = some (.string ⟨#[102, 97, 108, 115, 101]⟩) := bk.cell rfl
        have v2 : W2.cell? ⟨bt, 2, none⟩ = some (.int .i64 tn) := bk.cell rfl
        have lbt := bk.lt
        have hbq : ¬ bt = q := by omega
        have hbq2 : ¬ q = bt := by omega
        clear bo bk hbt n0 n1 n2 g0 g1 u0 u1 u2 u3
        obtain ⟨f0, f1, f2, f3, f4, f5, f6⟩ := P2.out.facts
        rw [Hn.out] at f0
        have hlt1 : i + 1 ≤ l.length := by rw [Hn.out]; omega
        have UST : Hid (UW q (some ⟨b0, off, none⟩) c sz l i es X r [] (kEnd 4 [] 0) (W2.setCell ⟨q, 1, none⟩ (.int .i64 ((i : Int) + 1)))) := Lib.hid (UW.start (Nat.le_refl _) (M2.out.trans ((Below.refl q W2).setCell (p := ⟨q, 1, none⟩) (Nat.le_refl q) _)) (P2.out.at_ (by go_num) hlt1) HR.out)
        clear hlt1 P2 M2
        have AD : Hid (Calls Tryd.prog 52 #[.pointer (some ⟨q, 0, none⟩), .int .i64 4, .string ⟨#[]⟩, .int .i64 0, .slice none 0 0] (W2.setCell ⟨q, 1, none⟩ (.int .i64 ((i : Int) + 1))) fun e w' => ∃ g : Nat, e = .returned (.int .i64 (g : Int)) ∧ RReads q (some ⟨b0, off, none⟩) c sz l i es X r (.returned (.int .i64 (g : Int))) w') := Lib.hid (u_add 4 [] 0 none 0 0 (Below.refl _ _) (SlR.nil_ _ (by unfold maxLen; omega) _) (by simp) HES.out UST.out)
        go_wp2_with (first
          | (go_at_call 52; (with_reducible refine AD.out.mono ?_); rintro e w_5 ⟨g5, rfl, h2⟩; have U5 := Lib.hid h2; clear h2))
        go_ret
        exact U5.out
      by_cases n_selfT : tt = selfT
      · subst n_selfT
        have t1 : X.cell? ⟨b0, off + i * 4 + 1, none⟩ = some (.string ⟨#[115, 101, 108, 102]⟩) := t1
        rw [wordR_leaf (k := 5) (by decide) (by decide)] at hr
        have hres : PR.ok (.node 5 [] 0 []) (i + 1) = r := hr
        have HR := Lib.hid hres
        clear hr hres
        clear HO htm n_minusT n_openT n_trueT n_falseT
        go_enter Tryd.func81, Tryd.ntmps81
        go_wp2_with fail
        go_quiet (fail)
        go_wp2_with fail
        generalize hwq : World.drewN X _ = W1
        have g0 : W1.cell? ⟨q, 0, none⟩ = some (.slice (some ⟨b0, off, none⟩) n c) := by rw [← hwq]; exact f0
        have g1 : W1.cell? ⟨q, 1, none⟩ = some (.int .i64 (i : Int)) := by rw [← hwq]; exact f1
        have u0 : W1.cell? ⟨b0, off + i * 4, none⟩ = some (.int .i64 4) := by rw [← hwq]; exact t0
        have u1 : W1.cell? ⟨b0, off + i * 4 + 1, none⟩ = some (.string ⟨#[115, 101, 108, 102]⟩) := by rw [← hwq]; exact t1
        have u2 : W1.cell? ⟨b0, off + i * 4 + 2, none⟩ = some (.int .i64 tn) := by rw [← hwq]; exact t2
        have u3 : W1.cell? ⟨b0, off + i * 4 + 3, none⟩ = some (.int .i64 tp) := by rw [← hwq]; exact t3
        have P1 : Hid (RSt q (some ⟨b0, off, none⟩) c sz l i (-1) es W1) := Lib.hid (by rw [← hwq]; exact H.out.quiet ⟨_, rfl⟩)
        have M1 : Hid (Below q X W1) := Lib.hid (by rw [← hwq]; exact below_drewN (Below.refl q X) _)
        clear hwq f0 f1 f2 f3 f4 f5 f6 t0 t1 t2 t3
        have n0 := World.new_ne W1 _ g0
        have n1 := World.new_ne W1 _ g1
        have n2 := World.new_ne W1 _ u0
        go_region_held3 (fun w' => w'.cell? ⟨q, 0, none⟩ = some (.slice (some ⟨b0, off, none⟩) n c) ∧ w'.cell? ⟨q, 1, none⟩ = some (.int .i64 (i : Int)) ∧ w'.cell? ⟨b0, off + i * 4, none⟩ = some (.int .i64 4) ∧ w'.cell? ⟨b0, off + i * 4 + 1, none⟩ = some (.string ⟨#[115, 101, 108, 102]⟩) ∧ w'.cell? ⟨b0, off + i * 4 + 2, none⟩ = some (.int .i64 tn) ∧ w'.cell? ⟨b0, off + i * 4 + 3, none⟩ = some (.int .i64 tp))
          (first | go_keep | fail)
          (first | fail)
        have bo := ((Below.refl W1.heap.size W1).alloc (Nat.le_refl _) (.cells #[.int .i64 4, .string ⟨#[115, 101, 108, 102]⟩, .int .i64 tn, .int .i64 tp] 82)).drew
        have bk : Blk (W1.alloc (.cells #[.int .i64 4, .string ⟨#[115, 101, 108, 102]⟩, .int .i64 tn, .int .i64 tp] 82)).drew W1.heap.size 82 #[.int .i64 4, .string ⟨#[115, 101, 108, 102]⟩, .int .i64 tn, .int .i64 tp] := Blk.new W1 _ _
        have lq := P1.out.lt
        generalize hwq : World.drew (World.alloc _ _) = W2
        rw [hwq] at bo bk
        clear hwq
        obtain ⟨bt, hbt⟩ : ∃ z, W1.heap.size = z := ⟨_, rfl⟩
        have M2 : Hid (Below q X W2) := Lib.hid (M1.out.trans (bo.mono (Nat.le_of_lt lq)))
        have P2 := Lib.hid (P1.out.keep bo)
        rw [hbt] at lq bk ⊢
        have v0 : W2.cell? ⟨bt, 0, none⟩ = some (.int .i64 4) := bk.cell rfl
        have v1 : W2.cell? ⟨bt, 1, none⟩ = some (.string ⟨#[115, 101, 108, 102]⟩) := bk.cell rfl
        have v2 : W2.cell? ⟨bt, 2, none⟩ = some (.int .i64 tn) := bk.cell rfl
        have lbt := bk.lt
        have hbq : ¬ bt = q := by omega
        have hbq2 : ¬ q = bt := by omega
        clear bo bk hbt n0 n1 n2 g0 g1 u0 u1 u2 u3
        obtain ⟨f0, f1, f2, f3, f4, f5, f6⟩ := P2.out.facts
        rw [Hn.out] at f0
        have hlt1 : i + 1 ≤ l.length := by rw [Hn.out]; omega
        have UST : Hid (UW q (some ⟨b0, off, none⟩) c sz l i es X r [] (kEnd 5 [] 0) (W2.setCell ⟨q, 1, none⟩ (.int .i64 ((i : Int) + 1)))) := Lib.hid (UW.start (Nat.le_refl _) (M2.out.trans ((Below.refl q W2).setCell (p := ⟨q, 1, none⟩) (Nat.le_refl q) _)) (P2.out.at_ (by go_num) hlt1) HR.out)
        clear hlt1 P2 M2
        have AD : Hid (Calls Tryd.prog 52 #[.pointer (some ⟨q, 0, none⟩), .int .i64 5, .string ⟨#[]⟩, .int .i64 0, .slice none 0 0] (W2.setCell ⟨q, 1, none⟩ (.int .i64 ((i : Int) + 1))) fun e w' => ∃ g : Nat, e = .returned (.int .i64 (g : Int)) ∧ RReads q (some ⟨b0, off, none⟩) c sz l i es X r (.returned (.int .i64 (g : Int))) w') := Lib.hid (u_add 5 [] 0 none 0 0 (Below.refl _ _) (SlR.nil_ _ (by unfold maxLen; omega) _) (by simp) HES.out UST.out)
        go_wp2_with (first
          | (go_at_call 52; (with_reducible refine AD.out.mono ?_); rintro e w_5 ⟨g5, rfl, h2⟩; have U5 := Lib.hid h2; clear h2))
        go_ret
        exact U5.out
      by_cases n_noneT : tt = noneT
      · subst n_noneT
        have t1 : X.cell? ⟨b0, off + i * 4 + 1, none⟩ = some (.string ⟨#[110, 111, 110, 101]⟩) := t1
        rw [wordR_leaf (k := 6) (by decide) (by decide)] at hr
        have hres : PR.ok (.node 6 [] 0 []) (i + 1) = r := hr
        have HR := Lib.hid hres
        clear hr hres
        clear HO htm n_minusT n_openT n_trueT n_falseT n_selfT
        go_enter Tryd.func81, Tryd.ntmps81
        go_wp2_with fail
        go_quiet (fail)
        go_wp2_with fail
        generalize hwq : World.drewN X _ = W1
        have g0 : W1.cell? ⟨q, 0, none⟩ = some (.slice (some ⟨b0, off, none⟩) n c) := by rw [← hwq]; exact f0
        have g1 : W1.cell? ⟨q, 1, none⟩ = some (.int .i64 (i : Int)) := by rw [← hwq]; exact f1
        have u0 : W1.cell? ⟨b0, off + i * 4, none⟩ = some (.int .i64 4) := by rw [← hwq]; exact t0
        have u1 : W1.cell? ⟨b0, off + i * 4 + 1, none⟩ = some (.string ⟨#[110, 111, 110, 101]⟩) := by rw [← hwq]; exact t1
        have u2 : W1.cell? ⟨b0, off + i * 4 + 2, none⟩ = some (.int .i64 tn) := by rw [← hwq]; exact t2
        have u3 : W1.cell? ⟨b0, off + i * 4 + 3, none⟩ = some (.int .i64 tp) := by rw [← hwq]; exact t3
        have P1 : Hid (RSt q (some ⟨b0, off, none⟩) c sz l i (-1) es W1) := Lib.hid (by rw [← hwq]; exact H.out.quiet ⟨_, rfl⟩)
        have M1 : Hid (Below q X W1) := Lib.hid (by rw [← hwq]; exact below_drewN (Below.refl q X) _)
        clear hwq f0 f1 f2 f3 f4 f5 f6 t0 t1 t2 t3
        have n0 := World.new_ne W1 _ g0
        have n1 := World.new_ne W1 _ g1
        have n2 := World.new_ne W1 _ u0
        go_region_held3 (fun w' => w'.cell? ⟨q, 0, none⟩ = some (.slice (some ⟨b0, off, none⟩) n c) ∧ w'.cell? ⟨q, 1, none⟩ = some (.int .i64 (i : Int)) ∧ w'.cell? ⟨b0, off + i * 4, none⟩ = some (.int .i64 4) ∧ w'.cell? ⟨b0, off + i * 4 + 1, none⟩ = some (.string ⟨#[110, 111, 110, 101]⟩) ∧ w'.cell? ⟨b0, off + i * 4 + 2, none⟩ = some (.int .i64 tn) ∧ w'.cell? ⟨b0, off + i * 4 + 3, none⟩ = some (.int .i64 tp))
          (first | go_keep | fail)
          (first | fail)
        have bo := ((Below.refl W1.heap.size W1).alloc (Nat.le_refl _) (.cells #[.int .i64 4, .string ⟨#[110, 111, 110, 101]⟩, .int .i64 tn, .int .i64 tp] 82)).drew
        have bk : Blk (W1.alloc (.cells #[.int .i64 4, .string ⟨#[110, 111, 110, 101]⟩, .int .i64 tn, .int .i64 tp] 82)).drew W1.heap.size 82 #[.int .i64 4, .string ⟨#[110, 111, 110, 101]⟩, .int .i64 tn, .int .i64 tp] := Blk.new W1 _ _
        have lq := P1.out.lt
        generalize hwq : World.drew (World.alloc _ _) = W2
        rw [hwq] at bo bk
        clear hwq
        obtain ⟨bt, hbt⟩ : ∃ z, W1.heap.size = z := ⟨_, rfl⟩
        have M2 : Hid (Below q X W2) := Lib.hid (M1.out.trans (bo.mono (Nat.le_of_lt lq)))
        have P2 := Lib.hid (P1.out.keep bo)
        rw [hbt] at lq bk ⊢
        have v0 : W2.cell? ⟨bt, 0, none⟩ = some (.int .i64 4) := bk.cell rfl
        have v1 : W2.cell? ⟨bt, 1, none⟩ = some (.string ⟨#[110, 111, 110, 101]⟩) := bk.cell rfl
        have v2 : W2.cell? ⟨bt, 2, none⟩ = some (.int .i64 tn) := bk.cell rfl
        have lbt := bk.lt
        have hbq : ¬ bt = q := by omega
        have hbq2 : ¬ q = bt := by omega
        clear bo bk hbt n0 n1 n2 g0 g1 u0 u1 u2 u3
        obtain ⟨f0, f1, f2, f3, f4, f5, f6⟩ := P2.out.facts
        rw [Hn.out] at f0
        have hlt1 : i + 1 ≤ l.length := by rw [Hn.out]; omega
        have UST : Hid (UW q (some ⟨b0, off, none⟩) c sz l i es X r [] (kEnd 6 [] 0) (W2.setCell ⟨q, 1, none⟩ (.int .i64 ((i : Int) + 1)))) := Lib.hid (UW.start (Nat.le_refl _) (M2.out.trans ((Below.refl q W2).setCell (p := ⟨q, 1, none⟩) (Nat.le_refl q) _)) (P2.out.at_ (by go_num) hlt1) HR.out)
        clear hlt1 P2 M2
        have AD : Hid (Calls Tryd.prog 52 #[.pointer (some ⟨q, 0, none⟩), .int .i64 6, .string ⟨#[]⟩, .int .i64 0, .slice none 0 0] (W2.setCell ⟨q, 1, none⟩ (.int .i64 ((i : Int) + 1))) fun e w' => ∃ g : Nat, e = .returned (.int .i64 (g : Int)) ∧ RReads q (some ⟨b0, off, none⟩) c sz l i es X r (.returned (.int .i64 (g : Int))) w') := Lib.hid (u_add 6 [] 0 none 0 0 (Below.refl _ _) (SlR.nil_ _ (by unfold maxLen; omega) _) (by simp) HES.out UST.out)
        go_wp2_with (first
          | (go_at_call 52; (with_reducible refine AD.out.mono ?_); rintro e w_5 ⟨g5, rfl, h2⟩; have U5 := Lib.hid h2; clear h2))
        go_ret
        exact U5.out
      by_cases n_ifT : tt = ifT
      · subst n_ifT
        have t1 : X.cell? ⟨b0, off + i * 4 + 1, none⟩ = some (.string ⟨#[105, 102]⟩) := t1
        rw [wordR_if (k := 30) (by decide) (by decide)] at hr
        have HR := Lib.hid hr
        have MT := (show Hid (∀ gs K Y, UW q (some ⟨b0, off, none⟩) c sz l i es X r gs (kMust l thenT K) Y → Calls Tryd.prog 98 #[.pointer (some ⟨q, 0, none⟩), .string ⟨#[116, 104, 101, 110]⟩] Y fun e w' => e = .returned (.tuple #[]) ∧ UW q (some ⟨b0, off, none⟩) c sz l i es X r gs K w') from Lib.hid (fun gs K Y hY => by rw [← lit_thenT]; exact u_must thenT (show ∀ n ∈ thenT, n < 256 by decide) hY))
        have ME := (show Hid (∀ gs K Y, UW q (some ⟨b0, off, none⟩) c sz l i es X r gs (kMust l elseT K) Y → Calls Tryd.prog 98 #[.pointer (some ⟨q, 0, none⟩), .string ⟨#[101, 108, 115, 101]⟩] Y fun e w' => e = .returned (.tuple #[]) ∧ UW q (some ⟨b0, off, none⟩) c sz l i es X r gs K w') from Lib.hid (fun gs K Y hY => by rw [← lit_elseT]; exact u_must elseT (show ∀ n ∈ elseT, n < 256 by decide) hY))
        have MN := (show Hid (∀ gs K Y, UW q (some ⟨b0, off, none⟩) c sz l i es X r gs (kMust l endT K) Y → Calls Tryd.prog 98 #[.pointer (some ⟨q, 0, none⟩), .string ⟨#[101, 110, 100]⟩] Y fun e w' => e = .returned (.tuple #[]) ∧ UW q (some ⟨b0, off, none⟩) c sz l i es X r gs K w') from Lib.hid (fun gs K Y hY => by rw [← lit_endT]; exact u_must endT (show ∀ n ∈ endT, n < 256 by decide) hY))
        have LV := (show Hid (∀ gs K Y, UW q (some ⟨b0, off, none⟩) c sz l i es X r gs (kLev l f K) Y → Calls Tryd.prog 27 #[.pointer (some ⟨q, 0, none⟩), .int .i64 1] Y fun e w' => ∃ g : Nat, e = .returned (.int .i64 (g : Int)) ∧ UW q (some ⟨b0, off, none⟩) c sz l i es X r (gs ++ [g]) K w') from Lib.hid (fun gs K Y hY => u_level f HO HES.out hne hY))
        have AD : Hid (∀ g1 g2 g3 Y, UW q (some ⟨b0, off, none⟩) c sz l i es X r [g1, g2, g3] (kEnd 30 [] 0) Y → Calls Tryd.prog 52 #[.pointer (some ⟨q, 0, none⟩), .int .i64 30, .string ⟨#[]⟩, .int .i64 0, .slice (some ⟨Y.heap.size, 0, none⟩) 3 3] (Y.alloc (.cells #[.int .i64 (g1 : Int), .int .i64 (g2 : Int), .int .i64 (g3 : Int)] 3)) fun e w' => ∃ g : Nat, e = .returned (.int .i64 (g : Int)) ∧ RReads q (some ⟨b0, off, none⟩) c sz l i es X r (.returned (.int .i64 (g : Int))) w') := Lib.hid (fun g1 g2 g3 Y hY => u_add 30 [] 0 _ _ _ ((Below.refl _ Y).alloc (Nat.le_refl _) _) (ints3 Y g1 g2 g3) (by simp) HES.out hY)
        clear hr HO htm n_minusT n_openT n_trueT n_falseT n_selfT n_noneT
        go_enter Tryd.func81, Tryd.ntmps81
        go_wp2_with fail
        go_quiet (fail)
        go_wp2_with fail
        generalize hwq : World.drewN X _ = W1
        have g0 : W1.cell? ⟨q, 0, none⟩ = some (.slice (some ⟨b0, off, none⟩) n c) := by rw [← hwq]; exact f0
        have g1 : W1.cell? ⟨q, 1, none⟩ = some (.int .i64 (i : Int)) := by rw [← hwq]; exact f1
        have u0 : W1.cell? ⟨b0, off + i * 4, none⟩ = some (.int .i64 4) := by rw [← hwq]; exact t0
        have u1 : W1.cell? ⟨b0, off + i * 4 + 1, none⟩ = some (.string ⟨#[105, 102]⟩) := by rw [← hwq]; exact t1
        have u2 : W1.cell? ⟨b0, off + i * 4 + 2, none⟩ = some (.int .i64 tn) := by rw [← hwq]; exact t2
        have u3 : W1.cell? ⟨b0, off + i * 4 + 3, none⟩ = some (.int .i64 tp) := by rw [← hwq]; exact t3
        have P1 : Hid (RSt q (some ⟨b0, off, none⟩) c sz l i (-1) es W1) := Lib.hid (by rw [← hwq]; exact H.out.quiet ⟨_, rfl⟩)
        have M1 : Hid (Below q X W1) := Lib.hid (by rw [← hwq]; exact below_drewN (Below.refl q X) _)
        clear hwq f0 f1 f2 f3 f4 f5 f6 t0 t1 t2 t3
        have n0 := World.new_ne W1 _ g0
        have n1 := World.new_ne W1 _ g1
        have n2 := World.new_ne W1 _ u0
        go_region_held3 (fun w' => w'.cell? ⟨q, 0, none⟩ = some (.slice (some ⟨b0, off, none⟩) n c) ∧ w'.cell? ⟨q, 1, none⟩ = some (.int .i64 (i : Int)) ∧ w'.cell? ⟨b0, off + i * 4, none⟩ = some (.int .i64 4) ∧ w'.cell? ⟨b0, off + i * 4 + 1, none⟩ = some (.string ⟨#[105, 102]⟩) ∧ w'.cell? ⟨b0, off + i * 4 + 2, none⟩ = some (.int .i64 tn) ∧ w'.cell? ⟨b0, off + i * 4 + 3, none⟩ = some (.int .i64 tp))
          (first | go_keep | fail)
          (first | fail)
        have bo := ((Below.refl W1.heap.size W1).alloc (Nat.le_refl _) (.cells #[.int .i64 4, .string ⟨#[105, 102]⟩, .int .i64 tn, .int .i64 tp] 82)).drew
        have bk : Blk (W1.alloc (.cells #[.int .i64 4, .string ⟨#[105, 102]⟩, .int .i64 tn, .int .i64 tp] 82)).drew W1.heap.size 82 #[.int .i64 4, .string ⟨#[105, 102]⟩, .int .i64 tn, .int .i64 tp] := Blk.new W1 _ _
        have lq := P1.out.lt
        generalize hwq : World.drew (World.alloc _ _) = W2
        rw [hwq] at bo bk
        clear hwq
        obtain ⟨bt, hbt⟩ : ∃ z, W1.heap.size = z := ⟨_, rfl⟩
        have M2 : Hid (Below q X W2) := Lib.hid (M1.out.trans (bo.mono (Nat.le_of_lt lq)))
        have P2 := Lib.hid (P1.out.keep bo)
        rw [hbt] at lq bk ⊢
        have v0 : W2.cell? ⟨bt, 0, none⟩ = some (.int .i64 4) := bk.cell rfl
        have v1 : W2.cell? ⟨bt, 1, none⟩ = some (.string ⟨#[105, 102]⟩) := bk.cell rfl
        have v2 : W2.cell? ⟨bt, 2, none⟩ = some (.int .i64 tn) := bk.cell rfl
        have lbt := bk.lt
        have hbq : ¬ bt = q := by omega
        have hbq2 : ¬ q = bt := by omega
        clear bo bk hbt n0 n1 n2 g0 g1 u0 u1 u2 u3
        obtain ⟨f0, f1, f2, f3, f4, f5, f6⟩ := P2.out.facts
        rw [Hn.out] at f0
        have hlt1 : i + 1 ≤ l.length := by rw [Hn.out]; omega
        have UST : Hid (UW q (some ⟨b0, off, none⟩) c sz l i es X r [] (kLev l f (kMust l thenT (kLev l f (kMust l elseT (kLev l f (kMust l endT (kEnd 30 [] 0))))))) (W2.setCell ⟨q, 1, none⟩ (.int .i64 ((i : Int) + 1)))) := Lib.hid (UW.start (Nat.le_refl _) (M2.out.trans ((Below.refl q W2).setCell (p := ⟨q, 1, none⟩) (Nat.le_refl q) _)) (P2.out.at_ (by go_num) hlt1) HR.out)
        clear hlt1 P2 M2
        go_wp2_with (first
          | (go_at_call 27; (with_reducible refine (LV.out _ _ _ UST.out).mono ?_); rintro e w_U2 ⟨g2, rfl, h2⟩; simp only [List.nil_append, List.cons_append] at h2; have U2 := Lib.hid h2; clear h2 UST)
          | (go_at_call 98; (with_reducible refine (MT.out _ _ _ U2.out).mono ?_); rintro e w_U3 ⟨rfl, h2⟩; have U3 := Lib.hid h2; clear h2 U2)
          | (go_at_call 27; (with_reducible refine (LV.out _ _ _ U3.out).mono ?_); rintro e w_U4 ⟨g4, rfl, h2⟩; simp only [List.nil_append, List.cons_append] at h2; have U4 := Lib.hid h2; clear h2 U3)
          | (go_at_call 98; (with_reducible refine (ME.out _ _ _ U4.out).mono ?_); rintro e w_U5 ⟨rfl, h2⟩; have U5 := Lib.hid h2; clear h2 U4)
          | (go_at_call 27; (with_reducible refine (LV.out _ _ _ U5.out).mono ?_); rintro e w_U6 ⟨g6, rfl, h2⟩; simp only [List.nil_append, List.cons_append] at h2; have U6 := Lib.hid h2; clear h2 U5)
          | (go_at_call 98; (with_reducible refine (MN.out _ _ _ U6.out).mono ?_); rintro e w_U7 ⟨rfl, h2⟩; have U7 := Lib.hid h2; clear h2 U6)
          | (go_at_call 52; (with_reducible refine (AD.out _ _ _ _ U7.out).mono ?_); rintro e w_8 ⟨g8, rfl, h2⟩; have U8 := Lib.hid h2; clear h2))
        go_ret
        exact U8.out
      have HW : Hid (∀ Y, RSt q (some ⟨b0, off, none⟩) c sz l i (-1) es Y → Calls Tryd.prog 99 #[.pointer (some ⟨q, 0, none⟩), .string (txt tt)] Y (RReads q (some ⟨b0, off, none⟩) c sz l i es Y r)) := Lib.hid (fun Y hY => by
        have hw : wordR l f i tt = r := hr
        rw [← hw] at hne ⊢
        exact r_word HTB.out (.inl htm) n_trueT n_falseT n_selfT n_noneT n_ifT f HO HES.out (by rw [Hn.out]; omega) hY hne)
      have e_minusT : ((txt tt).toList == [45]) = false := by rw [beq_eq_false_iff_ne]; exact fun e => n_minusT (txt_inj HTB.out (show ∀ n ∈ minusT, n < 256 by decide) (by rw [e, tl_minusT]))
      have e_openT : ((txt tt).toList == [40]) = false := by rw [beq_eq_false_iff_ne]; exact fun e => n_openT (txt_inj HTB.out (show ∀ n ∈ openT, n < 256 by decide) (by rw [e, tl_openT]))
      have e_trueT : ((txt tt).toList == [116, 114, 117, 101]) = false := by rw [beq_eq_false_iff_ne]; exact fun e => n_trueT (txt_inj HTB.out (show ∀ n ∈ trueT, n < 256 by decide) (by rw [e, tl_trueT]))
      have e_falseT : ((txt tt).toList == [102, 97, 108, 115, 101]) = false := by rw [beq_eq_false_iff_ne]; exact fun e => n_falseT (txt_inj HTB.out (show ∀ n ∈ falseT, n < 256 by decide) (by rw [e, tl_falseT]))
      have e_selfT : ((txt tt).toList == [115, 101, 108, 102]) = false := by rw [beq_eq_false_iff_ne]; exact fun e => n_selfT (txt_inj HTB.out (show ∀ n ∈ selfT, n < 256 by decide) (by rw [e, tl_selfT]))
      have e_noneT : ((txt tt).toList == [110, 111, 110, 101]) = false := by rw [beq_eq_false_iff_ne]; exact fun e => n_noneT (txt_inj HTB.out (show ∀ n ∈ noneT, n < 256 by decide) (by rw [e, tl_noneT]))
      have e_ifT : ((txt tt).toList == [105, 102]) = false := by rw [beq_eq_false_iff_ne]; exact fun e => n_ifT (txt_inj HTB.out (show ∀ n ∈ ifT, n < 256 by decide) (by rw [e, tl_ifT]))
      clear hr HO n_minusT n_openT n_trueT n_falseT n_selfT n_noneT n_ifT htm
      cases r with
      | out => exact absurd rfl hne
      | no j =>
        clear hne
        go_enter Tryd.func81, Tryd.ntmps81
        go_wp2_with fail
        go_quiet (fail)
        go_wp2_with fail
        generalize hwq : World.drewN X _ = W1
        have g0 : W1.cell? ⟨q, 0, none⟩ = some (.slice (some ⟨b0, off, none⟩) n c) := by rw [← hwq]; exact f0
        have g1 : W1.cell? ⟨q, 1, none⟩ = some (.int .i64 (i : Int)) := by rw [← hwq]; exact f1
        have u0 : W1.cell? ⟨b0, off + i * 4, none⟩ = some (.int .i64 4) := by rw [← hwq]; exact t0
        have u1 : W1.cell? ⟨b0, off + i * 4 + 1, none⟩ = some (.string (txt tt)) := by rw [← hwq]; exact t1
        have u2 : W1.cell? ⟨b0, off + i * 4 + 2, none⟩ = some (.int .i64 tn) := by rw [← hwq]; exact t2
        have u3 : W1.cell? ⟨b0, off + i * 4 + 3, none⟩ = some (.int .i64 tp) := by rw [← hwq]; exact t3
        have P1 : Hid (RSt q (some ⟨b0, off, none⟩) c sz l i (-1) es W1) := Lib.hid (by rw [← hwq]; exact H.out.quiet ⟨_, rfl⟩)
        have M1 : Hid (Below q X W1) := Lib.hid (by rw [← hwq]; exact below_drewN (Below.refl q X) _)
        clear hwq f0 f1 f2 f3 f4 f5 f6 t0 t1 t2 t3
        have n0 := World.new_ne W1 _ g0
        have n1 := World.new_ne W1 _ g1
        have n2 := World.new_ne W1 _ u0
        go_region_held3 (fun w' => w'.cell? ⟨q, 0, none⟩ = some (.slice (some ⟨b0, off, none⟩) n c) ∧ w'.cell? ⟨q, 1, none⟩ = some (.int .i64 (i : Int)) ∧ w'.cell? ⟨b0, off + i * 4, none⟩ = some (.int .i64 4) ∧ w'.cell? ⟨b0, off + i * 4 + 1, none⟩ = some (.string (txt tt)) ∧ w'.cell? ⟨b0, off + i * 4 + 2, none⟩ = some (.int .i64 tn) ∧ w'.cell? ⟨b0, off + i * 4 + 3, none⟩ = some (.int .i64 tp))
          (first | go_keep | fail)
          (first | fail)
        have bo := ((Below.refl W1.heap.size W1).alloc (Nat.le_refl _) (.cells #[.int .i64 4, .string (txt tt), .int .i64 tn, .int .i64 tp] 82)).drew
        have bk : Blk (W1.alloc (.cells #[.int .i64 4, .string (txt tt), .int .i64 tn, .int .i64 tp] 82)).drew W1.heap.size 82 #[.int .i64 4, .string (txt tt), .int .i64 tn, .int .i64 tp] := Blk.new W1 _ _
        have lq := P1.out.lt
        generalize hwq : World.drew (World.alloc _ _) = W2
        rw [hwq] at bo bk
        clear hwq
        obtain ⟨bt, hbt⟩ : ∃ z, W1.heap.size = z := ⟨_, rfl⟩
        have M2 : Hid (Below q X W2) := Lib.hid (M1.out.trans (bo.mono (Nat.le_of_lt lq)))
        have P2 := Lib.hid (P1.out.keep bo)
        rw [hbt] at lq bk ⊢
        have v0 : W2.cell? ⟨bt, 0, none⟩ = some (.int .i64 4) := bk.cell rfl
        have v1 : W2.cell? ⟨bt, 1, none⟩ = some (.string (txt tt)) := bk.cell rfl
        have v2 : W2.cell? ⟨bt, 2, none⟩ = some (.int .i64 tn) := bk.cell rfl
        have lbt := bk.lt
        have hbq : ¬ bt = q := by omega
        have hbq2 : ¬ q = bt := by omega
        clear bo bk hbt n0 n1 n2 g0 g1 u0 u1 u2 u3
        obtain ⟨f0, f1, f2, f3, f4, f5, f6⟩ := P2.out.facts
        rw [Hn.out] at f0
        go_wp2_with (first
          | (go_at_call 99; refine (HW.out _ P2.out).mono ?_; rintro e w_5 ⟨g5, es5, i5, rfl, h2⟩; have U5 := Lib.hid h2; clear h2))
        go_ret
        exact RReads.back M2.out (Nat.le_refl _) (r := .no j) ⟨g5, es5, i5, rfl, U5.out⟩
      | ok tz j =>
        clear hne
        go_enter Tryd.func81, Tryd.ntmps81
        go_wp2_with fail
        go_quiet (fail)
        go_wp2_with fail
        generalize hwq : World.drewN X _ = W1
        have g0 : W1.cell? ⟨q, 0, none⟩ = some (.slice (some ⟨b0, off, none⟩) n c) := by rw [← hwq]; exact f0
        have g1 : W1.cell? ⟨q, 1, none⟩ = some (.int .i64 (i : Int)) := by rw [← hwq]; exact f1
        have u0 : W1.cell? ⟨b0, off + i * 4, none⟩ = some (.int .i64 4) := by rw [← hwq]; exact t0
        have u1 : W1.cell? ⟨b0, off + i * 4 + 1, none⟩ = some (.string (txt tt)) := by rw [← hwq]; exact t1
        have u2 : W1.cell? ⟨b0, off + i * 4 + 2, none⟩ = some (.int .i64 tn) := by rw [← hwq]; exact t2
        have u3 : W1.cell? ⟨b0, off + i * 4 + 3, none⟩ = some (.int .i64 tp) := by rw [← hwq]; exact t3
        have P1 : Hid (RSt q (some ⟨b0, off, none⟩) c sz l i (-1) es W1) := Lib.hid (by rw [← hwq]; exact H.out.quiet ⟨_, rfl⟩)
        have M1 : Hid (Below q X W1) := Lib.hid (by rw [← hwq]; exact below_drewN (Below.refl q X) _)
        clear hwq f0 f1 f2 f3 f4 f5 f6 t0 t1 t2 t3
        have n0 := World.new_ne W1 _ g0
        have n1 := World.new_ne W1 _ g1
        have n2 := World.new_ne W1 _ u0
        go_region_held3 (fun w' => w'.cell? ⟨q, 0, none⟩ = some (.slice (some ⟨b0, off, none⟩) n c) ∧ w'.cell? ⟨q, 1, none⟩ = some (.int .i64 (i : Int)) ∧ w'.cell? ⟨b0, off + i * 4, none⟩ = some (.int .i64 4) ∧ w'.cell? ⟨b0, off + i * 4 + 1, none⟩ = some (.string (txt tt)) ∧ w'.cell? ⟨b0, off + i * 4 + 2, none⟩ = some (.int .i64 tn) ∧ w'.cell? ⟨b0, off + i * 4 + 3, none⟩ = some (.int .i64 tp))
          (first | go_keep | fail)
          (first | fail)
        have bo := ((Below.refl W1.heap.size W1).alloc (Nat.le_refl _) (.cells #[.int .i64 4, .string (txt tt), .int .i64 tn, .int .i64 tp] 82)).drew
        have bk : Blk (W1.alloc (.cells #[.int .i64 4, .string (txt tt), .int .i64 tn, .int .i64 tp] 82)).drew W1.heap.size 82 #[.int .i64 4, .string (txt tt), .int .i64 tn, .int .i64 tp] := Blk.new W1 _ _
        have lq := P1.out.lt
        generalize hwq : World.drew (World.alloc _ _) = W2
        rw [hwq] at bo bk
        clear hwq
        obtain ⟨bt, hbt⟩ : ∃ z, W1.heap.size = z := ⟨_, rfl⟩
        have M2 : Hid (Below q X W2) := Lib.hid (M1.out.trans (bo.mono (Nat.le_of_lt lq)))
        have P2 := Lib.hid (P1.out.keep bo)
        rw [hbt] at lq bk ⊢
        have v0 : W2.cell? ⟨bt, 0, none⟩ = some (.int .i64 4) := bk.cell rfl
        have v1 : W2.cell? ⟨bt, 1, none⟩ = some (.string (txt tt)) := bk.cell rfl
        have v2 : W2.cell? ⟨bt, 2, none⟩ = some (.int .i64 tn) := bk.cell rfl
        have lbt := bk.lt
        have hbq : ¬ bt = q := by omega
        have hbq2 : ¬ q = bt := by omega
        clear bo bk hbt n0 n1 n2 g0 g1 u0 u1 u2 u3
        obtain ⟨f0, f1, f2, f3, f4, f5, f6⟩ := P2.out.facts
        rw [Hn.out] at f0
        go_wp2_with (first
          | (go_at_call 99; refine (HW.out _ P2.out).mono ?_; rintro e w_5 ⟨g5, es5, rfl, h2⟩; have U5 := Lib.hid h2; clear h2))
        go_ret
        exact RReads.back M2.out (Nat.le_refl _) (r := .ok tz j) ⟨g5, es5, rfl, U5.out⟩
  · have hnone : l[i]? = none := List.getElem?_eq_none (by omega)
    rw [pP_none f hnone] at hr
    obtain rfl : i = n := by omega
    subst hr
    have dlt : decide ((i : Int) ≤ (i : Int)) = true := by simp
    have dlt2 : decide (i ≤ i) = true := by simp
    clear h hn hnone hlt HO hle hes hne
    go_enter Tryd.func81, Tryd.ntmps81
    go_wp2_with fail
    go_quiet (fail)
    rename_i nq
    have Q1 : Hid (Quiet X (X.drewN nq)) := Lib.hid ⟨nq, rfl⟩
    go_wp2_with (first
      | (go_at_call 28; (refine (r_stop (H.out.quiet Q1.out)).mono ?_); rintro e w2 ⟨rfl, h2, h3⟩; have S3 := Lib.hid (And.intro ((Q1.out.below q).trans h2) h3); clear h2 h3))
    go_ret
    exact u_stop ⟨0, rfl⟩ S3.out.1 (Nat.le_refl _) S3.out.2
end
end Go.Proofs.YtlenenfgedgmhaaDoor
