/- Chapter 09, plain words: the kinds as they fill in; the free names; what is known ahead of a node. -/
import Derived.Test.YtidkbodmiegbkaaGreatDoorKdO
namespace Go.Proofs.YtidkbodmiegbkaaGreatDoor
set_option linter.unusedSimpArgs false
set_option linter.unusedVariables false
open Go.RowKit

/-- the free names that a tree adds -/
def frR : Nat → Tr → List (List Nat) → List (List Nat) → List (List Nat)
  | 0, _, _, F => F
  | f + 1, .node k s _ ks, vs, F =>
    let F1 := (List.range ks.length).foldl (fun F i => match ks[i]? with | some t => frR f t (vsK k s vs i) F | none => F) F
    if k = 7 ∧ s ∉ vs then s :: F1 else F1
def kidF (f k : Nat) (s : List Nat) (ks : List Tr) (vs : List (List Nat)) (F : List (List Nat)) (i : Nat) : List (List Nat) := match ks[i]? with | some t => frR f t (vsK k s vs i) F | none => F
def fstF (f k : Nat) (s : List Nat) (ks : List Tr) (vs F : List (List Nat)) : Nat → List (List Nat)
  | 0 => F
  | j + 1 => kidF f k s ks vs (fstF f k s ks vs F j) j
theorem fstF_fold (f k : Nat) (s : List Nat) (ks : List Tr) (vs F : List (List Nat)) : ∀ j, (List.range j).foldl (fun F i => kidF f k s ks vs F i) F = fstF f k s ks vs F j
  | 0 => rfl
  | j + 1 => by rw [List.range_succ, List.foldl_append, fstF_fold f k s ks vs F j]; rfl
theorem frR_succ (f k : Nat) (s : List Nat) (n : Int) (ks : List Tr) (vs F : List (List Nat)) : frR (f + 1) (.node k s n ks) vs F = if k = 7 ∧ s ∉ vs then s :: fstF f k s ks vs F ks.length else fstF f k s ks vs F ks.length := by
  rw [← fstF_fold]
  rfl
/-- what a tree's kinds come to -/
structure KP (f : Nat) (t : Tr) (vs : List (List Nat)) (p : Nat) (K K' : List Int) : Prop where
  len : K'.length = K.length
  out : ∀ i, i < p ∨ p + t.size ≤ i → K'[i]? = K[i]?
  ins : wR f t vs p < 0 → ∀ i x, (ksR f t vs)[i]? = some x → K'[p + i]? = some x
/-- .. behind the first parts -/
structure KJ (f k : Nat) (s : List Nat) (ks : List Tr) (vs : List (List Nat)) (p j : Nat) (K K' : List Int) : Prop where
  len : K'.length = K.length
  out : ∀ i, i < p + 1 ∨ p + 1 + sizeL (ks.take j) ≤ i → K'[i]? = K[i]?
  ins : fstW f k s ks vs p j < 0 → ∀ i x, ((List.range j).flatMap (kidS f k s ks vs))[i]? = some x → K'[p + 1 + i]? = some x
theorem KJ.zero (f k : Nat) (s : List Nat) (ks : List Tr) (vs : List (List Nat)) (p : Nat) (K : List Int) : KJ f k s ks vs p 0 K K := ⟨rfl, fun _ _ => rfl, fun _ i x h => by simp at h⟩
theorem kflat_len {f k : Nat} {s : List Nat} {ks : List Tr} {vs : List (List Nat)} (hd : deepL ks ≤ f) : ∀ j, j ≤ ks.length → ((List.range j).flatMap (kidS f k s ks vs)).length = sizeL (ks.take j)
  | 0, _ => by simp [sizeL]
  | j + 1, hj => by
    obtain ⟨t2, ht2⟩ : ∃ t, ks[j]? = some t := ⟨_, List.getElem?_eq_getElem (by omega)⟩
    rw [List.range_succ, List.flatMap_append, List.length_append, kflat_len hd j (by omega), sizeL_take_succ ht2]
    simp only [List.flatMap_cons, List.flatMap_nil, List.append_nil, kidS, ht2]
    rw [ksR_len f t2 _ (Nat.le_trans (deep_at ht2) hd)]
theorem KJ.step {f k : Nat} {s : List Nat} {ks : List Tr} {vs : List (List Nat)} {p j q : Nat} {K K1 K2 : List Int} {t : Tr} (hd : deepL ks ≤ f) (h : KJ f k s ks vs p j K K1) (ht : ks[j]? = some t) (hq : (placesL ks (p + 1))[j]? = some q) (g : KP f t (vsK k s vs j) q K1 K2) : KJ f k s ks vs p (j + 1) K K2 := by
  have hj : j < ks.length := (List.getElem?_eq_some_iff.1 ht).1
  have hq0 := hq
  rw [places_get hj] at hq0
  injection hq0 with hq0
  have hsz := sizeL_take_succ ht
  refine ⟨g.len.trans h.len, fun i hi => ?_, fun hw i x hx => ?_⟩
  · rw [g.out i (by omega), h.out i (by omega)]
  · have hw2 : fstW f k s ks vs p j < 0 ∧ wR f t (vsK k s vs j) q < 0 := by
      have h1 := fstW_neg hw j (by omega)
      unfold kidW at h1
      rw [ht, hq] at h1
      refine ⟨?_, h1⟩
      simp only [fstW] at hw
      split at hw
      · assumption
      · exact hw
    rw [List.range_succ, List.flatMap_append] at hx
    have hl := kflat_len (f := f) (k := k) (s := s) (vs := vs) hd j (by omega)
    simp only [List.flatMap_cons, List.flatMap_nil, List.append_nil, kidS, ht] at hx
    by_cases hlt : i < sizeL (ks.take j)
    · rw [List.getElem?_append_left (by rw [← hl] at hlt; exact hlt)] at hx
      rw [g.out _ (by omega)]
      exact h.ins hw2.1 i x hx
    · rw [List.getElem?_append_right (by omega), hl] at hx
      have := g.ins hw2.2 _ x hx
      rw [← hq0] at this
      rw [show p + 1 + i = p + 1 + sizeL (ks.take j) + (i - sizeL (ks.take j)) by omega]
      exact this
theorem kflat_at {f k : Nat} {s : List Nat} {ks : List Tr} {vs : List (List Nat)} (hd : deepL ks ≤ f) {i : Nat} {t : Tr} (ht : ks[i]? = some t) : ∀ j, i < j → j ≤ ks.length → ((List.range j).flatMap (kidS f k s ks vs))[sizeL (ks.take i)]? = some (kidK f k s ks vs i)
  | 0, h, _ => by omega
  | j + 1, h, hj => by
    rw [List.range_succ, List.flatMap_append]
    have hl := kflat_len (f := f) (k := k) (s := s) (vs := vs) hd j (by omega)
    by_cases e : i = j
    · subst e
      rw [List.getElem?_append_right (by omega), hl, Nat.sub_self]
      simp only [List.flatMap_cons, List.flatMap_nil, List.append_nil, kidS, kidK, ht]
      obtain ⟨k', s', n', ks'⟩ := t
      have hdt := Nat.le_trans (deep_at ht) hd
      obtain ⟨f, rfl⟩ : ∃ g, f = g + 1 := ⟨f - 1, by simp only [Tr.deep] at hdt; omega⟩
      rw [ksR_succ]
      rfl
    · have hlt := kflat_at (k := k) (s := s) (vs := vs) hd ht j (by omega) (by omega)
      have hin := (List.getElem?_eq_some_iff.1 hlt).1
      rw [List.getElem?_append_left hin]
      exact hlt
/-- a part's kind lies at its place -/
theorem KJ.kid {f k : Nat} {s : List Nat} {ks : List Tr} {vs : List (List Nat)} {p : Nat} {K K1 : List Int} (hd : deepL ks ≤ f) (h : KJ f k s ks vs p ks.length K K1) (hw : fstW f k s ks vs p ks.length < 0) {i q : Nat} (hq : (placesL ks (p + 1))[i]? = some q) : K1[q]? = some (kidK f k s ks vs i) := by
  have hi : i < ks.length := by have := (List.getElem?_eq_some_iff.1 hq).1; rwa [places_len] at this
  obtain ⟨t, ht⟩ : ∃ t, ks[i]? = some t := ⟨_, List.getElem?_eq_getElem hi⟩
  have := h.ins hw _ _ (kflat_at hd ht ks.length hi (Nat.le_refl _))
  rw [places_get hi] at hq
  injection hq with hq
  rw [← hq]
  exact this
theorem KJ.wrong {f k : Nat} {s : List Nat} {n : Int} {ks : List Tr} {vs : List (List Nat)} {p : Nat} {K K1 : List Int} (h : KJ f k s ks vs p ks.length K K1) (hw : 0 ≤ fstW f k s ks vs p ks.length) : KP (f + 1) (.node k s n ks) vs p K K1 := by
  refine ⟨h.len, fun i hi => h.out i ?_, fun h1 => ?_⟩
  · simp only [Tr.size] at hi; rw [List.take_length]; omega
  · rw [wR_succ, if_pos hw] at h1; omega
theorem KJ.right {f k : Nat} {s : List Nat} {n : Int} {ks : List Tr} {vs : List (List Nat)} {p : Nat} {K K1 : List Int} (h : KJ f k s ks vs p ks.length K K1) (hp : p < K.length) (hw : fstW f k s ks vs p ks.length < 0) : KP (f + 1) (.node k s n ks) vs p K (K1.set p (kR (f + 1) (.node k s n ks) vs)) := by
  refine ⟨by rw [List.length_set]; exact h.len, fun i hi => ?_, fun h1 i x hx => ?_⟩
  · simp only [Tr.size] at hi
    rw [List.getElem?_set_ne (by omega)]
    exact h.out i (by rw [List.take_length]; omega)
  · rw [ksR_succ] at hx
    rcases i with _ | i
    · simp only [List.getElem?_cons_zero, Option.some.injEq] at hx
      subst hx
      show (K1.set p _)[p]? = _
      rw [List.getElem?_set_self (by have := h.len; omega)]
    · rw [List.getElem?_cons_succ] at hx
      rw [List.getElem?_set_ne (by omega), show p + (i + 1) = p + 1 + i by omega]
      exact h.ins hw i x hx
/-- what is known ahead of a node -/
structure NPk (l : List ND) (lv : Value) (W0 : World) (C g bm kb fm f : Nat) (t : Tr) (p : Nat) (vs : List (List Nat)) (W : World) (nb nf : Nat) (K : List Int) (F : List (List Nat)) : Prop where
  hs : SlR W0 W0.heap.size 4 (ND.Is W0 W0.heap.size) lv l
  hok : ∀ d ∈ l, NdOk d
  good : t.Good
  deep : t.deep ≤ f
  un : Und l vs p t
  hw : Below W0.heap.size W0 W
  hC : W0.heap.size ≤ C
  cg : C ≤ g
  cb : C ≤ bm
  ck : C ≤ kb
  cf : C ≤ fm
  ms : KSt W g bm kb fm nb nf lv K vs F
  kl : K.length = l.length
  tk : TakesB W0
  vl : vs.length + f ≤ 1000
  nbl : nb + 2 * t.size ≤ 100000
  nfl : nf + t.size ≤ 100000
/-- what a node comes to -/
def NodeW (W : World) (C g bm kb fm : Nat) (lv : Value) (f : Nat) (t : Tr) (p : Nat) (vs : List (List Nat)) (nb nf : Nat) (K : List Int) (F : List (List Nat)) (e : Ending) (w' : World) : Prop :=
  e = .returned (.int .i64 (wR f t vs p)) ∧ ∃ K', KSt w' g bm kb fm (nb + 2 * t.size) (nf + t.size) lv K' vs (frR f t vs F) ∧ KP f t vs p K K' ∧ NK W w' C bm kb fm
def NodeIsK (l : List ND) (lv : Value) (W0 : World) (C g bm kb fm f : Nat) : Prop := ∀ (t : Tr) (p : Nat) (vs : List (List Nat)) (W : World) (nb nf : Nat) (K : List Int) (F : List (List Nat)), NPk l lv W0 C g bm kb fm f t p vs W nb nf K F →
  Calls Tryz.prog 25 #[.pointer (some ⟨g, 0, none⟩), .int .i64 (p : Int)] W (NodeW W C g bm kb fm lv f t p vs nb nf K F)
theorem NPk.size {l : List ND} {lv : Value} {W0 : World} {C g bm kb fm f : Nat} {t : Tr} {p : Nat} {vs : List (List Nat)} {W : World} {nb nf : Nat} {K : List Int} {F : List (List Nat)} (H : NPk l lv W0 C g bm kb fm f t p vs W nb nf K F) : C ≤ W.heap.size := Nat.le_of_lt (Nat.lt_of_le_of_lt H.cg H.ms.lt.1)
/-- a part's own -/
theorem NPk.kid {l : List ND} {lv : Value} {W0 : World} {C g bm kb fm f k : Nat} {s : List Nat} {n : Int} {ks : List Tr} {p : Nat} {vs : List (List Nat)} {W : World} {nb nf : Nat} {K : List Int} {F : List (List Nat)} (H : NPk l lv W0 C g bm kb fm (f + 1) (.node k s n ks) p vs W nb nf K F) {j q : Nat} {t : Tr} (ht : ks[j]? = some t) (hq : (placesL ks (p + 1))[j]? = some q) {w' : World} (hk : NK W w' C bm kb fm) {vs' : List (List Nat)} (hv : vs' = vsK k s vs j) {nb' nf' : Nat} {K' : List Int} {F' : List (List Nat)} (ms : KSt w' g bm kb fm nb' nf' lv K' vs' F') (kl : K'.length = K.length) (h1 : nb' ≤ nb + 2 * sizeL (ks.take j) + 1) (h2 : nf' ≤ nf + sizeL (ks.take j)) : NPk l lv W0 C g bm kb fm f t q vs' w' nb' nf' K' F' := by
  have hsz := sizeL_take ht
  have h3 := H.nbl
  have h4 := H.nfl
  have h5 := H.vl
  simp only [Tr.size] at h3 h4
  refine ⟨H.hs, H.hok, good_at H.good.2 ht, Nat.le_trans (deep_at ht) (deep_one H.deep), hv ▸ Und.kid H.un ht hq, H.hw.trans (hk.bel.mono H.hC), H.hC, H.cg, H.cb, H.ck, H.cf, ms, kl.trans H.kl, H.tk, ?_, by omega, by omega⟩
  rw [hv]
  unfold vsK
  split
  · simp; omega
  · omega
end Go.Proofs.YtidkbodmiegbkaaGreatDoor
