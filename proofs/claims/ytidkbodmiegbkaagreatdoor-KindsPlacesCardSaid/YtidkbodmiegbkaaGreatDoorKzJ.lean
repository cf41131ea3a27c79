/- Chapter 09, plain words, outright: the kinds where a part gives way to another expression. -/
import Derived.Test.YtidkbodmiegbkaaGreatDoorKzI
namespace Go.Proofs.YtidkbodmiegbkaaGreatDoor
set_option linter.unusedSimpArgs false
set_option linter.unusedVariables false
open Go.RowKit

theorem kindK_1 {k : Nat} {b : Bool} {a x : Int} (hk : (8 ≤ k ∧ k ≤ 19) ∨ k = 29) (ha : 1 ≤ a ∧ a ≤ 5) (hx : 1 ≤ x ∧ x ≤ 5) (hne : x ≠ a) (h : kindK k b [a] ≠ 0) : kindK k b [x] = 0 := by
  have key : ∀ k ∈ [8, 9, 10, 11, 12, 13, 14, 15, 16, 17, 18, 19, 29], ∀ a ∈ [(1 : Int), 2, 3, 4, 5], ∀ x ∈ [(1 : Int), 2, 3, 4, 5], ∀ b : Bool, x ≠ a → kindK k b [a] ≠ 0 → kindK k b [x] = 0 := by decide +kernel
  refine key k ?_ a (by simpa using five ha.1 ha.2) x (by simpa using five hx.1 hx.2) b hne h
  have : k = 8 ∨ k = 9 ∨ k = 10 ∨ k = 11 ∨ k = 12 ∨ k = 13 ∨ k = 14 ∨ k = 15 ∨ k = 16 ∨ k = 17 ∨ k = 18 ∨ k = 19 ∨ k = 29 := by omega
  simpa using this
theorem kindK_2 {k : Nat} {b : Bool} {a c x : Int} (hk : (20 ≤ k ∧ k ≤ 28) ∨ (31 ≤ k ∧ k ≤ 34)) (ha : 1 ≤ a ∧ a ≤ 5) (hc : 1 ≤ c ∧ c ≤ 5) (hx : 1 ≤ x ∧ x ≤ 5) (h : kindK k b [a, c] ≠ 0) : (x ≠ a → kindK k b [x, c] = 0) ∧ (x ≠ c → kindK k b [a, x] = 0) := by
  have key : ∀ k ∈ [20, 21, 22, 23, 24, 25, 26, 27, 28, 31, 32, 33, 34], ∀ a ∈ [(1 : Int), 2, 3, 4, 5], ∀ c ∈ [(1 : Int), 2, 3, 4, 5], ∀ x ∈ [(1 : Int), 2, 3, 4, 5], kindK k false [a, c] ≠ 0 → (x ≠ a → kindK k false [x, c] = 0) ∧ (x ≠ c → kindK k false [a, x] = 0) := by decide +kernel
  have e : ∀ of, kindK k b of = kindK k false of := fun of => kindK_bnd (fun h7 => by omega)
  rw [e] at h
  rw [e, e]
  refine key k ?_ a (by simpa using five ha.1 ha.2) c (by simpa using five hc.1 hc.2) x (by simpa using five hx.1 hx.2) h
  have : k = 20 ∨ k = 21 ∨ k = 22 ∨ k = 23 ∨ k = 24 ∨ k = 25 ∨ k = 26 ∨ k = 27 ∨ k = 28 ∨ k = 31 ∨ k = 32 ∨ k = 33 ∨ k = 34 := by omega
  simpa using this
theorem kindK_3 {b : Bool} {a c d x : Int} (ha : 1 ≤ a ∧ a ≤ 5) (hc : 1 ≤ c ∧ c ≤ 5) (hd : 1 ≤ d ∧ d ≤ 5) (hx : 1 ≤ x ∧ x ≤ 5) (h : kindK 30 b [a, c, d] ≠ 0) : (x ≠ a → kindK 30 b [x, c, d] = 0) ∧ (x ≠ c → kindK 30 b [a, x, d] = 0) ∧ (x ≠ d → kindK 30 b [a, c, x] = 0) := by
  have e : ∀ a c d : Int, kindK 30 b [a, c, d] = if a = 3 ∧ c = d then c else 0 := fun a c d => by simp [kindK]
  rw [e] at h
  rw [e, e, e]
  split at h
  · next h1 =>
    obtain ⟨rfl, rfl⟩ := h1
    refine ⟨fun hn => ?_, fun hn => ?_, fun hn => ?_⟩
    · rw [if_neg (fun h => hn h.1)]
    · rw [if_neg (fun h => hn h.2)]
    · rw [if_neg (fun h => hn h.2.symm)]
  · exact absurd rfl h
/-- another kind in the place of a part's makes a node wrong -/
theorem kindK_other {k : Nat} {s : List Nat} {n : Int} {ks : List Tr} {b : Bool} {of : List Int} {j : Nat} {a x : Int} (hg : Shape k s n ks) (hl : of.length = ks.length) (hof : ∀ y ∈ of, 1 ≤ y ∧ y ≤ 5) (h : kindK k b of ≠ 0) (hj : of[j]? = some a) (hx : 1 ≤ x ∧ x ≤ 5) (hne : x ≠ a) : kindK k b (of.set j x) = 0 := by
  have ha := hof a (List.mem_iff_getElem?.2 ⟨j, hj⟩)
  rcases shape_cases hg with ⟨rfl, h1, h2⟩ | ⟨u, rfl, h1⟩ | ⟨u, v, rfl, h1⟩ | ⟨u, v, w, rfl, rfl⟩
  · have : of = [] := List.eq_nil_of_length_eq_zero (by simpa using hl)
    subst this
    simp at hj
  · obtain ⟨y, rfl⟩ := list1 (by simpa using hl)
    rcases j with _ | j
    · simp at hj
      subst hj
      exact kindK_1 h1 ha hx hne h
    · simp at hj
  · obtain ⟨y, z, rfl⟩ := list2 (by simpa using hl)
    have hy := hof y (by simp)
    have hz := hof z (by simp)
    have hh := kindK_2 h1 hy hz hx h
    rcases j with _ | _ | j
    · simp at hj; subst hj; exact hh.1 hne
    · simp at hj; subst hj; exact hh.2 hne
    · simp at hj
  · obtain ⟨y, z, q, rfl⟩ := list3 (by simpa using hl)
    have hy := hof y (by simp)
    have hz := hof z (by simp)
    have hq := hof q (by simp)
    have hh := kindK_3 hy hz hq hx h
    rcases j with _ | _ | _ | j
    · simp at hj; subst hj; exact hh.1 hne
    · simp at hj; subst hj; exact hh.2.1 hne
    · simp at hj; subst hj; exact hh.2.2 hne
    · simp at hj
/-- a tree whose kind, and that none is wrong in it, hangs on nothing -/
structure Fixed (v : Tr) (K : Int) : Prop where
  kind : ∀ f vs, v.deep ≤ f → kR f v vs = K
  ok : ∀ f vs p, v.deep ≤ f → wR f v vs p < 0
theorem fixed_of {v : Tr} (hd : v.deep ≤ 32) (hw : wR 32 v [] 0 < 0) (hs : frR 32 v [] [] = []) : Fixed v (kR 32 v []) := by
  have hsh := shut_iff.2 hs
  have hk : ∀ vs, kR 32 v vs = kR 32 v [] := fun vs => by have := kR_pre vs hsh; rwa [List.append_nil] at this
  have hww : ∀ vs p, wR 32 v vs p < 0 := fun vs p => by
    have := wR_pre vs p hsh
    rw [List.append_nil] at this
    rw [this]
    exact (wR_place (p := 0) (q := p)).1.1 hw
  refine ⟨fun f vs h => ?_, fun f vs p h => ?_⟩
  · rw [← hk vs, ← kR_fuel h (Nat.le_max_left f 32), ← kR_fuel hd (Nat.le_max_right f 32)]
  · rw [← wR_fuel h (Nat.le_max_left f 32), wR_fuel hd (Nat.le_max_right f 32)]
    exact hww vs p
theorem Fixed.deep_kind {v : Tr} {K : Int} (h : Fixed v K) : 1 ≤ K ∧ K ≤ 5 := by
  have h1 := h.kind v.deep [] (Nat.le_refl _)
  have h2 := wR_kind (p := 0) (Nat.le_refl _) (h.ok v.deep [] 0 (Nat.le_refl _))
  have h3 := kR_rng v.deep v []
  omega
theorem deepL_set {ts : List Tr} {j : Nat} {t : Tr} (hj : j < ts.length) {f : Nat} (h : deepL (ts.set j t) ≤ f) : t.deep ≤ f := Nat.le_trans (deep_at (j := j) (by rw [List.getElem?_set_self hj])) h
theorem fstW_all {f k : Nat} {s : List Nat} {ks : List Tr} {vs : List (List Nat)} {p : Nat} : ∀ n, (∀ i, i < n → kidW f k s ks vs p i < 0) → fstW f k s ks vs p n < 0
  | 0, _ => by show (-1 : Int) < 0; omega
  | n + 1, h => by
    simp only [fstW]
    rw [if_pos (fstW_all n (fun i hi => h i (by omega)))]
    exact h n (by omega)
theorem kidW_eq {f k : Nat} {s : List Nat} {ks : List Tr} {vs : List (List Nat)} {p i : Nat} {t : Tr} (ht : ks[i]? = some t) : kidW f k s ks vs p i = wR f t (vsK k s vs i) (p + 1 + sizeL (ks.take i)) := by
  have hi := (List.getElem?_eq_some_iff.1 ht).1
  unfold kidW
  rw [ht, places_get (p := p + 1) hi]
theorem take_set_le {α : Type} (ts : List α) (j i : Nat) (t : α) (h : i ≤ j) : (ts.set j t).take i = ts.take i := by
  rw [List.take_set]
  exact List.set_eq_of_length_le (by rw [List.length_take]; omega)
/-- the same kind: the whole keeps its kind -/
theorem rep_same {K : Int} {v : Tr} (hv : Fixed v K) : ∀ {f : Nat} {t : Tr} {vs : List (List Nat)} {p i : Nat} {u : Tr}, t.deep ≤ f → (repT t i v).deep ≤ f → wR f t vs p < 0 → subT t i = some u → Fixed u K → kR f (repT t i v) vs = kR f t vs ∧ ∀ q, wR f (repT t i v) vs q < 0
  | 0, .node k s n ks, vs, p, i, u, hd, _, hw, hu, hF => by simp only [Tr.deep] at hd; omega
  | f + 1, .node k s n ks, vs, p, 0, u, hd, hd2, hw, hu, hF => by
    simp only [subT] at hu
    injection hu with hu
    subst hu
    simp only [repT] at hd2 ⊢
    exact ⟨by rw [hv.kind _ _ hd2, hF.kind _ _ hd], fun q => hv.ok _ _ q hd2⟩
  | f + 1, .node k s n ks, vs, p, i + 1, u, hd, hd2, hw, hu, hF => by
    have hd1 := deep_one hd
    simp only [subT] at hu
    obtain ⟨j, t, ht, h1, h2, h3, h4⟩ := repL_at (v := v) hu
    have hj := (List.getElem?_eq_some_iff.1 ht).1
    simp only [repT] at hd2 ⊢
    rw [h4] at hd2 ⊢
    have hd3 := deep_one hd2
    obtain ⟨hf, hk0⟩ := wR_neg.1 hw
    have hkid := fstW_neg hf
    have ih := rep_same hv (vs := vsK k s vs j) (p := p + 1 + sizeL (ks.take j)) (Nat.le_trans (deep_at ht) hd1) (deepL_set hj hd3) (by rw [← kidW_eq ht]; exact hkid j hj) h3 hF
    have hlen : (ks.set j (repT t (i - sizeL (ks.take j)) v)).length = ks.length := List.length_set ..
    have e : ofK f k s (ks.set j (repT t (i - sizeL (ks.take j)) v)) vs ks.length = ofK f k s ks vs ks.length := by
      unfold ofK
      refine List.map_congr_left fun m hm => ?_
      unfold kidK
      by_cases hmj : m = j
      · subst hmj
        rw [List.getElem?_set_self hj, ht]
        exact ih.1
      · rw [List.getElem?_set_ne (fun e => hmj e.symm)]
    have ek : kR (f + 1) (.node k s n (ks.set j (repT t (i - sizeL (ks.take j)) v))) vs = kR (f + 1) (.node k s n ks) vs := by
      rw [kR_succ, kR_succ, hlen, e]
    refine ⟨ek, fun q => ?_⟩
    rw [wR_neg, ek, hlen]
    refine ⟨fstW_all _ (fun m hm => ?_), hk0⟩
    obtain ⟨t', ht'⟩ : ∃ t, ks[m]? = some t := ⟨_, List.getElem?_eq_getElem hm⟩
    by_cases hmj : m = j
    · subst hmj
      rw [kidW_eq (List.getElem?_set_self hj)]
      exact ih.2 _
    · rw [kidW_eq (by rw [List.getElem?_set_ne (fun e => hmj e.symm)]; exact ht')]
      have := hkid m hm
      rw [kidW_eq ht'] at this
      exact (wR_place).1.1 this
mutual
/-- whose part is a place: how far it stands behind the whole's own -/
def parT : Tr → Nat → Nat
  | .node _ _ _ _, 0 => 0
  | .node _ _ _ ks, i + 1 => parL ks i 1
def parL : List Tr → Nat → Nat → Nat
  | [], _, _ => 0
  | t :: ts, i, o => if i < t.size then (if i = 0 then 0 else o + parT t i) else parL ts (i - t.size) (o + t.size)
end
theorem parL_at : ∀ {ts : List Tr} {i o j : Nat} {t : Tr}, ts[j]? = some t → sizeL (ts.take j) ≤ i → i < sizeL (ts.take j) + t.size → parL ts i o = if i - sizeL (ts.take j) = 0 then 0 else o + sizeL (ts.take j) + parT t (i - sizeL (ts.take j))
  | [], i, o, j, t, h, _, _ => by simp at h
  | u :: ts, i, o, 0, t, h, h1, h2 => by
    simp at h
    subst h
    simp only [List.take_zero, sizeL, Nat.zero_add, Nat.sub_zero, Nat.add_zero] at h1 h2 ⊢
    simp only [parL, if_pos h2]
  | u :: ts, i, o, j + 1, t, h, h1, h2 => by
    simp only [List.take_succ_cons, sizeL] at h1 h2 ⊢
    simp only [parL]
    rw [if_neg (by omega), parL_at (j := j) (t := t) (by simpa using h) (by omega) (by omega)]
    rw [show i - u.size - sizeL (ts.take j) = i - (u.size + sizeL (ts.take j)) by omega, show o + u.size + sizeL (ts.take j) = o + (u.size + sizeL (ts.take j)) by omega]
/-- another kind: the node above is wrong, and none ahead of it -/
theorem rep_diff {K Ku : Int} {v : Tr} (hv : Fixed v K) (hne : K ≠ Ku) : ∀ {f : Nat} {t : Tr} {vs : List (List Nat)} {p i : Nat} {u : Tr}, t.Good → t.deep ≤ f → (repT t i v).deep ≤ f → wR f t vs p < 0 → subT t i = some u → Fixed u Ku → 0 < i → ∀ q, wR f (repT t i v) vs q = ((q + parT t i : Nat) : Int)
  | 0, .node k s n ks, vs, p, i, u, hg, hd, _, hw, hu, hF, hi => by simp only [Tr.deep] at hd; omega
  | f + 1, .node k s n ks, vs, p, 0, u, hg, hd, hd2, hw, hu, hF, hi => by omega
  | f + 1, .node k s n ks, vs, p, i + 1, u, hg, hd, hd2, hw, hu, hF, hi => by
    have hd1 := deep_one hd
    simp only [subT] at hu
    obtain ⟨j, t, ht, h1, h2, h3, h4⟩ := repL_at (v := v) hu
    have hj := (List.getElem?_eq_some_iff.1 ht).1
    simp only [repT] at hd2 ⊢
    rw [h4] at hd2 ⊢
    have hd3 := deep_one hd2
    obtain ⟨hf, hk0⟩ := wR_neg.1 hw
    have hkid := fstW_neg hf
    have hlen : (ks.set j (repT t (i - sizeL (ks.take j)) v)).length = ks.length := List.length_set ..
    have hother : ∀ q m, m < ks.length → m ≠ j → kidW f k s (ks.set j (repT t (i - sizeL (ks.take j)) v)) vs q m < 0 := by
      intro q m hm hmj
      obtain ⟨t', ht'⟩ : ∃ t, ks[m]? = some t := ⟨_, List.getElem?_eq_getElem hm⟩
      rw [kidW_eq (by rw [List.getElem?_set_ne (fun e => hmj e.symm)]; exact ht')]
      have := hkid m hm
      rw [kidW_eq ht'] at this
      exact (wR_place).1.1 this
    intro q
    simp only [parT]
    rw [parL_at ht h1 h2]
    by_cases h0 : i - sizeL (ks.take j) = 0
    · rw [if_pos h0]
      rw [h0] at h3 hd3 hother hlen ⊢
      rw [show subT t 0 = some t by cases t; rfl] at h3
      injection h3 with h3
      subst h3
      have hr : repT t 0 v = v := by cases t; rfl
      rw [hr] at hd3 hother hlen ⊢
      have hvd := deepL_set hj hd3
      have hF2 : fstW f k s (ks.set j v) vs q ks.length < 0 := fstW_all _ (fun m hm => by
        by_cases hmj : m = j
        · subst hmj
          rw [kidW_eq (List.getElem?_set_self hj)]
          exact hv.ok _ _ _ hvd
        · exact hother q m hm hmj)
      rw [wR_succ, hlen, if_neg (by omega)]
      have hkk := kids_kind hd hf
      have hof : ∀ y ∈ ofK f k s ks vs ks.length, 1 ≤ y ∧ y ≤ 5 := by
        intro y hy
        obtain ⟨m, hm, rfl⟩ := List.mem_map.1 hy
        exact hkk m (List.mem_range.1 hm)
      have ha : (ofK f k s ks vs ks.length)[j]? = some Ku := by
        unfold ofK
        rw [List.getElem?_map, List.getElem?_range hj]
        simp only [Option.map_some, Option.some.injEq]
        unfold kidK
        rw [ht]
        exact hF.kind _ _ (Nat.le_trans (deep_at ht) hd1)
      have e : ofK f k s (ks.set j v) vs ks.length = (ofK f k s ks vs ks.length).set j K := by
        apply List.ext_getElem?
        intro m
        by_cases hmj : m = j
        · subst hmj
          rw [List.getElem?_set_self (by rw [ofK_len]; exact hj)]
          unfold ofK
          rw [List.getElem?_map, List.getElem?_range hj]
          simp only [Option.map_some, Option.some.injEq]
          unfold kidK
          rw [List.getElem?_set_self hj]
          exact hv.kind _ _ hvd
        · rw [List.getElem?_set_ne (fun e => hmj e.symm)]
          unfold ofK
          rw [List.getElem?_map, List.getElem?_map]
          rcases Nat.lt_or_ge m ks.length with hm | hm
          · rw [List.getElem?_range hm]
            simp only [Option.map_some, Option.some.injEq]
            unfold kidK
            rw [List.getElem?_set_ne (fun e => hmj e.symm)]
          · rw [List.getElem?_eq_none (by rw [List.length_range]; exact hm)]
            rfl
      have hz : kR (f + 1) (.node k s n (ks.set j v)) vs = 0 := by
        rw [kR_succ, hlen, e]
        split
        · rfl
        · rw [kR_succ] at hk0
          split at hk0
          · exact absurd rfl hk0
          · exact kindK_other hg.1.1 (ofK_len ..) hof hk0 ha hv.deep_kind hne
      rw [if_pos hz]
      rfl
    · rw [if_neg h0]
      have ih := rep_diff hv hne (vs := vsK k s vs j) (p := p + 1 + sizeL (ks.take j)) (good_at hg.2 ht) (Nat.le_trans (deep_at ht) hd1) (deepL_set hj hd3) (by rw [← kidW_eq ht]; exact hkid j hj) h3 hF (by omega)
      have hkj : kidW f k s (ks.set j (repT t (i - sizeL (ks.take j)) v)) vs q j = ((q + 1 + sizeL (ks.take j) + parT t (i - sizeL (ks.take j)) : Nat) : Int) := by
        rw [kidW_eq (List.getElem?_set_self hj), take_set_le _ _ _ _ (Nat.le_refl _)]
        exact ih _
      have hlow : fstW f k s (ks.set j (repT t (i - sizeL (ks.take j)) v)) vs q j < 0 := fstW_all _ (fun m hm => hother q m (by omega) (by omega))
      have hhit : ∀ m, j < m → fstW f k s (ks.set j (repT t (i - sizeL (ks.take j)) v)) vs q m = ((q + 1 + sizeL (ks.take j) + parT t (i - sizeL (ks.take j)) : Nat) : Int) := by
        intro m
        induction m with
        | zero => intro h; omega
        | succ m ihm =>
          intro h
          simp only [fstW]
          by_cases e : j = m
          · subst e
            rw [if_pos hlow, hkj]
          · rw [ihm (by omega), if_neg (by omega)]
      rw [wR_succ, hlen, hhit _ hj, if_pos (by omega)]
      congr 1
      omega
end Go.Proofs.YtidkbodmiegbkaaGreatDoor
